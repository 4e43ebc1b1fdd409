/- A part of the reckoning with symbols: states, terms and their meaning, used by the proofs of this seat. -/
import Derived.Test.YtpndnejabebfeaaGreatDoorSxS
/-! The run is sound: the induction. -/
noncomputable section
namespace Go.Sx
variable {P : Program} {C : Cfg}

theorem rounds_le {b : Code} {Q : Exit → Act → World → Prop} : ∀ {n m : Nat}, n ≤ m → ∀ {a : Act} {w : World}, Code.rounds P b Q n a w → Code.rounds P b Q m a w := by
  intro n
  induction n with
  | zero => intro m _ a w h; exact h.elim
  | succ n ih =>
    intro m hm a w h
    obtain ⟨m, rfl⟩ : ∃ k, m = k + 1 := ⟨m - 1, by omega⟩
    rw [rounds_succ] at h ⊢
    refine wp_mono h ?_
    intro e a' w' he
    cases e with
    | normal => exact ih (by omega) he
    | _ => exact he

theorem loop_case {n : Nat} (ih : ∀ (α : Type) (env : Env) (j : Job) (st : St) (k : Rs → Tree α) (L : α), Sat env st.fs → Path env (run C n j st k) L → ∃ r, Path env (k r) L ∧ Snd P C env j st r)
    {env : Env} {st : St} {sp : LoopSpec} {b : Code} (hs : Sat env st.fs) (h1 : loopPre sp st (loopHead sp st) (loopTail sp st) = true)
    (h2 : Tree.ok (loopHead sp st).nv (run C n (.code b) (loopHead sp st) (loopBody sp st.nv (loopHead sp st) (loopTail sp st))) = true) (B : Base) (ρ : Rho) (a : Act) (w : World) (hR : RR env B st ρ w) (hF : FR env st ρ a) :
    (Code.loop b).wp P (Post env B (loopTail sp st) sp.ex) a w := by
  unfold loopPre at h1
  split at h1
  · rename_i e es hes
    simp only [Bool.and_eq_true] at h1
    obtain ⟨⟨⟨⟨⟨⟨⟨⟨⟨⟨⟨c1, c2⟩, c3⟩, c4⟩, c5⟩, c6⟩, c7⟩, c8⟩, c9⟩, c10⟩, c11⟩, c12⟩ := h1
    have hnb := hR.nb
    have hwr : ∀ i, i ∈ junkIds st.fr sp.jb ++ st.wr → i < B.nb → ∃ b, B.lk i = some b ∧ b.rw = true := by
      intro i hi hib
      rcases List.mem_append.1 hi with hi | hi
      · obtain ⟨c, hc, hrw⟩ := wrOk_at c12 i hi
        obtain ⟨b', h3, h4⟩ := hR.old i c hc hib
        exact ⟨b', h3, h4 hrw⟩
      · exact hR.wr i hi hib
    have hcl := cntIn_len c1
    have hnv1 : (loopHead sp st).nv = st.nv + sp.cnt.length := rfl
    obtain ⟨x, rest, hcnt⟩ : ∃ x rest, sp.cnt = x :: rest := by
      cases hc : sp.cnt with
      | nil => rw [hc] at hcl; simp at hcl
      | cons x r => exact ⟨x, r, rfl⟩
    obtain ⟨t0, lo0, hi0⟩ := x
    have hlen : 0 < sp.cnt.length := by rw [hcnt]; simp
    have key : ∀ N (env1 : Env), Upto st.nv env env1 → CR env1 st.nv sp.cnt → (hi0 - (env1 st.nv).i).toNat < N → ∀ ρ a w, RR env1 B (loopHead sp st) ρ w → FR env1 (loopHead sp st) ρ a →
        Code.rounds P b (Post env B (loopTail sp st) sp.ex) N a w := by
      intro N
      induction N with
      | zero => intro env1 _ _ h; omega
      | succ N ihN =>
        intro env1 hup hcr hlt ρ a w hR1 hF1
        obtain ⟨env', hup', L, hL⟩ := Tree.ok_path _ _ env1 h2
        have hup2 : Upto st.nv env env' := fun i hi => (hup' i (by rw [hnv1]; omega)).trans (hup i hi)
        have hcr' : CR env' st.nv sp.cnt := cr_upto (fun i hi => hup' i hi) hcr
        have hs1 : Sat env' (loopHead sp st).fs := cr_sat (Sat.upto hup2 c7 hs) hcr'
        have hR1' : RR env' B (loopHead sp st) ρ w := hR1.upto (n := (loopHead sp st).nv) hup' c6
        have hF1' : FR env' (loopHead sp st) ρ a := hF1.upto (n := (loopHead sp st).nv) hup' c5
        obtain ⟨r, hr, hsnd⟩ := ih Unit env' (.code b) (loopHead sp st) _ L hs1 hL
        cases r with
        | out o nv fs => exact hsnd.elim
        | «at» ex st' =>
          obtain ⟨g1, g2, g3⟩ := hsnd
          rw [rounds_succ]
          refine wp_mono (g3 B ρ a w hR1' hF1') ?_
          rintro x a' w' ⟨rfl, ρ', hR', hF'⟩
          have exitCase : ∀ ex : Ex, (exEq ex sp.ex && chkSt st'.fs .v (loopTail sp st) st') = true → ex = sp.ex ∧ ∃ ρ, RR env B (loopTail sp st) ρ w' ∧ FR env (loopTail sp st) ρ a' := by
            intro ex hc
            rw [Bool.and_eq_true] at hc
            refine ⟨exEq_eq hc.1, ρ', ?_, ?_⟩
            · exact (RR.weak (p := loopTail sp st) g1 hR' hc.2 hnb c11 hwr).upto (n := st.nv) (fun i hi => (hup2 i hi).symm) c4
            · exact (FR.weak (p := loopTail sp st) g1 hF' hc.2 (fun t s hs' => frLt_at c9 hs')).upto (n := st.nv) (fun i hi => (hup2 i hi).symm) c3
          cases ex with
          | normal =>
            simp only [loopBody] at hr
            split at hr
            · rename_i e' es' hes'
              obtain ⟨k1, _⟩ := path_bind2 hr
              simp only [Bool.and_eq_true] at k1
              obtain ⟨⟨k1, k2⟩, k3⟩ := k1
              have hlen' := cntIn_len k1
              have hσ : ∀ j, j < (e' :: es').length → den env' (loopσ st.nv (e' :: es') (st.nv + j)) = den env' ((e' :: es').getD j (.lit 0)) := by
                intro j _
                unfold loopσ
                rw [if_pos (by simp), show st.nv + j - st.nv = j by omega]
              have hup3 : Upto st.nv env (fun i => den env' (loopσ st.nv (e' :: es') i)) := by
                intro i hi
                dsimp only
                unfold loopσ
                rw [if_neg (by simpa using hi)]
                exact hup2 i hi
              refine ihN (fun i => den env' (loopσ st.nv (e' :: es') i)) hup3 (cntIn_cr g1 k1 (fun j hj => hσ j hj)) ?_ ρ' a' w' ?_ ?_
              · have h0 := hσ 0 (by simp)
                simp only [Nat.add_zero, List.getD_cons_zero] at h0
                rw [h0]
                have h5 := within_sound g1 k2
                rw [mkLt_den g1] at h5
                have h6 : (den env' (.v st.nv)).i < (den env' e').i := by
                  by_cases hh : (den env' (.v st.nv)).i < (den env' e').i
                  · exact hh
                  · rw [if_neg hh] at h5; omega
                have h7 : (den env' (.v st.nv)).i = (env1 st.nv).i := by
                  simp only [den]; rw [hup' st.nv (by rw [hnv1]; omega)]
                have h8 : CR (fun i => den env' (loopσ st.nv (e' :: es') i)) st.nv sp.cnt := cntIn_cr g1 k1 (fun j hj => hσ j hj)
                rw [hcnt] at h8
                have h9 := h8.1.2
                dsimp only at h9
                rw [h0] at h9
                have h10 : (env' st.nv).i = (env1 st.nv).i := h7
                omega
              · exact RR.weak (p := loopHead sp st) g1 hR' k3 hnb c10 hwr
              · exact FR.weak (p := loopHead sp st) g1 hF' k3 (fun t s hs' => frLt_at c8 hs')
            · exact hr.elim
          | exit i =>
            simp only [loopBody] at hr
            obtain ⟨k1, _⟩ := path_bind2 hr
            obtain ⟨e1, k2⟩ := exitCase _ k1
            exact ⟨by rw [← e1], k2⟩
          | ret =>
            simp only [loopBody] at hr
            obtain ⟨k1, _⟩ := path_bind2 hr
            obtain ⟨e1, k2⟩ := exitCase _ k1
            exact ⟨by rw [← e1], k2⟩
    have hσ : ∀ j, j < (e :: es).length → den env (loopσ st.nv (e :: es) (st.nv + j)) = den env ((e :: es).getD j (.lit 0)) := by
      intro j _
      unfold loopσ
      rw [if_pos (by simp), show st.nv + j - st.nv = j by omega]
    have hup3 : Upto st.nv env (fun i => den env (loopσ st.nv (e :: es) i)) := by
      intro i hi
      dsimp only
      unfold loopσ
      rw [if_neg (by simpa using hi)]
      rfl
    refine wp_loop_rounds _ (key _ (fun i => den env (loopσ st.nv (e :: es) i)) hup3 (cntIn_cr hs c1 (fun j hj => hσ j hj)) (Nat.lt_succ_self _) ρ a w ?_ ?_)
    · exact RR.weak (p := loopHead sp st) hs hR c2 hnb c10 hwr
    · exact FR.weak (p := loopHead sp st) hs hF c2 (fun t s hs' => frLt_at c8 hs')
  · cases h1

theorem run_sound (hC : CfgOk P C) : ∀ (n : Nat) (α : Type) (env : Env) (j : Job) (st : St) (k : Rs → Tree α) (L : α), Sat env st.fs → Path env (run C n j st k) L → ∃ r, Path env (k r) L ∧ Snd P C env j st r := by
  intro n
  induction n with
  | zero => intro α env j st k L _ h; simp only [run, Path] at h
  | succ n ih =>
    intro α env j st k L hs h
    cases j with
    | code c =>
      cases c with
      | skip => exact ⟨_, h, hs, Nat.le_refl _, fun B ρ a w hR hF => wp_skip ⟨rfl, ρ, hR, hF⟩⟩
      | label l => exact ⟨_, h, hs, Nat.le_refl _, fun B ρ a w hR hF => wp_label ⟨rfl, ρ, hR, hF⟩⟩
      | exit id => exact ⟨_, h, hs, Nat.le_refl _, fun B ρ a w hR hF => wp_exit ⟨rfl, ρ, hR, hF⟩⟩
      | ret => exact ⟨_, h, hs, Nat.le_refl _, fun B ρ a w hR hF => wp_ret ⟨rfl, ρ, hR, hF⟩⟩
      | seq a b =>
        obtain ⟨r, h1, h2⟩ := ih _ _ (.code a) st _ L hs h
        cases r with
        | out o nv fs => exact h2.elim
        | «at» ex st' =>
          obtain ⟨g1, g2, g3⟩ := h2
          cases ex with
          | normal =>
            obtain ⟨r, h3, h4⟩ := ih _ _ (.code b) st' k L g1 h1
            cases r with
            | out o nv fs => exact h4.elim
            | «at» ex' st'' =>
              obtain ⟨g4, g5, g6⟩ := h4
              refine ⟨_, h3, g4, Nat.le_trans g2 g5, fun B ρ ac w hR hF => wp_seq (wp_mono (g3 B ρ ac w hR hF) ?_)⟩
              rintro e a' w' ⟨rfl, ρ', hR', hF'⟩
              exact g6 B ρ' a' w' hR' hF'
          | exit i =>
            refine ⟨_, h1, g1, g2, fun B ρ ac w hR hF => wp_seq (wp_mono (g3 B ρ ac w hR hF) ?_)⟩
            rintro e a' w' ⟨rfl, hx⟩
            exact ⟨rfl, hx⟩
          | ret =>
            refine ⟨_, h1, g1, g2, fun B ρ ac w hR hF => wp_seq (wp_mono (g3 B ρ ac w hR hF) ?_)⟩
            rintro e a' w' ⟨rfl, hx⟩
            exact ⟨rfl, hx⟩
      | cond c x y =>
        simp only [run] at h
        split at h
        · rename_i e he
          have hval : ∀ {ρ : Rho} {a : Act}, FR env st ρ a → a.eval c = .bool (decide ((den env e).i ≠ 0)) := fun hF => (evOf_rel hF).one he
          split at h
          · rename_i ht
            have hd := truth_dec hs ht
            obtain ⟨r, h1, h2⟩ := ih _ _ (.code x) st k L hs h
            cases r with
            | out o nv fs => exact h2.elim
            | «at» ex st' =>
              obtain ⟨g1, g2, g3⟩ := h2
              exact ⟨_, h1, g1, g2, fun B ρ a w hR hF => wp_cond_true (by rw [hval hF, ← hd]) (g3 B ρ a w hR hF)⟩
          · rename_i ht
            have hd := truth_dec hs ht
            obtain ⟨r, h1, h2⟩ := ih _ _ (.code y) st k L hs h
            cases r with
            | out o nv fs => exact h2.elim
            | «at» ex st' =>
              obtain ⟨g1, g2, g3⟩ := h2
              exact ⟨_, h1, g1, g2, fun B ρ a w hR hF => wp_cond_false (by rw [hval hF, ← hd]) (g3 B ρ a w hR hF)⟩
          · obtain ⟨fs', hs', h⟩ := path_ask hs h
            obtain ⟨r, h1, h2⟩ := ih _ _ (.code (.cond c x y)) { st with fs := fs' } k L hs' h
            cases r with
            | out o nv fs => exact h2.elim
            | «at» ex st' =>
              obtain ⟨g1, g2, g3⟩ := h2
              exact ⟨_, h1, g1, g2, fun B ρ a w hR hF => g3 B ρ a w (hR.facts _) (hF.facts _)⟩
        · exact h.elim
      | block id b =>
        obtain ⟨r, h1, h2⟩ := ih _ _ (.code b) st _ L hs h
        cases r with
        | out o nv fs => exact h2.elim
        | «at» ex st' =>
          obtain ⟨g1, g2, g3⟩ := h2
          cases ex with
          | normal =>
            refine ⟨_, h1, g1, g2, fun B ρ ac w hR hF => wp_block (wp_mono (g3 B ρ ac w hR hF) ?_)⟩
            rintro e a' w' ⟨rfl, hx⟩
            exact ⟨rfl, hx⟩
          | ret =>
            refine ⟨_, h1, g1, g2, fun B ρ ac w hR hF => wp_block (wp_mono (g3 B ρ ac w hR hF) ?_)⟩
            rintro e a' w' ⟨rfl, hx⟩
            exact ⟨rfl, hx⟩
          | exit i =>
            dsimp only at h1
            cases hb : Nat.beq i id with
            | true =>
              rw [hb] at h1
              refine ⟨_, h1, g1, g2, fun B ρ ac w hR hF => wp_block (wp_mono (g3 B ρ ac w hR hF) ?_)⟩
              rintro e a' w' ⟨rfl, hx⟩
              show if i = id then _ else _
              rw [if_pos (Nat.eq_of_beq_eq_true hb)]
              exact ⟨rfl, hx⟩
            | false =>
              rw [hb] at h1
              refine ⟨_, h1, g1, g2, fun B ρ ac w hR hF => wp_block (wp_mono (g3 B ρ ac w hR hF) ?_)⟩
              rintro e a' w' ⟨rfl, hx⟩
              show if i = id then _ else _
              rw [if_neg (Nat.ne_of_beq_eq_false hb)]
              exact ⟨rfl, hx⟩
      | loop b =>
        simp only [run] at h
        split at h
        · obtain ⟨r, h1, h2⟩ := ih _ _ (.rounds b) st k L hs h
          cases r with
          | out o nv fs => exact h2.elim
          | «at» ex st' =>
            obtain ⟨g1, g2, m, g3⟩ := h2
            exact ⟨_, h1, g1, g2, fun B ρ a w hR hF => wp_loop_rounds m (g3 B ρ a w hR hF)⟩
        · rename_i sp hsp
          obtain ⟨hc1, hc2, h2⟩ := path_loopTree h
          exact ⟨_, h2, hs, Nat.le_refl _, fun B ρ a w hR hF => loop_case ih hs hc1 hc2 B ρ a w hR hF⟩
      | scope b =>
        obtain ⟨r, h1, h2⟩ := ih _ _ (.code b) st k L hs h
        cases r with
        | out o nv fs => exact h2.elim
        | «at» ex st' =>
          obtain ⟨g1, g2, g3⟩ := h2
          refine ⟨_, h1, g1, g2, fun B ρ a w hR hF => wp_scope_straight (wp_mono (g3 B ρ a w hR hF) ?_)⟩
          rintro e a' w' ⟨rfl, hx⟩
          cases ex <;> exact ⟨rfl, hx⟩
      | region id ops draw =>
        cases draw with
        | true =>
          obtain ⟨r, h1, h2⟩ := ih _ _ (.draw ops (List.range ops.size) [] st) st k L hs h
          cases r with
          | out o nv fs => exact h2.elim
          | «at» ex st' =>
            obtain ⟨rfl, g1, g2, g3⟩ := h2
            obtain ⟨Rf, g4, g5, g6⟩ := g3 ⟨rfl, rfl, rfl, rfl, Nat.le_refl _, fun r hr => (by cases hr), trivial⟩
            exact ⟨_, h1, g1, g2, fun B ρ a w hR hF => draw_wp hC.tab hC.mixed g1 g4 g5 g6 hR hF id fun ρ' a' w' hR' hF' => ⟨rfl, ρ', hR', hF'⟩⟩
        | false =>
          obtain ⟨r, h1, h2⟩ := ih _ _ (.ops ops (List.range ops.size)) st k L hs h
          cases r with
          | out o nv fs => exact h2.elim
          | «at» ex st' =>
            obtain ⟨rfl, g1, g2, g3⟩ := h2
            exact ⟨_, h1, g1, g2, fun B ρ a w hR hF => wp_region (g3 B ρ a w hR hF)⟩
      | _ => exact h.elim
    | rounds b =>
      obtain ⟨r, h1, h2⟩ := ih _ _ (.code b) st _ L hs h
      cases r with
      | out o nv fs => exact h2.elim
      | «at» ex st' =>
        obtain ⟨g1, g2, g3⟩ := h2
        cases ex with
        | normal =>
          obtain ⟨r, h3, h4⟩ := ih _ _ (.rounds b) st' k L g1 h1
          cases r with
          | out o nv fs => exact h4.elim
          | «at» ex' st'' =>
            obtain ⟨g4, g5, m, g6⟩ := h4
            refine ⟨_, h3, g4, Nat.le_trans g2 g5, m + 1, fun B ρ ac w hR hF => ?_⟩
            rw [rounds_succ]
            refine wp_mono (g3 B ρ ac w hR hF) ?_
            rintro e a' w' ⟨rfl, ρ', hR', hF'⟩
            exact g6 B ρ' a' w' hR' hF'
        | exit i =>
          refine ⟨_, h1, g1, g2, 1, fun B ρ ac w hR hF => ?_⟩
          rw [rounds_succ]
          refine wp_mono (g3 B ρ ac w hR hF) ?_
          rintro e a' w' ⟨rfl, hx⟩
          exact ⟨rfl, hx⟩
        | ret =>
          refine ⟨_, h1, g1, g2, 1, fun B ρ ac w hR hF => ?_⟩
          rw [rounds_succ]
          refine wp_mono (g3 B ρ ac w hR hF) ?_
          rintro e a' w' ⟨rfl, hx⟩
          exact ⟨rfl, hx⟩
    | ops arr l =>
      cases l with
      | nil => exact ⟨_, h, rfl, hs, Nat.le_refl _, fun B ρ a w hR hF => ⟨rfl, ρ, hR, hF⟩⟩
      | cons i l =>
        simp only [run] at h
        split at h
        · exact h.elim
        · rename_i o ho
          have go : ∀ {L : α}, Path env (run C n (.op o (evOf st) st.hp) st fun r => match r with
              | .out out nv fs => bind2 (fits st o.dst out.v out.ups out.nb) (st.next o.dst out.v out.ups out.nb nv fs fun st' => run C n (.ops arr l) st' k) (.err "fits")
              | .at _ _ => .err "op") L → (∀ ρ a, FR env st ρ a → Region.wanted o (yielded arr a.tmps) = true) → ∃ r, Path env (k r) L ∧ Snd P C env (.ops arr (i :: l)) st r := by
            intro L h hw
            obtain ⟨r, h1, h2⟩ := ih _ _ (.op o (evOf st) st.hp) st _ L hs h
            cases r with
            | «at» ex st' => exact h2.elim
            | out out nv fs =>
              obtain ⟨g1, g2⟩ := h2
              obtain ⟨h3, h4⟩ := path_bind2 h1
              rw [St.next_eq] at h4
              obtain ⟨r, h5, h6⟩ := ih _ _ (.ops arr l) (st.after o.dst out.v out.ups out.nb nv fs) k L g1 h4
              cases r with
              | out o nv fs => exact h6.elim
              | «at» ex st' =>
                obtain ⟨rfl, g4, g5, g6⟩ := h6
                refine ⟨_, h5, rfl, g4, Nat.le_trans (step_nb h3) g5, fun B ρ a w hR hF => ?_⟩
                unfold wpOps
                rw [ho]
                dsimp only
                rw [if_pos (hw ρ a hF)]
                exact .inl (opGood_step hR hF g2 h3 fun ρ' a' w' hR' hF' => g6 B ρ' a' w' hR' hF')
          split at h
          · rename_i hg
            exact go h fun ρ a hF => wanted_none hg _
          · rename_i j want hg
            split at h
            · rename_i e he
              split at h
              · rename_i b hb
                have hd := truth_dec hs hb
                cases hbw : (b == want) with
                | true =>
                  rw [hbw] at h
                  exact go h fun ρ a hF => by rw [wanted_some hg he hF, ← hd]; exact hbw
                | false =>
                  rw [hbw] at h
                  obtain ⟨h3, h4⟩ := path_bind2 h
                  rw [St.next_eq] at h4
                  obtain ⟨r, h5, h6⟩ := ih _ _ (.ops arr l) (st.after o.dst (some (.tup [])) [] st.nb st.nv st.fs) k L hs h4
                  cases r with
                  | out o nv fs => exact h6.elim
                  | «at» ex st' =>
                    obtain ⟨rfl, g4, g5, g6⟩ := h6
                    refine ⟨_, h5, rfl, g4, Nat.le_trans (step_nb h3) g5, fun B ρ a w hR hF => ?_⟩
                    unfold wpOps
                    rw [ho]
                    dsimp only
                    rw [if_neg (by rw [wanted_some hg he hF, ← hd, hbw]; simp)]
                    exact g6 B ρ _ w (hR.step (lk := fun _ => none) (fun _ _ h => by cases h) Step.same h3) (hF.step (RhoEq.refl _ _) h3 fun s hs => by cases hs; exact ⟨#[], rfl, trivial⟩)
              · obtain ⟨fs', hs', h⟩ := path_ask hs h
                obtain ⟨r, h1, h2⟩ := ih _ _ (.ops arr (i :: l)) { st with fs := fs' } k L hs' h
                cases r with
                | out o nv fs => exact h2.elim
                | «at» ex st' =>
                  obtain ⟨g1, g2, g3, g4⟩ := h2
                  exact ⟨_, h1, g1, g2, g3, fun B ρ a w hR hF => g4 B ρ a w (hR.facts _) (hF.facts _)⟩
            · split at h
              · rename_i hsk
                obtain ⟨h3, h4⟩ := path_bind2 h
                rw [St.next_eq] at h4
                obtain ⟨r, h5, h6⟩ := ih _ _ (.ops arr l) (st.after o.dst (some (.tup [])) [] st.nb st.nv st.fs) k L hs h4
                cases r with
                | out o nv fs => exact h6.elim
                | «at» ex st' =>
                  obtain ⟨rfl, g4, g5, g6⟩ := h6
                  refine ⟨_, h5, rfl, g4, Nat.le_trans (step_nb h3) g5, fun B ρ a w hR hF => ?_⟩
                  unfold wpOps
                  rw [ho]
                  dsimp only
                  rw [if_neg (by rw [wanted_skip hg hsk hF]; simp)]
                  exact g6 B ρ _ w (hR.step (lk := fun _ => none) (fun _ _ h => by cases h) Step.same h3) (hF.step (RhoEq.refl _ _) h3 fun s hs => by cases hs; exact ⟨#[], rfl, trivial⟩)
              · exact h.elim
    | draw arr l R st0 =>
      cases l with
      | nil =>
        obtain ⟨h1, h2⟩ := path_bind2 h
        simp only [Bool.and_eq_true, Nat.beq_eq] at h1
        exact ⟨_, h2, rfl, hs, Nat.le_refl _, fun ht => ⟨R, ht, h1.1, h1.2⟩⟩
      | cons i l =>
        simp only [run] at h
        split at h
        · exact h.elim
        · rename_i o ho
          split at h
          · exact h.elim
          · rename_i hc
            simp only [Bool.and_eq_true, Nat.beq_eq] at hc
            have go : ∀ {L : α}, Path env (run C n (.op o (evR arr o st.fr) (viewOf R (befOf R o.after.toList) st.hp (evR arr o st.fr) o)) st fun r => match r with
                | .out out nv fs => bind2 (fits st o.dst out.v out.ups out.nb) (st.next o.dst out.v out.ups out.nb nv fs fun st' => run C n (.draw arr l (⟨i, o, befOf R o.after.toList, true, out.v, out.ups, st.nb, out.nb, viewOf R (befOf R o.after.toList) st.hp (evR arr o st.fr) o, st.fr⟩ :: R) st0) st' k) (.err "fits")
                | .at _ _ => .err "op") L → ((o.guard = none ∧ true = true) ∨ ∃ j want g t e b, o.guard = some (j, want) ∧ arr[j]? = some g ∧ g.dst = some t ∧ look t st.fr = some (.sv (.sc (.bool e))) ∧ b = decide ((den env e).i ≠ 0) ∧ true = (b == want)) →
                ∃ r, Path env (k r) L ∧ Snd P C env (.draw arr (i :: l) R st0) st r := by
              intro L h hw
              obtain ⟨r, h1, h2⟩ := ih _ _ (.op o _ _) st _ L hs h
              cases r with
              | «at» ex st' => exact h2.elim
              | out out nv fs =>
                obtain ⟨g1, g2⟩ := h2
                obtain ⟨h3, h4⟩ := path_bind2 h1
                rw [St.next_eq] at h4
                obtain ⟨r, h5, h6⟩ := ih _ _ (.draw arr l _ st0) (st.after o.dst out.v out.ups out.nb nv fs) k L g1 h4
                cases r with
                | out o nv fs => exact h6.elim
                | «at» ex st' =>
                  obtain ⟨rfl, g4, g5, g6⟩ := h6
                  refine ⟨_, h5, rfl, g4, Nat.le_trans (step_nb h3) g5, fun ht => g6 ?_⟩
                  exact ht.cons (r := ⟨i, o, befOf R o.after.toList, true, out.v, out.ups, st.nb, out.nb, viewOf R (befOf R o.after.toList) st.hp (evR arr o st.fr) o, st.fr⟩) rfl h3 hc.1 ho rfl hc.2 rfl (fun k b hb => viewOf_look hb) hw (fun e => by cases e) (fun _ => g2)
            split at h
            · rename_i hg
              exact go h (.inl ⟨hg, rfl⟩)
            · rename_i j want hg
              split at h
              · rename_i e he
                obtain ⟨g, t, e1, e2, e3⟩ := gdOf_spec he
                split at h
                · rename_i b hb
                  have hd := truth_dec hs hb
                  cases hbw : (b == want) with
                  | true =>
                    rw [hbw] at h
                    exact go h (.inr ⟨j, want, g, t, e, b, hg, e1, e2, e3, hd, hbw.symm⟩)
                  | false =>
                    rw [hbw] at h
                    obtain ⟨h3, h4⟩ := path_bind2 h
                    rw [St.next_eq] at h4
                    obtain ⟨r, h5, h6⟩ := ih _ _ (.draw arr l _ st0) (st.after o.dst none [] st.nb st.nv st.fs) k L hs h4
                    cases r with
                    | out o nv fs => exact h6.elim
                    | «at» ex st' =>
                      obtain ⟨rfl, g4, g5, g6⟩ := h6
                      refine ⟨_, h5, rfl, g4, Nat.le_trans (step_nb h3) g5, fun ht => g6 ?_⟩
                      exact ht.cons (r := ⟨i, o, befOf R o.after.toList, false, none, [], st.nb, st.nb, [], st.fr⟩) rfl h3 hc.1 ho rfl hc.2 rfl (fun k b hb => by cases hb) (.inr ⟨j, want, g, t, e, b, hg, e1, e2, e3, hd, hbw.symm⟩) (fun _ => ⟨rfl, rfl⟩) (fun e => by cases e)
                · obtain ⟨fs', hs', h⟩ := path_ask hs h
                  obtain ⟨r, h1, h2⟩ := ih _ _ (.draw arr (i :: l) R st0) { st with fs := fs' } k L hs' h
                  cases r with
                  | out o nv fs => exact h2.elim
                  | «at» ex st' =>
                    obtain ⟨g1, g2, g3, g4⟩ := h2
                    exact ⟨_, h1, g1, g2, g3, fun ht => g4 ⟨ht.fr, ht.hp, ht.wr, ht.nt, ht.nb, ht.hi, ht.recs⟩⟩
              · exact h.elim
    | op o ev hp =>
      have ev0 : Path env (match opEval C.tab st.fs (fun i => look i hp) st.nb ev o with
        | .ok out => k (.out out st.nv st.fs)
        | .split e => ask st e fun st' => run C n (.op o ev hp) st' k
        | .err s => .err (o.pos ++ s)) L → ∃ r, Path env (k r) L ∧ Snd P C env (.op o ev hp) st r := by
        intro h
        split at h
        · rename_i out he
          exact ⟨_, h, hs, opEval_sound hC.tab hs he⟩
        · rename_i e he
          obtain ⟨fs', hs', h⟩ := path_ask hs h
          obtain ⟨r, h1, h2⟩ := ih _ _ (.op o ev hp) { st with fs := fs' } k L hs' h
          cases r with
          | «at» ex st' => exact h2.elim
          | out out nv fs => exact ⟨_, h1, h2⟩
        · exact h.elim
      simp only [run] at h
      split at h
      · rename_i c hop
        split at h
        · rename_i fid as hev
          split at h
          · rename_i S hS
            obtain ⟨hV, hfo, m2⟩ := hC.summs _ _ _ hS
            obtain ⟨h1, h2⟩ := path_bind2 h
            obtain ⟨h3, h4⟩ := path_bindT h2
            obtain ⟨u1, u2⟩ := use_sound hV hs h1 h3
            refine ⟨_, h4, Sat.append u1 hs, ?_⟩
            rw [← m2] at hev
            exact summ_good hop hev hfo fun ρ w vs hvs hH hS => u2 ρ w vs (pinSVs_rel hs hvs) hH hS
          · split at h
            · rename_i fn hfn
              obtain ⟨hP, hfo⟩ := hC.funs _ _ hfn
              split at h
              · rename_i body hb
                obtain ⟨h1, h2⟩ := path_bind2 h
                simp only [Bool.and_eq_true, Nat.ble_eq] at h1
                obtain ⟨r, h3, h4⟩ := ih _ _ (.code body) _ _ L (by exact hs) h2
                cases r with
                | out o nv fs => exact h4.elim
                | «at» ex st' =>
                  obtain ⟨g1, g2, g3⟩ := h4
                  have fin : (∀ i, ex ≠ .exit i) → Path env (match resVals C.tab st' fn.results.toList with
                    | some l => match callOut st.nb st' l with
                      | some out => k (.out out st'.nv st'.fs)
                      | none => .err "callOut"
                    | none => .err "results") L → ∃ r, Path env (k r) L ∧ Snd P C env (.op o ev hp) st r := by
                    intro hex h3
                    split at h3
                    · rename_i l hl
                      split at h3
                      · rename_i out ho
                        exact ⟨_, h3, g1, call_good hC hop hev hfo hP hb h1.1.1 h1.1.2 h1.2 hex g1 g3 hl ho⟩
                      · exact h3.elim
                    · exact h3.elim
                  cases ex with
                  | normal => exact fin (fun i e => by cases e) h3
                  | ret => exact fin (fun i e => by cases e) h3
                  | exit i => exact h3.elim
              · exact h.elim
            · exact h.elim
        · exact ev0 h
      · exact ev0 h

end Go.Sx
