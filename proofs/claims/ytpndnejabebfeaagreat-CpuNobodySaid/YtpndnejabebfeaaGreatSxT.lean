/- A part of the reckoning with symbols: states, terms and their meaning, used by the proofs of this seat. -/
import Derived.Test.YtpndnejabebfeaaGreatSxS
/-! The run is sound: the induction. -/
namespace Go.Sx
variable {P : Program} {C : Cfg} {env : Env} {α : Type}

theorem run_sound (hC : CfgOk P C) : ∀ (n : Nat) (j : Job) (st : St) (k : Rs → Tree α) (L : α), Sat env st.fs → Path env (run C n j st k) L → ∃ r, Path env (k r) L ∧ Snd P C env j st r := by
  intro n
  induction n with
  | zero => intro j st k L _ h; simp only [run, Path] at h
  | succ n ih =>
    intro j st k L hs h
    cases j with
    | code c =>
      cases c with
      | skip => exact ⟨_, h, hs, Nat.le_refl _, fun B ρ a w hR hF => wp_skip ⟨rfl, ρ, hR, hF⟩⟩
      | label l => exact ⟨_, h, hs, Nat.le_refl _, fun B ρ a w hR hF => wp_label ⟨rfl, ρ, hR, hF⟩⟩
      | exit id => exact ⟨_, h, hs, Nat.le_refl _, fun B ρ a w hR hF => wp_exit ⟨rfl, ρ, hR, hF⟩⟩
      | ret => exact ⟨_, h, hs, Nat.le_refl _, fun B ρ a w hR hF => wp_ret ⟨rfl, ρ, hR, hF⟩⟩
      | seq a b =>
        obtain ⟨r, h1, h2⟩ := ih (.code a) st _ L hs h
        cases r with
        | out o nv fs => exact h2.elim
        | «at» ex st' =>
          obtain ⟨g1, g2, g3⟩ := h2
          cases ex with
          | normal =>
            obtain ⟨r, h3, h4⟩ := ih (.code b) st' k L g1 h1
            cases r with
            | out o nv fs => exact h4.elim
            | «at» ex' st'' =>
              obtain ⟨g4, g5, g6⟩ := h4
              refine ⟨_, h3, g4, Nat.le_trans g2 g5, fun B ρ ac w hR hF => wp_seq (wp_mono (g3 B ρ ac w hR hF) ?_)⟩
              rintro e a' w' ⟨rfl, ρ', hR', hF'⟩
              exact g6 B ρ' a' w' hR' hF'
          | exit i =>
            refine ⟨_, h1, g1, g2, fun B ρ ac w hR hF => wp_seq (wp_mono (g3 B ρ ac w hR hF) ?_)⟩
            rintro e a' w' ⟨rfl, hx⟩
            exact ⟨rfl, hx⟩
          | ret =>
            refine ⟨_, h1, g1, g2, fun B ρ ac w hR hF => wp_seq (wp_mono (g3 B ρ ac w hR hF) ?_)⟩
            rintro e a' w' ⟨rfl, hx⟩
            exact ⟨rfl, hx⟩
      | cond c x y =>
        simp only [run] at h
        split at h
        · rename_i e he
          have hval : ∀ {ρ : Rho} {a : Act}, FR env st ρ a → a.eval c = .bool (decide ((den env e).i ≠ 0)) := fun hF => (evOf_rel hF).one he
          split at h
          · rename_i ht
            have hd := truth_dec hs ht
            obtain ⟨r, h1, h2⟩ := ih (.code x) st k L hs h
            cases r with
            | out o nv fs => exact h2.elim
            | «at» ex st' =>
              obtain ⟨g1, g2, g3⟩ := h2
              exact ⟨_, h1, g1, g2, fun B ρ a w hR hF => wp_cond_true (by rw [hval hF, ← hd]) (g3 B ρ a w hR hF)⟩
          · rename_i ht
            have hd := truth_dec hs ht
            obtain ⟨r, h1, h2⟩ := ih (.code y) st k L hs h
            cases r with
            | out o nv fs => exact h2.elim
            | «at» ex st' =>
              obtain ⟨g1, g2, g3⟩ := h2
              exact ⟨_, h1, g1, g2, fun B ρ a w hR hF => wp_cond_false (by rw [hval hF, ← hd]) (g3 B ρ a w hR hF)⟩
          · rcases path_node h with ⟨h0, h⟩ | ⟨h0, h⟩
            · obtain ⟨r, h1, h2⟩ := ih (.code x) (st.addT e) k L (sat_addT hs h0) h
              cases r with
              | out o nv fs => exact h2.elim
              | «at» ex st' =>
                obtain ⟨g1, g2, g3⟩ := h2
                exact ⟨_, h1, g1, g2, fun B ρ a w hR hF => wp_cond_true (by rw [hval hF, decide_eq_true h0]) (g3 B ρ a w (hR.facts _) (hF.facts _))⟩
            · obtain ⟨r, h1, h2⟩ := ih (.code y) (st.addF e) k L (sat_addF hs h0) h
              cases r with
              | out o nv fs => exact h2.elim
              | «at» ex st' =>
                obtain ⟨g1, g2, g3⟩ := h2
                exact ⟨_, h1, g1, g2, fun B ρ a w hR hF => wp_cond_false (by rw [hval hF, decide_eq_false (by rw [h0]; simp)]) (g3 B ρ a w (hR.facts _) (hF.facts _))⟩
        · exact h.elim
      | block id b =>
        obtain ⟨r, h1, h2⟩ := ih (.code b) st _ L hs h
        cases r with
        | out o nv fs => exact h2.elim
        | «at» ex st' =>
          obtain ⟨g1, g2, g3⟩ := h2
          cases ex with
          | normal =>
            refine ⟨_, h1, g1, g2, fun B ρ ac w hR hF => wp_block (wp_mono (g3 B ρ ac w hR hF) ?_)⟩
            rintro e a' w' ⟨rfl, hx⟩
            exact ⟨rfl, hx⟩
          | ret =>
            refine ⟨_, h1, g1, g2, fun B ρ ac w hR hF => wp_block (wp_mono (g3 B ρ ac w hR hF) ?_)⟩
            rintro e a' w' ⟨rfl, hx⟩
            exact ⟨rfl, hx⟩
          | exit i =>
            dsimp only at h1
            cases hb : Nat.beq i id with
            | true =>
              rw [hb] at h1
              refine ⟨_, h1, g1, g2, fun B ρ ac w hR hF => wp_block (wp_mono (g3 B ρ ac w hR hF) ?_)⟩
              rintro e a' w' ⟨rfl, hx⟩
              show if i = id then _ else _
              rw [if_pos (Nat.eq_of_beq_eq_true hb)]
              exact ⟨rfl, hx⟩
            | false =>
              rw [hb] at h1
              refine ⟨_, h1, g1, g2, fun B ρ ac w hR hF => wp_block (wp_mono (g3 B ρ ac w hR hF) ?_)⟩
              rintro e a' w' ⟨rfl, hx⟩
              show if i = id then _ else _
              rw [if_neg (Nat.ne_of_beq_eq_false hb)]
              exact ⟨rfl, hx⟩
      | loop b =>
        obtain ⟨r, h1, h2⟩ := ih (.rounds b) st k L hs h
        cases r with
        | out o nv fs => exact h2.elim
        | «at» ex st' =>
          obtain ⟨g1, g2, m, g3⟩ := h2
          exact ⟨_, h1, g1, g2, fun B ρ a w hR hF => wp_loop_rounds m (g3 B ρ a w hR hF)⟩
      | scope b =>
        obtain ⟨r, h1, h2⟩ := ih (.code b) st k L hs h
        cases r with
        | out o nv fs => exact h2.elim
        | «at» ex st' =>
          obtain ⟨g1, g2, g3⟩ := h2
          refine ⟨_, h1, g1, g2, fun B ρ a w hR hF => wp_scope_straight (wp_mono (g3 B ρ a w hR hF) ?_)⟩
          rintro e a' w' ⟨rfl, hx⟩
          cases ex <;> exact ⟨rfl, hx⟩
      | region id ops draw =>
        cases draw with
        | true =>
          obtain ⟨r, h1, h2⟩ := ih (.draw ops (List.range ops.size) [] st) st k L hs h
          cases r with
          | out o nv fs => exact h2.elim
          | «at» ex st' =>
            obtain ⟨rfl, g1, g2, g3⟩ := h2
            obtain ⟨Rf, g4, g5, g6⟩ := g3 ⟨rfl, rfl, rfl, rfl, Nat.le_refl _, fun r hr => (by cases hr), trivial⟩
            exact ⟨_, h1, g1, g2, fun B ρ a w hR hF => draw_wp hC.tab hC.mixed g1 g4 g5 g6 hR hF id fun ρ' a' w' hR' hF' => ⟨rfl, ρ', hR', hF'⟩⟩
        | false =>
          obtain ⟨r, h1, h2⟩ := ih (.ops ops (List.range ops.size)) st k L hs h
          cases r with
          | out o nv fs => exact h2.elim
          | «at» ex st' =>
            obtain ⟨rfl, g1, g2, g3⟩ := h2
            exact ⟨_, h1, g1, g2, fun B ρ a w hR hF => wp_region (g3 B ρ a w hR hF)⟩
      | _ => exact h.elim
    | rounds b =>
      obtain ⟨r, h1, h2⟩ := ih (.code b) st _ L hs h
      cases r with
      | out o nv fs => exact h2.elim
      | «at» ex st' =>
        obtain ⟨g1, g2, g3⟩ := h2
        cases ex with
        | normal =>
          obtain ⟨r, h3, h4⟩ := ih (.rounds b) st' k L g1 h1
          cases r with
          | out o nv fs => exact h4.elim
          | «at» ex' st'' =>
            obtain ⟨g4, g5, m, g6⟩ := h4
            refine ⟨_, h3, g4, Nat.le_trans g2 g5, m + 1, fun B ρ ac w hR hF => ?_⟩
            rw [rounds_succ]
            refine wp_mono (g3 B ρ ac w hR hF) ?_
            rintro e a' w' ⟨rfl, ρ', hR', hF'⟩
            exact g6 B ρ' a' w' hR' hF'
        | exit i =>
          refine ⟨_, h1, g1, g2, 1, fun B ρ ac w hR hF => ?_⟩
          rw [rounds_succ]
          refine wp_mono (g3 B ρ ac w hR hF) ?_
          rintro e a' w' ⟨rfl, hx⟩
          exact ⟨rfl, hx⟩
        | ret =>
          refine ⟨_, h1, g1, g2, 1, fun B ρ ac w hR hF => ?_⟩
          rw [rounds_succ]
          refine wp_mono (g3 B ρ ac w hR hF) ?_
          rintro e a' w' ⟨rfl, hx⟩
          exact ⟨rfl, hx⟩
    | ops arr l =>
      cases l with
      | nil => exact ⟨_, h, rfl, hs, Nat.le_refl _, fun B ρ a w hR hF => ⟨rfl, ρ, hR, hF⟩⟩
      | cons i l =>
        simp only [run] at h
        split at h
        · exact h.elim
        · rename_i o ho
          have go : ∀ {L : α}, Path env (run C n (.op o (evOf st) st.hp) st fun r => match r with
              | .out out nv fs => bind2 (fits st o.dst out.v out.ups out.nb) (run C n (.ops arr l) (st.after o.dst out.v out.ups out.nb nv fs) k) (.err "fits")
              | .at _ _ => .err "op") L → (∀ ρ a, FR env st ρ a → Region.wanted o (yielded arr a.tmps) = true) → ∃ r, Path env (k r) L ∧ Snd P C env (.ops arr (i :: l)) st r := by
            intro L h hw
            obtain ⟨r, h1, h2⟩ := ih (.op o (evOf st) st.hp) st _ L hs h
            cases r with
            | «at» ex st' => exact h2.elim
            | out out nv fs =>
              obtain ⟨g1, g2⟩ := h2
              obtain ⟨h3, h4⟩ := path_bind2 h1
              obtain ⟨r, h5, h6⟩ := ih (.ops arr l) (st.after o.dst out.v out.ups out.nb nv fs) k L g1 h4
              cases r with
              | out o nv fs => exact h6.elim
              | «at» ex st' =>
                obtain ⟨rfl, g4, g5, g6⟩ := h6
                refine ⟨_, h5, rfl, g4, Nat.le_trans (step_nb h3) g5, fun B ρ a w hR hF => ?_⟩
                unfold wpOps
                rw [ho]
                dsimp only
                rw [if_pos (hw ρ a hF)]
                exact .inl (opGood_step hR hF g2 h3 fun ρ' a' w' hR' hF' => g6 B ρ' a' w' hR' hF')
          split at h
          · rename_i hg
            exact go h fun ρ a hF => wanted_none hg _
          · rename_i j want hg
            split at h
            · rename_i e he
              split at h
              · rename_i b hb
                have hd := truth_dec hs hb
                cases hbw : (b == want) with
                | true =>
                  rw [hbw] at h
                  exact go h fun ρ a hF => by rw [wanted_some hg he hF, ← hd]; exact hbw
                | false =>
                  rw [hbw] at h
                  obtain ⟨h3, h4⟩ := path_bind2 h
                  obtain ⟨r, h5, h6⟩ := ih (.ops arr l) (st.after o.dst none [] st.nb st.nv st.fs) k L hs h4
                  cases r with
                  | out o nv fs => exact h6.elim
                  | «at» ex st' =>
                    obtain ⟨rfl, g4, g5, g6⟩ := h6
                    refine ⟨_, h5, rfl, g4, Nat.le_trans (step_nb h3) g5, fun B ρ a w hR hF => ?_⟩
                    unfold wpOps
                    rw [ho]
                    dsimp only
                    rw [if_neg (by rw [wanted_some hg he hF, ← hd, hbw]; simp)]
                    exact g6 B ρ _ w (hR.step (lk := fun _ => none) (fun _ _ h => by cases h) Step.same h3) (hF.step (RhoEq.refl _ _) h3 fun s hs => by cases hs)
              · rcases path_node h with ⟨h0, h⟩ | ⟨h0, h⟩
                · obtain ⟨r, h1, h2⟩ := ih (.ops arr (i :: l)) (st.addT e) k L (sat_addT hs h0) h
                  cases r with
                  | out o nv fs => exact h2.elim
                  | «at» ex st' =>
                    obtain ⟨g1, g2, g3, g4⟩ := h2
                    exact ⟨_, h1, g1, g2, g3, fun B ρ a w hR hF => g4 B ρ a w (hR.facts _) (hF.facts _)⟩
                · obtain ⟨r, h1, h2⟩ := ih (.ops arr (i :: l)) (st.addF e) k L (sat_addF hs h0) h
                  cases r with
                  | out o nv fs => exact h2.elim
                  | «at» ex st' =>
                    obtain ⟨g1, g2, g3, g4⟩ := h2
                    exact ⟨_, h1, g1, g2, g3, fun B ρ a w hR hF => g4 B ρ a w (hR.facts _) (hF.facts _)⟩
            · exact h.elim
    | draw arr l R st0 =>
      cases l with
      | nil =>
        obtain ⟨h1, h2⟩ := path_bind2 h
        simp only [Bool.and_eq_true, Nat.beq_eq] at h1
        exact ⟨_, h2, rfl, hs, Nat.le_refl _, fun ht => ⟨R, ht, h1.1, h1.2⟩⟩
      | cons i l =>
        simp only [run] at h
        split at h
        · exact h.elim
        · rename_i o ho
          split at h
          · exact h.elim
          · rename_i hc
            simp only [Bool.and_eq_true, Nat.beq_eq] at hc
            have go : ∀ {L : α}, Path env (run C n (.op o (evR arr o st.fr) (viewOf R (befOf R o.after.toList) st.hp (evR arr o st.fr) o)) st fun r => match r with
                | .out out nv fs => bind2 (fits st o.dst out.v out.ups out.nb) (run C n (.draw arr l (⟨i, o, befOf R o.after.toList, true, out.v, out.ups, st.nb, out.nb, viewOf R (befOf R o.after.toList) st.hp (evR arr o st.fr) o, st.fr⟩ :: R) st0) (st.after o.dst out.v out.ups out.nb nv fs) k) (.err "fits")
                | .at _ _ => .err "op") L → ((o.guard = none ∧ true = true) ∨ ∃ j want g t e b, o.guard = some (j, want) ∧ arr[j]? = some g ∧ g.dst = some t ∧ look t st.fr = some (.sv (.sc (.bool e))) ∧ b = decide ((den env e).i ≠ 0) ∧ true = (b == want)) →
                ∃ r, Path env (k r) L ∧ Snd P C env (.draw arr (i :: l) R st0) st r := by
              intro L h hw
              obtain ⟨r, h1, h2⟩ := ih (.op o _ _) st _ L hs h
              cases r with
              | «at» ex st' => exact h2.elim
              | out out nv fs =>
                obtain ⟨g1, g2⟩ := h2
                obtain ⟨h3, h4⟩ := path_bind2 h1
                obtain ⟨r, h5, h6⟩ := ih (.draw arr l _ st0) (st.after o.dst out.v out.ups out.nb nv fs) k L g1 h4
                cases r with
                | out o nv fs => exact h6.elim
                | «at» ex st' =>
                  obtain ⟨rfl, g4, g5, g6⟩ := h6
                  refine ⟨_, h5, rfl, g4, Nat.le_trans (step_nb h3) g5, fun ht => g6 ?_⟩
                  exact ht.cons (r := ⟨i, o, befOf R o.after.toList, true, out.v, out.ups, st.nb, out.nb, viewOf R (befOf R o.after.toList) st.hp (evR arr o st.fr) o, st.fr⟩) rfl h3 hc.1 ho rfl hc.2 rfl (fun k b hb => viewOf_look hb) hw (fun e => by cases e) (fun _ => g2)
            split at h
            · rename_i hg
              exact go h (.inl ⟨hg, rfl⟩)
            · rename_i j want hg
              split at h
              · rename_i e he
                obtain ⟨g, t, e1, e2, e3⟩ := gdOf_spec he
                split at h
                · rename_i b hb
                  have hd := truth_dec hs hb
                  cases hbw : (b == want) with
                  | true =>
                    rw [hbw] at h
                    exact go h (.inr ⟨j, want, g, t, e, b, hg, e1, e2, e3, hd, hbw.symm⟩)
                  | false =>
                    rw [hbw] at h
                    obtain ⟨h3, h4⟩ := path_bind2 h
                    obtain ⟨r, h5, h6⟩ := ih (.draw arr l _ st0) (st.after o.dst none [] st.nb st.nv st.fs) k L hs h4
                    cases r with
                    | out o nv fs => exact h6.elim
                    | «at» ex st' =>
                      obtain ⟨rfl, g4, g5, g6⟩ := h6
                      refine ⟨_, h5, rfl, g4, Nat.le_trans (step_nb h3) g5, fun ht => g6 ?_⟩
                      exact ht.cons (r := ⟨i, o, befOf R o.after.toList, false, none, [], st.nb, st.nb, [], st.fr⟩) rfl h3 hc.1 ho rfl hc.2 rfl (fun k b hb => by cases hb) (.inr ⟨j, want, g, t, e, b, hg, e1, e2, e3, hd, hbw.symm⟩) (fun _ => ⟨rfl, rfl⟩) (fun e => by cases e)
                · rcases path_node h with ⟨h0, h⟩ | ⟨h0, h⟩
                  · obtain ⟨r, h1, h2⟩ := ih (.draw arr (i :: l) R st0) (st.addT e) k L (sat_addT hs h0) h
                    cases r with
                    | out o nv fs => exact h2.elim
                    | «at» ex st' =>
                      obtain ⟨g1, g2, g3, g4⟩ := h2
                      exact ⟨_, h1, g1, g2, g3, fun ht => g4 ⟨ht.fr, ht.hp, ht.wr, ht.nt, ht.nb, ht.hi, ht.recs⟩⟩
                  · obtain ⟨r, h1, h2⟩ := ih (.draw arr (i :: l) R st0) (st.addF e) k L (sat_addF hs h0) h
                    cases r with
                    | out o nv fs => exact h2.elim
                    | «at» ex st' =>
                      obtain ⟨g1, g2, g3, g4⟩ := h2
                      exact ⟨_, h1, g1, g2, g3, fun ht => g4 ⟨ht.fr, ht.hp, ht.wr, ht.nt, ht.nb, ht.hi, ht.recs⟩⟩
              · exact h.elim
    | op o ev hp =>
      have ev0 : Path env (match opEval C.tab st.fs (fun i => look i hp) st.nb ev o with
        | .ok out => k (.out out st.nv st.fs)
        | .split e => .node e (run C n (.op o ev hp) (st.addT e) k) (run C n (.op o ev hp) (st.addF e) k)
        | .err s => .err s) L → ∃ r, Path env (k r) L ∧ Snd P C env (.op o ev hp) st r := by
        intro h
        split at h
        · rename_i out he
          exact ⟨_, h, hs, opEval_sound hC.tab hs he⟩
        · rename_i e he
          rcases path_node h with ⟨h0, h⟩ | ⟨h0, h⟩
          · obtain ⟨r, h1, h2⟩ := ih (.op o ev hp) (st.addT e) k L (sat_addT hs h0) h
            cases r with
            | «at» ex st' => exact h2.elim
            | out out nv fs => exact ⟨_, h1, h2⟩
          · obtain ⟨r, h1, h2⟩ := ih (.op o ev hp) (st.addF e) k L (sat_addF hs h0) h
            cases r with
            | «at» ex st' => exact h2.elim
            | out out nv fs => exact ⟨_, h1, h2⟩
        · exact h.elim
      simp only [run] at h
      split at h
      · rename_i c hop
        split at h
        · rename_i fid as hev
          split at h
          · rename_i S hS
            obtain ⟨m1, m2⟩ := findSumm_mem hS
            obtain ⟨hV, hfo⟩ := hC.summs S m1
            obtain ⟨h1, h2⟩ := path_bind2 h
            obtain ⟨h3, h4⟩ := h2
            obtain ⟨u1, u2⟩ := use_sound hV hs h1 h3
            refine ⟨_, h4, Sat.append u1 hs, ?_⟩
            rw [← m2] at hev
            exact summ_good hop hev hfo u2
          · split at h
            · rename_i fn hfn
              obtain ⟨hP, hfo⟩ := hC.funs _ _ hfn
              split at h
              · rename_i body hb
                obtain ⟨h1, h2⟩ := path_bind2 h
                simp only [Bool.and_eq_true, Nat.ble_eq] at h1
                obtain ⟨r, h3, h4⟩ := ih (.code body) _ _ L (by exact hs) h2
                cases r with
                | out o nv fs => exact h4.elim
                | «at» ex st' =>
                  obtain ⟨g1, g2, g3⟩ := h4
                  have fin : (∀ i, ex ≠ .exit i) → Path env (match resVals C.tab st' fn.results.toList with
                    | some l => match callOut st.nb st' l with
                      | some out => k (.out out st'.nv st'.fs)
                      | none => .err "callOut"
                    | none => .err "results") L → ∃ r, Path env (k r) L ∧ Snd P C env (.op o ev hp) st r := by
                    intro hex h3
                    split at h3
                    · rename_i l hl
                      split at h3
                      · rename_i out ho
                        exact ⟨_, h3, g1, call_good hC hop hev hfo hP hb h1.1.1 h1.1.2 h1.2 hex g1 g3 hl ho⟩
                      · exact h3.elim
                    · exact h3.elim
                  cases ex with
                  | normal => exact fin (fun i e => by cases e) h3
                  | ret => exact fin (fun i e => by cases e) h3
                  | exit i => exact h3.elim
              · exact h.elim
            · exact h.elim
        · exact ev0 h
      · exact ev0 h

end Go.Sx
