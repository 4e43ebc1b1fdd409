/- A part of the reckoning with symbols: states, terms and their meaning, used by the proofs of this seat. -/
import Derived.Test.YtpndnejabebfeaaGreatDoorSxE
/-! The other operations. -/
noncomputable section
namespace Go.Sx

/-! ### Parts of values that are at hand -/

def partSV (Γ : List Fact) (ti : TI) (L : Lay) (A o : Tm) : Option SV :=
  if aggDesc ti.desc then
    match subLay Γ (.fixed L) o ti.size with
    | some M => some (.agg M (mkLoad Γ ti.size A o))
    | none => none
  else
    match cellKind Γ (.fixed L) o with
    | some c => some (.sc (cellSC Γ A o c))
    | none => none

theorem partSV_sound {P : Program} {t : Nat} {ti : TI} (hti : TIOk P t ti) {env : Env} {Γ : List Fact} (hs : Sat env Γ) {L : Lay} {A o : Tm} {r : SV} (h : partSV Γ ti L A o = some r)
    {ρ : Rho} {cs : Array Value} (hsz : cs.size = L.size) (hrel : ∀ j c, Lay.at L j = some c → ∀ u, cs[j]? = some u → c.Rel env ρ (den env A).a j u) {off : Nat} (ho : (off : Int) = (den env o).i) (w : World) :
    ∃ v, (part t cs off).run P w = .ok v w ∧ r.Rel env ρ v := by
  unfold partSV at h
  split at h
  · rename_i hagg
    split at h
    · rename_i M hM
      cases h
      obtain ⟨hM1, n, hn, hat⟩ := subLay_sound hs hM
      have en : n = off := by omega
      subst en
      refine ⟨.agg (cs.extract n (n + ti.size)), by simp [part, hti.run_agg, hagg, hti.run_size], cs.extract n (n + ti.size), rfl, ?_, ?_⟩
      · rw [hM1]
        by_cases h0 : ti.size = 0
        · rw [Array.size_extract]; omega
        · obtain ⟨c, hc⟩ := Lay.at_lt (L := M) (j := ti.size - 1) (by omega)
          have := Lay.at_some (hat _ _ hc)
          simp; omega
      · intro j c hc u hu
        have hj : j < ti.size := by have := Lay.at_some hc; omega
        have hL := hat j c hc
        have hu' : cs[n + j]? = some u := by
          rw [Array.getElem?_extract] at hu
          split at hu
          · exact hu
          · cases hu
        refine CK.rel_num ?_ (hrel _ _ hL u hu')
        rw [mkLoad_den hs ti.size A o j (by omega) (by omega), ← ho]
        congr 1; omega
    · cases h
  · rename_i hagg
    split at h
    · rename_i c hc
      cases h
      obtain ⟨n, hn, hat⟩ := cellKind_sound hs hc
      have en : n = off := by omega
      subst en
      simp only [BL.at] at hat
      have hlt := Lay.at_some hat
      refine ⟨cs[n]'(by omega), by simp [part, hti.run_agg, hagg, show n < cs.size by omega], cellSC_rel hs hn (hrel _ _ hat _ (by simp [show n < cs.size by omega]))⟩
    · cases h

/-! ### Filling -/

theorem fold_set (off : Nat) (cs : Array Value) : ∀ (l : List Value) (k : Nat) (i : Nat), off + k + l.length ≤ cs.size →
    ((l.zipIdx k).foldl (fun (cs : Array Value) (x : Value × Nat) => cs.setIfInBounds (off + x.2) x.1) cs).size = cs.size ∧
    ((l.zipIdx k).foldl (fun (cs : Array Value) (x : Value × Nat) => cs.setIfInBounds (off + x.2) x.1) cs)[i]? = if off + k ≤ i ∧ i < off + k + l.length then l[i - (off + k)]? else cs[i]? := by
  intro l
  induction l generalizing cs with
  | nil => intro k i _; exact ⟨rfl, by rw [if_neg (by simp only [List.length_nil]; omega)]; rfl⟩
  | cons v r ih =>
    intro k i h
    simp only [List.zipIdx_cons, List.foldl_cons]
    simp only [List.length_cons] at h
    obtain ⟨h1, h2⟩ := ih (cs.setIfInBounds (off + k) v) (k + 1) i (by simp; omega)
    refine ⟨by rw [h1]; simp, ?_⟩
    rw [h2]
    by_cases h3 : off + (k + 1) ≤ i ∧ i < off + (k + 1) + r.length
    · rw [if_pos h3, if_pos (by simp; omega)]
      obtain ⟨d, hd⟩ : ∃ d, i - (off + k) = d + 1 := ⟨i - (off + k) - 1, by omega⟩
      rw [hd, List.getElem?_cons_succ]
      congr 1; omega
    · rw [if_neg h3]
      by_cases h4 : i = off + k
      · subst h4
        rw [if_pos (by simp)]
        simp [show off + k < cs.size by omega]
      · rw [if_neg (by simp; omega), Array.getElem?_setIfInBounds_ne (by omega)]

def fillSV (Γ : List Fact) (place : Nat → Option (Nat × Nat)) : Lay → Tm → List (Nat × SV) → Option (Lay × Tm)
  | L, A, [] => some (L, A)
  | L, A, (i, s) :: r =>
    match place i with
    | some (off, size) =>
      if Lay.one (svLay s) && Nat.beq (svLay s).size size && Nat.ble (off + size) L.size then
        fillSV Γ place (Lay.put L off (svLay s)) (mkStore Γ L.size size A (.lit (Int.ofNat off)) (svArr s)) r
      else none
    | none => none

def PartsRel (env : Env) (ρ : Rho) : List (Nat × SV) → List (Nat × Value) → Prop
  | [], [] => True
  | p :: ps, q :: qs => q.1 = p.1 ∧ p.2.Rel env ρ q.2 ∧ PartsRel env ρ ps qs
  | _, _ => False

theorem fillSV_sound {env : Env} {Γ : List Fact} (hs : Sat env Γ) {ρ : Rho} {place : Nat → Option (Nat × Nat)} : ∀ (ps : List (Nat × SV)) (L : Lay) (A : Tm) (M : Lay) (B : Tm) (cells : Array Value) (vs : List (Nat × Value)),
    fillSV Γ place L A ps = some (M, B) → cells.size = L.size → (∀ j c, Lay.at L j = some c → ∀ u, cells[j]? = some u → c.Rel env ρ (den env A).a j u) →
    PartsRel env ρ ps vs →
    ∃ cs, Instr.fill place cells vs = some cs ∧ cs.size = M.size ∧ M.size = L.size ∧ ∀ j c, Lay.at M j = some c → ∀ u, cs[j]? = some u → c.Rel env ρ (den env B).a j u := by
  intro ps
  induction ps with
  | nil =>
    intro L A M B cells vs h h1 h2 h3
    cases vs with
    | nil => cases h; exact ⟨cells, rfl, h1, rfl, h2⟩
    | cons q qs => exact h3.elim
  | cons p r ih =>
    intro L A M B cells vs h h1 h2 h3
    obtain ⟨i, s⟩ := p
    cases vs with
    | nil => exact h3.elim
    | cons q vs =>
      obtain ⟨i', v⟩ := q
      obtain ⟨hi', hv, hrest⟩ := h3
      dsimp only at hi' hv
      subst hi'

      simp only [fillSV] at h
      split at h
      · rename_i off size hpl
        split at h
        · rename_i hc
          simp only [Bool.and_eq_true, Nat.beq_eq, Nat.ble_eq] at hc
          obtain ⟨⟨hone, hsz⟩, hle⟩ := hc
          obtain ⟨hcs, hrel⟩ := sv_cells hone hv
          have hlen : v.cells.toList.length = size := by simp; omega
          have hfold := fun i => fold_set off cells v.cells.toList 0 i (by omega)
          have e1 : v.cells.zipIdx.foldl (fun (cs : Array Value) (x : Value × Nat) => cs.setIfInBounds (off + x.2) x.1) cells = (v.cells.toList.zipIdx 0).foldl (fun (cs : Array Value) (x : Value × Nat) => cs.setIfInBounds (off + x.2) x.1) cells := by
            rw [← Array.foldl_toList]; simp
          obtain ⟨cs, g1, g2, g3, g4⟩ := ih _ _ M B (v.cells.zipIdx.foldl (fun (cs : Array Value) (x : Value × Nat) => cs.setIfInBounds (off + x.2) x.1) cells) vs h
            (by rw [e1, (hfold 0).1, Lay.size_put _ _ _ (by omega), h1])
            (by
              intro j c hc u hu
              rw [e1, (hfold j).2] at hu
              have hjL := Lay.at_some hc
              rw [Lay.size_put _ _ _ (by omega)] at hjL
              rw [Lay.at_put _ _ _ (by omega)] at hc
              have el : (den env (.lit (Int.ofNat off))).i = (off : Int) := rfl
              have hB := mkStore_den hs L.size size A (.lit (Int.ofNat off)) (svArr s) j (by omega) (by omega)
              by_cases hr : off ≤ j ∧ j < off + size
              · rw [if_pos (by omega)] at hc
                rw [if_pos (by omega)] at hu
                rw [if_pos (by omega)] at hB
                have e2 : j - (off + 0) = j - off := by omega
                rw [e2] at hu
                refine CK.rel_num ?_ (hrel _ _ hc u (by simpa using hu))
                rw [hB]; congr 1; omega
              · rw [if_neg (by omega)] at hc
                rw [if_neg (by omega)] at hu
                rw [if_neg (by omega)] at hB
                exact CK.rel_num hB.symm (h2 _ _ hc u hu))
            hrest
          refine ⟨cs, ?_, g2, by rw [g3, Lay.size_put _ _ _ (by omega)], g4⟩
          simp only [Instr.fill, hpl]
          have n1 : (v.cells.size ≠ size || decide (off + v.cells.size > cells.size)) = false := by simp; omega
          rw [if_neg (by simpa using n1)]
          exact g1
        · cases h
      · cases h

def fieldPlaces (tab : Tab) : List Field → Option (List (Nat × Nat))
  | [] => some []
  | f :: r =>
    match tlook f.type tab, fieldPlaces tab r with
    | some ti, some l => some ((f.offset, ti.size) :: l)
    | _, _ => none

theorem fieldPlaces_run {P : Program} {tab : Tab} (hT : TabOk P tab) : ∀ (fs : List Field) (l : List (Nat × Nat)), fieldPlaces tab fs = some l → ∀ w : World,
    (fs.mapM fun f => Prod.mk f.offset <$> sizeOf f.type).run P w = .ok l w := by
  intro fs
  induction fs with
  | nil => intro l h w; cases h; simp
  | cons f r ih =>
    intro l h w
    simp only [fieldPlaces] at h
    split at h
    · rename_i ti l' h1 h2
      cases h
      have := ih _ h2 w
      simp [List.mapM_cons, (hT _ _ h1).run_size, this]
    · cases h

def placeIn (l : List (Nat × Nat)) (i : Nat) : Option (Nat × Nat) := l[i]?

def evBuild (tab : Tab) (Γ : List Fact) (t : Nat) (ps : List (Nat × SV)) : Option SV :=
  match tlook t tab with
  | some ti =>
    match ti.zero with
    | some Z =>
      match ti.desc with
      | .struct fs =>
        match fieldPlaces tab fs.toList with
        | some l => (fillSV Γ (fun i => l[i]?) Z (.rep 0) ps).map fun x => .agg x.1 x.2
        | none => none
      | .array _ e =>
        match tlook e tab with
        | some te => (fillSV Γ (fun i => some (i * te.size, te.size)) Z (.rep 0) ps).map fun x => .agg x.1 x.2
        | none => none
      | _ => none
    | none => none
  | none => none

theorem evBuild_sound {P : Program} {tab : Tab} (hT : TabOk P tab) {env : Env} {Γ : List Fact} (hs : Sat env Γ) {t : Nat} {ps : List (Nat × SV)} {r : SV} (h : evBuild tab Γ t ps = some r)
    {ρ : Rho} {vs : Array (Nat × Value)} (hv : PartsRel env ρ ps vs.toList) (w : World) :
    ∃ v, (Instr.build t vs).run P w = .ok v w ∧ r.Rel env ρ v := by
  unfold evBuild at h
  split at h
  · rename_i ti ht
    have hti := hT _ _ ht
    split at h
    · rename_i Z hz
      obtain ⟨v0, hrun, hcs, hrel0⟩ := hti.run_zero hz w
      have hrel := hrel0 env ρ
      · split at h
        · rename_i fs hd
          split at h
          · rename_i l hl
            simp only [Option.map_eq_some_iff] at h
            obtain ⟨⟨M, B⟩, hf, rfl⟩ := h
            obtain ⟨cs, g1, g2, g3, g4⟩ := fillSV_sound hs ps _ _ M B v0.cells vs.toList hf hcs hrel hv
            refine ⟨.agg cs, ?_, cs, rfl, g2, g4⟩
            have hpl := fieldPlaces_run (P := P) hT fs.toList l hl w
            simp [Instr.build, hrun, hti.run_under, hd, Array.mapM_eq_mapM_toList, hpl, g1]
          · cases h
        · rename_i n e hd
          split at h
          · rename_i te hte
            simp only [Option.map_eq_some_iff] at h
            obtain ⟨⟨M, B⟩, hf, rfl⟩ := h
            obtain ⟨cs, g1, g2, g3, g4⟩ := fillSV_sound hs ps _ _ M B v0.cells vs.toList hf hcs hrel hv
            refine ⟨.agg cs, ?_, cs, rfl, g2, g4⟩
            simp [Instr.build, hrun, hti.run_under, hd, (hT _ _ hte).run_size, g1]
          · cases h
        · cases h
    · cases h
  · cases h

end Go.Sx
