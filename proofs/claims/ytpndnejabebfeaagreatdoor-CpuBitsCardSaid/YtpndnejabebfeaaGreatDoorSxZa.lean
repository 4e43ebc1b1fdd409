/- A part of the reckoning with symbols: states, terms and their meaning, used by the proofs of this seat. -/
import Derived.Test.YtpndnejabebfeaaGreatDoorSxZ
import Derived.Test.YtpndnejabebfeaaGreatDoorSxU
/-! Contracts out of runs: the ends of a run made one. -/
noncomputable section
namespace Go.Sx

def sumEnd (C : Cfg) (nb : Nat) (rs : List ResultVar) : Rs → Tree Out
  | .at (.exit _) _ => .err "exit"
  | .at _ st =>
    match resVals C.tab st rs with
    | some l => match callOut nb st l with
      | some out => .leaf out
      | none => .err "callOut"
    | none => .err "results"
  | .out _ _ _ => .err "out"

def sumTree (C : Cfg) (fuel : Nat) (fn : Func) (body : Code) (S : Summ) : Tree Out :=
  runF C fuel (.code body) (lawStart fn S.args S.hp S.nh S.nin S.pre) (sumEnd C S.nh fn.results.toList)

theorem sum_calls {P : Program} {C : Cfg} (hC : CfgOk P C) {S : Summ} {fn : Func} {body : Code} (hf : P.funcs[S.fn]? = some fn) (hb : fn.body = some body) {fuel : Nat} {env : Env} {out : Out}
    (hpath : Path env (sumTree C fuel fn body S) out) (h1 : (Nat.ble S.args.length fn.ntmps && SVsLt S.nh S.args && HeapLt S.nh S.hp) = true) (hs : Sat env S.pre) {ρ : Rho} {w : World} {vs : List Value} (hvs : SVsRel env ρ S.args vs)
    (hH : HRel env ρ (fun i => look i S.hp) w) (hS : SepK ρ (fun i => look i S.hp)) :
    Calls P S.fn vs.toArray w fun e w' => ∃ v ρ', e = .returned v ∧ (∀ s, out.v = some s → s.Rel env ρ' v) ∧ Step env (fun i => look i S.hp) S.nh ρ ρ' w w' out.ups := by
  unfold sumTree at hpath
  rw [runF_eq] at hpath
  obtain ⟨r, h2, h3⟩ := run_sound hC fuel _ env (.code body) (lawStart fn S.args S.hp S.nh S.nin S.pre) _ out hs hpath
  cases r with
  | out o nv fs => exact h3.elim
  | «at» ex st' =>
    obtain ⟨g1, g2, g3⟩ := h3
    simp only [Bool.and_eq_true, Nat.ble_eq] at h1
    let B : Base := ⟨S.nh, w, ρ, fun i => look i S.hp⟩
    have hRR : RR env B (lawStart fn S.args S.hp S.nh S.nin S.pre) ρ w := by
      refine ⟨RhoEq.refl _ _, Nat.le_refl _, hH, hS, h1.2, fun i b hb _ => ⟨b, hb, id⟩, fun i b hb hi => ?_, fun i hi => (by cases hi), Fr.refl _ _⟩
      have := (HeapLt.at h1.2 hb).1
      have h' : S.nh ≤ i := hi
      omega
    have hlen := hvs.length
    have hFR : FR env (lawStart fn S.args S.hp S.nh S.nin S.pre) ρ { tmps := vs.toArray ++ Array.replicate (fn.ntmps - vs.toArray.size) undef, defers := [] } := by
      refine ⟨rfl, by simp [lawStart]; omega, fun t s hs => ?_, fun t s hs => ?_⟩
      · obtain ⟨_, g2, g3, _⟩ := frameOf_look hs hvs h1.1.2
        exact ⟨by simp [lawStart] at g2 ⊢; omega, g3⟩
      · obtain ⟨_, g2, _, v, g4, g5⟩ := frameOf_look hs hvs h1.1.2
        have : (vs.toArray ++ Array.replicate (fn.ntmps - vs.toArray.size) undef).getD t undef = v := by
          have hlt : t < vs.length := by simp at g2; omega
          simp only [Array.getD_eq_getD_getElem?]
          rw [Array.getElem?_append_left (by simpa using hlt)]
          simp only [Nat.sub_zero] at g4
          simp [g4]
        dsimp only
        rw [this]; exact g5
    have fin : (∀ i, ex ≠ .exit i) → (∃ l, resVals C.tab st' fn.results.toList = some l ∧ callOut S.nh st' l = some out) →
        Calls P S.fn vs.toArray w fun e w' => ∃ v ρ', e = .returned v ∧ (∀ s, out.v = some s → s.Rel env ρ' v) ∧ Step env (fun i => look i S.hp) S.nh ρ ρ' w w' out.ups := by
      rintro hex ⟨l, k1, k2⟩
      refine calls_of_wp hf hb (wp_mono (g3 B ρ _ w hRR hFR) ?_)
      rintro x a' w' ⟨rfl, ρ', hRR', hFR'⟩
      obtain ⟨v, q1, q2⟩ := results_run (P := P) hC.tab g1 hFR' hRR'.heap k1
      obtain ⟨e1, _, e3⟩ := callOut_step hRR' k2
      have hv : ∀ s, out.v = some s → s.Rel env ρ' v := by
        intro s hs'
        rw [e1] at hs'
        cases hs'
        exact q2
      cases ex with
      | normal => exact ⟨hFR'.df, v, q1, v, ρ', rfl, hv, e3⟩
      | ret => exact ⟨hFR'.df, v, q1, v, ρ', rfl, hv, e3⟩
      | exit i => exact absurd rfl (hex i)
    have get : Path env (match resVals C.tab st' fn.results.toList with
        | some l => match callOut S.nh st' l with
          | some out => .leaf out
          | none => .err "callOut"
        | none => .err "results" : Tree Out) out → ∃ l, resVals C.tab st' fn.results.toList = some l ∧ callOut S.nh st' l = some out := by
      intro hp
      split at hp
      · rename_i l hl
        split at hp
        · rename_i o ho
          have : o = out := hp
          exact ⟨l, hl, by rw [ho, this]⟩
        · exact hp.elim
      · exact hp.elim
    cases ex with
    | normal => exact fin (fun i e => by cases e) (get h2)
    | ret => exact fin (fun i e => by cases e) (get h2)
    | exit i => exact h2.elim

/-! ### Two ends made one -/
def joinSC (c : Tm) : SC → SC → Option SC
  | .int k a, .int l b => if keq k l then some (.int k (if Tm.beq a b then a else mkIte c a b)) else none
  | .bool a, .bool b => some (.bool (if Tm.beq a b then a else mkIte c a b))
  | a, b => if SC.beq a b then some a else none

def joinSV (c : Tm) : SV → SV → Option SV
  | .sc a, .sc b => (joinSC c a b).map .sc
  | .agg L A, .agg M B => if Lay.beq L M then some (.agg L (if Tm.beq A B then A else mkIte c A B)) else none
  | _, _ => none

def joinSVs (c : Tm) : List SV → List SV → Option (List SV)
  | [], [] => some []
  | a :: r, b :: s => match joinSV c a b, joinSVs c r s with
    | some x, some l => some (x :: l)
    | _, _ => none
  | _, _ => none

def joinSl (c : Tm) : Option Sl → Option Sl → Option Sl
  | some (.sv a), some (.sv b) => (joinSV c a b).map .sv
  | some (.tup a), some (.tup b) => (joinSVs c a b).map .tup
  | _, _ => none

def joinOut (c : Tm) (x y : Out) : Option Out :=
  match x.ups, y.ups with
  | [], [] => match joinSl c x.v y.v with
    | some v => some ⟨some v, [], x.nb⟩
    | none => none
  | _, _ => none

def joinT : Tree Out → Option Out
  | .leaf o => some o
  | .node c l r =>
    match joinT l, joinT r with
    | some a, some b => joinOut c a b
    | _, _ => none
  | _ => none

section
variable {env : Env} {ρ : Rho}
theorem ite_den {c a b : Tm} : den env (if Tm.beq a b then a else mkIte c a b) = if (den env c).i = 0 then den env b else den env a := by
  split
  · rename_i h; rw [Tm.beq_eq h]; split <;> rfl
  · exact mkIte_den _ _ _ _

theorem joinSC_rel {c : Tm} {a b x : SC} (h : joinSC c a b = some x) {v : Value} : ((den env c).i ≠ 0 → a.Rel env ρ v → x.Rel env ρ v) ∧ ((den env c).i = 0 → b.Rel env ρ v → x.Rel env ρ v) := by
  unfold joinSC at h
  split at h
  · split at h
    · rename_i hk
      have := keq_eq hk
      subst this
      cases h
      constructor
      · intro hc hr; simp only [SC.Rel, ite_den] at hr ⊢; rw [if_neg hc]; exact hr
      · intro hc hr; simp only [SC.Rel, ite_den] at hr ⊢; rw [if_pos hc]; exact hr
    · cases h
  · cases h
    constructor
    · intro hc hr; simp only [SC.Rel, ite_den] at hr ⊢; rw [if_neg hc]; exact hr
    · intro hc hr; simp only [SC.Rel, ite_den] at hr ⊢; rw [if_pos hc]; exact hr
  · split at h
    · rename_i hb
      have := SC.beq_eq hb
      subst this
      cases h
      exact ⟨fun _ => id, fun _ => id⟩
    · cases h

theorem joinSV_rel {c : Tm} {a b x : SV} (h : joinSV c a b = some x) {v : Value} : ((den env c).i ≠ 0 → a.Rel env ρ v → x.Rel env ρ v) ∧ ((den env c).i = 0 → b.Rel env ρ v → x.Rel env ρ v) := by
  unfold joinSV at h
  split at h
  · rename_i p q
    cases hj : joinSC c p q with
    | none => rw [hj] at h; cases h
    | some y => rw [hj] at h; cases h; exact joinSC_rel hj
  · split at h
    · rename_i hl
      have := Lay.beq_eq hl
      subst this
      cases h
      constructor
      · rintro hc ⟨cs, h1, h2, h3⟩
        refine ⟨cs, h1, h2, fun j k hk u hu => ?_⟩
        rw [ite_den, if_neg hc]; exact h3 j k hk u hu
      · rintro hc ⟨cs, h1, h2, h3⟩
        refine ⟨cs, h1, h2, fun j k hk u hu => ?_⟩
        rw [ite_den, if_pos hc]; exact h3 j k hk u hu
    · cases h
  · cases h

theorem joinSVs_rel {c : Tm} : ∀ {a b x : List SV} {vs : List Value}, joinSVs c a b = some x → ((den env c).i ≠ 0 → SVsRel env ρ a vs → SVsRel env ρ x vs) ∧ ((den env c).i = 0 → SVsRel env ρ b vs → SVsRel env ρ x vs) := by
  intro a
  induction a with
  | nil => intro b x vs h; cases b with
    | nil => cases h; exact ⟨fun _ => id, fun _ => id⟩
    | cons _ _ => cases h
  | cons p r ih =>
    intro b x vs h
    cases b with
    | nil => cases h
    | cons q s =>
      simp only [joinSVs] at h
      split at h
      · rename_i y l hy hl
        cases h
        cases vs with
        | nil => exact ⟨fun _ h => h, fun _ h => h⟩
        | cons v vs => exact ⟨fun hc hr => ⟨(joinSV_rel hy).1 hc hr.1, (ih hl).1 hc hr.2⟩, fun hc hr => ⟨(joinSV_rel hy).2 hc hr.1, (ih hl).2 hc hr.2⟩⟩
      · cases h

theorem joinSl_rel {c : Tm} {a b : Option Sl} {x : Sl} (h : joinSl c a b = some x) {v : Value} :
    ((den env c).i ≠ 0 → (∀ s, a = some s → s.Rel env ρ v) → x.Rel env ρ v) ∧ ((den env c).i = 0 → (∀ s, b = some s → s.Rel env ρ v) → x.Rel env ρ v) := by
  unfold joinSl at h
  split at h
  · rename_i p q
    cases hj : joinSV c p q with
    | none => rw [hj] at h; cases h
    | some y => rw [hj] at h; cases h; exact ⟨fun hc hr => (joinSV_rel hj).1 hc (hr _ rfl), fun hc hr => (joinSV_rel hj).2 hc (hr _ rfl)⟩
  · rename_i p q
    cases hj : joinSVs c p q with
    | none => rw [hj] at h; cases h
    | some y =>
      rw [hj] at h; cases h
      constructor
      · intro hc hr
        obtain ⟨vs, h1, h2⟩ := hr _ rfl
        exact ⟨vs, h1, (joinSVs_rel hj).1 hc h2⟩
      · intro hc hr
        obtain ⟨vs, h1, h2⟩ := hr _ rfl
        exact ⟨vs, h1, (joinSVs_rel hj).2 hc h2⟩
  · cases h

theorem joinT_path : ∀ {T : Tree Out} {M : Out}, joinT T = some M → ∃ L, Path env T L ∧ L.ups = M.ups ∧ ∀ ρ v, (∀ s, L.v = some s → s.Rel env ρ v) → ∀ s, M.v = some s → s.Rel env ρ v := by
  intro T
  induction T with
  | leaf o => intro M h; cases h; exact ⟨o, rfl, rfl, fun ρ v h => h⟩
  | node c l r ihl ihr =>
    intro M h
    simp only [joinT] at h
    split at h
    · rename_i a b ha hb
      unfold joinOut at h
      split at h
      · rename_i hxa hyb
        split at h
        · rename_i v hv
          cases h
          by_cases hc : (den env c).i = 0
          · obtain ⟨L, h1, h2, h3⟩ := ihr hb
            refine ⟨L, by simp only [Path]; rw [if_pos hc]; exact h1, h2.trans hyb, fun ρ u hu s hs => ?_⟩
            cases hs
            exact (joinSl_rel hv).2 hc (h3 ρ u hu)
          · obtain ⟨L, h1, h2, h3⟩ := ihl ha
            refine ⟨L, by simp only [Path]; rw [if_neg hc]; exact h1, h2.trans hxa, fun ρ u hu s hs => ?_⟩
            cases hs
            exact (joinSl_rel hv).1 hc (h3 ρ u hu)
        · cases h
      · cases h
    · cases h
  | bind _ _ _ _ _ _ => intro M h; cases h
  | err s => intro M h; cases h
end

/-! ### A contract held against what was reckoned -/
def slBeq : Sl → Sl → Bool
  | .sv a, .sv b => SV.beq a b
  | .tup a, .tup b => svsBeq a b
  | _, _ => false
  where
  svsBeq : List SV → List SV → Bool
    | [], [] => true
    | a :: r, b :: s => SV.beq a b && svsBeq r s
    | _, _ => false

theorem svsBeq_eq : ∀ {a b : List SV}, slBeq.svsBeq a b = true → a = b := by
  intro a
  induction a with
  | nil => intro b h; cases b <;> simp [slBeq.svsBeq] at h; rfl
  | cons p r ih =>
    intro b h
    cases b with
    | nil => simp [slBeq.svsBeq] at h
    | cons q s => simp only [slBeq.svsBeq, Bool.and_eq_true] at h; rw [SV.beq_eq h.1, ih h.2]

theorem slBeq_eq {a b : Sl} (h : slBeq a b = true) : a = b := by
  cases a <;> cases b <;> simp only [slBeq] at h
  · rw [SV.beq_eq h]
  · cases h
  · cases h
  · rw [svsBeq_eq h]

def blBeq : BL → BL → Bool
  | .fixed L, .fixed M => Lay.beq L M
  | .dyn c n, .dyn d m => CK.beq c d && Tm.beq n m
  | .mp a, .mp b => mpEq a b
  | _, _ => false

theorem blBeq_eq {a b : BL} (h : blBeq a b = true) : a = b := by
  cases a <;> cases b <;> simp only [blBeq] at h <;> try (cases h; done)
  · rw [Lay.beq_eq h]
  · simp only [Bool.and_eq_true] at h; rw [CK.beq_eq h.1, Tm.beq_eq h.2]
  · rw [mpEq_eq h]

def upsBeq : List (Nat × Blk) → List (Nat × Blk) → Bool
  | [], [] => true
  | (i, a) :: r, (j, b) :: s => Nat.beq i j && blBeq a.lay b.lay && Tm.beq a.A b.A && (a.rw == b.rw) && upsBeq r s
  | _, _ => false

theorem upsBeq_eq : ∀ {a b : List (Nat × Blk)}, upsBeq a b = true → a = b := by
  intro a
  induction a with
  | nil => intro b h; cases b <;> simp [upsBeq] at h; rfl
  | cons p r ih =>
    intro b h
    obtain ⟨i, x⟩ := p
    cases b with
    | nil => simp [upsBeq] at h
    | cons q s =>
      obtain ⟨j, y⟩ := q
      simp only [upsBeq, Bool.and_eq_true, Nat.beq_eq, beq_iff_eq] at h
      obtain ⟨⟨⟨⟨h1, h2⟩, h3⟩, h4⟩, h5⟩ := h
      obtain ⟨xl, xa, xr⟩ := x
      obtain ⟨yl, ya, yr⟩ := y
      have e1 : xl = yl := blBeq_eq h2
      have e2 : xa = ya := Tm.beq_eq h3
      have e3 : xr = yr := h4
      subst e1; subst e2; subst e3
      rw [h1, ih h5]

def sumHeld (S : Summ) : Option Out → Bool
  | some M => (match M.v with
    | some s => slBeq s S.res
    | none => false) && upsBeq M.ups S.out
  | none => false

def sumChk (C : Cfg) (fuel : Nat) (fn : Func) (body : Code) (S : Summ) : Bool :=
  (Nat.ble S.args.length fn.ntmps && SVsLt S.nh S.args && HeapLt S.nh S.hp) && sumHeld S (joinT (sumTree C fuel fn body S))

theorem sum_valid {P : Program} {C : Cfg} (hC : CfgOk P C) {S : Summ} {fn : Func} {body : Code} (hf : P.funcs[S.fn]? = some fn) (hb : fn.body = some body) (fuel : Nat) (hp : S.post = [])
    (h : sumChk C fuel fn body S = true) : Valid P S := by
  unfold sumChk at h
  rw [Bool.and_eq_true] at h
  obtain ⟨h1, h2⟩ := h
  unfold sumHeld at h2
  split at h2
  · rename_i M hM
    rw [Bool.and_eq_true] at h2
    obtain ⟨h3, h4⟩ := h2
    split at h3
    · rename_i s hs
      have e1 := slBeq_eq h3
      have e2 := upsBeq_eq h4
      refine ⟨?_, fun env _ _ => by rw [hp]; exact fun f hf => (by cases hf), fun env hpre _ ρ w vs hvs hH hS => ?_⟩
      · simp only [Bool.and_eq_true] at h1; exact h1.2
      · obtain ⟨L, p1, p2, p3⟩ := joinT_path (env := env) hM
        refine (sum_calls hC hf hb p1 h1 hpre hvs hH hS).mono ?_
        rintro e w' ⟨v, ρ', he, hr, hst⟩
        refine ⟨v, ρ', he, ?_, ?_⟩
        · rw [← e1]; exact p3 ρ' v hr s hs
        · rw [← e2, ← p2]; exact hst
    · cases h3
  · cases h2

end Go.Sx
