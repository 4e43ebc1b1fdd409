/- A part of the reckoning with symbols: states, terms and their meaning, used by the proofs of this seat. -/
import Derived.Test.YtpndnejabebfeaaGreatDoorSxI
/-! One operation that calls nothing: 'opEval', and that it is so. -/
noncomputable section
namespace Go.Sx

abbrev Ev := Operand → Option Sl

def evV (ev : Ev) (x : Operand) : Option SV :=
  match ev x with
  | some (.sv s) => some s
  | _ => none

def ev1 (ev : Ev) (x : Operand) : Option SC :=
  match ev x with
  | some (.sv (.sc s)) => some s
  | _ => none

def EvRel (env : Env) (ρ : Rho) (ev : Ev) (r : Operand → Value) : Prop := ∀ x s, ev x = some s → s.Rel env ρ (r x)

theorem EvRel.v {env : Env} {ρ : Rho} {ev : Ev} {r : Operand → Value} (h : EvRel env ρ ev r) {x : Operand} {s : SV} (hx : evV ev x = some s) : s.Rel env ρ (r x) := by
  unfold evV at hx
  split at hx
  · rename_i s' heq; cases hx; exact h x _ heq
  · cases hx

theorem EvRel.one {env : Env} {ρ : Rho} {ev : Ev} {r : Operand → Value} (h : EvRel env ρ ev r) {x : Operand} {s : SC} (hx : ev1 ev x = some s) : s.Rel env ρ (r x) := by
  unfold ev1 at hx
  split at hx
  · rename_i s' heq; cases hx; exact h x _ heq
  · cases hx

def evParts (ev : Ev) : List (Nat × Operand) → Option (List (Nat × SV))
  | [] => some []
  | (i, x) :: r =>
    match evV ev x, evParts ev r with
    | some s, some l => some ((i, s) :: l)
    | _, _ => none

theorem evParts_rel {env : Env} {ρ : Rho} {ev : Ev} {r : Operand → Value} (h : EvRel env ρ ev r) : ∀ {ps : List (Nat × Operand)} {l : List (Nat × SV)}, evParts ev ps = some l → PartsRel env ρ l (ps.map fun p => (p.1, r p.2)) := by
  intro ps
  induction ps with
  | nil => intro l hl; cases hl; trivial
  | cons p ps ih =>
    intro l hl
    obtain ⟨i, x⟩ := p
    simp only [evParts] at hl
    split at hl
    · rename_i s l' h1 h2
      cases hl
      exact ⟨rfl, h.v h1, ih h2⟩
    · cases hl

def evPtrs (ev : Ev) : List Operand → Option (List (Nat × Tm))
  | [] => some []
  | x :: r =>
    match ev1 ev x, evPtrs ev r with
    | some (.ptr b o), some l => some ((b, o) :: l)
    | _, _ => none

theorem evPtrs_rel {env : Env} {ρ : Rho} {ev : Ev} {r : Operand → Value} (h : EvRel env ρ ev r) : ∀ {ps : List Operand} {l : List (Nat × Tm)}, evPtrs ev ps = some l → PtrsRel env ρ l (ps.map r) := by
  intro ps
  induction ps with
  | nil => intro l hl; cases hl; trivial
  | cons x ps ih =>
    intro l hl
    simp only [evPtrs] at hl
    split at hl
    · rename_i b o l' h1 h2
      cases hl
      exact ⟨h.one h1, ih h2⟩
    · cases hl

def evUn (Γ : List Fact) (op : UnOp) (s : SC) : Option SC :=
  match op, s with
  | .neg, .int k e => some (.int k (mkWrap Γ k (mkSub (.lit 0) e)))
  | .xor, .int k e => some (.int k (mkBit Γ .xor k (.lit (if k.signed then -1 else k.max)) e))
  | .not, .bool e => some (.bool (mkNot Γ e))
  | _, _ => none

theorem evUn_sound {P : Program} {env : Env} {Γ : List Fact} (hs : Sat env Γ) {op : UnOp} {s r : SC} (h : evUn Γ op s = some r) {ρ : Rho} {u : Value} (hu : s.Rel env ρ u) (w : World) :
    ∃ v, (Op.unary op u).run P w = .ok v w ∧ r.Rel env ρ v := by
  unfold evUn at h
  split at h
  · simp only [SC.Rel] at hu; subst hu; cases h
    exact ⟨_, by simp [Op.unary, Op.intArith] <;> rfl, by simp only [SC.Rel, mkWrap_den hs, mkSub_den]; simp [den]⟩
  · simp only [SC.Rel] at hu; subst hu; cases h
    exact ⟨_, by simp only [Op.unary, Op.intBits]; rfl, by simp only [SC.Rel, mkBit_den hs]; rename_i k' e'; cases k' <;> rfl⟩
  · simp only [SC.Rel] at hu; subst hu; cases h
    exact ⟨_, by simp [Op.unary] <;> rfl, by simp only [SC.Rel, mkNot_den hs]; congr 1; split <;> simp_all⟩
  · cases h

def evConvert (tab : Tab) (Γ : List Fact) (src dst : Nat) (s : SC) : Option SC :=
  match tlook src tab, tlook dst tab, s with
  | some _, some td, .int _ e =>
    match td.desc with
    | .int k => some (.int k (mkWrap Γ k e))
    | _ => none
  | _, _, _ => none

theorem evConvert_sound {P : Program} {tab : Tab} (hT : TabOk P tab) {env : Env} {Γ : List Fact} (hs : Sat env Γ) {src dst : Nat} {s r : SC} (h : evConvert tab Γ src dst s = some r) {ρ : Rho} {u : Value} (hu : s.Rel env ρ u) (w : World) :
    ∃ v, (convert src dst u).run P w = .ok v w ∧ r.Rel env ρ v := by
  unfold evConvert at h
  split at h
  · rename_i ts td k e h1 h2
    simp only [SC.Rel] at hu; subst hu
    split at h
    · rename_i k' hd
      cases h
      refine ⟨.int k' (k'.wrap (den env e).i), ?_, by simp only [SC.Rel, mkWrap_den hs]⟩
      simp [convert, (hT _ _ h1).run_under, (hT _ _ h2).run_under, hd, Conv.intToInt]
    · cases h
  · cases h

def isIface : TypeDesc → Bool
  | .interface _ => true
  | _ => false

def evIface (tab : Tab) (t : Nat) (s : SC) : Option SC :=
  match tlook t tab with
  | some ti => if isIface ti.desc then none else some (.iface t s)
  | none => none

theorem evIface_sound {P : Program} {tab : Tab} (hT : TabOk P tab) {env : Env} {t : Nat} {s r : SC} (h : evIface tab t s = some r) {ρ : Rho} {u : Value} (hu : s.Rel env ρ u) (w : World) :
    ∃ v, (Instr.makeInterface t u).run P w = .ok v w ∧ r.Rel env ρ v := by
  unfold evIface at h
  split at h
  · rename_i ti ht
    split at h
    · cases h
    · rename_i hi
      cases h
      refine ⟨.iface t u, ?_, u, rfl, hu⟩
      simp only [Instr.makeInterface, Sem.run_bind, (hT _ _ ht).run_under, Result.andThen_ok]
      cases hd : ti.desc <;> first | rfl | (rw [hd] at hi; simp [isIface] at hi)
  · cases h

def litNat (t : Tm) : Option Nat :=
  match t with
  | .lit (.ofNat n) => some n
  | _ => none

theorem litNat_eq {t : Tm} {n : Nat} (h : litNat t = some n) : t = .lit (.ofNat n) := by
  unfold litNat at h
  split at h
  · cases h; rfl
  · cases h

def oneKind (Z : Lay) : Option CK :=
  match Lay.norm Z with
  | [(k, _)] => some k
  | _ => none

theorem oneKind_many {Z : Lay} {k : CK} (h : oneKind Z = some k) (n : Nat) : Lay.many n Z = [(k, n * Z.size)] := by
  unfold oneKind at h
  split at h
  · rename_i k' m heq
    cases h
    have := Lay.size_norm Z
    rw [heq] at this
    simp [Lay.size] at this
    unfold Lay.many
    rw [heq, ← this]
  · cases h

/-- make([]T, l, c): the new block's layout, and the capacity. -/
def evMake (tab : Tab) (Γ : List Fact) (t : Nat) (l c : SC) : Option (BL × Tm × Tm) :=
  match tlook t tab, l, c with
  | some ti, .int _ l, .int _ c =>
    match ti.desc with
    | .slice e =>
      match tlook e tab with
      | some te =>
        match te.zero with
        | some Z =>
          if Nat.beq Z.size te.size && ordered Γ l c (.lit mx64) && within Γ (mkMul (.lit (Int.ofNat te.bytes)) c) 0 281474976710656 then
            match litNat c with
            | some n => some (.fixed (Lay.many n Z), l, c)
            | none =>
              match oneKind Z with
              | some k => some (.dyn k (mkMul c (.lit (Int.ofNat te.size))), l, c)
              | none => none
          else none
        | none => none
      | none => none
    | _ => none
  | _, _, _ => none

theorem evMake_sound {P : Program} {tab : Tab} (hT : TabOk P tab) {env : Env} {Γ : List Fact} (hs : Sat env Γ) {t : Nat} {l c : SC} {b : BL} {lt ct : Tm} (h : evMake tab Γ t l c = some (b, lt, ct)) {ρ : Rho} {u v : Value} (hu : l.Rel env ρ u) (hv : c.Rel env ρ v) (w : World) :
    ∃ cs e L C, (Instr.makeSlice t u v).run P w = .ok (.slice (some ⟨w.heap.size, 0, none⟩) L C) (w.alloc (.cells cs e)) ∧ (L : Int) = (den env lt).i ∧ (C : Int) = (den env ct).i ∧ L ≤ C ∧
      ∀ j k, b.at env j = some k → ∃ x, cs[j]? = some x ∧ k.Rel env ρ (den env (.rep 0)).a j x := by
  unfold evMake at h
  split at h
  · rename_i ti kl l kc c ht
    have hti := hT _ _ ht
    simp only [SC.Rel] at hu hv
    subst hu; subst hv
    split at h
    · rename_i e hd
      split at h
      · rename_i te hte
        have hte' := hT _ _ hte
        split at h
        · rename_i Z hz
          split at h
          · rename_i hc
            simp only [Bool.and_eq_true, Nat.beq_eq] at hc
            obtain ⟨⟨c1, c2⟩, c3⟩ := hc
            obtain ⟨o1, o2, o3⟩ := ordered_sound hs c2
            have b1 := within_sound hs c3
            rw [mkMul_den] at b1
            simp only [den, Int.ofNat_eq_natCast] at b1
            have em : (den env (.lit mx64)).i = 9223372036854775807 := rfl
            obtain ⟨i, hi1, hi2, hi3, hi4⟩ := hte'.info
            obtain ⟨z, hz1, hz2, hz3⟩ := hi4 Z hz
            have hrun := run_make (P := P) w t e i z (by rw [hti.under, hd]) hi1 hz1 kl kc (den env l).i (den env c).i o1 o2 (by rw [hi3]; exact b1.2) (by omega)
            have hsz : ((den env c).i.toNat * i.size) = (den env c).i.toNat * te.size := by rw [hi2]
            have hcells := fun n hn => cells_rep (env := env) (ρ := ρ) (L := Z) (z := z.cells) n ((den env c).i.toNat * i.size) hn hz2 (fun j d hd' u hu' => hz3 env ρ j d hd' u hu')
            refine ⟨_, _, _, _, hrun, ?_⟩
            split at h
            · rename_i n hcn
              have hcn' := litNat_eq hcn
              cases h
              have hn : (den env ct).i = (n : Int) := by rw [hcn']; rfl
              obtain ⟨g1, g2⟩ := hcells n (by rw [hn, Int.toNat_natCast, hi2, c1])
              refine ⟨Int.toNat_of_nonneg o1, Int.toNat_of_nonneg (by omega), by omega, fun j k hk => ?_⟩
              simp only [BL.at] at hk
              have hj := Lay.at_some hk
              have hj' : j < (madeCells z.cells ((den env ct).i.toNat * i.size)).size := by rw [g1]; exact hj
              exact ⟨_, getElem?_pos _ j hj', g2 j k hk _ (getElem?_pos _ j hj')⟩
            · split at h
              · rename_i k heq
                cases h
                have hc0 : 0 ≤ (den env ct).i := by omega
                obtain ⟨g1, g2⟩ := hcells (den env ct).i.toNat (by rw [hi2, c1])
                refine ⟨Int.toNat_of_nonneg o1, Int.toNat_of_nonneg hc0, by omega, fun j d hd' => ?_⟩
                simp only [BL.at] at hd'
                split at hd'
                · rename_i hlt
                  cases hd'
                  rw [mkMul_den] at hlt
                  simp only [den, Int.ofNat_eq_natCast] at hlt
                  have hj : j < (den env ct).i.toNat * te.size := by
                    have : (((den env ct).i.toNat * te.size : Nat) : Int) = (den env ct).i * te.size := by
                      rw [Int.natCast_mul, Int.toNat_of_nonneg hc0]
                    omega
                  have hj' : j < (madeCells z.cells ((den env ct).i.toNat * i.size)).size := by rw [size_madeCells, hi2]; exact hj
                  refine ⟨_, getElem?_pos _ j hj', g2 j _ ?_ _ (getElem?_pos _ j hj')⟩
                  rw [oneKind_many heq]
                  simp only [Lay.at, Nat.blt_eq]
                  rw [if_pos (by rw [c1]; exact hj)]
                · cases hd'
              · cases h
          · cases h
        · cases h
      · cases h
    · cases h
  · cases h

def nilOk : SC → Bool
  | .ptr _ _ => true
  | .func (.func _) _ _ => true
  | _ => false

def listGet {α : Type} : List α → Nat → Option α
  | [], _ => none
  | a :: _, 0 => some a
  | _ :: r, n + 1 => listGet r n

def evLen (tab : Tab) (ts : Array TypeId) (s : SV) : Option SC :=
  match ts.toList with
  | [t] =>
    match tlook t tab with
    | some ti =>
      match ti.desc, s with
      | .slice _, .sc (.slice _ _ l _) => some (.int .i64 l)
      | .slice _, .sc (.val (.slice none 0 0)) => some (.int .i64 (.lit 0))
      | .array n _, _ => some (.int .i64 (.lit (Int.ofNat n)))
      | .string, .sc (.val (.string b)) => some (.int .i64 (.lit (Int.ofNat b.data.toList.length)))
      | _, _ => none
    | none => none
  | _ => none

theorem evLen_sound {P : Program} {tab : Tab} (hT : TabOk P tab) {env : Env} {ts : Array TypeId} {ty : TypeId} {s : SV} {r : SC} (h : evLen tab ts s = some r) {ρ : Rho} {u : Value} (hu : s.Rel env ρ u) (w : World) :
    ∃ v, (Builtin.len_ ts ty #[u]).run P w = .ok v w ∧ r.Rel env ρ v := by
  unfold evLen at h
  split at h
  · rename_i t hts
    have e : ts = #[t] := Array.ext' hts
    subst e
    split at h
    · rename_i ti ht
      have hti := hT _ _ ht
      split at h
      · rename_i hd
        obtain ⟨off, len, cap, rfl, h1, _⟩ := hu
        cases h
        exact ⟨goInt len, by simp [Builtin.len_, hti.run_under, hd], by simp only [SC.Rel, goInt, h1]⟩
      · rename_i hd
        simp only [SV.Rel, SC.Rel] at hu
        subst hu
        cases h
        exact ⟨goInt (0 : Nat), by simp [Builtin.len_, hti.run_under, hd], by simp [SC.Rel, goInt, den]⟩
      · rename_i _ n el hd
        cases h
        exact ⟨goInt n, by simp [Builtin.len_, hti.run_under, hd], by simp [SC.Rel, goInt, den]⟩
      · rename_i b hd
        simp only [SV.Rel, SC.Rel] at hu
        subst hu
        cases h
        refine ⟨goInt b.size, by simp [Builtin.len_, hti.run_under, hd], ?_⟩
        simp only [SC.Rel, goInt, den, Int.ofNat_eq_natCast, Array.length_toList]; rfl
      · cases h
    · cases h
  · cases h

def evMinMax (Γ : List Fact) (mx : Bool) : SC → SC → Option SC
  | .int k a, .int _ b => some (.int k (if mx then mkIte (mkLt Γ a b) b a else mkIte (mkLt Γ b a) b a))
  | _, _ => none

def evMinMaxs (Γ : List Fact) (mx : Bool) : SC → List SC → Option SC
  | a, [] => some a
  | a, b :: r => match evMinMax Γ mx a b with
    | some c => evMinMaxs Γ mx c r
    | none => none

def evList (ev : Ev) : List Operand → Option (List SC)
  | [] => some []
  | x :: r => match ev1 ev x, evList ev r with
    | some s, some l => some (s :: l)
    | _, _ => none

def SCsRel (env : Env) (ρ : Rho) : List SC → List Value → Prop
  | [], [] => True
  | s :: r, v :: vs => s.Rel env ρ v ∧ SCsRel env ρ r vs
  | _, _ => False

theorem evList_rel {env : Env} {ρ : Rho} {ev : Ev} {r : Operand → Value} (h : EvRel env ρ ev r) : ∀ {ps : List Operand} {l : List SC}, evList ev ps = some l → SCsRel env ρ l (ps.map r) := by
  intro ps
  induction ps with
  | nil => intro l hl; cases hl; trivial
  | cons x ps ih =>
    intro l hl
    simp only [evList] at hl
    split at hl
    · rename_i s l' h1 h2
      cases hl
      exact ⟨h.one h1, ih h2⟩
    · cases hl

theorem min2_sound {P : Program} {env : Env} {Γ : List Fact} (hs : Sat env Γ) {a b c : SC} (h : evMinMax Γ false a b = some c) {ρ : Rho} {u v : Value} (hu : a.Rel env ρ u) (hv : b.Rel env ρ v) (w : World) :
    ∃ z, (Builtin.min2 u v).run P w = .ok z w ∧ c.Rel env ρ z := by
  unfold evMinMax at h
  split at h
  · simp only [SC.Rel] at hu hv; subst hu; subst hv; cases h
    refine ⟨_, by simp only [Builtin.min2]; rfl, ?_⟩
    simp only [Bool.false_eq_true, if_false, SC.Rel, mkIte_den, mkLt_den hs]
    congr 1
    split <;> simp_all
  · cases h

theorem max2_sound {P : Program} {env : Env} {Γ : List Fact} (hs : Sat env Γ) {a b c : SC} (h : evMinMax Γ true a b = some c) {ρ : Rho} {u v : Value} (hu : a.Rel env ρ u) (hv : b.Rel env ρ v) (w : World) :
    ∃ z, (Builtin.max2 u v).run P w = .ok z w ∧ c.Rel env ρ z := by
  unfold evMinMax at h
  split at h
  · simp only [SC.Rel] at hu hv; subst hu; subst hv; cases h
    refine ⟨_, by simp only [Builtin.max2]; rfl, ?_⟩
    simp only [if_true, SC.Rel, mkIte_den, mkLt_den hs]
    congr 1
    split <;> simp_all
  · cases h

theorem mins_sound {P : Program} {env : Env} {Γ : List Fact} (hs : Sat env Γ) {ρ : Rho} (w : World) : ∀ (l : List SC) (vs : List Value) (a c : SC) (u : Value), evMinMaxs Γ false a l = some c → a.Rel env ρ u → SCsRel env ρ l vs →
    ∃ z, (vs.foldlM Builtin.min2 u).run P w = .ok z w ∧ c.Rel env ρ z := by
  intro l
  induction l with
  | nil => intro vs a c u h hu hl; cases vs with
    | nil => cases h; exact ⟨u, by simp, hu⟩
    | cons v vs => exact hl.elim
  | cons b r ih =>
    intro vs a c u h hu hl
    cases vs with
    | nil => exact hl.elim
    | cons v vs =>
      simp only [evMinMaxs] at h
      split at h
      · rename_i d hd
        obtain ⟨z, h1, h2⟩ := min2_sound (P := P) hs hd hu hl.1 w
        obtain ⟨y, h3, h4⟩ := ih vs d c z h h2 hl.2
        exact ⟨y, by simp [h1, h3], h4⟩
      · cases h

theorem maxs_sound {P : Program} {env : Env} {Γ : List Fact} (hs : Sat env Γ) {ρ : Rho} (w : World) : ∀ (l : List SC) (vs : List Value) (a c : SC) (u : Value), evMinMaxs Γ true a l = some c → a.Rel env ρ u → SCsRel env ρ l vs →
    ∃ z, (vs.foldlM Builtin.max2 u).run P w = .ok z w ∧ c.Rel env ρ z := by
  intro l
  induction l with
  | nil => intro vs a c u h hu hl; cases vs with
    | nil => cases h; exact ⟨u, by simp, hu⟩
    | cons v vs => exact hl.elim
  | cons b r ih =>
    intro vs a c u h hu hl
    cases vs with
    | nil => exact hl.elim
    | cons v vs =>
      simp only [evMinMaxs] at h
      split at h
      · rename_i d hd
        obtain ⟨z, h1, h2⟩ := max2_sound (P := P) hs hd hu hl.1 w
        obtain ⟨y, h3, h4⟩ := ih vs d c z h h2 hl.2
        exact ⟨y, by simp [h1, h3], h4⟩
      · cases h

end Go.Sx
