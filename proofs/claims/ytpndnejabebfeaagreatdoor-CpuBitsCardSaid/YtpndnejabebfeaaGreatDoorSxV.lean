/- A part of the reckoning with symbols: states, terms and their meaning, used by the proofs of this seat. -/
import Derived.Test.YtpndnejabebfeaaGreatDoorSxU
import Derived.ProofKit
/-! The rows: what comes in, and what is said at the end. -/
noncomputable section
namespace Go.Sx
open Go.ChangeShapes Go.WideShapes Go.ChangeAt Go.RowKit

/-- A law's row: it answered true, and below the heap's old end nothing turned. -/
theorem post_law {H : Type} {enc : TypeId × Value → H} {P : Program} {f : Func} {s : ChangeSpec} {W W' : World} {args : Array Value} {ds gs : List (DataW H)} {before : List MemPlace} {tb : TypeId}
    (hl : laidOutB P = true) (hread : (f.params.toList.all fun t => P.readableRec t && Nat.blt t P.types.size) = true) (hvars : s.vars = []) (hres : f.resultTypes = #[tb]) (htb : P.underlying tb = some .bool)
    (hspec : s.fn H (ds ++ gs) = { results := [.lit (.bool true)], args := ds }) (hW : DataW.Whole enc P f.params.toList s.vars false W args.toList ds gs before) (hb : Below W.heap.size W W') :
    s.post enc P f false true false false W args (.bool true) W' := by
  have hW' := hW
  have hlt : ∀ p ∈ before, p.block < W.heap.size := fun p hp => hW.lt p hp
  obtain ⟨p, q, hA, hV, rfl, hfz, hnd⟩ := hW
  have hgs : gs = [] ∧ q = [] := by
    rw [hvars] at hV
    exact trodVars_none hV
  obtain ⟨rfl, rfl⟩ := hgs
  have stays : ∀ (ts : List TypeId) (vs : List Value) (ds : List (DataW H)) (ps : List MemPlace), (ts.all fun t => P.readableRec t && Nat.blt t P.types.size) = true → (∀ x ∈ ps, x.block < W.heap.size) →
      DataW.TrodAll enc P W 0 (fun _ => true) true ts vs ds ps → DataW.TrodAll enc P W' 0 (fun b => decide (b < W.heap.size)) true ts vs ds ps := by
    intro ts
    induction ts with
    | nil =>
      intro vs ds ps _ _ h
      obtain ⟨rfl, rfl, rfl⟩ := trodAll_nil h
      exact trodAll_mk0
    | cons t ts ih =>
      intro vs ds ps hr hps h
      obtain ⟨v, vs1, d, ds1, a, b, rfl, rfl, rfl, h1, h2⟩ := trodAll_cons h
      simp only [List.all_cons, Bool.and_eq_true, Nat.blt_eq] at hr
      exact ⟨a, b, Below.trod hl hr.1.1 hr.1.2 h1 hb (fun x hx => hps x (List.mem_append_left _ hx)), ih _ _ _ hr.2 (fun x hx => hps x (List.mem_append_right _ hx)) h2, rfl⟩
  refine ⟨ds, [], p ++ [], [], p, [], hW', ?_, ?_, ?_, ?_, fun h => by cases h⟩
  · rw [hspec, hres]
    exact trodAll_mk1 (shut_bool htb true)
  · rw [hspec]
    exact stays _ _ _ _ hread (fun x hx => hlt x (by simpa using hx)) hA
  · rw [hspec, hvars]; rfl
  · exact World.keptBut_mono (fun x hx => hx) (hb.frame _)

/-! ### What comes in: ints, bools and structs of these -/

def scalarCK (P : Program) (t : TypeId) : Option CK :=
  match P.underlying t with
  | some (.int k) => some (.int k)
  | some .bool => some .bool
  | _ => none

def sameScalar : Option CK → CK → Bool
  | some (.int k), .int l => keq k l
  | some .bool, .bool => true
  | _, _ => false

/-- Do the cells' types stand as a layout says? -/
def flatGo (P : Program) (c : CK) (n : Nat) (L : Lay) : List TypeId → Bool
  | [] => Nat.beq n 0 && (match L with
    | [] => true
    | _ => false)
  | t :: r =>
    match n, L with
    | n + 1, L => sameScalar (scalarCK P t) c && flatGo P c n L r
    | 0, (d, m) :: L => !(Nat.beq m 0) && (sameScalar (scalarCK P t) d && flatGo P d (m - 1) L r)
    | 0, [] => false

theorem flatGo_ok {P : Program} : ∀ (l : List TypeId) (c : CK) (n : Nat) (L : Lay), flatGo P c n L l = true → l.length = n + Lay.size L ∧ ∀ j d, Lay.at ((c, n) :: L) j = some d → ∀ u, l[j]? = some u → sameScalar (scalarCK P u) d = true := by
  intro l
  induction l with
  | nil =>
    intro c n L h
    simp only [flatGo, Bool.and_eq_true, Nat.beq_eq] at h
    obtain ⟨h1, h2⟩ := h
    cases L with
    | nil => subst h1; exact ⟨rfl, fun j d _ u hu => by simp at hu⟩
    | cons p L => cases h2
  | cons v r ih =>
    intro c n L h
    cases n with
    | succ n =>
      simp only [flatGo, Bool.and_eq_true] at h
      obtain ⟨h1, h2⟩ := ih c n L h.2
      refine ⟨by simp only [List.length_cons, h1]; omega, fun j d hd u hu => ?_⟩
      cases j with
      | zero =>
        simp only [Lay.at, Nat.blt_eq] at hd
        rw [if_pos (by omega)] at hd
        cases hd
        simp only [List.getElem?_cons_zero, Option.some.injEq] at hu
        rw [← hu]; exact h.1
      | succ j =>
        refine h2 j d ?_ u (by simpa using hu)
        simp only [Lay.at, Nat.blt_eq] at hd ⊢
        by_cases hj : j < n
        · rw [if_pos (by omega)] at hd; rw [if_pos hj]; exact hd
        · rw [if_neg (by omega)] at hd; rw [if_neg hj]
          rw [← hd]; congr 1; omega
    | zero =>
      cases L with
      | nil => simp [flatGo] at h
      | cons p L =>
        obtain ⟨e, m⟩ := p
        simp only [flatGo, Bool.and_eq_true, Bool.not_eq_true'] at h
        obtain ⟨h0, h1, h2⟩ := h
        have hm : m ≠ 0 := Nat.ne_of_beq_eq_false h0
        obtain ⟨h3, h4⟩ := ih e (m - 1) L h2
        refine ⟨by simp only [List.length_cons, h3, Lay.size]; omega, fun j d hd u hu => ?_⟩
        simp only [Lay.at, Nat.blt_eq] at hd
        rw [if_neg (by omega)] at hd
        simp only [Nat.sub_zero] at hd
        cases j with
        | zero =>
          rw [if_pos (by omega)] at hd
          cases hd
          simp only [List.getElem?_cons_zero, Option.some.injEq] at hu
          rw [← hu]; exact h1
        | succ j =>
          refine h4 j d ?_ u (by simpa using hu)
          simp only [Lay.at, Nat.blt_eq]
          by_cases hj : j < m - 1
          · rw [if_pos (by omega)] at hd; rw [if_pos hj]; exact hd
          · rw [if_neg (by omega)] at hd; rw [if_neg hj]
            rw [← hd]; congr 1; omega

def conA (cs : Array Value) : Int → Int := fun j => conNum (cs.getD j.toNat undef)

/-- A variable's worth, out of a value. -/
def argVal : Value → Val
  | .agg cs => ⟨0, conA cs⟩
  | v => ⟨conNum v, fun _ => 0⟩

def ckLo : CK → Int
  | .int k => kmin k
  | _ => 0
def ckHi : CK → Int
  | .int k => kmax k
  | _ => 1

def layFacts (a : Tm) : Nat → Lay → List Fact
  | _, [] => []
  | o, (c, n) :: r => .el a (Int.ofNat o) (Int.ofNat (o + n)) (ckLo c) (ckHi c) :: layFacts a (o + n) r

theorem layFacts_ok {env : Env} {a : Tm} : ∀ (L : Lay) (o : Nat), (∀ j c, Lay.at L j = some c → ckLo c ≤ (den env a).a ((o + j : Nat) : Int) ∧ (den env a).a ((o + j : Nat) : Int) ≤ ckHi c) → Sat env (layFacts a o L) := by
  intro L
  induction L with
  | nil => intro o _ f hf; cases hf
  | cons p r ih =>
    intro o h
    obtain ⟨c, n⟩ := p
    intro f hf
    rcases List.mem_cons.1 hf with rfl | hf
    · intro j h1 h2
      have h1' : (o : Int) ≤ j := h1
      have h2' : j < ((o + n : Nat) : Int) := h2
      have := h (j.toNat - o) c (by simp only [Lay.at, Nat.blt_eq]; rw [if_pos (by omega)])
      rw [show ((o + (j.toNat - o) : Nat) : Int) = j by omega] at this
      exact this
    · refine ih (o + n) (fun j d hd => ?_) f hf
      have := h (n + j) d (by simp only [Lay.at, Nat.blt_eq]; rw [if_neg (by omega), show n + j - n = j by omega]; exact hd)
      rw [show o + (n + j) = o + n + j by omega] at this
      exact this

theorem cell_scalar {P : Program} {w : World} {r : Reach} {b : Nat} {t : TypeId} {v : Value} (h : Cell.okWide P w r b t v) {c : CK} (hc : sameScalar (scalarCK P t) c = true) :
    (∀ env ρ (A : Int → Int) j, A j = conNum v → c.Rel env ρ A j v) ∧ ckLo c ≤ conNum v ∧ conNum v ≤ ckHi c := by
  unfold scalarCK at hc
  split at hc
  · rename_i k hk
    cases c with
    | int l =>
      simp only [sameScalar] at hc
      have := keq_eq hc
      subst this
      have : ∃ n, v = .int k n ∧ k.has n := by
        simp only [Cell.okWide, hk, Cell.ok] at h
        split at h <;> simp_all
      obtain ⟨n, rfl, hn⟩ := this
      refine ⟨fun env ρ A j hA => ?_, ?_⟩
      · show Value.int k n = .int k (A j)
        rw [hA]; rfl
      · cases k <;> simpa [IntKind.has, IntKind.min, IntKind.max, IntKind.signed, IntKind.bits, ckLo, ckHi, kmin, kmax, conNum] using hn
    | _ => cases hc
  · rename_i hk
    cases c with
    | bool =>
      have : ∃ x, v = .bool x := by
        simp only [Cell.okWide, hk, Cell.ok] at h
        split at h <;> simp_all
      obtain ⟨x, rfl⟩ := this
      refine ⟨fun env ρ A j hA => ?_, ?_⟩
      · show Value.bool x = .bool (decide (A j ≠ 0))
        rw [hA]; cases x <;> rfl
      · cases x <;> simp [conNum, ckLo, ckHi]
    | _ => cases hc
  · cases hc

/-- A struct or array of ints and bools. -/
theorem open_flat {P : Program} {W : World} {r : Reach} {b : Nat} {t : TypeId} {v : Value} {d : TypeDesc} (ht : P.underlying t = some d) (hd : aggDesc d = true) {ts : List TypeId} (hts : P.cellTypes P.depth t = some ts) {L : Lay}
    (hL : (flatGo P .bool 0 L ts && Nat.beq (P.cellsOf t) (Lay.size L)) = true) (hv : Value.okWide P W r b t v) {env : Env} {n : Nat} (he : env n = argVal v) (ρ : Rho) : (SV.agg L (.v n)).Rel env ρ v ∧ Sat env (layFacts (.v n) 0 L) := by
  simp only [Bool.and_eq_true, Nat.beq_eq] at hL
  obtain ⟨g1, g2⟩ := flatGo_ok _ _ _ _ hL.1
  have : ∃ cs, v = .agg cs ∧ cs.size = P.cellsOf t ∧ Row.okWide P W r b t cs := by
    unfold Value.okWide at hv
    rw [ht] at hv
    cases d with
    | struct => exact hv
    | array => exact hv
    | _ => cases hd
  obtain ⟨cs, rfl, hsz, ts', h1, _, h3⟩ := this
  rw [hts] at h1
  cases h1
  have key : ∀ j c, Lay.at L j = some c → ∃ u, cs[j]? = some u ∧ (∀ env ρ (A : Int → Int) j, A j = conNum u → c.Rel env ρ A j u) ∧ ckLo c ≤ conNum u ∧ conNum u ≤ ckHi c := by
    intro j c hc
    have hj := Lay.at_some hc
    have hjc : j < cs.size := by rw [hsz, hL.2]; exact hj
    obtain ⟨u, hu, hok⟩ := h3 j _ (Array.getElem?_eq_getElem hjc)
    have hmod : j % ts.length = j := Nat.mod_eq_of_lt (by rw [g1]; omega)
    rw [hmod] at hu
    exact ⟨_, Array.getElem?_eq_getElem hjc, cell_scalar hok (g2 j c (by simp only [Lay.at, Nat.blt_eq]; rw [if_neg (by omega)]; simpa using hc) u hu)⟩
  have hnum : ∀ (j : Nat) u, cs[j]? = some u → (den env (.v n)).a (j : Int) = conNum u := by
    intro j u hu
    simp only [den, he, argVal, conA]
    rw [Array.getD_eq_getD_getElem?, Int.toNat_natCast, hu]; rfl
  refine ⟨⟨cs, rfl, by rw [hsz, hL.2], fun j c hc u hu => ?_⟩, layFacts_ok L 0 fun j c hc => ?_⟩
  · obtain ⟨u', h4, h5, _⟩ := key j c hc
    rw [hu] at h4; cases h4
    exact h5 _ _ _ _ (hnum j u hu)
  · obtain ⟨u', h4, _, h6, h7⟩ := key j c hc
    rw [Nat.zero_add, hnum j u' h4]
    exact ⟨h6, h7⟩

theorem wf_rng {k : IntKind} {n : Int} (h : (Lit.int k n).wf = true) : kmin k ≤ n ∧ n ≤ kmax k := by
  have h' : k.min ≤ n ∧ n ≤ k.max := by simpa [Lit.wf] using h
  have e1 : k.min = kmin k := by cases k <;> rfl
  have e2 : k.max = kmax k := by cases k <;> rfl
  rw [← e1, ← e2]; exact h'

end Go.Sx
