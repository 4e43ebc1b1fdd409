/- A part of the reckoning with symbols: states, terms and their meaning, used by the proofs of this seat. -/
import Derived.Test.YtpndnejabebfeaaGreatDoorSxZa
/-! The law's tree, by the run in small pieces; parts of it told apart by a number's worth. -/
noncomputable section
namespace Go.Sx
def lawTreeF (C : Cfg) (fuel : Nat) (fn : Func) (body : Code) (ags : List SV) (hp : Heap) (nb nv : Nat) (fs : List Fact) : Tree Unit :=
  runF C fuel (.code body) (lawStart fn ags hp nb nv fs) (lawEnd C nb fn.results.toList)

theorem lawTreeF_eq (C : Cfg) (fuel : Nat) (fn : Func) (body : Code) (ags : List SV) (hp : Heap) (nb nv : Nat) (fs : List Fact) : lawTreeF C fuel fn body ags hp nb nv fs = lawTree C fuel fn body ags hp nb nv fs := by
  unfold lawTreeF lawTree
  rw [runF_eq]

/-- The part of a law where a term has one worth. -/
def partOk (C : Cfg) (fuel : Nat) (fn : Func) (body : Code) (ags : List SV) (hp : Heap) (nb nv : Nat) (fs : List Fact) (t : Tm) (n : Int) : Bool :=
  (lawTreeF C fuel fn body ags hp nb nv (.iv t n n :: fs)).okN

/-- A law whose parts are all good, the worth of a term being one of some numbers. -/
theorem parts_path {C : Cfg} {fuel : Nat} {fn : Func} {body : Code} {ags : List SV} {hp : Heap} {nb nv : Nat} {fs : List Fact} {t : Tm} {env : Env} (hs : Sat env fs) (h : partOk C fuel fn body ags hp nb nv fs t (den env t).i = true) :
    ∃ fs', Sat env fs' ∧ ∃ L, Path env (lawTree C fuel fn body ags hp nb nv fs') L := by
  unfold partOk at h
  rw [lawTreeF_eq] at h
  refine ⟨_, ?_, Tree.okN_path env _ h⟩
  intro f hf
  rcases List.mem_cons.1 hf with rfl | hf
  · exact ⟨Int.le_refl _, Int.le_refl _⟩
  · exact hs f hf

/-- All numbers from a to a + n hold. -/
def allFrom (p : Int → Bool) : Nat → Int → Bool
  | 0, _ => true
  | n + 1, a => p a && allFrom p n (a + 1)

theorem allFrom_at {p : Int → Bool} : ∀ {n : Nat} {a : Int}, allFrom p n a = true → ∀ x, a ≤ x → x < a + n → p x = true := by
  intro n
  induction n with
  | zero => intro a _ x h1 h2; omega
  | succ n ih =>
    intro a h x h1 h2
    simp only [allFrom, Bool.and_eq_true] at h
    by_cases hx : x = a
    · rw [hx]; exact h.1
    · exact ih h.2 x (by omega) (by omega)
end Go.Sx
