/- A part of the reckoning with symbols: states, terms and their meaning, used by the proofs of this seat. -/
import Derived.Test.YtpndnejabebfeaaGreatDoorSxH
/-! All operations that call nothing. -/
noncomputable section
namespace Go.Sx

def strEq (a b : ByteArray) : Bool := bytesEq a b

theorem strEq_iff (a b : ByteArray) : strEq a b = (a.toList == b.toList) := by
  rw [ByteArray.toList_eq, ByteArray.toList_eq]; rfl

def boolLit (b : Bool) : SC := .bool (.lit (if b then 1 else 0))
theorem boolLit_rel (env : Env) (ρ : Rho) (b : Bool) : (boolLit b).Rel env ρ (.bool b) := by
  cases b <;> simp [boolLit, SC.Rel, den]

def isEq : BinOp → Option Bool
  | .eql => some true
  | .neq => some false
  | _ => none

theorem isEq_some {op : BinOp} {p : Bool} (h : isEq op = some p) : op = if p then .eql else .neq := by
  unfold isEq at h
  split at h <;> cases h <;> rfl

/-- Is a symbolic scalar nil, or surely not? -/
def nilness (d : TypeDesc) : SC → Option Bool
  | .val (.pointer none) => (match d with | .pointer _ => some true | _ => none)
  | .ptr _ _ => (match d with | .pointer _ => some false | _ => none)
  | .val (.slice none 0 0) => (match d with | .slice _ => some true | _ => none)
  | .slice _ _ _ _ => (match d with | .slice _ => some false | _ => none)
  | .val .nilIface => (match d with | .interface _ => some true | _ => none)
  | .iface _ _ => (match d with | .interface _ => some false | _ => none)
  | .val .nilFunc => (match d with | .func _ _ _ => some true | _ => none)
  | .func _ _ _ => (match d with | .func _ _ _ => some false | _ => none)
  | _ => none

def isBoolD : TypeDesc → Bool
  | .bool => true
  | _ => false

def evBin (tab : Tab) (Γ : List Fact) (op : BinOp) (t : Nat) (lit : Bool) (x y : SV) : Res SC :=
  match x, y with
  | .sc (.int k a), .sc (.int l b) => evInt Γ op k l a b
  | .agg L A, .agg M B =>
    match isEq op, evAggEq tab Γ t L A M B with
    | some true, some e => .ok (.bool e)
    | some false, some e => .ok (.bool (mkNot Γ e))
    | _, _ => .err "agg eq"
  | .sc (.bool a), .sc (.bool b) =>
    match isEq op, tlook t tab with
    | some p, some ti =>
      if isBoolD ti.desc && within Γ a 0 1 && within Γ b 0 1 then .ok (.bool (if p then mkEq Γ a b else mkNot Γ (mkEq Γ a b))) else .err "bool eq"
    | _, _ => .err "bool op"
  | .sc (.val (.string a)), .sc (.val (.string b)) =>
    match isEq op with
    | some p => .ok (boolLit (strEq a b == p))
    | none => .err "string op"
  | .sc a, .sc b =>
    match isEq op, tlook t tab with
    | some p, some ti =>
      match nilness ti.desc a, nilness ti.desc b with
      | some true, some true => if lit then .ok (boolLit p) else .err "two nils"
      | some true, some false => .ok (boolLit (!p))
      | some false, some true => .ok (boolLit (!p))
      | _, _ => .err "nil eq"
    | _, _ => .err "op"
  | _, _ => .err "binOp"

def NilShape (d : TypeDesc) (p : Bool) (x : Value) : Prop :=
  match d with
  | .pointer _ => if p then x = .pointer none else ∃ a, x = .pointer (some a)
  | .slice _ => if p then x = .slice none 0 0 else ∃ a l c, x = .slice (some a) l c
  | .interface _ => if p then x = .nilIface else ∃ t v, x = .iface t v
  | .func _ _ _ => if p then x = .nilFunc else ∃ f a c, x = .func f a c
  | _ => False

theorem nil_shape {d : TypeDesc} {s : SC} {p : Bool} (h : nilness d s = some p) {env : Env} {ρ : Rho} {x : Value} (hx : s.Rel env ρ x) : NilShape d p x := by
  cases s with
  | ptr b o =>
    obtain ⟨off, _, rfl⟩ := hx
    cases d <;> simp [nilness] at h
    subst h; exact ⟨_, rfl⟩
  | slice b o l c =>
    obtain ⟨_, _, _, rfl, _⟩ := hx
    cases d <;> simp [nilness] at h
    subst h; exact ⟨_, _, _, rfl⟩
  | iface t s =>
    obtain ⟨_, rfl, _⟩ := hx
    cases d <;> simp [nilness] at h
    subst h; exact ⟨_, _, rfl⟩
  | func f a c =>
    obtain ⟨_, _, rfl, _⟩ := hx
    cases d <;> simp [nilness] at h
    subst h; exact ⟨_, _, _, rfl⟩
  | val u =>
    simp only [SC.Rel] at hx
    subst hx
    unfold nilness at h
    split at h
    · rename_i heq; cases heq
      cases d <;> simp at h
      subst h; rfl
    · rename_i heq; cases heq
    · rename_i heq; cases heq
      cases d <;> simp at h
      subst h; rfl
    · rename_i heq; cases heq
    · rename_i heq; cases heq
      cases d <;> simp at h
      subst h; rfl
    · rename_i heq; cases heq
    · rename_i heq; cases heq
      cases d <;> simp at h
      subst h; rfl
    · rename_i heq; cases heq
    · cases h
  | _ => simp [nilness] at h

theorem eqGuard_plain {P : Program} {op : BinOp} {t : Nat} {xo yo : Operand} {u v : Value} (h1 : ∀ a b, u = .agg a → v = .agg b → False) (h2 : u = .nilIface → v = .nilIface → False) (w : World) :
    (eqGuard op t xo yo u v).run P w = .ok () w := by
  unfold eqGuard
  cases op <;> first | (simp; done) | skip
  all_goals
    simp only [Bool.not_true, Bool.false_eq_true, if_false]
    split
    · exact absurd rfl (fun e => h2 rfl e)
    · exact absurd rfl (fun e => h1 _ _ rfl e)
    · simp

theorem eqGuard_nil {P : Program} {op : BinOp} {t : Nat} {xo yo : Operand} {u v : Value} (h1 : ∀ a, u ≠ .agg a) (h : ((xo matches .const _) || (yo matches .const _)) = true) (w : World) :
    (eqGuard op t xo yo u v).run P w = .ok () w := by
  unfold eqGuard
  cases op <;> first | (simp; done) | skip
  all_goals
    simp only [Bool.not_true, Bool.false_eq_true, if_false]
    split
    · cases xo <;> cases yo <;> first | (simp at h; done) | simp
    · exact absurd rfl (h1 _)
    · simp

theorem equal_nils {P : Program} {t : Nat} {ti : TI} (hti : TIOk P t ti) {p q : Bool} {x y : Value} (hx : NilShape ti.desc p x) (hy : NilShape ti.desc q y) (hpq : p = true ∨ q = true) (w : World) :
    (Op.equal t x y).run P w = .ok (p && q) w ∧ (x = .nilIface → y = .nilIface → p = true ∧ q = true) ∧ (∀ u, x ≠ .agg u) ∧
      (binOp .eql t x y = do pure (.bool (← Op.equal t x y))) ∧ (binOp .neq t x y = do pure (.bool (!(← Op.equal t x y)))) := by
  have hu := hti.run_under w
  have go : ∀ d, (Op.equalIn (d + 1) t x y).run P w = .ok (p && q) w := by
    intro d
    cases hd : ti.desc <;> rw [hd] at hx hy hu <;> simp only [NilShape] at hx hy
    case pointer e =>
      cases p <;> cases q <;> simp at hpq hx hy <;> (try (obtain ⟨_, rfl⟩ := hx)) <;> (try subst hx) <;> (try (obtain ⟨_, rfl⟩ := hy)) <;> (try subst hy) <;> simp [Op.equalIn, hu]
    case slice e =>
      cases p <;> cases q <;> simp at hpq hx hy <;> (try (obtain ⟨_, _, _, rfl⟩ := hx)) <;> (try subst hx) <;> (try (obtain ⟨_, _, _, rfl⟩ := hy)) <;> (try subst hy) <;> simp [Op.equalIn, hu]
    case interface e =>
      cases p <;> cases q <;> simp at hpq hx hy <;> (try (obtain ⟨_, _, rfl⟩ := hx)) <;> (try subst hx) <;> (try (obtain ⟨_, _, rfl⟩ := hy)) <;> (try subst hy) <;> simp [Op.equalIn, hu]
    case func a b c =>
      cases p <;> cases q <;> simp at hpq hx hy <;> (try (obtain ⟨_, _, _, rfl⟩ := hx)) <;> (try subst hx) <;> (try (obtain ⟨_, _, _, rfl⟩ := hy)) <;> (try subst hy) <;> simp [Op.equalIn, hu]
  refine ⟨go 9999, ?_⟩
  cases hd : ti.desc <;> rw [hd] at hx hy <;> simp only [NilShape] at hx hy
  case pointer e =>
    cases p <;> cases q <;> simp at hpq hx hy <;> (try (obtain ⟨_, rfl⟩ := hx)) <;> (try subst hx) <;> (try (obtain ⟨_, rfl⟩ := hy)) <;> (try subst hy) <;> exact ⟨by simp, by simp, rfl, rfl⟩
  case slice e =>
    cases p <;> cases q <;> simp at hpq hx hy <;> (try (obtain ⟨_, _, _, rfl⟩ := hx)) <;> (try subst hx) <;> (try (obtain ⟨_, _, _, rfl⟩ := hy)) <;> (try subst hy) <;> exact ⟨by simp, by simp, rfl, rfl⟩
  case interface e =>
    cases p <;> cases q <;> simp at hpq hx hy <;> (try (obtain ⟨_, _, rfl⟩ := hx)) <;> (try subst hx) <;> (try (obtain ⟨_, _, rfl⟩ := hy)) <;> (try subst hy) <;> exact ⟨by simp, by simp, rfl, rfl⟩
  case func a b c =>
    cases p <;> cases q <;> simp at hpq hx hy <;> (try (obtain ⟨_, _, _, rfl⟩ := hx)) <;> (try subst hx) <;> (try (obtain ⟨_, _, _, rfl⟩ := hy)) <;> (try subst hy) <;> exact ⟨by simp, by simp, rfl, rfl⟩

theorem evBin_sound {P : Program} {tab : Tab} (hT : TabOk P tab) {env : Env} {Γ : List Fact} (hs : Sat env Γ) {op : BinOp} {t : Nat} {xo yo : Operand} {lit : Bool}
    (hlit : lit = true → ((xo matches .const _) || (yo matches .const _)) = true) {x y : SV} {r : SC} (h : evBin tab Γ op t lit x y = .ok r)
    {ρ : Rho} {u v : Value} (hx : x.Rel env ρ u) (hy : y.Rel env ρ v) (w : World) :
    ∃ z, (do eqGuard op t xo yo u v; binOp op t u v : Sem Value).run P w = .ok z w ∧ r.Rel env ρ z := by
  unfold evBin at h
  split at h
  · simp only [SV.Rel, SC.Rel] at hx hy
    subst hx; subst hy
    obtain ⟨z, h1, h2⟩ := evInt_sound (P := P) hs h t w ρ
    exact ⟨z, by rw [Sem.run_bind, eqGuard_plain (by intro _ _ h; cases h) (by intro h; cases h)]; exact h1, h2⟩
  · rename_i L A M B
    have agg : ∀ e, evAggEq tab Γ t L A M B = some e → ∃ xs ys, u = .agg xs ∧ v = .agg ys ∧ (eqGuard op t xo yo u v).run P w = .ok () w ∧ (Op.equalIn 10000 t u v).run P w = .ok (decide ((den env e).i ≠ 0)) w := by
      intro e he
      obtain ⟨xs, ys, rfl, rfl, h1, r, h2, rfl⟩ := evAggEq_sound hT hs he hx hy w
      exact ⟨xs, ys, rfl, rfl, run_eqGuard_agg w op t xo yo xs ys h1, h2⟩
    split at h
    · rename_i e hop he
      have := isEq_some hop
      subst this
      obtain ⟨xs, ys, rfl, rfl, h1, h2⟩ := agg e he
      cases h
      refine ⟨.bool (decide ((den env e).i ≠ 0)), ?_, rfl⟩
      rw [Sem.run_bind, h1]
      simp only [Result.andThen_ok, if_true, run_eql_struct, h2]
    · rename_i e hop he
      have := isEq_some hop
      subst this
      obtain ⟨xs, ys, rfl, rfl, h1, h2⟩ := agg e he
      cases h
      refine ⟨.bool (!decide ((den env e).i ≠ 0)), ?_, by
        simp only [SC.Rel, mkNot_den hs]; congr 1
        by_cases h0 : (den env e).i = 0 <;> simp [h0]⟩
      rw [Sem.run_bind, h1]
      simp only [Result.andThen_ok, Bool.false_eq_true, if_false, run_neq_struct, h2]
    · cases h
  · rename_i a b
    simp only [SV.Rel, SC.Rel] at hx hy
    subst hx; subst hy
    split at h
    · rename_i p ti hop ht
      have hop' := isEq_some hop
      subst hop'
      have hti := hT _ _ ht
      split at h
      · rename_i hc
        simp only [Bool.and_eq_true] at hc
        obtain ⟨⟨c1, c2⟩, c3⟩ := hc
        have hb : P.underlying t = some .bool := by
          rw [hti.under]
          cases hd : ti.desc <;> rw [hd] at c1 <;> first | rfl | cases c1
        have w1 := within_sound hs c2
        have w2 := within_sound hs c3
        have key : (decide ((den env a).i ≠ 0) == decide ((den env b).i ≠ 0)) = decide ((den env a).i = (den env b).i) := by
          rcases (show (den env a).i = 0 ∨ (den env a).i = 1 by omega) with h1 | h1 <;> rcases (show (den env b).i = 0 ∨ (den env b).i = 1 by omega) with h2 | h2 <;> simp [h1, h2]
        cases h
        cases p with
        | true =>
          refine ⟨.bool (decide ((den env a).i = (den env b).i)), ?_, by simp only [if_true, SC.Rel, mkEq_den hs, bool_of_ite]⟩
          rw [Sem.run_bind, eqGuard_plain (by intro _ _ h; cases h) (by intro h; cases h)]
          simp only [Result.andThen_ok, if_true]
          rw [run_eql_bool w t _ _ hb, key]
        | false =>
          refine ⟨.bool (!decide ((den env a).i = (den env b).i)), ?_, by simp only [Bool.false_eq_true, if_false, SC.Rel, mkNot_den hs, mkEq_den hs, bool_of_not_ite]⟩
          rw [Sem.run_bind, eqGuard_plain (by intro _ _ h; cases h) (by intro h; cases h)]
          simp only [Result.andThen_ok, Bool.false_eq_true, if_false]
          rw [run_neq_bool w t _ _ hb, key]
      · cases h
    · cases h
  · rename_i a b
    simp only [SV.Rel, SC.Rel] at hx hy
    subst hx; subst hy
    split at h
    · rename_i p hop
      have hop' := isEq_some hop
      subst hop'
      cases h
      refine ⟨.bool (strEq a b == p), ?_, boolLit_rel _ _ _⟩
      rw [Sem.run_bind, eqGuard_plain (by intro _ _ h; cases h) (by intro h; cases h)]
      have e := strEq_iff a b
      cases p with
      | true => simp [binOp, Op.stringOp, e]
      | false => simp [binOp, Op.stringOp, e]
    · cases h
  · rename_i a b _ _ _
    split at h
    · rename_i p ti hop ht
      have hop' := isEq_some hop
      subst hop'
      have hti := hT _ _ ht
      split at h
      · rename_i h1 h2
        split at h
        · rename_i hl
          cases h
          have s1 := nil_shape h1 hx
          have s2 := nil_shape h2 hy
          obtain ⟨g1, g3, g4, g5, g6⟩ := equal_nils hti s1 s2 (.inl rfl) w
          refine ⟨.bool p, ?_, boolLit_rel _ _ _⟩
          rw [Sem.run_bind, eqGuard_nil g4 (hlit hl)]
          cases p
          · simp [g6, g1]
          · simp [g5, g1]
        · cases h
      · rename_i h1 h2
        cases h
        obtain ⟨g1, g3, g4, g5, g6⟩ := equal_nils hti (nil_shape h1 hx) (nil_shape h2 hy) (.inl rfl) w
        refine ⟨.bool (!p), ?_, boolLit_rel _ _ _⟩
        rw [Sem.run_bind, eqGuard_plain (fun a b e _ => g4 a e) (fun e e' => by have := (g3 e e').2; cases this)]
        cases p
        · simp [g6, g1]
        · simp [g5, g1]
      · rename_i h1 h2
        cases h
        obtain ⟨g1, g3, g4, g5, g6⟩ := equal_nils hti (nil_shape h1 hx) (nil_shape h2 hy) (.inr rfl) w
        refine ⟨.bool (!p), ?_, boolLit_rel _ _ _⟩
        rw [Sem.run_bind, eqGuard_plain (fun a b e _ => g4 a e) (fun e e' => by have := (g3 e e').1; cases this)]
        cases p
        · simp [g6, g1]
        · simp [g5, g1]
      · cases h
    · cases h
  · cases h

end Go.Sx
