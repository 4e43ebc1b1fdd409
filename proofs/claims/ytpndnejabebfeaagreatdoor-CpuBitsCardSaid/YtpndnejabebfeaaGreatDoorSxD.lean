/- A part of the reckoning with symbols: states, terms and their meaning, used by the proofs of this seat. -/
import Derived.Test.YtpndnejabebfeaaGreatDoorSxC
import Derived.WalkKit
/-! Operations: what they come to on symbolic values, and that it is so. -/
noncomputable section
namespace Go.Sx

inductive Res (α : Type) where
  | ok (a : α)
  | split (c : Tm)
  | err (s : String)

def Res.bind {α β : Type} : Res α → (α → Res β) → Res β
  | .ok a, f => f a
  | .split c, _ => .split c
  | .err s, _ => .err s

theorem Res.bind_ok {α β : Type} {x : Res α} {f : α → Res β} {b : β} (h : x.bind f = .ok b) : ∃ a, x = .ok a ∧ f a = .ok b := by
  cases x with
  | ok a => exact ⟨a, rfl, h⟩
  | split c => cases h
  | err s => cases h

/-- What is asked of a type. -/
structure TI where
  desc : TypeDesc
  size : Nat
  bytes : Nat
  zero : Option Lay
  eqok : Bool

/-- A table by number, as a tree. -/
inductive BT (α : Type) where
  | tip
  | node (l : BT α) (x : Option α) (r : BT α)

def BT.get {α : Type} : BT α → Nat → Option α
  | .tip, _ => none
  | .node l x r, i =>
    match i with
    | 0 => x
    | i + 1 => match Nat.mod i 2 with
      | 0 => l.get (Nat.div i 2)
      | _ => r.get (Nat.div i 2)

def tlook {α : Type} (i : Nat) (t : BT α) : Option α := t.get i

def BT.All {α : Type} (p : Nat → α → Prop) : BT α → (Nat → Nat) → Prop
  | .tip, _ => True
  | .node l x r, g => l.All p (fun i => g (2 * i + 1)) ∧ (match x with
    | some y => p (g 0) y
    | none => True) ∧ r.All p (fun i => g (2 * i + 2))

theorem BT.all_get {α : Type} {p : Nat → α → Prop} : ∀ {t : BT α} {g : Nat → Nat}, t.All p g → ∀ {i : Nat} {x : α}, t.get i = some x → p (g i) x := by
  intro t
  induction t with
  | tip => intro g _ i x h; cases h
  | node l y r ihl ihr =>
    intro g hg i x h
    obtain ⟨h1, h2, h3⟩ := hg
    cases i with
    | zero => simp only [BT.get] at h; subst h; exact h2
    | succ i =>
      simp only [BT.get] at h
      have e1 : Nat.mod i 2 = i % 2 := rfl
      have e2 : Nat.div i 2 = i / 2 := rfl
      split at h
      · rename_i hm
        rw [e1] at hm
        rw [e2] at h
        have := ihl h1 h
        rwa [show 2 * (i / 2) + 1 = i + 1 by omega] at this
      · rename_i hm
        have hm' : i % 2 ≠ 0 := fun e => hm (by rw [e1]; exact e)
        rw [e2] at h
        have := ihr h3 h
        rwa [show 2 * (i / 2) + 2 = i + 1 by omega] at this

/-- A tree out of a function, d levels deep. -/
def BT.make {α : Type} : Nat → (Nat → Option α) → BT α
  | 0, _ => .tip
  | d + 1, f => .node (BT.make d fun i => f (2 * i + 1)) (f 0) (BT.make d fun i => f (2 * i + 2))

abbrev Tab := BT TI

def aggDesc : TypeDesc → Bool
  | .struct _ | .array _ _ => true
  | _ => false

structure TIOk (P : Program) (t : Nat) (x : TI) : Prop where
  under : P.underlying t = some x.desc
  info : ∃ i, P.info? t = some i ∧ i.size = x.size ∧ i.bytes = x.bytes ∧ (∀ L, x.zero = some L → ∃ v, i.zero = some v ∧ v.cells.size = L.size ∧
    ∀ env ρ j c, Lay.at L j = some c → ∀ u, v.cells[j]? = some u → c.Rel env ρ (fun _ => 0) j u)
  zint : ∀ k, x.desc = .int k → ∃ i, P.info? t = some i ∧ i.zero = some (.int k 0)
  stood : x.eqok = true → P.stoodInHeld t = false ∧ P.eqGuardType P.depth t = false

def TabOk (P : Program) (tab : Tab) : Prop := ∀ t x, tlook t tab = some x → TIOk P t x

section
variable {P : Program} {t : Nat} {x : TI}

theorem TIOk.run_under (h : TIOk P t x) (w : World) : (underlying t).run P w = .ok x.desc w := run_underlying h.under w

theorem TIOk.run_size (h : TIOk P t x) (w : World) : (sizeOf t).run P w = .ok x.size w := by
  obtain ⟨i, h1, h2, _⟩ := h.info
  simp [sizeOf, typeInfo, h1, h2]

theorem TIOk.run_agg (h : TIOk P t x) (w : World) : (isAgg t).run P w = .ok (aggDesc x.desc) w := by
  unfold isAgg
  rw [Sem.run_bind, h.run_under]
  simp only [Result.andThen_ok]
  cases x.desc <;> rfl

theorem TIOk.run_zero (h : TIOk P t x) {L : Lay} (hz : x.zero = some L) (w : World) : ∃ v, (zeroValue t).run P w = .ok v w ∧ v.cells.size = L.size ∧
    ∀ env ρ j c, Lay.at L j = some c → ∀ u, v.cells[j]? = some u → c.Rel env ρ (den env (.rep 0)).a j u := by
  obtain ⟨i, h1, h2, h3, h4⟩ := h.info
  obtain ⟨v, h5, h6⟩ := h4 L hz
  exact ⟨v, by simp [zeroValue, typeInfo, h1, h5], h6⟩
end

/-! ### The common statement -/

abbrev Lk := Nat → Option Blk

def HRel (env : Env) (ρ : Rho) (lk : Lk) (w : World) : Prop := ∀ i b, lk i = some b → BlkRel env ρ w (ρ i) b ∧ (ρ i).1 < w.heap.size

def SepK (ρ : Rho) (lk : Lk) : Prop := ∀ i b j c, lk i = some b → lk j = some c → i ≠ j → b.rw = true → (ρ i).1 ≠ (ρ j).1

structure Out where
  v : Option Sl
  ups : List (Nat × Blk)
  nb : Nat

structure Step (env : Env) (lk : Lk) (nb : Nat) (ρ ρ' : Rho) (w w' : World) (ups : List (Nat × Blk)) : Prop where
  rho : RhoEq nb ρ ρ'
  blks : ∀ i b, look i ups = some b → BlkRel env ρ' w' (ρ' i) b ∧ (ρ' i).1 < w'.heap.size
  old : ∀ i b, look i ups = some b → i < nb → ∃ b₀, lk i = some b₀ ∧ b₀.rw = true
  new : ∀ i b, look i ups = some b → nb ≤ i → w.heap.size ≤ (ρ' i).1
  apart : ∀ i j b c, look i ups = some b → look j ups = some c → nb ≤ i → nb ≤ j → i ≠ j → (ρ' i).1 ≠ (ρ' j).1
  fr : Fr (fun k => ∃ i b, look i ups = some b ∧ i < nb ∧ (ρ i).1 = k) w w'

def OpGood (P : Program) (env : Env) (lk : Lk) (nb : Nat) (ev : Operand → Option Sl) (o : Oper) (out : Out) : Prop :=
  ∀ (ρ : Rho) (w : World) (a : Act), (∀ x s, ev x = some s → s.Rel env ρ (a.eval x)) → HRel env ρ lk w → SepK ρ lk →
    ∀ (K : Act → World → Prop) (Q : Exit → Act → World → Prop),
      (∀ ρ' v w', Step env lk nb ρ ρ' w w' out.ups → (∀ s, out.v = some s → s.Rel env ρ' v) → K (a.put o.dst v) w') → o.wp P a w K Q

def nxt : Option Sl → Value → Next
  | none, _ => .skip
  | some _, v => .value v

theorem opGood_of_run {P : Program} {env : Env} {lk : Lk} {nb : Nat} {ev : Operand → Option Sl} {o : Oper} {out : Out}
    (h : ∀ (ρ : Rho) (w : World) (r : Operand → Value), (∀ x s, ev x = some s → s.Rel env ρ (r x)) → HRel env ρ lk w → SepK ρ lk →
      ∃ ρ' v w', (execOp r o).run P w = .ok (nxt out.v v) w' ∧ Step env lk nb ρ ρ' w w' out.ups ∧ ∀ s, out.v = some s → s.Rel env ρ' v) :
    OpGood P env lk nb ev o out := by
  intro ρ w a ha hH hS K Q hK
  obtain ⟨ρ', v, w', h1, h2, h3⟩ := h ρ w a.eval ha hH hS
  unfold Oper.wp
  rw [h1]
  cases ho : out.v with
  | none =>
    simp only [nxt, Oper.upon]
    exact hK ρ' undef w' h2 (fun s hs => by rw [ho] at hs; cases hs)
  | some s =>
    simp only [nxt, Oper.upon]
    exact hK ρ' v w' h2 h3

theorem Step.same {env : Env} {lk : Lk} {nb : Nat} {ρ : Rho} {w : World} : Step env lk nb ρ ρ w w [] :=
  ⟨RhoEq.refl _ _, (by intro i b h; cases h), (by intro i b h; cases h), (by intro i b h; cases h), (by intro i j b c h; cases h), Fr.refl _ _⟩

/-- An operation that only reckons. -/
theorem opGood_pure {P : Program} {env : Env} {lk : Lk} {nb : Nat} {ev : Operand → Option Sl} {o : Oper} {s : SV}
    (h : ∀ (ρ : Rho) (w : World) (r : Operand → Value), (∀ x s, ev x = some s → s.Rel env ρ (r x)) → HRel env ρ lk w →
      ∃ v, (execOp r o).run P w = .ok (.value v) w ∧ s.Rel env ρ v) :
    OpGood P env lk nb ev o ⟨some (.sv s), [], nb⟩ :=
  opGood_of_run fun ρ w r hr hH _ => by
    obtain ⟨v, h1, h2⟩ := h ρ w r hr hH
    exact ⟨ρ, v, w, h1, Step.same, fun s' hs => by cases hs; exact h2⟩

/-! ### Constants -/

def conSC : Value → SC
  | .int k n => .int k (.lit n)
  | .bool b => .bool (.lit (if b then 1 else 0))
  | v => .val v

theorem conSC_rel (env : Env) (ρ : Rho) (v : Value) : (conSC v).Rel env ρ v := by
  cases v with
  | bool b => cases b <;> simp [conSC, SC.Rel, den]
  | _ => simp [conSC, SC.Rel, den]

def conCK : Value → CK
  | .int k _ => .int k
  | .bool _ => .bool
  | v => .fix (.val v)

def conNum : Value → Int
  | .int _ n => n
  | .bool b => if b then 1 else 0
  | _ => 0

def conLay : List Value → Lay
  | [] => []
  | v :: r => (conCK v, 1) :: conLay r

def conArr : List Value → Tm
  | [] => .nil
  | v :: r => .cons (.lit (conNum v)) (conArr r)

theorem conLay_size : ∀ l : List Value, (conLay l).size = l.length
  | [] => rfl
  | v :: r => by simp [conLay, Lay.size, conLay_size r]; omega

theorem conLay_rel (env : Env) (ρ : Rho) : ∀ (l : List Value) (j : Nat) (c : CK), Lay.at (conLay l) j = some c → ∀ u, l[j]? = some u → c.Rel env ρ (den env (conArr l)).a j u := by
  intro l
  induction l with
  | nil => intro j c h; cases h
  | cons v r ih =>
    intro j c h u hu
    simp only [conLay, Lay.at, Nat.blt_eq] at h
    split at h
    · have e : j = 0 := by omega
      subst e
      simp only [List.getElem?_cons_zero, Option.some.injEq] at hu
      subst hu
      cases h
      cases v with
      | bool b => cases b <;> simp [conCK, CK.Rel, conArr, den, conNum]
      | _ => simp [conCK, CK.Rel, conArr, den, conNum, SC.Rel]
    · obtain ⟨k, rfl⟩ : ∃ k, j = k + 1 := ⟨j - 1, by omega⟩
      have := ih k c (by simpa using h) u (by simpa using hu)
      cases c with
      | fix s => exact this
      | int k' =>
        simp only [CK.Rel, conArr, den] at *
        rw [this, if_neg (by omega)]
        congr 2; omega
      | bool =>
        simp only [CK.Rel, conArr, den] at *
        rw [this]
        have e : (((k + 1 : Nat) : Int) - 1) = k := by omega
        have e' : ¬ (((k + 1 : Nat) : Int) = 0) := by omega
        simp only [e, if_neg e']

/-- A constant, as it stands in the text. -/
def conSV : Value → SV
  | .agg cs => .agg (Lay.norm (conLay cs.toList)) (conArr cs.toList)
  | v => .sc (conSC v)

theorem conSV_rel (env : Env) (ρ : Rho) (v : Value) : (conSV v).Rel env ρ v := by
  cases v with
  | agg cs =>
    refine ⟨cs, rfl, by rw [Lay.size_norm, conLay_size]; simp, fun j c hc u hu => ?_⟩
    rw [Lay.at_norm] at hc
    exact conLay_rel env ρ cs.toList j c hc u (by simpa using hu)
  | _ => exact conSC_rel env ρ _

/-! ### Arithmetic -/

def bop? : BinOp → Option BO
  | .and => some .and
  | .or => some .or
  | .xor => some .xor
  | .andNot => some .andNot
  | _ => none

def mx64 : Int := 9223372036854775807

def evIntS (Γ : List Fact) (op : BinOp) (k : IntKind) (a b : Tm) : Res SC :=
    match op with
    | .add => .ok (.int k (mkWrap Γ k (mkAdd a b)))
    | .sub => .ok (.int k (mkWrap Γ k (mkSub a b)))
    | .mul => .ok (.int k (mkWrap Γ k (mkMul a b)))
    | .quo => if within Γ b 1 mx64 then .ok (.int k (mkWrap Γ k (mkQuo a b))) else .err "quo"
    | .rem => if within Γ b 1 mx64 then .ok (.int k (mkRem Γ a b)) else .err "rem"
    | .and => .ok (.int k (mkBit Γ .and k a b))
    | .or => .ok (.int k (mkBit Γ .or k a b))
    | .xor => .ok (.int k (mkBit Γ .xor k a b))
    | .andNot => .ok (.int k (mkBit Γ .andNot k a b))
    | .eql => .ok (.bool (mkEq Γ a b))
    | .neq => .ok (.bool (mkNot Γ (mkEq Γ a b)))
    | .lss => .ok (.bool (mkLt Γ a b))
    | .leq => .ok (.bool (mkNot Γ (mkLt Γ b a)))
    | .gtr => .ok (.bool (mkLt Γ b a))
    | .geq => .ok (.bool (mkNot Γ (mkLt Γ a b)))
    | _ => .err "operator"

def evShl (Γ : List Fact) (k : IntKind) (a b : Tm) : Res SC := if within Γ b 0 mx64 then .ok (.int k (mkWrap Γ k (mkShl k a b))) else .err "shl"
def evShr (Γ : List Fact) (k : IntKind) (a b : Tm) : Res SC := if within Γ b 0 mx64 then .ok (.int k (mkShr k a b)) else .err "shr"

def evInt (Γ : List Fact) (op : BinOp) (k l : IntKind) (a b : Tm) : Res SC :=
  match op with
  | .shl => evShl Γ k a b
  | .shr => evShr Γ k a b
  | op => match keq k l with
    | true => evIntS Γ op k a b
    | false => .err "kinds"

theorem bool_of_ite {p : Prop} [Decidable p] : decide ((if p then (1 : Int) else 0) ≠ 0) = decide p := by
  by_cases h : p <;> simp [h]
theorem bool_of_not_ite {p : Prop} [Decidable p] : decide ((if (if p then (1 : Int) else 0) = 0 then (1 : Int) else 0) ≠ 0) = !decide p := by
  by_cases h : p <;> simp [h]

theorem evInt_sound {P : Program} {env : Env} {Γ : List Fact} (hs : Sat env Γ) {op : BinOp} {k l : IntKind} {a b : Tm} {s : SC} (h : evInt Γ op k l a b = .ok s) (t : TypeId) (w : World) (ρ : Rho) :
    ∃ v, (binOp op t (.int k (den env a).i) (.int l (den env b).i)).run P w = .ok v w ∧ s.Rel env ρ v := by
  have main : (op ≠ .shl ∧ op ≠ .shr) → ∀ h : evIntS Γ op k a b = .ok s, ∃ v, (binOp op t (.int k (den env a).i) (.int k (den env b).i)).run P w = .ok v w ∧ s.Rel env ρ v := by
    intro hop h
    cases op with
    | shl => exact absurd rfl hop.1
    | shr => exact absurd rfl hop.2
    | add => cases h; exact ⟨_, by simp [binOp, Op.intArith] <;> rfl, by simp only [SC.Rel, mkWrap_den hs, mkAdd_den]⟩
    | sub => cases h; exact ⟨_, by simp [binOp, Op.intArith] <;> rfl, by simp only [SC.Rel, mkWrap_den hs, mkSub_den]⟩
    | mul => cases h; exact ⟨_, by simp [binOp, Op.intArith] <;> rfl, by simp only [SC.Rel, mkWrap_den hs, mkMul_den]⟩
    | quo =>
      simp only [evIntS] at h
      split at h
      · rename_i hw
        have := within_sound hs hw
        have hne : (den env b).i ≠ 0 := by omega
        cases h
        exact ⟨_, by simp [binOp, Op.intDiv, hne] <;> rfl, by simp only [SC.Rel, mkWrap_den hs, mkQuo_den]⟩
      · cases h
    | rem =>
      simp only [evIntS] at h
      split at h
      · rename_i hw
        have := within_sound hs hw
        have hne : (den env b).i ≠ 0 := by omega
        cases h
        exact ⟨_, by simp [binOp, Op.intDiv, hne] <;> rfl, by simp only [SC.Rel, mkRem_den hs]⟩
      · cases h
    | and => cases h; exact ⟨_, by simp only [binOp, Op.intBits, ne_eq, not_true_eq_false, if_false]; rfl, by simp only [SC.Rel, mkBit_den hs]; rfl⟩
    | or => cases h; exact ⟨_, by simp only [binOp, Op.intBits, ne_eq, not_true_eq_false, if_false]; rfl, by simp only [SC.Rel, mkBit_den hs]; rfl⟩
    | xor => cases h; exact ⟨_, by simp only [binOp, Op.intBits, ne_eq, not_true_eq_false, if_false]; rfl, by simp only [SC.Rel, mkBit_den hs]; rfl⟩
    | andNot => cases h; exact ⟨_, by simp only [binOp, Op.intBits, ne_eq, not_true_eq_false, if_false]; rfl, by simp only [SC.Rel, mkBit_den hs]; rfl⟩
    | eql => cases h; exact ⟨_, by simp [binOp, Op.intCmp] <;> rfl, by simp only [SC.Rel, mkEq_den hs, bool_of_ite]; rfl⟩
    | neq => cases h; exact ⟨_, by simp [binOp, Op.intCmp] <;> rfl, by simp only [SC.Rel, mkNot_den hs, mkEq_den hs, bool_of_not_ite]; rfl⟩
    | lss => cases h; exact ⟨_, by simp [binOp, Op.intCmp] <;> rfl, by simp only [SC.Rel, mkLt_den hs, bool_of_ite]⟩
    | leq => cases h; exact ⟨_, by simp [binOp, Op.intCmp] <;> rfl, by simp only [SC.Rel, mkNot_den hs, mkLt_den hs, bool_of_not_ite]; congr 1; rw [← decide_not]; congr 1; simp⟩
    | gtr => cases h; exact ⟨_, by simp [binOp, Op.intCmp] <;> rfl, by simp only [SC.Rel, mkLt_den hs, bool_of_ite]⟩
    | geq => cases h; exact ⟨_, by simp [binOp, Op.intCmp] <;> rfl, by simp only [SC.Rel, mkNot_den hs, mkLt_den hs, bool_of_not_ite]; congr 1; rw [← decide_not]; congr 1; simp⟩
  by_cases h1 : op = .shl
  · subst h1
    simp only [evInt, evShl] at h
    split at h
    · rename_i hw
      have := within_sound hs hw
      have hne : ¬ (den env b).i < 0 := by omega
      cases h
      exact ⟨_, by simp [binOp, Op.shift, hne] <;> rfl, by simp only [SC.Rel, mkWrap_den hs, mkShl_den]⟩
    · cases h
  · by_cases h2 : op = .shr
    · subst h2
      simp only [evInt, evShr] at h
      split at h
      · rename_i hw
        have := within_sound hs hw
        have hne : ¬ (den env b).i < 0 := by omega
        cases h
        exact ⟨_, by simp [binOp, Op.shift, hne] <;> rfl, by simp only [SC.Rel, mkShr_den]⟩
      · cases h
    · have e : evInt Γ op k l a b = (match keq k l with
        | true => evIntS Γ op k a b
        | false => .err "kinds") := by cases op <;> first | rfl | exact absurd rfl h1 | exact absurd rfl h2
      rw [e] at h
      split at h
      · rename_i hk
        have := keq_eq hk
        subst this
        exact main ⟨h1, h2⟩ h
      · cases h

end Go.Sx
