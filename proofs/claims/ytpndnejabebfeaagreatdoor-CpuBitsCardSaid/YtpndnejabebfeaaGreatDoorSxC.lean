/- A part of the reckoning with symbols: states, terms and their meaning, used by the proofs of this seat. -/
import Derived.Test.YtpndnejabebfeaaGreatDoorSxB
import Derived.Below
/-! Symbolic values, layouts, blocks and heaps, and what of the machine's world they describe. -/
noncomputable section
namespace Go.Sx

inductive SC where
  | int (k : IntKind) (e : Tm)
  | bool (e : Tm)
  | val (v : Value)
  | ptr (b : Nat) (o : Tm)
  | slice (b : Nat) (o len : Tm) (cap : Option Tm)
  | func (fn : Fn) (first caps : List (Nat × Tm))
  | iface (t : TypeId) (s : SC)
  | mapv (b : Nat)
  | junk

instance : Inhabited SC := ⟨.junk⟩

inductive CK where
  | int (k : IntKind)
  | bool
  | fix (s : SC)

abbrev Lay := List (CK × Nat)

inductive SV where
  | sc (s : SC)
  | agg (L : Lay) (A : Tm)

instance : Inhabited SV := ⟨.sc .junk⟩

inductive Sl where
  | sv (s : SV)
  | tup (l : List SV)

/-- Where a symbolic block lies: a block of the heap, and the cell where it begins. -/
abbrev Rho := Nat → Nat × Nat

def PtrRel (env : Env) (ρ : Rho) (b : Nat) (o : Tm) (v : Value) : Prop :=
  ∃ off : Nat, (off : Int) = (den env o).i ∧ v = .pointer (some ⟨(ρ b).1, (ρ b).2 + off, none⟩)

def PtrsRel (env : Env) (ρ : Rho) : List (Nat × Tm) → List Value → Prop
  | [], [] => True
  | p :: ps, v :: vs => PtrRel env ρ p.1 p.2 v ∧ PtrsRel env ρ ps vs
  | _, _ => False

def SC.Rel (env : Env) (ρ : Rho) : SC → Value → Prop
  | .int k e, v => v = .int k (den env e).i
  | .bool e, v => v = .bool (decide ((den env e).i ≠ 0))
  | .val u, v => v = u
  | .ptr b o, v => PtrRel env ρ b o v
  | .slice b o l c, v => ∃ off len cap : Nat, v = .slice (some ⟨(ρ b).1, (ρ b).2 + off, none⟩) len cap ∧ (len : Int) = (den env l).i ∧ len ≤ cap ∧
      (∀ t, c = some t → (cap : Int) = (den env t).i) ∧ (cap ≠ 0 → (off : Int) = (den env o).i)
  | .func fn f c, v => ∃ fa ca : Array Value, v = .func fn fa ca ∧ PtrsRel env ρ f fa.toList ∧ PtrsRel env ρ c ca.toList
  | .iface t s, v => ∃ u, v = .iface t u ∧ s.Rel env ρ u
  | .mapv b, v => v = .map (some (ρ b).1)
  | .junk, _ => True

def CK.Rel (env : Env) (ρ : Rho) (A : Int → Int) (j : Int) : CK → Value → Prop
  | .int k, v => v = .int k (A j)
  | .bool, v => v = .bool (decide (A j ≠ 0))
  | .fix s, v => s.Rel env ρ v

/-! ### Layouts -/

def Lay.size : Lay → Nat
  | [] => 0
  | (_, n) :: r => n + Lay.size r

def Lay.at : Lay → Nat → Option CK
  | [], _ => none
  | (c, n) :: r, j => if Nat.blt j n then some c else Lay.at r (j - n)

def Lay.drop : Nat → Lay → Lay
  | _, [] => []
  | k, (c, n) :: r => if Nat.blt k n then (c, n - k) :: r else Lay.drop (k - n) r

def Lay.take : Nat → Lay → Lay
  | _, [] => []
  | k, (c, n) :: r => if Nat.ble k n then (if Nat.beq k 0 then [] else [(c, k)]) else (c, n) :: Lay.take (k - n) r

theorem Lay.at_nil (j : Nat) : Lay.at [] j = none := rfl

theorem Lay.at_append : ∀ (L M : Lay) (j : Nat), Lay.at (L ++ M) j = if j < L.size then Lay.at L j else Lay.at M (j - L.size) := by
  intro L
  induction L with
  | nil => intro M j; simp [Lay.size]
  | cons p r ih =>
    intro M j
    obtain ⟨c, n⟩ := p
    simp only [List.cons_append, Lay.at, Lay.size, Nat.blt_eq]
    by_cases h : j < n
    · rw [if_pos h, if_pos h, if_pos (by omega)]
    · rw [if_neg h, if_neg h, ih]
      by_cases h' : j - n < Lay.size r
      · rw [if_pos h', if_pos (by omega)]
      · rw [if_neg h', if_neg (by omega)]
        congr 1; omega

theorem Lay.at_drop : ∀ (L : Lay) (k j : Nat), Lay.at (Lay.drop k L) j = Lay.at L (k + j) := by
  intro L
  induction L with
  | nil => intro k j; rfl
  | cons p r ih =>
    intro k j
    obtain ⟨c, n⟩ := p
    simp only [Lay.drop, Nat.blt_eq]
    by_cases h : k < n
    · rw [if_pos h]
      simp only [Lay.at, Nat.blt_eq]
      by_cases h' : j < n - k
      · rw [if_pos h', if_pos (by omega)]
      · rw [if_neg h', if_neg (by omega)]
        congr 1; omega
    · rw [if_neg h, ih]
      simp only [Lay.at, Nat.blt_eq]
      rw [if_neg (by omega)]
      congr 1; omega

theorem Lay.at_take : ∀ (L : Lay) (k j : Nat), Lay.at (Lay.take k L) j = if j < k then Lay.at L j else none := by
  intro L
  induction L with
  | nil => intro k j; simp [Lay.take, Lay.at]
  | cons p r ih =>
    intro k j
    obtain ⟨c, n⟩ := p
    simp only [Lay.take, Nat.ble_eq, Nat.beq_eq]
    by_cases h : k ≤ n
    · rw [if_pos h]
      by_cases h0 : k = 0
      · rw [if_pos h0, if_neg (by omega)]; rfl
      · rw [if_neg h0]
        simp only [Lay.at, Nat.blt_eq]
        by_cases hj : j < k
        · rw [if_pos hj, if_pos hj, if_pos (by omega)]
        · rw [if_neg hj, if_neg hj]
    · rw [if_neg h]
      simp only [Lay.at, Nat.blt_eq]
      by_cases hj : j < n
      · rw [if_pos hj, if_pos hj, if_pos (by omega)]
      · rw [if_neg hj, if_neg hj, ih]
        by_cases hk : j < k
        · rw [if_pos hk, if_pos (by omega)]
        · rw [if_neg hk, if_neg (by omega)]

theorem Lay.at_some : ∀ {L : Lay} {j : Nat} {c : CK}, Lay.at L j = some c → j < L.size := by
  intro L
  induction L with
  | nil => intro j c h; cases h
  | cons p r ih =>
    intro j c h
    obtain ⟨d, n⟩ := p
    simp only [Lay.at, Nat.blt_eq] at h
    simp only [Lay.size]
    split at h
    · omega
    · have := ih h; omega

theorem Lay.at_lt : ∀ {L : Lay} {j : Nat}, j < L.size → ∃ c, Lay.at L j = some c := by
  intro L
  induction L with
  | nil => intro j h; simp [Lay.size] at h
  | cons p r ih =>
    intro j h
    obtain ⟨d, n⟩ := p
    simp only [Lay.at, Nat.blt_eq, Lay.size] at *
    split
    · exact ⟨_, rfl⟩
    · exact ih (by omega)

theorem Lay.size_take (L : Lay) (k : Nat) : k ≤ L.size → (Lay.take k L).size = k := by
  induction L generalizing k with
  | nil => intro h; simp [Lay.size] at h; simp [Lay.take, Lay.size, h]
  | cons p r ih =>
    intro h
    obtain ⟨c, n⟩ := p
    simp only [Lay.take, Nat.ble_eq, Nat.beq_eq, Lay.size] at *
    split
    · split
      · simp [Lay.size]; omega
      · simp [Lay.size]
    · simp only [Lay.size]; rw [ih _ (by omega)]; omega

theorem Lay.size_drop (L : Lay) (k : Nat) : (Lay.drop k L).size = L.size - k := by
  induction L generalizing k with
  | nil => simp [Lay.drop, Lay.size]
  | cons p r ih =>
    obtain ⟨c, n⟩ := p
    simp only [Lay.drop, Nat.blt_eq, Lay.size]
    split
    · simp only [Lay.size]; omega
    · rw [ih]; omega

theorem Lay.size_append (L M : Lay) : Lay.size (L ++ M) = L.size + M.size := by
  induction L with
  | nil => simp [Lay.size]
  | cons p r ih => obtain ⟨c, n⟩ := p; simp only [List.cons_append, Lay.size, ih]; omega

/-! ### Equality of kinds, by a test that may say no too often -/

def bytesEq (a b : ByteArray) : Bool := a.data.toList == b.data.toList
theorem bytesEq_eq {a b : ByteArray} (h : bytesEq a b = true) : a = b := by
  obtain ⟨x⟩ := a
  obtain ⟨y⟩ := b
  have h' : x.toList = y.toList := eq_of_beq h
  have : x = y := Array.ext' h'
  rw [this]

def vbeq : Value → Value → Bool
  | .int k a, .int l b => keq k l && ieq a b
  | .bool a, .bool b => a == b
  | .string a, .string b => bytesEq a b
  | .pointer none, .pointer none => true
  | .slice none 0 0, .slice none 0 0 => true
  | .map none, .map none => true
  | .nilFunc, .nilFunc => true
  | .nilIface, .nilIface => true
  | _, _ => false

theorem vbeq_eq {a b : Value} (h : vbeq a b = true) : a = b := by
  unfold vbeq at h
  split at h
  · simp only [Bool.and_eq_true] at h; rw [keq_eq h.1, ieq_iff.1 h.2]
  · rw [eq_of_beq h]
  · rw [bytesEq_eq h]
  · rfl
  · rfl
  · rfl
  · rfl
  · rfl
  · cases h

def ptrsEq : List (Nat × Tm) → List (Nat × Tm) → Bool
  | [], [] => true
  | (b, o) :: r, (c, p) :: s => Nat.beq b c && Tm.beq o p && ptrsEq r s
  | _, _ => false

theorem ptrsEq_eq : ∀ {a b : List (Nat × Tm)}, ptrsEq a b = true → a = b := by
  intro a
  induction a with
  | nil => intro b h; cases b <;> simp [ptrsEq] at h; rfl
  | cons p r ih =>
    intro b h
    obtain ⟨x, y⟩ := p
    cases b with
    | nil => simp [ptrsEq] at h
    | cons q s =>
      obtain ⟨z, w⟩ := q
      simp only [ptrsEq, Bool.and_eq_true, Nat.beq_eq] at h
      rw [h.1.1, Tm.beq_eq h.1.2, ih h.2]

def fnEq : Fn → Fn → Bool
  | .func a, .func b => Nat.beq a b
  | _, _ => false
theorem fnEq_eq {a b : Fn} (h : fnEq a b = true) : a = b := by
  unfold fnEq at h
  split at h
  · rw [Nat.beq_eq] at h; rw [h]
  · cases h

def optEq : Option Tm → Option Tm → Bool
  | none, none => true
  | some a, some b => Tm.beq a b
  | _, _ => false
theorem optEq_eq {a b : Option Tm} (h : optEq a b = true) : a = b := by
  unfold optEq at h
  split at h
  · rfl
  · rw [Tm.beq_eq h]
  · cases h

def SC.beq : SC → SC → Bool
  | .int k a, .int l b => keq k l && Tm.beq a b
  | .bool a, .bool b => Tm.beq a b
  | .val a, .val b => vbeq a b
  | .ptr b o, .ptr c p => Nat.beq b c && Tm.beq o p
  | .slice b o l c, .slice b' o' l' c' => Nat.beq b b' && Tm.beq o o' && Tm.beq l l' && optEq c c'
  | .func f a c, .func g b d => fnEq f g && ptrsEq a b && ptrsEq c d
  | .iface t s, .iface u r => Nat.beq t u && SC.beq s r
  | .mapv a, .mapv b => Nat.beq a b
  | .junk, .junk => true
  | _, _ => false

theorem SC.beq_eq : ∀ {a b : SC}, SC.beq a b = true → a = b := by
  intro a
  induction a with
  | int k e => intro b h; cases b <;> simp [SC.beq] at h; rw [keq_eq h.1, Tm.beq_eq h.2]
  | bool e => intro b h; cases b <;> simp [SC.beq] at h; rw [Tm.beq_eq h]
  | val v => intro b h; cases b <;> simp [SC.beq] at h; rw [vbeq_eq h]
  | ptr x o => intro b h; cases b <;> simp [SC.beq] at h; rw [h.1, Tm.beq_eq h.2]
  | slice x o l c => intro b h; cases b <;> simp [SC.beq] at h; rw [h.1.1.1, Tm.beq_eq h.1.1.2, Tm.beq_eq h.1.2, optEq_eq h.2]
  | func f x c => intro b h; cases b <;> simp [SC.beq] at h; rw [fnEq_eq h.1.1, ptrsEq_eq h.1.2, ptrsEq_eq h.2]
  | iface t s ih => intro b h; cases b <;> simp [SC.beq] at h; rw [h.1, ih h.2]
  | mapv x => intro b h; cases b <;> simp [SC.beq] at h; rw [h]
  | junk => intro b h; cases b <;> simp [SC.beq] at h; rfl

def CK.beq : CK → CK → Bool
  | .int k, .int l => keq k l
  | .bool, .bool => true
  | .fix a, .fix b => SC.beq a b
  | _, _ => false
theorem CK.beq_eq {a b : CK} (h : CK.beq a b = true) : a = b := by
  unfold CK.beq at h
  split at h
  · rw [keq_eq h]
  · rfl
  · rw [SC.beq_eq h]
  · cases h

def Lay.beq : Lay → Lay → Bool
  | [], [] => true
  | (c, n) :: r, (d, m) :: s => Nat.beq n m && CK.beq c d && Lay.beq r s
  | _, _ => false
theorem Lay.beq_eq : ∀ {a b : Lay}, Lay.beq a b = true → a = b := by
  intro a
  induction a with
  | nil => intro b h; cases b <;> simp [Lay.beq] at h; rfl
  | cons p r ih =>
    intro b h
    obtain ⟨x, y⟩ := p
    cases b with
    | nil => simp [Lay.beq] at h
    | cons q s =>
      obtain ⟨z, w⟩ := q
      simp only [Lay.beq, Bool.and_eq_true, Nat.beq_eq] at h
      rw [h.1.1, CK.beq_eq h.1.2, ih h.2]

/-- Neighbours of one kind become one. -/
def Lay.norm : Lay → Lay
  | [] => []
  | (c, n) :: r =>
    if Nat.beq n 0 then Lay.norm r else
    match Lay.norm r with
    | (d, m) :: s => if CK.beq c d then (c, n + m) :: s else (c, n) :: (d, m) :: s
    | [] => [(c, n)]

theorem Lay.at_norm : ∀ (L : Lay) (j : Nat), Lay.at (Lay.norm L) j = Lay.at L j := by
  intro L
  induction L with
  | nil => intro j; rfl
  | cons p r ih =>
    intro j
    obtain ⟨c, n⟩ := p
    simp only [Lay.norm, Nat.beq_eq]
    split
    · rename_i h; subst h
      rw [ih]; simp [Lay.at]
    · split
      · rename_i d m s heq
        split
        · rename_i hb
          have e := CK.beq_eq hb; subst e
          have ih' := fun j => ih j
          rw [heq] at ih'
          simp only [Lay.at, Nat.blt_eq] at *
          by_cases h1 : j < n
          · rw [if_pos h1, if_pos (by omega)]
          · rw [if_neg h1, ← ih']
            by_cases h2 : j < n + m
            · rw [if_pos h2, if_pos (by omega)]
            · rw [if_neg h2, if_neg (by omega)]; congr 1; omega
        · simp only [Lay.at]
          split
          · rfl
          · rw [← ih, heq]; rfl
      · rename_i heq
        simp only [Lay.at]
        split
        · rfl
        · rw [← ih, heq]; rfl

theorem Lay.size_eq_of_at {L M : Lay} (h : ∀ j, Lay.at L j = Lay.at M j) : L.size = M.size := by
  rcases Nat.lt_trichotomy L.size M.size with hl | hl | hl
  · obtain ⟨c, hc⟩ := Lay.at_lt (L := M) hl
    rw [← h] at hc
    have := Lay.at_some hc; omega
  · exact hl
  · obtain ⟨c, hc⟩ := Lay.at_lt (L := L) hl
    rw [h] at hc
    have := Lay.at_some hc; omega

theorem Lay.size_norm (L : Lay) : (Lay.norm L).size = L.size := Lay.size_eq_of_at (Lay.at_norm L)

/-- The layout with another one laid into it. -/
def Lay.put (L : Lay) (o : Nat) (M : Lay) : Lay := Lay.norm (Lay.take o L ++ M ++ Lay.drop (o + M.size) L)

theorem Lay.at_put (L M : Lay) (o : Nat) (h : o + M.size ≤ L.size) (j : Nat) :
    Lay.at (Lay.put L o M) j = if o ≤ j ∧ j < o + M.size then Lay.at M (j - o) else Lay.at L j := by
  unfold Lay.put
  rw [Lay.at_norm, Lay.at_append, Lay.size_append, Lay.size_take L o (by omega)]
  by_cases h1 : j < o + M.size
  · rw [if_pos h1, Lay.at_append, Lay.size_take L o (by omega)]
    by_cases h2 : j < o
    · rw [if_pos h2, if_neg (by omega), Lay.at_take, if_pos h2]
    · rw [if_neg h2, if_pos (by omega)]
  · rw [if_neg h1, if_neg (by omega), Lay.at_drop]
    congr 1; omega

theorem Lay.size_put (L M : Lay) (o : Nat) (h : o + M.size ≤ L.size) : (Lay.put L o M).size = L.size := by
  unfold Lay.put
  rw [Lay.size_norm, Lay.size_append, Lay.size_append, Lay.size_take L o (by omega), Lay.size_drop]; omega

/-- Are all cells from a to b (b not) of one kind? -/
def Lay.uni (L : Lay) (a b : Nat) : Option CK :=
  match Lay.drop a L with
  | (c, n) :: _ => if Nat.ble b (a + n) then some c else none
  | [] => none

theorem Lay.uni_at {L : Lay} {a b : Nat} {c : CK} (h : Lay.uni L a b = some c) {j : Nat} (h1 : a ≤ j) (h2 : j < b) : Lay.at L j = some c := by
  unfold Lay.uni at h
  split at h
  · rename_i d n r heq
    split at h
    · rename_i hb
      rw [Nat.ble_eq] at hb
      have e := Lay.at_drop L a (j - a)
      rw [heq] at e
      simp only [Lay.at, Nat.blt_eq] at e
      rw [if_pos (by omega)] at e
      rw [← h, e]
      congr 1; omega
    · cases h
  · cases h

def SV.Rel (env : Env) (ρ : Rho) : SV → Value → Prop
  | .sc s, v => s.Rel env ρ v
  | .agg L A, v => ∃ cs : Array Value, v = .agg cs ∧ cs.size = L.size ∧ ∀ j c, Lay.at L j = some c → ∀ u, cs[j]? = some u → c.Rel env ρ (den env A).a j u

def SVsRel (env : Env) (ρ : Rho) : List SV → List Value → Prop
  | [], [] => True
  | p :: ps, v :: vs => SV.Rel env ρ p v ∧ SVsRel env ρ ps vs
  | _, _ => False

def Sl.Rel (env : Env) (ρ : Rho) : Sl → Value → Prop
  | .sv s, v => s.Rel env ρ v
  | .tup l, v => ∃ vs : Array Value, v = .tuple vs ∧ SVsRel env ρ l vs.toList

/-! ### Blocks and heaps -/

inductive BL where
  | fixed (L : Lay)
  | dyn (c : CK) (n : Tm)
  | mp (es : List (Int × Int))

structure Blk where
  lay : BL
  A : Tm
  rw : Bool

def BL.at (env : Env) : BL → Nat → Option CK
  | .fixed L, j => Lay.at L j
  | .dyn c n, j => if (j : Int) < (den env n).i then some c else none
  | .mp _, _ => none

/-- What a map's block holds. -/
def BL.mapRel (w : World) (p : Nat × Nat) : BL → Prop
  | .mp es => ∃ arr clock, w.heap[p.1]? = some (.map arr clock) ∧ arr.toList.map (fun e => (e.key, e.val)) = es.map fun x => (Value.int .i64 x.1, Value.int .i64 x.2)
  | _ => True

def BL.plain : BL → Bool
  | .mp _ => false
  | _ => true

theorem BL.mapRel_plain {b : BL} (h : b.plain = true) (w : World) (p : Nat × Nat) : b.mapRel w p := by
  cases b <;> first | trivial | cases h

abbrev Heap := List (Nat × Blk)

def lookI {α : Type} (i : Nat) : List (Nat × α) → Option α
  | [] => none
  | (j, x) :: r => if Nat.beq i j then some x else lookI i r
def look {α : Type} (i : Nat) (l : List (Nat × α)) : Option α :=
  List.rec (motive := fun _ => Option α) none (fun p _ ih => Prod.rec (motive := fun _ => Option α) (fun j x => Bool.rec (motive := fun _ => Option α) ih (some x) (Nat.beq i j)) p) l
theorem look_nil {α : Type} (i : Nat) : look i ([] : List (Nat × α)) = none := rfl
theorem look_cons {α : Type} (i j : Nat) (x : α) (r : List (Nat × α)) : look i ((j, x) :: r) = if Nat.beq i j then some x else look i r := by
  unfold look
  dsimp only
  cases Nat.beq i j <;> rfl

/-- Another value at a place that is there. -/
def putAt {α : Type} (i : Nat) (x : α) : List (Nat × α) → List (Nat × α)
  | [] => []
  | (j, y) :: r => if Nat.beq i j then (j, x) :: r else (j, y) :: putAt i x r

theorem look_putAt {α : Type} (i j : Nat) (x : α) : ∀ (l : List (Nat × α)), look j (putAt i x l) = if j = i then (look j l).map (fun _ => x) else look j l := by
  intro l
  induction l with
  | nil => simp [putAt, look_nil]
  | cons p r ih =>
    obtain ⟨k, y⟩ := p
    simp only [putAt, look_cons, Nat.beq_eq]
    split
    · rename_i h; subst h
      simp only [look_cons, Nat.beq_eq]
      split <;> rfl
    · rename_i h
      simp only [look_cons, Nat.beq_eq]
      by_cases hj : j = k
      · rw [if_pos hj, if_pos hj, if_neg (by omega)]
      · rw [if_neg hj, if_neg hj]; exact ih

def BlkRel (env : Env) (ρ : Rho) (w : World) (p : Nat × Nat) (b : Blk) : Prop :=
  (∀ j c, b.lay.at env j = some c → ∃ v, w.cell? ⟨p.1, p.2 + j, none⟩ = some v ∧ c.Rel env ρ (den env b.A).a j v ∧
    (b.rw = true → w.frozen? ⟨p.1, p.2 + j, none⟩ = false)) ∧ b.lay.mapRel w p

def HeapRel (env : Env) (ρ : Rho) (hp : Heap) (w : World) : Prop :=
  ∀ i b, look i hp = some b → BlkRel env ρ w (ρ i) b ∧ (ρ i).1 < w.heap.size

def Sep (ρ : Rho) (hp : Heap) : Prop :=
  ∀ i b j c, look i hp = some b → look j hp = some c → i ≠ j → b.rw = true → (ρ i).1 ≠ (ρ j).1

/-! ### Which blocks a symbolic value names -/

def ptrsLt (n : Nat) : List (Nat × Tm) → Bool
  | [] => true
  | (b, _) :: r => Nat.blt b n && ptrsLt n r

def SC.lt (n : Nat) : SC → Bool
  | .ptr b _ => Nat.blt b n
  | .slice b _ _ _ => Nat.blt b n
  | .func _ f c => ptrsLt n f && ptrsLt n c
  | .iface _ s => SC.lt n s
  | .mapv b => Nat.blt b n
  | _ => true

def CK.lt (n : Nat) : CK → Bool
  | .fix s => s.lt n
  | _ => true

def Lay.lt (n : Nat) : Lay → Bool
  | [] => true
  | (c, _) :: r => c.lt n && Lay.lt n r

def SV.lt (n : Nat) : SV → Bool
  | .sc s => s.lt n
  | .agg L _ => Lay.lt n L

def SVsLt (n : Nat) : List SV → Bool
  | [] => true
  | s :: r => s.lt n && SVsLt n r

def Sl.lt (n : Nat) : Sl → Bool
  | .sv s => s.lt n
  | .tup l => SVsLt n l

def BL.lt (n : Nat) : BL → Bool
  | .fixed L => Lay.lt n L
  | .dyn c _ => c.lt n
  | .mp _ => true

def HeapLt (n : Nat) : Heap → Bool
  | [] => true
  | (i, b) :: r => Nat.blt i n && b.lay.lt n && HeapLt n r

def RhoEq (n : Nat) (ρ ρ' : Rho) : Prop := ∀ i, i < n → ρ' i = ρ i

theorem RhoEq.refl (n : Nat) (ρ : Rho) : RhoEq n ρ ρ := fun _ _ => rfl
theorem RhoEq.trans {n m : Nat} {a b c : Rho} (h : RhoEq n a b) (h' : RhoEq m b c) (hnm : n ≤ m) : RhoEq n a c :=
  fun i hi => (h' i (by omega)).trans (h i hi)

theorem Lay.lt_at {n : Nat} : ∀ {L : Lay} {j : Nat} {c : CK}, Lay.lt n L = true → Lay.at L j = some c → c.lt n = true := by
  intro L
  induction L with
  | nil => intro j c _ hc; cases hc
  | cons p r ih =>
    intro j c hl hc
    obtain ⟨d, m⟩ := p
    simp only [Lay.lt, Bool.and_eq_true] at hl
    simp only [Lay.at] at hc
    split at hc
    · cases hc; exact hl.1
    · exact ih hl.2 hc

theorem HeapLt.at {n : Nat} : ∀ {hp : Heap} {i : Nat} {b : Blk}, HeapLt n hp = true → look i hp = some b → i < n ∧ b.lay.lt n = true := by
  intro hp
  induction hp with
  | nil => intro i b _ hb; cases hb
  | cons p r ih =>
    intro i b hl hb
    obtain ⟨k, x⟩ := p
    simp only [HeapLt, Bool.and_eq_true, Nat.blt_eq] at hl
    simp only [look_cons, Nat.beq_eq] at hb
    split at hb
    · rename_i e; cases hb; exact ⟨by omega, hl.1.2⟩
    · exact ih hl.2 hb

theorem BL.lt_at {env : Env} {n : Nat} {b : BL} {j : Nat} {c : CK} (hl : b.lt n = true) (hc : b.at env j = some c) : c.lt n = true := by
  cases b with
  | fixed L => exact Lay.lt_at hl hc
  | dyn d m =>
    simp only [BL.at] at hc
    split at hc
    · cases hc; exact hl
    · cases hc
  | mp es => cases hc

section
variable {env : Env} {n : Nat} {ρ ρ' : Rho} (h : RhoEq n ρ ρ')
include h

theorem PtrsRel.rho : ∀ {l : List (Nat × Tm)} {vs : List Value}, ptrsLt n l = true → PtrsRel env ρ l vs → PtrsRel env ρ' l vs := by
  intro l
  induction l with
  | nil => intro vs _ hr; cases vs <;> simp [PtrsRel] at hr ⊢
  | cons p r ih =>
    intro vs hl hr
    obtain ⟨b, o⟩ := p
    simp only [ptrsLt, Bool.and_eq_true, Nat.blt_eq] at hl
    cases vs with
    | nil => simp [PtrsRel] at hr
    | cons v vs =>
      obtain ⟨⟨off, h1, h2⟩, hr⟩ := hr
      exact ⟨⟨off, h1, by dsimp only at h2 ⊢; rw [h b hl.1]; exact h2⟩, ih hl.2 hr⟩

theorem SC.Rel.rho : ∀ {s : SC} {v : Value}, s.lt n = true → s.Rel env ρ v → s.Rel env ρ' v := by
  intro s
  induction s with
  | ptr b o =>
    intro v hl hr
    simp only [SC.lt, Nat.blt_eq] at hl
    obtain ⟨off, h1, h2⟩ := hr
    exact ⟨off, h1, by rw [h b hl]; exact h2⟩
  | slice b o l c =>
    intro v hl hr
    simp only [SC.lt, Nat.blt_eq] at hl
    obtain ⟨off, len, cap, h1, h2⟩ := hr
    exact ⟨off, len, cap, by rw [h b hl]; exact h1, h2⟩
  | func fn f c =>
    intro v hl hr
    simp only [SC.lt, Bool.and_eq_true] at hl
    obtain ⟨fa, ca, h1, h2, h3⟩ := hr
    exact ⟨fa, ca, h1, PtrsRel.rho h hl.1 h2, PtrsRel.rho h hl.2 h3⟩
  | iface t s ih =>
    intro v hl hr
    obtain ⟨u, h1, h2⟩ := hr
    exact ⟨u, h1, ih hl h2⟩
  | mapv b =>
    intro v hl hr
    simp only [SC.lt, Nat.blt_eq] at hl
    simp only [SC.Rel] at hr ⊢
    rw [h b hl]; exact hr
  | _ => intro v _ hr; exact hr

theorem CK.Rel.rho {c : CK} {A : Int → Int} {j : Int} {v : Value} (hl : c.lt n = true) (hr : c.Rel env ρ A j v) : c.Rel env ρ' A j v := by
  cases c with
  | fix s => exact SC.Rel.rho h hl hr
  | _ => exact hr

theorem SV.Rel.rho {s : SV} {v : Value} (hl : s.lt n = true) (hr : s.Rel env ρ v) : s.Rel env ρ' v := by
  cases s with
  | sc s => exact SC.Rel.rho h hl hr
  | agg L A =>
    obtain ⟨cs, h1, h2, h3⟩ := hr
    exact ⟨cs, h1, h2, fun j c hc u hu => CK.Rel.rho h (Lay.lt_at hl hc) (h3 j c hc u hu)⟩

theorem SVsRel.rho : ∀ {l : List SV} {vs : List Value}, SVsLt n l = true → SVsRel env ρ l vs → SVsRel env ρ' l vs := by
  intro l
  induction l with
  | nil => intro vs _ hr; cases vs <;> simp [SVsRel] at hr ⊢
  | cons p r ih =>
    intro vs hl hr
    simp only [SVsLt, Bool.and_eq_true] at hl
    cases vs with
    | nil => simp [SVsRel] at hr
    | cons v vs => exact ⟨SV.Rel.rho h hl.1 hr.1, ih hl.2 hr.2⟩

theorem Sl.Rel.rho {s : Sl} {v : Value} (hl : s.lt n = true) (hr : s.Rel env ρ v) : s.Rel env ρ' v := by
  cases s with
  | sv s => exact SV.Rel.rho h hl hr
  | tup l => obtain ⟨vs, h1, h2⟩ := hr; exact ⟨vs, h1, SVsRel.rho h hl h2⟩

theorem BlkRel.rho {w : World} {p : Nat × Nat} {b : Blk} (hl : b.lay.lt n = true) (hr : BlkRel env ρ w p b) : BlkRel env ρ' w p b := by
  refine ⟨?_, hr.2⟩
  intro j c hc
  obtain ⟨v, h1, h2, h3⟩ := hr.1 j c hc
  exact ⟨v, h1, CK.Rel.rho h (BL.lt_at hl hc) h2, h3⟩

theorem HeapRel.rho {hp : Heap} {w : World} (hl : HeapLt n hp = true) (hr : HeapRel env ρ hp w) : HeapRel env ρ' hp w := by
  intro i b hb
  obtain ⟨h1, h2⟩ := HeapLt.at hl hb
  have := hr i b hb
  rw [h i h1]
  exact ⟨BlkRel.rho h h2 this.1, this.2⟩

theorem Sep.rho {hp : Heap} (hl : HeapLt n hp = true) (hs : Sep ρ hp) : Sep ρ' hp := by
  intro i b j c hb hc hij hrw
  have h1 := (HeapLt.at hl hb).1
  have h2 := (HeapLt.at hl hc).1
  rw [h i h1, h j h2]
  exact hs i b j c hb hc hij hrw

end

/-! ### What a piece of the run leaves as it was -/

/-- But for the blocks of S, what was there is as it was; the streams too. -/
structure Fr (S : Nat → Prop) (w w' : World) : Prop where
  os : w'.os = w.os
  tape : w'.tape = w.tape
  output : w'.output = w.output
  size : w.heap.size ≤ w'.heap.size
  block : ∀ k, k < w.heap.size → ¬ S k → w'.heap[k]? = w.heap[k]?

theorem Fr.refl (S : Nat → Prop) (w : World) : Fr S w w := ⟨rfl, rfl, rfl, Nat.le_refl _, fun _ _ _ => rfl⟩

theorem Fr.trans {S : Nat → Prop} {a b c : World} (h : Fr S a b) (k : Fr (fun i => S i ∨ a.heap.size ≤ i) b c) : Fr S a c :=
  ⟨k.os.trans h.os, k.tape.trans h.tape, k.output.trans h.output, Nat.le_trans h.size k.size,
    fun i hi hS => (k.block i (Nat.lt_of_lt_of_le hi h.size) (fun e => e.elim hS (by omega))).trans (h.block i hi hS)⟩

theorem Fr.mono {S T : Nat → Prop} {w w' : World} (h : Fr S w w') (hST : ∀ i, i < w.heap.size → S i → T i) : Fr T w w' :=
  ⟨h.os, h.tape, h.output, h.size, fun k hk hT => h.block k hk (fun hS => hT (hST k hk hS))⟩

theorem Fr.drew (S : Nat → Prop) (w : World) : Fr S w w.drew := ⟨rfl, rfl, rfl, Nat.le_refl _, fun _ _ _ => rfl⟩

theorem Fr.alloc (S : Nat → Prop) (w : World) (o : Obj) : Fr S w (w.alloc o) :=
  ⟨rfl, rfl, rfl, by simp, fun k hk _ => RowKit.Below.heap_alloc _ _ _ hk⟩

theorem Fr.setCell (S : Nat → Prop) (w : World) (a : Addr) (v : Value) (h : S a.block) : Fr S w (w.setCell a v) :=
  ⟨rfl, rfl, rfl, by simp [World.setCell], fun k _ hS => RowKit.Below.heap_setCell _ _ _ _ (fun e => hS (e ▸ h))⟩

theorem Fr.below {w w' : World} (h : Fr (fun _ => False) w w') : RowKit.Below w.heap.size w w' :=
  ⟨h.os, h.tape, h.output, h.size, fun k hk => h.block k hk id⟩

theorem Fr.cell {S : Nat → Prop} {w w' : World} (h : Fr S w w') {p : Addr} (hp : p.block < w.heap.size) (hS : ¬ S p.block) : w'.cell? p = w.cell? p :=
  World.cell?_of_block (w := w) (h.block p.block hp hS)

theorem Fr.frozen {S : Nat → Prop} {w w' : World} (h : Fr S w w') {p : Addr} (hp : p.block < w.heap.size) (hS : ¬ S p.block) : w'.frozen? p = w.frozen? p :=
  World.frozen?_of_block (w := w) (h.block p.block hp hS)

theorem BlkRel.fr {env : Env} {ρ : Rho} {S : Nat → Prop} {w w' : World} {p : Nat × Nat} {b : Blk} (hb : BlkRel env ρ w p b) (h : Fr S w w') (hp : p.1 < w.heap.size) (hS : ¬ S p.1) : BlkRel env ρ w' p b := by
  refine ⟨?_, ?_⟩
  · intro j c hc
    obtain ⟨v, h1, h2, h3⟩ := hb.1 j c hc
    exact ⟨v, by rw [h.cell (by exact hp) (by exact hS)]; exact h1, h2, fun hr => by rw [h.frozen (by exact hp) (by exact hS)]; exact h3 hr⟩
  · have := hb.2
    revert this
    cases b.lay <;> simp only [BL.mapRel, imp_self]
    rw [h.block p.1 hp hS]; exact id

end Go.Sx
