/- A part of the reckoning with symbols: states, terms and their meaning, used by the proofs of this seat. -/
import Derived.Test.YtpndnejabebfeaaGreatDoorSxK
import Derived.LoopN
import Derived.Scope
/-! States, trees of what is reckoned, and how a state stands to the machine. -/
noncomputable section
namespace Go.Sx

inductive Tree (α : Type) where
  | leaf (a : α)
  | node (c : Tm) (l r : Tree α)
  | bind (n m : Nat) (sem : List Val → List Val) (args : List Tm) (k : Tree α)
  | err (s : String)

def Path {α : Type} (env : Env) : Tree α → α → Prop
  | .leaf a, b => a = b
  | .node c l r, b => if (den env c).i = 0 then Path env r b else Path env l b
  | .bind n m sem args k, b => (∀ j, j < m → env (n + j) = (sem (args.map (den env))).getD j default) ∧ Path env k b
  | .err _, _ => False

/-! ### Facts out of tests -/

def factsT (Γ : List Fact) : Tm → List Fact
  | .b2 .lt a b =>
    (match rng Γ a, rng Γ b with
    | some (la, ha), some (lb, hb) => [.iv a la (imin ha (hb - 1)), .iv b (imax lb (la + 1)) hb]
    | _, _ => []) ++ [.iv (.b2 .lt a b) 1 1]
  | .b2 .eq a b =>
    (match rng Γ a, rng Γ b with
    | some (la, ha), some (lb, hb) => [.iv a (imax la lb) (imin ha hb), .iv b (imax la lb) (imin ha hb)]
    | none, some (lb, hb) => [.iv a lb hb]
    | some (la, ha), none => [.iv b la ha]
    | _, _ => []) ++ [.iv (.b2 .eq a b) 1 1]
  | .not a => [.iv a 0 0]
  | c => if within Γ c 0 1 then [.iv c 1 1] else []

def factsF (Γ : List Fact) : Tm → List Fact
  | .b2 .lt a b =>
    (match rng Γ a, rng Γ b with
    | some (la, ha), some (lb, hb) => [.iv a (imax la lb) ha, .iv b lb (imin hb ha)]
    | _, _ => []) ++ [.iv (.b2 .lt a b) 0 0]
  | .b2 .eq a b =>
    (match rng Γ a, b with
    | some (la, ha), .lit n => if ieq n la then [.iv a (la + 1) ha] else if ieq n ha then [.iv a la (ha - 1)] else []
    | _, _ => []) ++ [.iv (.b2 .eq a b) 0 0]
  | .not a => if within Γ a 0 1 then [.iv a 1 1, .iv (.not a) 0 0] else [.iv (.not a) 0 0]
  | c => [.iv c 0 0]

theorem Sat.append {env : Env} {A B : List Fact} (h : ∀ f ∈ A, f.ok env) (h' : Sat env B) : Sat env (A ++ B) := by
  intro f hf
  rcases List.mem_append.1 hf with h1 | h1
  · exact h f h1
  · exact h' f h1

theorem factsT_ok {env : Env} {Γ : List Fact} (hs : Sat env Γ) {c : Tm} (h : (den env c).i ≠ 0) : Sat env (factsT Γ c ++ Γ) := by
  refine Sat.append ?_ hs
  unfold factsT
  split
  · rename_i a b
    have hlt : (den env a).i < (den env b).i := by
      simp only [den, B2.den] at h
      by_cases hh : (den env a).i < (den env b).i
      · exact hh
      · rw [if_neg hh] at h; exact absurd rfl h
    intro f hf
    rcases List.mem_append.1 hf with h1 | h1
    · split at h1
      · rename_i la ha lb hb e1 e2
        have r1 := rng_has hs a _ e1
        have r2 := rng_has hs b _ e2
        dsimp only at r1 r2
        simp only [List.mem_cons, List.not_mem_nil, or_false] at h1
        rcases h1 with rfl | rfl
        · exact ⟨r1.1, le_imin r1.2 (by omega)⟩
        · exact ⟨imax_le r2.1 (by omega), r2.2⟩
      · simp at h1
    · simp only [List.mem_singleton] at h1
      subst h1
      simp only [Fact.ok, den, B2.den]
      rw [if_pos hlt]; omega
  · rename_i a b
    have heq : (den env a).i = (den env b).i := by
      simp only [den, B2.den] at h
      by_cases hh : (den env a).i = (den env b).i
      · exact hh
      · rw [if_neg hh] at h; exact absurd rfl h
    intro f hf
    rcases List.mem_append.1 hf with h1 | h1
    · split at h1
      · rename_i la ha lb hb e1 e2
        have r1 := rng_has hs a _ e1
        have r2 := rng_has hs b _ e2
        dsimp only at r1 r2
        simp only [List.mem_cons, List.not_mem_nil, or_false] at h1
        rcases h1 with rfl | rfl
        · exact ⟨imax_le r1.1 (by omega), le_imin r1.2 (by omega)⟩
        · exact ⟨imax_le (by omega) r2.1, le_imin (by omega) r2.2⟩
      · rename_i lb hb e1 e2
        have r2 := rng_has hs b _ e2
        dsimp only at r2
        simp only [List.mem_singleton] at h1
        subst h1
        exact ⟨by omega, by omega⟩
      · rename_i lb hb e1 e2
        have r2 := rng_has hs a _ e1
        dsimp only at r2
        simp only [List.mem_singleton] at h1
        subst h1
        exact ⟨by omega, by omega⟩
      · simp at h1
    · simp only [List.mem_singleton] at h1
      subst h1
      simp only [Fact.ok, den, B2.den]
      rw [if_pos heq]; omega
  · rename_i a
    intro f hf
    simp only [List.mem_singleton] at hf
    subst hf
    simp only [den] at h
    have : (den env a).i = 0 := by
      by_cases hh : (den env a).i = 0
      · exact hh
      · rw [if_neg hh] at h; exact absurd rfl h
    exact ⟨by omega, by omega⟩
  · split
    · rename_i hw
      have := within_sound hs hw
      intro f hf
      simp only [List.mem_singleton] at hf
      subst hf
      exact ⟨by omega, by omega⟩
    · intro f hf; simp at hf

theorem factsF_ok {env : Env} {Γ : List Fact} (hs : Sat env Γ) {c : Tm} (h : (den env c).i = 0) : Sat env (factsF Γ c ++ Γ) := by
  refine Sat.append ?_ hs
  unfold factsF
  split
  · rename_i a b
    have hlt : ¬ (den env a).i < (den env b).i := by
      intro hh
      simp only [den, B2.den] at h
      rw [if_pos hh] at h; cases h
    intro f hf
    rcases List.mem_append.1 hf with h1 | h1
    · split at h1
      · rename_i la ha lb hb e1 e2
        have r1 := rng_has hs a _ e1
        have r2 := rng_has hs b _ e2
        dsimp only at r1 r2
        simp only [List.mem_cons, List.not_mem_nil, or_false] at h1
        rcases h1 with rfl | rfl
        · exact ⟨imax_le r1.1 (by omega), r1.2⟩
        · exact ⟨r2.1, le_imin r2.2 (by omega)⟩
      · simp at h1
    · simp only [List.mem_singleton] at h1
      subst h1
      exact ⟨by omega, by omega⟩
  · rename_i a b
    have hne : (den env a).i ≠ (den env b).i := by
      intro hh
      simp only [den, B2.den] at h
      rw [if_pos hh] at h; cases h
    intro f hf
    rcases List.mem_append.1 hf with h1 | h1
    · split at h1
      · rename_i la ha n e1
        have r1 := rng_has hs a _ e1
        dsimp only at r1
        simp only [den] at hne
        split at h1
        · rename_i hn; rw [ieq_iff] at hn
          simp only [List.mem_singleton] at h1
          subst h1
          exact ⟨by omega, r1.2⟩
        · split at h1
          · rename_i hn; rw [ieq_iff] at hn
            simp only [List.mem_singleton] at h1
            subst h1
            exact ⟨r1.1, by omega⟩
          · simp at h1
      · simp at h1
    · simp only [List.mem_singleton] at h1
      subst h1
      exact ⟨by omega, by omega⟩
  · rename_i a
    have ha : (den env a).i ≠ 0 := by
      intro hh
      simp only [den] at h
      rw [if_pos hh] at h; cases h
    split
    · rename_i hw
      have := within_sound hs hw
      intro f hf
      simp only [List.mem_cons, List.not_mem_nil, or_false] at hf
      rcases hf with rfl | rfl
      · exact ⟨by omega, by omega⟩
      · exact ⟨by omega, by omega⟩
    · intro f hf
      simp only [List.mem_singleton] at hf
      subst hf
      exact ⟨by omega, by omega⟩
  · intro f hf
    simp only [List.mem_singleton] at hf
    subst hf
    exact ⟨by omega, by omega⟩

/-! ### States -/

structure St where
  fr : List (Nat × Sl)
  nt : Nat
  hp : Heap
  nb : Nat
  nv : Nat
  fs : List Fact
  wr : List Nat

def aset {α : Type} (i : Nat) (x : α) (l : List (Nat × α)) : List (Nat × α) :=
  match look i l with
  | some _ => putAt i x l
  | none => (i, x) :: l

theorem look_aset {α : Type} (i j : Nat) (x : α) (l : List (Nat × α)) : look j (aset i x l) = if j = i then some x else look j l := by
  unfold aset
  split
  · rename_i y h
    rw [look_putAt]
    by_cases e : j = i
    · subst e; rw [if_pos rfl, if_pos rfl, h]; rfl
    · rw [if_neg e, if_neg e]
  · simp only [look_cons, Nat.beq_eq]

def asets {α : Type} : List (Nat × α) → List (Nat × α) → List (Nat × α)
  | [], l => l
  | (i, x) :: r, l => aset i x (asets r l)

theorem look_asets {α : Type} (j : Nat) (l : List (Nat × α)) : ∀ u : List (Nat × α), (∀ x, look j u = some x → look j (asets u l) = some x) ∧ (look j u = none → look j (asets u l) = look j l) := by
  intro u
  induction u with
  | nil => exact ⟨fun x h => (by cases h), fun _ => rfl⟩
  | cons p r ih =>
    obtain ⟨i, x⟩ := p
    simp only [asets, look_aset, look_cons, Nat.beq_eq]
    by_cases e : j = i
    · rw [if_pos e, if_pos e]; exact ⟨fun _ h => h, fun h => by cases h⟩
    · rw [if_neg e, if_neg e]; exact ih

/-- The blocks named in updates lie below n; new ones may be written. -/
def upsLt (nb n : Nat) : List (Nat × Blk) → Bool
  | [] => true
  | (i, b) :: r => Nat.blt i n && b.lay.lt n && (Nat.blt i nb || b.rw) && upsLt nb n r

theorem upsLt_at {nb n : Nat} : ∀ {u : List (Nat × Blk)} {i : Nat} {b : Blk}, upsLt nb n u = true → look i u = some b → i < n ∧ b.lay.lt n = true := by
  intro u
  induction u with
  | nil => intro i b _ h; cases h
  | cons p r ih =>
    intro i b h hb
    obtain ⟨j, x⟩ := p
    simp only [upsLt, Bool.and_eq_true, Nat.blt_eq] at h
    simp only [look_cons, Nat.beq_eq] at hb
    split at hb
    · rename_i e; cases hb; exact ⟨by omega, h.1.1.2⟩
    · exact ih h.2 hb

def idsOf {α : Type} : List (Nat × α) → List Nat
  | [] => []
  | (i, _) :: r => i :: idsOf r

theorem idsOf_look {α : Type} : ∀ {u : List (Nat × α)} {i : Nat} , i ∈ idsOf u → ∃ x, look i u = some x := by
  intro u
  induction u with
  | nil => intro i h; cases h
  | cons p r ih =>
    intro i h
    obtain ⟨j, x⟩ := p
    simp only [look_cons, Nat.beq_eq]
    by_cases e : i = j
    · exact ⟨x, if_pos e⟩
    · rw [if_neg e]
      simp only [idsOf, List.mem_cons] at h
      exact ih (h.resolve_left e)

theorem look_idsOf {α : Type} : ∀ {u : List (Nat × α)} {i : Nat} {x : α}, look i u = some x → i ∈ idsOf u := by
  intro u
  induction u with
  | nil => intro i x h; cases h
  | cons p r ih =>
    intro i x h
    obtain ⟨j, y⟩ := p
    simp only [look_cons, Nat.beq_eq] at h
    split at h
    · rename_i e; subst e; simp [idsOf]
    · simp only [idsOf, List.mem_cons]; exact .inr (ih h)

theorem heapLt_mono {n m : Nat} (hnm : n ≤ m) : ∀ {hp : Heap}, HeapLt n hp = true → HeapLt m hp = true := by
  have p : ∀ {l : List (Nat × Tm)}, ptrsLt n l = true → ptrsLt m l = true := by
    intro l
    induction l with
    | nil => intro _; rfl
    | cons q r ih => obtain ⟨b, o⟩ := q; simp only [ptrsLt, Bool.and_eq_true, Nat.blt_eq]; exact fun h => ⟨by omega, ih h.2⟩
  have s : ∀ {x : SC}, x.lt n = true → x.lt m = true := by
    intro x
    induction x with
    | ptr b o => simp only [SC.lt, Nat.blt_eq]; omega
    | slice b o l c => simp only [SC.lt, Nat.blt_eq]; omega
    | func f a c => simp only [SC.lt, Bool.and_eq_true]; exact fun h => ⟨p h.1, p h.2⟩
    | iface t s ih => exact ih
    | mapv b => simp only [SC.lt, Nat.blt_eq]; omega
    | _ => exact id
  have c : ∀ {x : CK}, x.lt n = true → x.lt m = true := by
    intro x; cases x with
    | fix y => exact s
    | _ => exact id
  have l : ∀ {L : Lay}, Lay.lt n L = true → Lay.lt m L = true := by
    intro L
    induction L with
    | nil => intro _; rfl
    | cons q r ih => obtain ⟨b, o⟩ := q; simp only [Lay.lt, Bool.and_eq_true]; exact fun h => ⟨c h.1, ih h.2⟩
  intro hp
  induction hp with
  | nil => intro _; rfl
  | cons q r ih =>
    obtain ⟨i, b⟩ := q
    simp only [HeapLt, Bool.and_eq_true, Nat.blt_eq]
    intro h
    refine ⟨⟨by omega, ?_⟩, ih h.2⟩
    have := h.1.2
    cases hb : b.lay with
    | fixed L => rw [hb] at this; exact l this
    | dyn d t => rw [hb] at this; exact c this
    | mp es => rfl

theorem sl_lt_mono {n m : Nat} (hnm : n ≤ m) {s : Sl} (h : s.lt n = true) : s.lt m = true := by
  have key : ∀ (L : Lay), Lay.lt n L = true → Lay.lt m L = true := by
    intro L hL
    have := heapLt_mono hnm (hp := [(0, ⟨.fixed L, .nil, true⟩)])
    by_cases h0 : 0 < n
    · have := this (by simp [HeapLt, BL.lt, hL, h0])
      simp only [HeapLt, Bool.and_eq_true, BL.lt] at this
      exact this.1.2
    · have hn : n = 0 := by omega
      subst hn
      clear this
      induction L with
      | nil => rfl
      | cons q r ih =>
        obtain ⟨c, k⟩ := q
        simp only [Lay.lt, Bool.and_eq_true] at hL ⊢
        refine ⟨?_, ih hL.2⟩
        cases c with
        | fix s =>
          have hp0 : ∀ {l : List (Nat × Tm)}, ptrsLt 0 l = true → ptrsLt m l = true := by
            intro l hl
            cases l with
            | nil => rfl
            | cons q r => obtain ⟨b, o⟩ := q; simp [ptrsLt] at hl
          have hs : ∀ {x : SC}, x.lt 0 = true → x.lt m = true := by
            intro x
            induction x with
            | ptr b o => simp [SC.lt]
            | slice b o l c => simp [SC.lt]
            | func f a c => simp only [SC.lt, Bool.and_eq_true]; exact fun h => ⟨hp0 h.1, hp0 h.2⟩
            | iface t s ih => exact ih
            | mapv b => simp [SC.lt]
            | _ => exact id
          exact hs hL.1
        | _ => rfl
  have sv : ∀ (s : SV), s.lt n = true → s.lt m = true := by
    intro s hs
    cases s with
    | sc s =>
      have := key [(.fix s, 1)] (by simp only [Lay.lt, CK.lt, Bool.and_true]; exact hs)
      simp only [Lay.lt, CK.lt, Bool.and_true] at this
      exact this
    | agg L A => exact key L hs
  cases s with
  | sv s => exact sv s h
  | tup l =>
    induction l with
    | nil => rfl
    | cons a r ih =>
      simp only [Sl.lt, SVsLt, Bool.and_eq_true] at h ⊢
      exact ⟨sv a h.1, ih h.2⟩

/-! ### How a state stands to the machine -/

structure Base where
  nb : Nat
  w : World
  ρ : Rho
  lk : Lk

structure RR (env : Env) (B : Base) (st : St) (ρ : Rho) (w : World) : Prop where
  rho : RhoEq B.nb B.ρ ρ
  nb : B.nb ≤ st.nb
  heap : HRel env ρ (fun i => look i st.hp) w
  sep : SepK ρ (fun i => look i st.hp)
  lt : HeapLt st.nb st.hp = true
  old : ∀ i b, look i st.hp = some b → i < B.nb → ∃ b', B.lk i = some b' ∧ (b.rw = true → b'.rw = true)
  new : ∀ i b, look i st.hp = some b → B.nb ≤ i → B.w.heap.size ≤ (ρ i).1
  wr : ∀ i, i ∈ st.wr → i < B.nb → ∃ b, B.lk i = some b ∧ b.rw = true
  fr : Fr (fun k => ∃ i, i ∈ st.wr ∧ i < B.nb ∧ (ρ i).1 = k) B.w w

structure FR (env : Env) (st : St) (ρ : Rho) (a : Act) : Prop where
  df : a.defers = []
  size : a.tmps.size = st.nt
  lt : ∀ t s, look t st.fr = some s → t < st.nt ∧ s.lt st.nb = true
  rel : ∀ t s, look t st.fr = some s → s.Rel env ρ (a.tmps.getD t undef)

/-- A state behind an operation. -/
def St.after (st : St) (dst : Option Tmp) (v : Option Sl) (ups : List (Nat × Blk)) (nb nv : Nat) (fs : List Fact) : St :=
  { fr := (match dst with
      | some d => aset d (v.getD (.sv (.sc .junk))) st.fr
      | none => st.fr), nt := st.nt, hp := asets ups st.hp, nb, nv, fs, wr := idsOf ups ++ st.wr }

/-- What is asked of an operation's outcome before it goes into the state. -/
def fits (st : St) (dst : Option Tmp) (v : Option Sl) (ups : List (Nat × Blk)) (nb : Nat) : Bool :=
  Nat.ble st.nb nb && upsLt st.nb nb ups &&
  (match dst with
  | some d => Nat.blt d st.nt
  | none => true) &&
  (match v with
  | some s => s.lt nb
  | none => true)

theorem heapLt_asets {n : Nat} {hp : Heap} (h : HeapLt n hp = true) {m : Nat} : ∀ {u : List (Nat × Blk)}, upsLt m n u = true → HeapLt n (asets u hp) = true := by
  have hput : ∀ {l : Heap} {i : Nat} {b : Blk}, HeapLt n l = true → i < n → b.lay.lt n = true → HeapLt n (putAt i b l) = true := by
    intro l i b hl hi hb
    induction l with
    | nil => rfl
    | cons p r ih =>
      obtain ⟨j, x⟩ := p
      simp only [HeapLt, Bool.and_eq_true, Nat.blt_eq] at hl
      simp only [putAt]
      split
      · simp only [HeapLt, Bool.and_eq_true, Nat.blt_eq]; exact ⟨⟨hl.1.1, hb⟩, hl.2⟩
      · simp only [HeapLt, Bool.and_eq_true, Nat.blt_eq]; exact ⟨hl.1, ih hl.2⟩
  intro u
  induction u with
  | nil => intro _; exact h
  | cons p r ih =>
    intro hu
    obtain ⟨i, b⟩ := p
    simp only [upsLt, Bool.and_eq_true, Nat.blt_eq] at hu
    simp only [asets, aset]
    split
    · exact hput (ih hu.2) hu.1.1.1 hu.1.1.2
    · simp only [HeapLt, Bool.and_eq_true, Nat.blt_eq]; exact ⟨⟨hu.1.1.1, hu.1.1.2⟩, ih hu.2⟩

theorem RR.step {env : Env} {B : Base} {st : St} {ρ ρ' : Rho} {w w' : World} (h : RR env B st ρ w) {lk : Lk} (hlk : ∀ i b, lk i = some b → look i st.hp = some b) {ups : List (Nat × Blk)} (hstep : Step env lk st.nb ρ ρ' w w' ups)
    {dst : Option Tmp} {v : Option Sl} {nb nv : Nat} {fs : List Fact} (hf : fits st dst v ups nb = true) : RR env B (st.after dst v ups nb nv fs) ρ' w' := by
  simp only [fits, Bool.and_eq_true, Nat.ble_eq] at hf
  obtain ⟨⟨⟨hnb, hups⟩, _⟩, _⟩ := hf
  have hltn := heapLt_mono hnb h.lt
  have cases' : ∀ i b, look i (asets ups st.hp) = some b → look i ups = some b ∨ (look i ups = none ∧ look i st.hp = some b) := by
    intro i b hb
    have hl := look_asets i st.hp ups
    cases hu : look i ups with
    | some x => rw [hl.1 x hu] at hb; exact .inl hb
    | none => rw [hl.2 hu] at hb; exact .inr ⟨rfl, hb⟩
  have hold : ∀ i b, look i st.hp = some b → i < st.nb := fun i b hb => (HeapLt.at h.lt hb).1
  constructor
  · exact h.rho.trans hstep.rho h.nb
  · exact Nat.le_trans h.nb hnb
  · intro i b hb
    rcases cases' i b hb with hu | ⟨hu, hb'⟩
    · exact hstep.blks i b hu
    · have h1 := h.heap i b hb'
      have h2 := HeapLt.at h.lt hb'
      have hri := hstep.rho i h2.1
      rw [hri]
      refine ⟨(BlkRel.rho hstep.rho h2.2 h1.1).fr hstep.fr h1.2 ?_, Nat.lt_of_lt_of_le h1.2 hstep.fr.size⟩
      rintro ⟨j, c, hj, hjn, he⟩
      obtain ⟨c0, hc0, hrw⟩ := hstep.old j c hj hjn
      have hij : j ≠ i := fun e => by subst e; rw [hj] at hu; cases hu
      exact h.sep j c0 i b (hlk _ _ hc0) hb' hij hrw he
  · intro i b j c hb hc hij hrw
    rcases cases' i b hb with hu | ⟨hu, hb'⟩
    · by_cases hi : i < st.nb
      · obtain ⟨b0, hb0, hrw0⟩ := hstep.old i b hu hi
        rw [hstep.rho i hi]
        rcases cases' j c hc with hv | ⟨hv, hc'⟩
        · by_cases hj : j < st.nb
          · obtain ⟨c0, hc0, _⟩ := hstep.old j c hv hj
            rw [hstep.rho j hj]
            exact h.sep i b0 j c0 (hlk _ _ hb0) (hlk _ _ hc0) hij hrw0
          · have h1 := hstep.new j c hv (by omega)
            have h2 := (h.heap i b0 (hlk _ _ hb0)).2
            omega
        · rw [hstep.rho j (hold j c hc')]
          exact h.sep i b0 j c (hlk _ _ hb0) hc' hij hrw0
      · have h1 := hstep.new i b hu (by omega)
        rcases cases' j c hc with hv | ⟨hv, hc'⟩
        · by_cases hj : j < st.nb
          · obtain ⟨c0, hc0, _⟩ := hstep.old j c hv hj
            rw [hstep.rho j hj]
            have h2 := (h.heap j c0 (hlk _ _ hc0)).2
            omega
          · exact hstep.apart i j b c hu hv (by omega) (by omega) hij
        · rw [hstep.rho j (hold j c hc')]
          have h2 := (h.heap j c hc').2
          omega
    · rw [hstep.rho i (hold i b hb')]
      rcases cases' j c hc with hv | ⟨hv, hc'⟩
      · by_cases hj : j < st.nb
        · obtain ⟨c0, hc0, _⟩ := hstep.old j c hv hj
          rw [hstep.rho j hj]
          exact h.sep i b j c0 hb' (hlk _ _ hc0) hij hrw
        · have h1 := hstep.new j c hv (by omega)
          have h2 := (h.heap i b hb').2
          omega
      · rw [hstep.rho j (hold j c hc')]
        exact h.sep i b j c hb' hc' hij hrw
  · exact heapLt_asets hltn hups
  · intro i b hb hi
    rcases cases' i b hb with hu | ⟨hu, hb'⟩
    · have hnb' := h.nb
      obtain ⟨b0, hb0, hrw0⟩ := hstep.old i b hu (by omega)
      obtain ⟨b', h1, h2⟩ := h.old i b0 (hlk _ _ hb0) hi
      exact ⟨b', h1, fun _ => h2 hrw0⟩
    · exact h.old i b hb' hi
  · intro i b hb hi
    rcases cases' i b hb with hu | ⟨hu, hb'⟩
    · by_cases hin : i < st.nb
      · obtain ⟨b0, hb0, _⟩ := hstep.old i b hu hin
        rw [hstep.rho i hin]
        exact h.new i b0 (hlk _ _ hb0) hi
      · exact Nat.le_trans h.fr.size (hstep.new i b hu (by omega))
    · rw [hstep.rho i (hold i b hb')]
      exact h.new i b hb' hi
  · intro i hi hib
    simp only [St.after, List.mem_append] at hi
    rcases hi with hi | hi
    · obtain ⟨b, hb⟩ := idsOf_look hi
      have hnb' := h.nb
      obtain ⟨b0, hb0, hrw0⟩ := hstep.old i b hb (by omega)
      obtain ⟨b', h1, h2⟩ := h.old i b0 (hlk _ _ hb0) hib
      exact ⟨b', h1, h2 hrw0⟩
    · exact h.wr i hi hib
  · have f1 : Fr (fun k => ∃ i, i ∈ (st.after dst v ups nb nv fs).wr ∧ i < B.nb ∧ (ρ' i).1 = k) B.w w := h.fr.mono fun k _ hk => by
      obtain ⟨i, h1, h2, h3⟩ := hk
      exact ⟨i, by simp [St.after, h1], h2, by rw [hstep.rho i (by have := h.nb; omega)]; exact h3⟩
    refine f1.trans (hstep.fr.mono fun k _ hk => ?_)
    obtain ⟨i, b, h1, h2, h3⟩ := hk
    by_cases hi : i < B.nb
    · exact .inl ⟨i, by simp [St.after, look_idsOf h1], hi, by rw [hstep.rho i h2]; exact h3⟩
    · obtain ⟨b0, hb0, _⟩ := hstep.old i b h1 h2
      have := h.new i b0 (hlk _ _ hb0) (by omega)
      exact .inr (by omega)

theorem Sl.junk_rel (env : Env) (ρ : Rho) (v : Value) : (Sl.sv (.sc .junk)).Rel env ρ v := trivial

theorem getD_setIfInBounds {a : Array Value} {d t : Nat} {v : Value} (hd : d < a.size) : (a.setIfInBounds d v).getD t undef = if t = d then v else a.getD t undef := by
  simp only [Array.getD_eq_getD_getElem?, Array.getElem?_setIfInBounds]
  by_cases h : d = t
  · subst h; simp [hd]
  · rw [if_neg h, if_neg (fun e => h e.symm)]

theorem FR.step {env : Env} {st : St} {ρ ρ' : Rho} {a : Act} (h : FR env st ρ a) (hrho : RhoEq st.nb ρ ρ') {dst : Option Tmp} {v : Option Sl} {ups : List (Nat × Blk)} {nb nv : Nat} {fs : List Fact}
    (hf : fits st dst v ups nb = true) {u : Value} (hv : ∀ s, v = some s → s.Rel env ρ' u) : FR env (st.after dst v ups nb nv fs) ρ' (a.put dst u) := by
  simp only [fits, Bool.and_eq_true, Nat.ble_eq] at hf
  obtain ⟨⟨⟨hnb, _⟩, hd⟩, hvl⟩ := hf
  have hvlt : (v.getD (.sv (.sc .junk))).lt nb = true := by
    cases v with
    | none => rfl
    | some s => exact hvl
  have hvrel : (v.getD (.sv (.sc .junk))).Rel env ρ' u := by
    cases v with
    | none => exact Sl.junk_rel _ _ _
    | some s => exact hv s rfl
  cases dst with
  | none =>
    refine ⟨h.df, h.size, fun t s hs => ?_, fun t s hs => Sl.Rel.rho hrho (h.lt t s hs).2 (h.rel t s hs)⟩
    exact ⟨(h.lt t s hs).1, sl_lt_mono hnb (h.lt t s hs).2⟩
  | some d =>
    simp only [Nat.blt_eq] at hd
    refine ⟨h.df, by simp [Act.put, St.after, h.size], fun t s hs => ?_, fun t s hs => ?_⟩
    · simp only [St.after, look_aset] at hs
      split at hs
      · rename_i e; subst e; cases hs; exact ⟨hd, hvlt⟩
      · exact ⟨(h.lt t s hs).1, sl_lt_mono hnb (h.lt t s hs).2⟩
    · simp only [St.after, look_aset] at hs
      simp only [Act.put]
      rw [getD_setIfInBounds (by rw [h.size]; exact hd)]
      split at hs
      · rename_i e; subst e; cases hs
        rw [if_pos rfl]; exact hvrel
      · rename_i e
        rw [if_neg e]
        exact Sl.Rel.rho hrho (h.lt t s hs).2 (h.rel t s hs)

end Go.Sx
