/- A part of the reckoning with symbols: states, terms and their meaning, used by the proofs of this seat. -/
import Derived.Test.YtpndnejabebfeaaGreatDoorSxN
import Derived.Orders
/-! Regions in any order: the names that a value names, and states out of records. -/
noncomputable section
namespace Go.Sx

section
variable (p : Nat → Bool)

def ptrsAll : List (Nat × Tm) → Bool
  | [] => true
  | (b, _) :: r => p b && ptrsAll r

def SC.all : SC → Bool
  | .ptr b _ => p b
  | .slice b _ _ _ => p b
  | .func _ f c => ptrsAll p f && ptrsAll p c
  | .iface _ s => SC.all s
  | .mapv b => p b
  | _ => true

def CK.all : CK → Bool
  | .fix s => s.all p
  | _ => true

def Lay.all : Lay → Bool
  | [] => true
  | (c, _) :: r => c.all p && Lay.all r

def SV.all : SV → Bool
  | .sc s => s.all p
  | .agg L _ => Lay.all p L

def SVsAll : List SV → Bool
  | [] => true
  | s :: r => s.all p && SVsAll r

def Sl.all : Sl → Bool
  | .sv s => s.all p
  | .tup l => SVsAll p l

def BL.all : BL → Bool
  | .fixed L => Lay.all p L
  | .dyn c _ => c.all p
  | .mp _ => true
end

def AgreeOn (p : Nat → Bool) (ρ ρ' : Rho) : Prop := ∀ i, p i = true → ρ' i = ρ i

theorem Lay.all_at {p : Nat → Bool} : ∀ {L : Lay} {j : Nat} {c : CK}, Lay.all p L = true → Lay.at L j = some c → c.all p = true := by
  intro L
  induction L with
  | nil => intro j c _ hc; cases hc
  | cons q r ih =>
    intro j c hl hc
    obtain ⟨d, m⟩ := q
    simp only [Lay.all, Bool.and_eq_true] at hl
    simp only [Lay.at] at hc
    split at hc
    · cases hc; exact hl.1
    · exact ih hl.2 hc

section
variable {env : Env} {p : Nat → Bool} {ρ ρ' : Rho} (h : AgreeOn p ρ ρ')
include h

theorem PtrsRel.on : ∀ {l : List (Nat × Tm)} {vs : List Value}, ptrsAll p l = true → PtrsRel env ρ l vs → PtrsRel env ρ' l vs := by
  intro l
  induction l with
  | nil => intro vs _ hr; cases vs <;> simp [PtrsRel] at hr ⊢
  | cons q r ih =>
    intro vs hl hr
    obtain ⟨b, o⟩ := q
    simp only [ptrsAll, Bool.and_eq_true] at hl
    cases vs with
    | nil => simp [PtrsRel] at hr
    | cons v vs =>
      obtain ⟨⟨off, h1, h2⟩, hr⟩ := hr
      exact ⟨⟨off, h1, by dsimp only at h2 ⊢; rw [h b hl.1]; exact h2⟩, ih hl.2 hr⟩

theorem SC.Rel.on : ∀ {s : SC} {v : Value}, s.all p = true → s.Rel env ρ v → s.Rel env ρ' v := by
  intro s
  induction s with
  | ptr b o =>
    intro v hl hr
    simp only [SC.all] at hl
    obtain ⟨off, h1, h2⟩ := hr
    exact ⟨off, h1, by rw [h b hl]; exact h2⟩
  | slice b o l c =>
    intro v hl hr
    simp only [SC.all] at hl
    obtain ⟨off, len, cap, h1, h2⟩ := hr
    exact ⟨off, len, cap, by rw [h b hl]; exact h1, h2⟩
  | func fn f c =>
    intro v hl hr
    simp only [SC.all, Bool.and_eq_true] at hl
    obtain ⟨fa, ca, h1, h2, h3⟩ := hr
    exact ⟨fa, ca, h1, PtrsRel.on h hl.1 h2, PtrsRel.on h hl.2 h3⟩
  | iface t s ih =>
    intro v hl hr
    obtain ⟨u, h1, h2⟩ := hr
    exact ⟨u, h1, ih hl h2⟩
  | mapv b =>
    intro v hl hr
    simp only [SC.all] at hl
    simp only [SC.Rel] at hr ⊢
    rw [h b hl]; exact hr
  | _ => intro v _ hr; exact hr

theorem CK.Rel.on {c : CK} {A : Int → Int} {j : Int} {v : Value} (hl : c.all p = true) (hr : c.Rel env ρ A j v) : c.Rel env ρ' A j v := by
  cases c with
  | fix s => exact SC.Rel.on h hl hr
  | _ => exact hr

theorem SV.Rel.on {s : SV} {v : Value} (hl : s.all p = true) (hr : s.Rel env ρ v) : s.Rel env ρ' v := by
  cases s with
  | sc s => exact SC.Rel.on h hl hr
  | agg L A =>
    obtain ⟨cs, h1, h2, h3⟩ := hr
    exact ⟨cs, h1, h2, fun j c hc u hu => CK.Rel.on h (Lay.all_at hl hc) (h3 j c hc u hu)⟩

theorem SVsRel.on : ∀ {l : List SV} {vs : List Value}, SVsAll p l = true → SVsRel env ρ l vs → SVsRel env ρ' l vs := by
  intro l
  induction l with
  | nil => intro vs _ hr; cases vs <;> simp [SVsRel] at hr ⊢
  | cons q r ih =>
    intro vs hl hr
    simp only [SVsAll, Bool.and_eq_true] at hl
    cases vs with
    | nil => simp [SVsRel] at hr
    | cons v vs => exact ⟨SV.Rel.on h hl.1 hr.1, ih hl.2 hr.2⟩

theorem Sl.Rel.on {s : Sl} {v : Value} (hl : s.all p = true) (hr : s.Rel env ρ v) : s.Rel env ρ' v := by
  cases s with
  | sv s => exact SV.Rel.on h hl hr
  | tup l => obtain ⟨vs, h1, h2⟩ := hr; exact ⟨vs, h1, SVsRel.on h hl h2⟩

theorem BlkRel.on {w : World} {q : Nat × Nat} {b : Blk} (hl : b.lay.all p = true) (hr : BlkRel env ρ w q b) : BlkRel env ρ' w q b := by
  refine ⟨?_, hr.2⟩
  intro j c hc
  obtain ⟨v, h1, h2, h3⟩ := hr.1 j c hc
  refine ⟨v, h1, CK.Rel.on h ?_ h2, h3⟩
  cases hb : b.lay with
  | fixed L => rw [hb] at hl hc; exact Lay.all_at hl hc
  | dyn d m =>
    rw [hb] at hl hc
    simp only [BL.at] at hc
    split at hc
    · cases hc; exact hl
    · cases hc
  | mp es => rw [hb] at hc; cases hc
end

/-- Not in a stretch. -/
def outR (lo hi i : Nat) : Bool := Nat.blt i lo || Nat.ble hi i

theorem outR_iff {lo hi i : Nat} : outR lo hi i = true ↔ i < lo ∨ hi ≤ i := by simp [outR]

/-! What lies below a mark lies outside of a stretch above it. -/
section
variable {n lo hi : Nat} (hn : n ≤ lo)
include hn

theorem ptrs_lt_out {l : List (Nat × Tm)} (h : ptrsLt n l = true) : ptrsAll (outR lo hi) l = true := by
  induction l with
  | nil => rfl
  | cons q r ih => obtain ⟨b, o⟩ := q; simp only [ptrsLt, Bool.and_eq_true, Nat.blt_eq] at h; simp only [ptrsAll, Bool.and_eq_true, outR_iff]; exact ⟨.inl (by omega), ih h.2⟩

theorem SC.lt_out {s : SC} (h : s.lt n = true) : s.all (outR lo hi) = true := by
  induction s with
  | ptr b o => simp only [SC.lt, Nat.blt_eq] at h; simp only [SC.all, outR_iff]; omega
  | slice b o l c => simp only [SC.lt, Nat.blt_eq] at h; simp only [SC.all, outR_iff]; omega
  | func f a c => simp only [SC.lt, Bool.and_eq_true] at h; simp only [SC.all, Bool.and_eq_true]; exact ⟨ptrs_lt_out hn h.1, ptrs_lt_out hn h.2⟩
  | iface t s ih => exact ih h
  | mapv b => simp only [SC.lt, Nat.blt_eq] at h; simp only [SC.all, outR_iff]; omega
  | _ => rfl

theorem CK.lt_out {c : CK} (h : c.lt n = true) : c.all (outR lo hi) = true := by
  cases c with
  | fix s => exact SC.lt_out hn h
  | _ => rfl

theorem Lay.lt_out {L : Lay} (h : Lay.lt n L = true) : Lay.all (outR lo hi) L = true := by
  induction L with
  | nil => rfl
  | cons q r ih => obtain ⟨c, k⟩ := q; simp only [Lay.lt, Bool.and_eq_true] at h; simp only [Lay.all, Bool.and_eq_true]; exact ⟨CK.lt_out hn h.1, ih h.2⟩

theorem SV.lt_out {s : SV} (h : s.lt n = true) : s.all (outR lo hi) = true := by
  cases s with
  | sc s => exact SC.lt_out hn h
  | agg L A => exact Lay.lt_out hn h

theorem SVs.lt_out {l : List SV} (h : SVsLt n l = true) : SVsAll (outR lo hi) l = true := by
  induction l with
  | nil => rfl
  | cons q r ih => simp only [SVsLt, Bool.and_eq_true] at h; simp only [SVsAll, Bool.and_eq_true]; exact ⟨SV.lt_out hn h.1, ih h.2⟩

theorem Sl.lt_out {s : Sl} (h : s.lt n = true) : s.all (outR lo hi) = true := by
  cases s with
  | sv s => exact SV.lt_out hn h
  | tup l => exact SVs.lt_out hn h

theorem BL.lt_out {b : BL} (h : b.lt n = true) : b.all (outR lo hi) = true := by
  cases b with
  | fixed L => exact Lay.lt_out hn h
  | dyn c m => exact CK.lt_out hn h
  | mp es => rfl
end

/-! ### A step whose new names are out of a stretch -/

def patch (lo hi : Nat) (ρ ρ' : Rho) : Rho := fun m => if lo ≤ m ∧ m < hi then ρ' m else ρ m

/-- A state with one operation's outcome in it. -/
def St.put (st : St) (dst : Option Tmp) (v : Option Sl) (ups : List (Nat × Blk)) : St :=
  { st with fr := (match dst with
      | some d => aset d (v.getD (.sv (.sc .junk))) st.fr
      | none => st.fr), hp := asets ups st.hp, wr := idsOf ups ++ st.wr }

theorem patch_out {lo hi : Nat} {ρ ρ' : Rho} : AgreeOn (outR lo hi) ρ (patch lo hi ρ ρ') := by
  intro i hi'
  rw [outR_iff] at hi'
  exact if_neg (by omega)

theorem patch_lt {lo hi : Nat} {ρ ρ' : Rho} (h : RhoEq lo ρ ρ') : RhoEq hi ρ' (patch lo hi ρ ρ') := by
  intro i hi'
  unfold patch
  by_cases hc : lo ≤ i
  · rw [if_pos ⟨hc, hi'⟩]
  · rw [if_neg (by omega)]; exact (h i (by omega)).symm

theorem RR.stepAny {env : Env} {B : Base} {st : St} {ρ ρ' : Rho} {w w' : World} (h : RR env B st ρ w) {lk : Lk} (hlk : ∀ i b, lk i = some b → look i st.hp = some b) {lo hi : Nat} {ups : List (Nat × Blk)}
    (hstep : Step env lk lo ρ ρ' w w' ups) (hB : B.nb ≤ lo) (hups : upsLt lo hi ups = true) (hhi : hi ≤ st.nb)
    (hfree : ∀ i b, look i st.hp = some b → outR lo hi i = true ∧ b.lay.all (outR lo hi) = true) (dst : Option Tmp) (v : Option Sl) :
    RR env B (st.put dst v ups) (patch lo hi ρ ρ') w' := by
  have cases' : ∀ i b, look i (asets ups st.hp) = some b → look i ups = some b ∨ (look i ups = none ∧ look i st.hp = some b) := by
    intro i b hb
    have hl := look_asets i st.hp ups
    cases hu : look i ups with
    | some x => rw [hl.1 x hu] at hb; exact .inl hb
    | none => rw [hl.2 hu] at hb; exact .inr ⟨rfl, hb⟩
  have hpl := patch_lt (hi := hi) hstep.rho
  have hkeep : ∀ i b, look i st.hp = some b → patch lo hi ρ ρ' i = ρ i := fun i b hb => patch_out i (hfree i b hb).1
  have hup : ∀ i b, look i ups = some b → patch lo hi ρ ρ' i = ρ' i := fun i b hb => hpl i (upsLt_at hups hb).1
  have hupsN : upsLt lo st.nb ups = true := by
    have : ∀ {u : List (Nat × Blk)}, upsLt lo hi u = true → upsLt lo st.nb u = true := by
      intro u
      induction u with
      | nil => intro _; rfl
      | cons q r ih =>
        intro hu
        obtain ⟨j, x⟩ := q
        simp only [upsLt, Bool.and_eq_true, Nat.blt_eq] at hu ⊢
        refine ⟨⟨⟨by omega, ?_⟩, hu.1.2⟩, ih hu.2⟩
        have := sl_lt_mono hhi (s := .sv (.agg (match x.lay with | .fixed L => L | .dyn c _ => [(c, 1)] | .mp _ => []) .nil))
        cases hx : x.lay with
        | fixed L =>
          rw [hx] at this
          have h1 := hu.1.1.2
          rw [hx] at h1
          exact this h1
        | dyn c m =>
          rw [hx] at this
          have h1 := hu.1.1.2
          rw [hx] at h1
          have := this (by simp only [Sl.lt, SV.lt, Lay.lt, Bool.and_true]; exact h1)
          simp only [Sl.lt, SV.lt, Lay.lt, Bool.and_true] at this
          exact this
        | mp es => rfl
    exact this hups
  constructor
  · intro i hib; rw [patch_out i (outR_iff.2 (.inl (by omega)))]; exact h.rho i hib
  · exact h.nb
  · intro i b hb
    rcases cases' i b hb with hu | ⟨hu, hb'⟩
    · have := hstep.blks i b hu
      rw [hup i b hu]
      exact ⟨BlkRel.rho hpl (upsLt_at hups hu).2 this.1, this.2⟩
    · have h1 := h.heap i b hb'
      rw [hkeep i b hb']
      refine ⟨(BlkRel.on patch_out (hfree i b hb').2 h1.1).fr hstep.fr h1.2 ?_, Nat.lt_of_lt_of_le h1.2 hstep.fr.size⟩
      rintro ⟨j, c, hj, hjn, he⟩
      obtain ⟨c0, hc0, hrw⟩ := hstep.old j c hj hjn
      have hij : j ≠ i := fun e => by subst e; rw [hj] at hu; cases hu
      exact h.sep j c0 i b (hlk _ _ hc0) hb' hij hrw he
  · intro i b j c hb hc hij hrw
    rcases cases' i b hb with hu | ⟨hu, hb'⟩
    · rw [hup i b hu]
      by_cases hi' : i < lo
      · obtain ⟨b0, hb0, hrw0⟩ := hstep.old i b hu hi'
        rw [hstep.rho i hi']
        rcases cases' j c hc with hv | ⟨hv, hc'⟩
        · rw [hup j c hv]
          by_cases hj : j < lo
          · obtain ⟨c0, hc0, _⟩ := hstep.old j c hv hj
            rw [hstep.rho j hj]
            exact h.sep i b0 j c0 (hlk _ _ hb0) (hlk _ _ hc0) hij hrw0
          · have h1 := hstep.new j c hv (by omega)
            have h2 := (h.heap i b0 (hlk _ _ hb0)).2
            omega
        · rw [hkeep j c hc']
          exact h.sep i b0 j c (hlk _ _ hb0) hc' hij hrw0
      · have h1 := hstep.new i b hu (by omega)
        rcases cases' j c hc with hv | ⟨hv, hc'⟩
        · rw [hup j c hv]
          by_cases hj : j < lo
          · obtain ⟨c0, hc0, _⟩ := hstep.old j c hv hj
            rw [hstep.rho j hj]
            have h2 := (h.heap j c0 (hlk _ _ hc0)).2
            omega
          · exact hstep.apart i j b c hu hv (by omega) (by omega) hij
        · rw [hkeep j c hc']
          have h2 := (h.heap j c hc').2
          omega
    · rw [hkeep i b hb']
      rcases cases' j c hc with hv | ⟨hv, hc'⟩
      · rw [hup j c hv]
        by_cases hj : j < lo
        · obtain ⟨c0, hc0, _⟩ := hstep.old j c hv hj
          rw [hstep.rho j hj]
          exact h.sep i b j c0 hb' (hlk _ _ hc0) hij hrw
        · have h1 := hstep.new j c hv (by omega)
          have h2 := (h.heap i b hb').2
          omega
      · rw [hkeep j c hc']
        exact h.sep i b j c hb' hc' hij hrw
  · exact heapLt_asets h.lt hupsN
  · intro i b hb hi'
    rcases cases' i b hb with hu | ⟨hu, hb'⟩
    · obtain ⟨b0, hb0, hrw0⟩ := hstep.old i b hu (by omega)
      obtain ⟨b', h1, h2⟩ := h.old i b0 (hlk _ _ hb0) hi'
      exact ⟨b', h1, fun _ => h2 hrw0⟩
    · exact h.old i b hb' hi'
  · intro i b hb hi'
    rcases cases' i b hb with hu | ⟨hu, hb'⟩
    · rw [hup i b hu]
      by_cases hin : i < lo
      · obtain ⟨b0, hb0, _⟩ := hstep.old i b hu hin
        rw [hstep.rho i hin]
        exact h.new i b0 (hlk _ _ hb0) hi'
      · exact Nat.le_trans h.fr.size (hstep.new i b hu (by omega))
    · rw [hkeep i b hb']
      exact h.new i b hb' hi'
  · intro i hi' hib
    simp only [St.put, List.mem_append] at hi'
    rcases hi' with hi' | hi'
    · obtain ⟨b, hb⟩ := idsOf_look hi'
      obtain ⟨b0, hb0, hrw0⟩ := hstep.old i b hb (by omega)
      obtain ⟨b', h1, h2⟩ := h.old i b0 (hlk _ _ hb0) hib
      exact ⟨b', h1, h2 hrw0⟩
    · exact h.wr i hi' hib
  · have f1 : Fr (fun k => ∃ i, i ∈ (st.put dst v ups).wr ∧ i < B.nb ∧ (patch lo hi ρ ρ' i).1 = k) B.w w := h.fr.mono fun k _ hk => by
      obtain ⟨i, h1, h2, h3⟩ := hk
      exact ⟨i, by simp [St.put, h1], h2, by rw [patch_out i (outR_iff.2 (.inl (by omega)))]; exact h3⟩
    refine f1.trans (hstep.fr.mono fun k _ hk => ?_)
    obtain ⟨i, b, h1, h2, h3⟩ := hk
    by_cases hi' : i < B.nb
    · exact .inl ⟨i, by simp [St.put, look_idsOf h1], hi', by rw [patch_out i (outR_iff.2 (.inl (by omega)))]; exact h3⟩
    · obtain ⟨b0, hb0, _⟩ := hstep.old i b h1 h2
      have := h.new i b0 (hlk _ _ hb0) (by omega)
      exact .inr (by omega)

theorem FR.stepAny {env : Env} {st : St} {ρ ρ' : Rho} {a : Act} (h : FR env st ρ a) {lo hi : Nat} (hrho : RhoEq lo ρ ρ') {dst : Option Tmp} {v : Option Sl} (ups : List (Nat × Blk))
    (hd : ∀ d, dst = some d → d < st.nt) (hv : ∀ s, v = some s → s.lt hi = true) (hhi : hi ≤ st.nb)
    (hfree : ∀ t s, look t st.fr = some s → s.all (outR lo hi) = true) {u : Value} (hu : ∀ s, v = some s → s.Rel env ρ' u) :
    FR env (st.put dst v ups) (patch lo hi ρ ρ') (a.put dst u) := by
  have hvlt : (v.getD (.sv (.sc .junk))).lt st.nb = true := by
    cases v with
    | none => rfl
    | some s => exact sl_lt_mono hhi (hv s rfl)
  have hvrel : (v.getD (.sv (.sc .junk))).Rel env (patch lo hi ρ ρ') u := by
    cases v with
    | none => exact Sl.junk_rel _ _ _
    | some s => exact Sl.Rel.rho (patch_lt hrho) (hv s rfl) (hu s rfl)
  cases dst with
  | none => exact ⟨h.df, h.size, h.lt, fun t s hs => Sl.Rel.on patch_out (hfree t s hs) (h.rel t s hs)⟩
  | some d =>
    have hd' := hd d rfl
    refine ⟨h.df, by simp [Act.put, St.put, h.size], fun t s hs => ?_, fun t s hs => ?_⟩
    · simp only [St.put, look_aset] at hs
      split at hs
      · rename_i e; subst e; cases hs; exact ⟨hd', hvlt⟩
      · exact h.lt t s hs
    · simp only [St.put, look_aset] at hs
      simp only [Act.put]
      rw [getD_setIfInBounds (by rw [h.size]; exact hd')]
      split at hs
      · rename_i e; subst e; cases hs
        rw [if_pos rfl]; exact hvrel
      · rename_i e
        rw [if_neg e]
        exact Sl.Rel.on patch_out (hfree t s hs) (h.rel t s hs)

end Go.Sx
