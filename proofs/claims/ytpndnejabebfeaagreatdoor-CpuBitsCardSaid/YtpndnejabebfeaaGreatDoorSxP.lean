/- A part of the reckoning with symbols: states, terms and their meaning, used by the proofs of this seat. -/
import Derived.Test.YtpndnejabebfeaaGreatDoorSxO
/-! Regions in any order: the records of the operations and why their order is nothing to the outcome. -/
noncomputable section
namespace Go.Sx

structure Rec where
  i : Nat
  o : Oper
  bef : Nat
  wants : Bool
  v : Option Sl
  ups : List (Nat × Blk)
  lo : Nat
  hi : Nat
  hv : Heap
  fr : List (Nat × Sl)

def bit (m j : Nat) : Bool := Nat.beq (Nat.land (Nat.shiftRight m j) 1) 1

theorem bit_eq (m j : Nat) : bit m j = m.testBit j := by
  unfold bit Nat.testBit
  rw [show Nat.land (Nat.shiftRight m j) 1 = (m >>> j) &&& 1 from rfl, Nat.and_comm 1, Nat.and_one_is_mod]
  have : (m >>> j) % 2 = 0 ∨ (m >>> j) % 2 = 1 := by omega
  rcases this with h | h <;> rw [h] <;> rfl

theorem bit_or (m n j : Nat) : bit (Nat.lor m n) j = (bit m j || bit n j) := by
  rw [bit_eq, bit_eq, bit_eq, ← Nat.testBit_or]; rfl

theorem bit_one (i j : Nat) : bit (Nat.shiftLeft 1 i) j = Nat.beq i j := by
  rw [bit_eq, show Nat.shiftLeft 1 i = 2 ^ i from Nat.one_shiftLeft i]
  by_cases h : i = j
  · subst h; rw [Nat.testBit_two_pow_self, Nat.beq_refl]
  · rw [Nat.testBit_two_pow_of_ne h]
    cases hb : Nat.beq i j with
    | false => rfl
    | true => exact absurd (Nat.eq_of_beq_eq_true hb) h

theorem bit_zero (j : Nat) : bit 0 j = false := by rw [bit_eq]; simp

def InT (T : List Rec) (j : Nat) : Prop := ∃ s ∈ T, s.i = j

def Lin : List Rec → Prop
  | [] => True
  | r :: T => ¬ InT T r.i ∧ (∀ j, bit r.bef j = true → InT T j) ∧ Lin T

theorem Lin.bef : ∀ {T : List Rec}, Lin T → ∀ {s : Rec} {j : Nat}, s ∈ T → bit s.bef j = true → InT T j := by
  intro T
  induction T with
  | nil => intro _ s j h; cases h
  | cons r T ih =>
    intro h s j hs hb
    rcases List.mem_cons.1 hs with rfl | hs
    · obtain ⟨q, h1, h2⟩ := h.2.1 j hb; exact ⟨q, List.mem_cons_of_mem _ h1, h2⟩
    · obtain ⟨q, h1, h2⟩ := ih h.2.2 hs hb; exact ⟨q, List.mem_cons_of_mem _ h1, h2⟩

theorem Lin.uniq : ∀ {T : List Rec}, Lin T → ∀ {r s : Rec}, r ∈ T → s ∈ T → r.i = s.i → r = s := by
  intro T
  induction T with
  | nil => intro _ r s h; cases h
  | cons q T ih =>
    intro h r s hr hs e
    rcases List.mem_cons.1 hr with rfl | hr' <;> rcases List.mem_cons.1 hs with rfl | hs'
    · rfl
    · exact absurd ⟨s, hs', e.symm⟩ h.1
    · exact absurd ⟨r, hr', e⟩ h.1
    · exact ih h.2.2 hr' hs' e

/-! ### What stands at a place after many updates -/

section
variable {α : Type} (u : Rec → List (Nat × α)) (l0 : List (Nat × α))

def ap : List Rec → List (Nat × α)
  | [] => l0
  | r :: T => asets (u r) (ap T)

def Wr (k : Nat) (r : Rec) : Prop := ∃ x, look k (u r) = some x

theorem ap_last (k : Nat) : ∀ T : List Rec, Lin T → (look k (ap u l0 T) = look k l0 ∧ ∀ s ∈ T, ¬ Wr u k s) ∨
    ∃ r ∈ T, Wr u k r ∧ look k (ap u l0 T) = look k (u r) ∧ ∀ s ∈ T, Wr u k s → s ≠ r → bit s.bef r.i = false := by
  intro T
  induction T with
  | nil => intro _; exact .inl ⟨rfl, fun s h => by cases h⟩
  | cons r T ih =>
    intro h
    have hl := look_asets k (ap u l0 T) (u r)
    cases hk : look k (u r) with
    | some x =>
      refine .inr ⟨r, List.mem_cons_self .., ⟨x, hk⟩, ?_, ?_⟩
      · rw [hk]; exact hl.1 x hk
      · intro s hs _ hne
        have hs' : s ∈ T := (List.mem_cons.1 hs).resolve_left hne
        cases hb : bit s.bef r.i with
        | false => rfl
        | true => exact absurd (h.2.2.bef hs' hb) h.1
    | none =>
      have he : look k (ap u l0 (r :: T)) = look k (ap u l0 T) := hl.2 hk
      have hnr : ¬ Wr u k r := fun ⟨x, hx⟩ => by rw [hk] at hx; cases hx
      rcases ih h.2.2 with ⟨h1, h2⟩ | ⟨q, hq, hw, h1, h2⟩
      · exact .inl ⟨he.trans h1, fun s hs => by rcases List.mem_cons.1 hs with rfl | hs <;> first | exact hnr | exact h2 s hs⟩
      · refine .inr ⟨q, List.mem_cons_of_mem _ hq, hw, he.trans h1, fun s hs hws hne => ?_⟩
        rcases List.mem_cons.1 hs with rfl | hs
        · exact absurd hws hnr
        · exact h2 s hs hws hne

/-- Two orders of the same writers of a place. -/
theorem ap_same {k : Nat} {T T' : List Rec} (hT : Lin T) (hT' : Lin T') (hmem : ∀ r, Wr u k r → (r ∈ T ↔ r ∈ T'))
    (hcmp : ∀ r s, r ∈ T → s ∈ T → Wr u k r → Wr u k s → r ≠ s → bit r.bef s.i = true ∨ bit s.bef r.i = true) : look k (ap u l0 T) = look k (ap u l0 T') := by
  rcases ap_last u l0 k T hT with ⟨h1, h2⟩ | ⟨r, hr, hw, h1, h2⟩
  · rcases ap_last u l0 k T' hT' with ⟨g1, _⟩ | ⟨r', hr', hw', _, _⟩
    · rw [h1, g1]
    · exact absurd hw' (h2 r' ((hmem r' hw').2 hr'))
  · rcases ap_last u l0 k T' hT' with ⟨_, g2⟩ | ⟨r', hr', hw', g1, g2⟩
    · exact absurd hw (g2 r ((hmem r hw).1 hr))
    · by_cases e : r = r'
      · subst e; rw [h1, g1]
      · exfalso
        have hrT' := (hmem r hw).1 hr
        have hr'T := (hmem r' hw').2 hr'
        have a1 := h2 r' hr'T hw' (fun e' => e e'.symm)
        have a2 := g2 r hrT' hw e
        rcases hcmp r r' hr hr'T hw hw' e with h | h
        · rw [a2] at h; cases h
        · rw [a1] at h; cases h
end

/-! ### States out of records -/

def frUps (r : Rec) : List (Nat × Sl) :=
  match r.o.dst with
  | some d => [(d, r.v.getD (.sv (.sc .junk)))]
  | none => []

def appl (st : St) : List Rec → St
  | [] => st
  | r :: T => (appl st T).put r.o.dst r.v r.ups

theorem appl_hp (st : St) : ∀ T, (appl st T).hp = ap Rec.ups st.hp T
  | [] => rfl
  | r :: T => by simp only [appl, St.put, ap, appl_hp st T]

theorem appl_fr (st : St) : ∀ T, (appl st T).fr = ap frUps st.fr T
  | [] => rfl
  | r :: T => by
    simp only [appl, St.put, ap, appl_fr st T, frUps]
    cases r.o.dst <;> rfl

theorem appl_nb (st : St) : ∀ T, (appl st T).nb = st.nb
  | [] => rfl
  | r :: T => by simp only [appl, St.put, appl_nb st T]

theorem appl_nt (st : St) : ∀ T, (appl st T).nt = st.nt
  | [] => rfl
  | r :: T => by simp only [appl, St.put, appl_nt st T]

theorem appl_wr (st : St) (i : Nat) : ∀ T, i ∈ (appl st T).wr ↔ (i ∈ st.wr ∨ ∃ r ∈ T, i ∈ idsOf r.ups)
  | [] => by simp [appl]
  | r :: T => by
    simp only [appl, St.put, List.mem_append, appl_wr st i T, List.mem_cons, exists_eq_or_imp]
    constructor
    · rintro (h | h | h)
      · exact .inr (.inl h)
      · exact .inl h
      · exact .inr (.inr h)
    · rintro (h | h | h)
      · exact .inr (.inl h)
      · exact .inl h
      · exact .inr (.inr h)

/-! ### A region whose operations may run in any order -/

structure DrawOk (P : Program) (ops : Array Oper) (env : Env) (st : St) (nb0 : Nat) (R : List Rec) : Prop where
  lin : Lin R
  all : ∀ i, i < ops.size → InT R i
  op : ∀ r, r ∈ R → ops[r.i]? = some r.o
  bef : ∀ r, r ∈ R → ∀ j, bit r.bef j = true → ∃ e ∈ r.o.after, Region.binds .any e = true ∧ (e.on = j ∨ ∃ s ∈ R, s.i = e.on ∧ bit s.bef j = true)
  edge : ∀ r, r ∈ R → ∀ e ∈ r.o.after, Region.binds .any e = true → bit r.bef e.on = true
  nb : ∀ r, r ∈ R → nb0 ≤ r.lo ∧ r.hi ≤ st.nb
  ups : ∀ r, r ∈ R → upsLt r.lo r.hi r.ups = true ∧ (∀ s, r.v = some s → s.lt r.hi = true) ∧ ∀ d, r.o.dst = some d → d < st.nt
  ids : ∀ r s, r ∈ R → s ∈ R → r ≠ s → bit s.bef r.i = false →
    (∀ k b, look k s.ups = some b → outR r.lo r.hi k = true ∧ b.lay.all (outR r.lo r.hi) = true) ∧ ∀ x, s.v = some x → x.all (outR r.lo r.hi) = true
  frIds : ∀ t s, look t st.fr = some s → s.lt nb0 = true
  hpIds : HeapLt nb0 st.hp = true
  good : ∀ r, r ∈ R → ∀ T, Lin T → (∀ s ∈ T, s ∈ R) → (∀ j, bit r.bef j = true → InT T j) → ¬ InT T r.i → ∀ ρ a, FR env (appl st T) ρ a →
    Region.wanted r.o (yielded ops a.tmps) = r.wants ∧ (r.wants = false → r.v = none ∧ r.ups = []) ∧
    (r.wants = true → ∃ lk ev, (∀ k b, lk k = some b → look k (appl st T).hp = some b) ∧ (∀ x s, ev x = some s → s.Rel env ρ (a.eval x)) ∧ OpGood P env lk r.lo ev r.o ⟨r.v, r.ups, r.hi⟩)

def unl (R T : List Rec) : List Rec := R.filter fun r => !(T.any fun s => Nat.beq s.i r.i)

theorem any_InT {T : List Rec} {j : Nat} : (T.any fun s => Nat.beq s.i j) = true ↔ InT T j := by
  simp [InT, List.any_eq_true]

theorem filter_lt {α : Type} {p q : α → Bool} (hpq : ∀ x, q x = true → p x = true) : ∀ {l : List α} {x : α}, x ∈ l → p x = true → q x = false → (l.filter q).length < (l.filter p).length := by
  have le : ∀ l : List α, (l.filter q).length ≤ (l.filter p).length := by
    intro l
    induction l with
    | nil => exact Nat.le_refl _
    | cons a r ih =>
      simp only [List.filter_cons]
      cases hq : q a with
      | true => rw [hpq a hq]; simp; exact ih
      | false => cases hp : p a <;> simp <;> omega
  intro l
  induction l with
  | nil => intro x h; cases h
  | cons a r ih =>
    intro x hx hp hq
    simp only [List.filter_cons]
    rcases List.mem_cons.1 hx with rfl | hx
    · rw [hp, hq]; simp; have := le r; omega
    · have := ih hx hp hq
      cases hqa : q a with
      | true => rw [hpq a hqa]; simp; exact this
      | false => cases hpa : p a <;> simp <;> omega

section
variable {P : Program} {ops : Array Oper} {env : Env} {st : St} {nb0 : Nat} {R : List Rec}

theorem find_ready {T : List Rec} : ∀ {R' : List Rec}, Lin R' → (∀ s ∈ R', s ∈ R) → (∀ r ∈ R', InT T r.i) ∨ ∃ r ∈ R', ¬ InT T r.i ∧ ∀ j, bit r.bef j = true → InT T j := by
  intro R'
  induction R' with
  | nil => intro _ _; exact .inl fun r h => by cases h
  | cons r R' ih =>
    intro h hs
    rcases ih h.2.2 (fun s hs' => hs s (List.mem_cons_of_mem _ hs')) with h1 | ⟨q, h1, h2⟩
    · by_cases hr : InT T r.i
      · exact .inl fun s hs' => by rcases List.mem_cons.1 hs' with rfl | hs' <;> first | exact hr | exact h1 s hs'
      · exact .inr ⟨r, List.mem_cons_self .., hr, fun j hj => by obtain ⟨s, h3, h4⟩ := h.2.1 j hj; exact h4 ▸ h1 s h3⟩
    · exact .inr ⟨q, List.mem_cons_of_mem _ h1, h2⟩

theorem DrawOk.free (D : DrawOk P ops env st nb0 R) {T : List Rec} (hT : Lin T) (hTR : ∀ s ∈ T, s ∈ R) {r : Rec} (hr : r ∈ R) (hrT : ¬ InT T r.i) :
    (∀ i b, look i (appl st T).hp = some b → outR r.lo r.hi i = true ∧ b.lay.all (outR r.lo r.hi) = true) ∧ ∀ t s, look t (appl st T).fr = some s → s.all (outR r.lo r.hi) = true := by
  have hlo := (D.nb r hr).1
  have hout : ∀ s ∈ T, s ∈ R ∧ r ≠ s ∧ bit s.bef r.i = false := by
    intro s hs
    refine ⟨hTR s hs, fun e => hrT ⟨s, hs, by rw [e]⟩, ?_⟩
    cases hb : bit s.bef r.i with
    | false => rfl
    | true => exact absurd (hT.bef hs hb) hrT
  constructor
  · intro i b hb
    rw [appl_hp] at hb
    rcases ap_last Rec.ups st.hp i T hT with ⟨h1, _⟩ | ⟨s, hs, _, h1, _⟩
    · rw [h1] at hb
      have := HeapLt.at D.hpIds hb
      exact ⟨outR_iff.2 (.inl (by omega)), BL.lt_out hlo this.2⟩
    · rw [h1] at hb
      obtain ⟨g1, g2, g3⟩ := hout s hs
      exact (D.ids r s hr g1 g2 g3).1 i b hb
  · intro t x hx
    rw [appl_fr] at hx
    rcases ap_last frUps st.fr t T hT with ⟨h1, _⟩ | ⟨s, hs, _, h1, _⟩
    · rw [h1] at hx
      exact Sl.lt_out hlo (D.frIds t x hx)
    · rw [h1] at hx
      obtain ⟨g1, g2, g3⟩ := hout s hs
      unfold frUps at hx
      split at hx
      · simp only [look_nil, look_cons] at hx
        split at hx
        · cases hx
          cases hv : s.v with
          | none => rfl
          | some y => exact (D.ids r s hr g1 g2 g3).2 y hv
        · cases hx
      · cases hx

theorem draw_any (D : DrawOk P ops env st nb0 R) {B : Base} (hB : B.nb ≤ nb0) {Q : Exit → Act → World → Prop}
    (hQ : ∀ T ρ a w, Lin T → (∀ r, r ∈ T ↔ r ∈ R) → RR env B (appl st T) ρ w → FR env (appl st T) ρ a → Q .normal a w) :
    ∀ (fuel : Nat) (T : List Rec) (listed : Array Bool) (ρ : Rho) (a : Act) (w : World), (unl R T).length ≤ fuel → listed.size = ops.size → (∀ j, j < ops.size → (listed.getD j false = true ↔ InT T j)) →
      Lin T → (∀ s ∈ T, s ∈ R) → RR env B (appl st T) ρ w → FR env (appl st T) ρ a → wpAny P .any ops Q fuel listed a w := by
  have full : ∀ (T : List Rec) (ρ : Rho) (a : Act) (w : World), Lin T → (∀ s ∈ T, s ∈ R) → RR env B (appl st T) ρ w → FR env (appl st T) ρ a → (∀ r ∈ R, InT T r.i) → Q .normal a w := by
    intro T ρ a w hT hTR hRR hFR hall
    refine hQ T ρ a w hT (fun r => ⟨hTR r, fun hr => ?_⟩) hRR hFR
    obtain ⟨s, h1, h2⟩ := hall r hr
    rw [← D.lin.uniq (hTR s h1) hr h2]; exact h1
  have hlt : ∀ r ∈ R, r.i < ops.size := fun r hr => (Array.getElem?_eq_some_iff.1 (D.op r hr)).1
  have ready : ∀ (T : List Rec) (listed : Array Bool), listed.size = ops.size → (∀ j, j < ops.size → (listed.getD j false = true ↔ InT T j)) → ∀ r ∈ R, ¬ InT T r.i → (∀ j, bit r.bef j = true → InT T j) →
      r.i ∈ Region.ready .any ops listed := by
    intro T listed hsz hl r hr hn hb
    refine mem_ready.2 ⟨?_, r.o, D.op r hr, fun e he hbe => ?_⟩
    · have h1 : ¬ listed.getD r.i false = true := fun h => hn ((hl r.i (hlt r hr)).1 h)
      have h2 : r.i < listed.size := by rw [hsz]; exact hlt r hr
      simp [h2] at h1 ⊢
      exact h1
    · have h1 := D.edge r hr e he hbe
      have h2 := hb _ h1
      obtain ⟨s, h3, h4⟩ := D.lin.bef hr h1
      exact (hl e.on (h4 ▸ hlt s h3)).2 h2
  intro fuel
  induction fuel with
  | zero =>
    intro T listed ρ a w hf hsz hl hT hTR hRR hFR
    have hall : ∀ r ∈ R, InT T r.i := by
      intro r hr
      have h0 : unl R T = [] := List.length_eq_zero_iff.1 (by omega)
      have h1 := List.filter_eq_nil_iff.1 h0 r hr
      simp only [Bool.not_eq_true, Bool.not_eq_false'] at h1
      exact any_InT.1 h1
    refine ⟨?_, full T ρ a w hT hTR hRR hFR hall⟩
    refine List.eq_nil_iff_forall_not_mem.2 fun i hi => ?_
    obtain ⟨h1, o, h2, _⟩ := mem_ready.1 hi
    have hi' : i < ops.size := (Array.getElem?_eq_some_iff.1 h2).1
    obtain ⟨r, h3, rfl⟩ := D.all i hi'
    have h4 := (hl _ hi').2 (hall r h3)
    have h5 : r.i < listed.size := by rw [hsz]; exact hi'
    simp [h5] at h1 h4
    rw [h1] at h4; cases h4
  | succ fuel ih =>
    intro T listed ρ a w hf hsz hl hT hTR hRR hFR
    refine ⟨fun hnil => ?_, fun i hi => ?_⟩
    · rcases find_ready (T := T) D.lin (fun s hs => hs) with h | ⟨r, hr, hn, hb⟩
      · exact full T ρ a w hT hTR hRR hFR h
      · have := ready T listed hsz hl r hr hn hb
        rw [hnil] at this; cases this
    · obtain ⟨h1, o, h2, h3⟩ := mem_ready.1 hi
      have hi' : i < ops.size := (Array.getElem?_eq_some_iff.1 h2).1
      obtain ⟨r, hr, rfl⟩ := D.all i hi'
      have ho := D.op r hr
      rw [ho] at h2
      cases h2
      have h5 : r.i < listed.size := by rw [hsz]; exact hi'
      have hn : ¬ InT T r.i := by
        rw [← hl r.i hi']
        simp [h5] at h1 ⊢
        exact h1
      have hbT : ∀ j, bit r.bef j = true → InT T j := by
        intro j hj
        obtain ⟨e, he, hbe, hc⟩ := D.bef r hr j hj
        have hel := h3 e he hbe
        have hlt' : e.on < ops.size := by
          obtain ⟨s, h6, h7⟩ := D.lin.bef hr (D.edge r hr e he hbe)
          exact h7 ▸ hlt s h6
        have hin := (hl e.on hlt').1 hel
        rcases hc with rfl | ⟨s, h6, h7, h8⟩
        · exact hin
        · obtain ⟨q, h9, h10⟩ := hin
          have : q = s := D.lin.uniq (hTR q h9) h6 (by omega)
          exact hT.bef h9 (this ▸ h8)
      have hfree := D.free hT hTR hr hn
      obtain ⟨hw, hno, hyes⟩ := D.good r hr T hT hTR hbT hn ρ a hFR
      have hnbr := D.nb r hr
      obtain ⟨hu1, hu2, hu3⟩ := D.ups r hr
      have next : ∀ (ρ' : Rho) (lk : Lk) (u : Value) (w' : World), (∀ k b, lk k = some b → look k (appl st T).hp = some b) → Step env lk r.lo ρ ρ' w w' r.ups → (∀ s, r.v = some s → s.Rel env ρ' u) →
          wpAny P .any ops Q fuel (listed.setIfInBounds r.i true) (a.put r.o.dst u) w' := by
        intro ρ' lk u w' hlk hstep hrel
        refine ih (r :: T) _ (patch r.lo r.hi ρ ρ') _ _ ?_ (by simpa using hsz) ?_ ⟨hn, hbT, hT⟩ ?_ ?_ ?_
        · have := filter_lt (p := fun q : Rec => !(T.any fun s => Nat.beq s.i q.i)) (q := fun q : Rec => !((r :: T).any fun s => Nat.beq s.i q.i)) (by intro x hx; simp only [List.any_cons, Bool.not_or, Bool.and_eq_true] at hx; exact hx.2) hr
            (by simp only [Bool.not_eq_true']; cases hc : (T.any fun s => Nat.beq s.i r.i) with | false => rfl | true => exact absurd (any_InT.1 hc) hn) (by simp)
          unfold unl at hf ⊢
          omega
        · intro j hj
          by_cases e : r.i = j
          · subst e
            have : r.i < listed.size := h5
            simp [this, InT]
          · rw [getD_set_ne false e, hl j hj]
            constructor
            · rintro ⟨s, a1, a2⟩; exact ⟨s, List.mem_cons_of_mem _ a1, a2⟩
            · rintro ⟨s, a1, a2⟩
              rcases List.mem_cons.1 a1 with rfl | a1
              · exact absurd a2 e
              · exact ⟨s, a1, a2⟩
        · intro s hs
          rcases List.mem_cons.1 hs with rfl | hs
          · exact hr
          · exact hTR s hs
        · exact hRR.stepAny hlk hstep (by omega) hu1 (by rw [appl_nb]; exact hnbr.2) hfree.1 r.o.dst r.v
        · exact hFR.stepAny hstep.rho r.ups (by rw [appl_nt]; exact hu3) hu2 (by rw [appl_nb]; exact hnbr.2) hfree.2 hrel
      unfold wpOp
      rw [ho]
      dsimp only
      cases hwt : r.wants with
      | false =>
        rw [hwt] at hw
        rw [hw]
        obtain ⟨e1, e2⟩ := hno hwt
        simp only [Bool.false_eq_true, if_false]
        refine next ρ (fun _ => none) undef w (fun k b h => by cases h) ?_ (fun s hs => by rw [e1] at hs; cases hs)
        rw [e2]; exact Step.same
      | true =>
        rw [hwt] at hw
        rw [hw]
        simp only [if_true]
        obtain ⟨lk, ev, g1, g2, g3⟩ := hyes hwt
        refine .inl (g3 ρ w a g2 (fun k b hb => hRR.heap k b (g1 k b hb)) (fun k b j c hb hc => hRR.sep k b j c (g1 k b hb) (g1 j c hc)) _ _ ?_)
        intro ρ' v w' hstep hrel
        exact next ρ' lk v w' g1 hstep hrel
end

end Go.Sx
