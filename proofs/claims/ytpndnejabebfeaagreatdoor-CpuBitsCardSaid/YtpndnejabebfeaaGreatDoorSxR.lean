/- A part of the reckoning with symbols: states, terms and their meaning, used by the proofs of this seat. -/
import Derived.Test.YtpndnejabebfeaaGreatDoorSxQ
/-! Records gone over in the order of the text make a region that may run in any order. -/
noncomputable section
namespace Go.Sx

section
variable {P : Program} {tab : Tab} {ops : Array Oper} {env : Env} {st0 : St}

structure RecGood (P : Program) (ops : Array Oper) (env : Env) (st0 : St) (r : Rec) (T : List Rec) : Prop where
  idx : r.i = T.length
  op : ops[r.i]? = some r.o
  bef : r.bef = befOf T r.o.after.toList
  befLt : ∀ j, bit r.bef j = true → j < r.i
  lo : st0.nb ≤ r.lo ∧ r.lo ≤ r.hi ∧ ∀ s ∈ T, s.hi ≤ r.lo
  ups : upsLt r.lo r.hi r.ups = true ∧ (∀ s, r.v = some s → s.lt r.hi = true) ∧ ∀ d, r.o.dst = some d → d < st0.nt
  fr : r.fr = (appl st0 T).fr
  hv : ∀ k b, look k r.hv = some b → look k (appl st0 T).hp = some b
  guard : (r.o.guard = none ∧ r.wants = true) ∨ ∃ j want g t e b, r.o.guard = some (j, want) ∧ ops[j]? = some g ∧ g.dst = some t ∧ look t r.fr = some (.sv (.sc (.bool e))) ∧ b = decide ((den env e).i ≠ 0) ∧ r.wants = (b == want)
  no : r.wants = false → r.v = none ∧ r.ups = []
  yes : r.wants = true → OpGood P env (fun i => look i r.hv) r.lo (evR ops r.o r.fr) r.o ⟨r.v, r.ups, r.hi⟩

def TextR (P : Program) (ops : Array Oper) (env : Env) (st0 : St) : List Rec → Prop
  | [] => True
  | r :: T => RecGood P ops env st0 r T ∧ TextR P ops env st0 T

theorem TextR.inT : ∀ {R : List Rec}, TextR P ops env st0 R → ∀ j, InT R j ↔ j < R.length := by
  intro R
  induction R with
  | nil => intro _ j; simp [InT]
  | cons r T ih =>
    intro h j
    have := ih h.2 j
    simp only [InT, List.mem_cons, List.length_cons] at *
    constructor
    · rintro ⟨s, rfl | hs, e⟩
      · have := h.1.idx; omega
      · have := this.1 ⟨s, hs, e⟩; omega
    · intro hj
      by_cases e : j = T.length
      · exact ⟨r, .inl rfl, by rw [h.1.idx, e]⟩
      · obtain ⟨s, hs, e'⟩ := this.2 (by omega)
        exact ⟨s, .inr hs, e'⟩

theorem TextR.lin : ∀ {R : List Rec}, TextR P ops env st0 R → Lin R := by
  intro R
  induction R with
  | nil => intro _; trivial
  | cons r T ih =>
    intro h
    refine ⟨fun hc => ?_, fun j hj => ?_, ih h.2⟩
    · have := (h.2.inT _).1 hc
      have := h.1.idx
      omega
    · refine (h.2.inT _).2 ?_
      have := h.1.befLt j hj
      have := h.1.idx
      omega

theorem TextR.heapLt {R : List Rec} (h : TextR P ops env st0 R) {n : Nat} (h0 : HeapLt st0.nb st0.hp = true) (hn : ∀ s ∈ R, s.hi ≤ n) (hn0 : st0.nb ≤ n) : HeapLt n (appl st0 R).hp = true := by
  induction R generalizing n with
  | nil => exact heapLt_mono hn0 h0
  | cons r T ih =>
    have h1 := ih (n := r.hi) h.2 (fun s hs => Nat.le_trans (h.1.lo.2.2 s hs) h.1.lo.2.1) (Nat.le_trans h.1.lo.1 h.1.lo.2.1)
    exact heapLt_mono (hn r (List.mem_cons_self ..)) (heapLt_asets h1 h.1.ups.1)

theorem recIn_mem {j : Nat} : ∀ {T : List Rec} {s : Rec}, recIn j T = some s → s ∈ T ∧ s.i = j := by
  intro T
  induction T with
  | nil => intro s h; cases h
  | cons r T ih =>
    intro s h
    simp only [recIn, Nat.beq_eq] at h
    split at h
    · rename_i e; cases h; exact ⟨List.mem_cons_self .., e⟩
    · obtain ⟨h1, h2⟩ := ih h; exact ⟨List.mem_cons_of_mem _ h1, h2⟩

theorem befOf_bit {T : List Rec} {j : Nat} : ∀ {l : List Edge}, bit (befOf T l) j = true → ∃ e ∈ l, Region.binds .any e = true ∧ (e.on = j ∨ ∃ s ∈ T, s.i = e.on ∧ bit s.bef j = true) := by
  intro l
  induction l with
  | nil => intro h; simp only [befOf, bit_zero] at h; cases h
  | cons e r ih =>
    intro h
    simp only [befOf] at h
    split at h
    · rename_i hb
      simp only [bit_or, Bool.or_eq_true, bit_one, Nat.beq_eq] at h
      rcases h with (h | h) | h
      · exact ⟨e, List.mem_cons_self .., hb, .inl h⟩
      · split at h
        · rename_i s hs
          obtain ⟨h1, h2⟩ := recIn_mem hs
          exact ⟨e, List.mem_cons_self .., hb, .inr ⟨s, h1, h2, h⟩⟩
        · simp only [bit_zero] at h; cases h
      · obtain ⟨e', h1, h2⟩ := ih h
        exact ⟨e', List.mem_cons_of_mem _ h1, h2⟩
    · obtain ⟨e', h1, h2⟩ := ih h
      exact ⟨e', List.mem_cons_of_mem _ h1, h2⟩

theorem befOf_edge {T : List Rec} : ∀ {l : List Edge} {e : Edge}, e ∈ l → Region.binds .any e = true → bit (befOf T l) e.on = true := by
  intro l
  induction l with
  | nil => intro e h; cases h
  | cons d r ih =>
    intro e he hb
    simp only [befOf]
    rcases List.mem_cons.1 he with rfl | he
    · rw [if_pos hb, bit_or, bit_or, bit_one, Nat.beq_refl]; rfl
    · split
      · rw [bit_or, ih he hb, Bool.or_true]
      · exact ih he hb

/-- What the pairs tell of one record. -/
theorem pairs_at {fs : List Fact} {hp0 : Heap} {R : List Rec} : ∀ {S : List Rec}, TextR P ops env st0 S → pairs tab ops fs hp0 R S = true → ∀ r ∈ S, ∃ T', RecGood P ops env st0 r T' ∧ TextR P ops env st0 T' ∧ (∀ s ∈ T', s ∈ S) ∧
    (∀ s ∈ T', bit r.bef s.i = true ∨ pairOk tab ops fs hp0 R r s = true) ∧ ∀ s ∈ S, s = r ∨ s ∈ T' ∨ ((bit s.bef r.i = true ∨ pairOk tab ops fs hp0 R s r = true) ∧ r.hi ≤ s.lo) := by
  have pw : ∀ {r : Rec} {T : List Rec}, pairsWith tab ops fs hp0 R r T = true → ∀ s ∈ T, bit r.bef s.i = true ∨ pairOk tab ops fs hp0 R r s = true := by
    intro r T
    induction T with
    | nil => intro _ s h; cases h
    | cons q T ih =>
      intro h s hs
      simp only [pairsWith, Bool.and_eq_true, Bool.or_eq_true] at h
      rcases List.mem_cons.1 hs with rfl | hs
      · exact h.1
      · exact ih h.2 s hs
  intro S
  induction S with
  | nil => intro _ _ r h; cases h
  | cons q S ih =>
    intro hT hp r hr
    simp only [pairs, Bool.and_eq_true] at hp
    rcases List.mem_cons.1 hr with rfl | hr0
    · refine ⟨S, hT.1, hT.2, fun s hs => List.mem_cons_of_mem _ hs, pw hp.1, fun s hs => ?_⟩
      rcases List.mem_cons.1 hs with rfl | hs
      · exact .inl rfl
      · exact .inr (.inl hs)
    · obtain ⟨T', h1, h2, h3, h4, h5⟩ := ih hT.2 hp.2 r hr0
      refine ⟨T', h1, h2, fun s hs => List.mem_cons_of_mem _ (h3 s hs), h4, fun s hs => ?_⟩
      rcases List.mem_cons.1 hs with rfl | hs
      · exact .inr (.inr ⟨pw hp.1 r hr0, hT.1.lo.2.2 r hr0⟩)
      · exact h5 s hs

theorem disj_at {a l : List Nat} (h : disj a l = true) {k : Nat} (hk : k ∈ l) : k ∉ a := by
  induction l with
  | nil => cases hk
  | cons x r ih =>
    simp only [disj, Bool.and_eq_true, Bool.not_eq_true'] at h
    rcases List.mem_cons.1 hk with rfl | hk
    · intro hc; rw [memN_iff.2 hc] at h; cases h.1
    · exact ih h.2 hk

theorem upsAll_at {p : Nat → Bool} : ∀ {u : List (Nat × Blk)} {k : Nat} {b : Blk}, upsAll p u = true → look k u = some b → p k = true ∧ b.lay.all p = true := by
  intro u
  induction u with
  | nil => intro k b _ h; cases h
  | cons q r ih =>
    intro k b h hb
    obtain ⟨j, x⟩ := q
    simp only [upsAll, Bool.and_eq_true] at h
    simp only [look_cons, Nat.beq_eq] at hb
    split at hb
    · rename_i e; subst e; cases hb; exact h.1
    · exact ih h.2 hb

theorem wr_frUps {t : Nat} {r : Rec} : Wr frUps t r ↔ r.o.dst = some t := by
  unfold Wr frUps
  cases r.o.dst with
  | none => simp [look_nil]
  | some d =>
    simp only [look_nil, look_cons, Nat.beq_eq]
    constructor
    · rintro ⟨x, hx⟩
      split at hx
      · rename_i e; rw [e]
      · cases hx
    · intro e; cases e; exact ⟨_, if_pos rfl⟩

theorem wr_ups {k : Nat} {r : Rec} : Wr Rec.ups k r ↔ k ∈ idsOf r.ups :=
  ⟨fun ⟨_, h⟩ => look_idsOf h, fun h => idsOf_look h⟩

theorem dstIn_iff {d : Option Tmp} {l : List Tmp} : dstIn d l = true ↔ ∃ t, d = some t ∧ t ∈ l := by
  cases d with
  | none => simp [dstIn]
  | some t => simp [dstIn, memN_iff]

theorem dstNe_at {d e : Option Tmp} (h : dstNe d e = true) {t : Tmp} (hd : d = some t) : e ≠ some t := by
  subst hd
  cases e with
  | none => simp
  | some u =>
    simp only [dstNe, Bool.not_eq_true'] at h
    intro he
    cases he
    rw [Nat.beq_refl] at h; cases h

structure PairFacts (tab : Tab) (ops : Array Oper) (fs : List Fact) (hp0 : Heap) (R : List Rec) (r s : Rec) : Prop where
  dst : ∀ t, r.o.dst = some t → s.o.dst = some t → False
  rd1 : ∀ t, r.o.dst = some t → t ∉ s.o.looksAt ops
  rd2 : ∀ t, s.o.dst = some t → t ∉ r.o.looksAt ops
  ups : ∀ k, k ∈ idsOf r.ups → k ∈ idsOf s.ups → False
  hv1 : loose tab ops fs hp0 R s = true ∨ ∀ k, k ∈ idsOf r.ups → k ∉ idsOf s.hv
  hv2 : loose tab ops fs hp0 R r = true ∨ ∀ k, k ∈ idsOf s.ups → k ∉ idsOf r.hv
  ids : s.lo = s.hi ∨ (upsAll (outR s.lo s.hi) r.ups = true ∧ optAll (outR s.lo s.hi) r.v = true)

theorem pairOk_facts {fs : List Fact} {hp0 : Heap} {R : List Rec} {r s : Rec} (h : pairOk tab ops fs hp0 R r s = true) : PairFacts tab ops fs hp0 R r s := by
  simp only [pairOk, Bool.and_eq_true, Bool.or_eq_true, Bool.not_eq_true', Nat.beq_eq] at h
  obtain ⟨⟨⟨⟨⟨⟨h1, h2⟩, h3⟩, h4⟩, h5⟩, h6⟩, h7⟩ := h
  constructor
  · intro t ht hs; exact dstNe_at h1 ht hs
  · intro t ht hm; rw [dstIn_iff.2 ⟨t, ht, hm⟩] at h2; cases h2
  · intro t ht hm; rw [dstIn_iff.2 ⟨t, ht, hm⟩] at h3; cases h3
  · intro k hk hs; exact disj_at h4 hs hk
  · exact h5.symm.imp id fun h k hk => disj_at h hk
  · exact h6.symm.imp id fun h k hk => disj_at h hk
  · exact h7

theorem evR_rel {r : Rec} {ρ : Rho} {a : Act} {st : St} (hF : FR env st ρ a) (h : ∀ t, t ∈ r.o.looksAt ops → look t st.fr = look t r.fr) : ∀ x s, evR ops r.o r.fr x = some s → s.Rel env ρ (a.eval x) := by
  intro x s hx
  cases x with
  | tmp t =>
    simp only [evR] at hx
    split at hx
    · rename_i hm
      rw [← h t (memN_iff.1 hm)] at hx
      exact hF.rel t s hx
    · cases hx
  | const v => cases hx; exact conSV_rel env ρ v
  | func f => cases hx; exact ⟨#[], #[], rfl, trivial, trivial⟩
  | global g => cases hx

theorem sameAt_good (hT : TabOk P tab) {fs : List Fact} (hs : Sat env fs) {r : Rec} {k : Nat} {b : Blk} (h : sameAt tab ops fs r k b = true) (hu : r.ups = []) :
    OpGood P env (fun i => look i [(k, b)]) r.lo (evR ops r.o r.fr) r.o ⟨r.v, r.ups, r.hi⟩ := by
  unfold sameAt at h
  split at h
  · rename_i s n t he hv
    simp only [Bool.and_eq_true, Nat.beq_eq] at h
    have := opEval_sound hT hs he
    rw [hv, hu, ← SV.beq_eq h.1, ← h.2]
    exact this
  · cases h

theorem drawOk_of (hT : TabOk P tab) {fs : List Fact} (hs : Sat env fs) {R : List Rec} (hR : TextR P ops env st0 R) (hlen : R.length = ops.size) (hp : pairs tab ops fs st0.hp R R = true) {N : Nat} (hN : ∀ r ∈ R, r.hi ≤ N)
    (hfr : ∀ t s, look t st0.fr = some s → s.lt st0.nb = true) (hhp : HeapLt st0.nb st0.hp = true) : DrawOk P ops env { st0 with nb := N } st0.nb R := by
  have tri := fun r hr => pairs_at hR hp r hr
  have afr : ∀ T, (appl { st0 with nb := N } T).fr = ap frUps st0.fr T := fun T => appl_fr _ T
  have ahp : ∀ T, (appl { st0 with nb := N } T).hp = ap Rec.ups st0.hp T := fun T => appl_hp _ T
  have hlin := hR.lin
  have hcmp : ∀ r s, r ∈ R → s ∈ R → r ≠ s → (bit r.bef s.i = true ∨ bit s.bef r.i = true) ∨ PairFacts tab ops fs st0.hp R r s ∨ PairFacts tab ops fs st0.hp R s r := by
    intro r s hr hs' hne
    obtain ⟨T', _, _, _, h4, h5⟩ := tri r hr
    rcases h5 s hs' with h | h | ⟨h, _⟩
    · exact absurd h.symm hne
    · rcases h4 s h with h | h
      · exact .inl (.inl h)
      · exact .inr (.inl (pairOk_facts h))
    · rcases h with h | h
      · exact .inl (.inr h)
      · exact .inr (.inr (pairOk_facts h))
  have pf : ∀ r s, r ∈ R → s ∈ R → r ≠ s → bit r.bef s.i = true ∨ bit s.bef r.i = true ∨ ((∀ t, s.o.dst = some t → t ∉ r.o.looksAt ops) ∧ (loose tab ops fs st0.hp R r = true ∨ ∀ k, k ∈ idsOf s.ups → k ∉ idsOf r.hv)) := by
    intro r s hr hs' hne
    rcases hcmp r s hr hs' hne with (h | h) | h | h
    · exact .inl h
    · exact .inr (.inl h)
    · exact .inr (.inr ⟨h.rd2, h.hv2⟩)
    · exact .inr (.inr ⟨h.rd1, h.hv1⟩)
  constructor
  · exact hlin
  · intro i hi; exact (hR.inT i).2 (by omega)
  · intro r hr; obtain ⟨T', h1, _⟩ := tri r hr; exact h1.op
  · intro r hr j hj
    obtain ⟨T', h1, h2, h3, _⟩ := tri r hr
    rw [h1.bef] at hj
    obtain ⟨e, g1, g2, g3⟩ := befOf_bit hj
    exact ⟨e, by simpa using g1, g2, g3.imp id fun ⟨s, g4, g5⟩ => ⟨s, h3 s g4, g5⟩⟩
  · intro r hr e he hb
    obtain ⟨T', h1, _⟩ := tri r hr
    rw [h1.bef]
    exact befOf_edge (by simpa using he) hb
  · intro r hr; obtain ⟨T', h1, _⟩ := tri r hr; exact ⟨h1.lo.1, hN r hr⟩
  · intro r hr; obtain ⟨T', h1, _⟩ := tri r hr; exact h1.ups
  · intro r s hr hs' hne hbit
    obtain ⟨T', h1, h2, h3, h4, h5⟩ := tri r hr
    obtain ⟨Ts, g1, _⟩ := tri s hs'
    rcases h5 s hs' with h | h | ⟨h, _⟩
    · exact absurd h.symm hne
    · have hle := h1.lo.2.2 s h
      refine ⟨fun k b hk => ?_, fun x hx => Sl.lt_out hle (g1.ups.2.1 x hx)⟩
      have := upsLt_at g1.ups.1 hk
      exact ⟨outR_iff.2 (.inl (by omega)), BL.lt_out hle this.2⟩
    · rcases h with h | h
      · rw [hbit] at h; cases h
      · rcases (pairOk_facts h).ids with h | ⟨h6, h7⟩
        · have triv : ∀ i, outR r.lo r.hi i = true := fun i => outR_iff.2 (by omega)
          have all1 : ∀ n : Nat, ∀ x : Sl, x.lt n = true → x.all (outR r.lo r.hi) = true := by
            intro n x hx
            have : outR r.lo r.hi = outR n n := by funext i; rw [show outR r.lo r.hi i = true from triv i]; exact (outR_iff.2 (by omega)).symm
            rw [this]; exact Sl.lt_out (Nat.le_refl _) hx
          have all2 : ∀ n : Nat, ∀ x : BL, x.lt n = true → x.all (outR r.lo r.hi) = true := by
            intro n x hx
            have : outR r.lo r.hi = outR n n := by funext i; rw [show outR r.lo r.hi i = true from triv i]; exact (outR_iff.2 (by omega)).symm
            rw [this]; exact BL.lt_out (Nat.le_refl _) hx
          exact ⟨fun k b hk => ⟨triv k, all2 _ _ (upsLt_at g1.ups.1 hk).2⟩, fun x hx => all1 _ _ (g1.ups.2.1 x hx)⟩
        · refine ⟨fun k b hk => upsAll_at h6 hk, fun x hx => ?_⟩
          rw [hx] at h7; exact h7
  · exact hfr
  · exact hhp
  · intro r hr T hTl hTR hbT hn ρ a hF
    obtain ⟨T', h1, h2, h3, h4, h5⟩ := tri r hr
    have hT'l := h2.lin
    -- who is in T and who before r in the text
    have key : ∀ s ∈ R, s ≠ r → (s ∈ T → s ∈ T' ∨ (bit s.bef r.i = false ∧ bit r.bef s.i = false)) ∧ (s ∈ T' → s ∈ T ∨ (bit s.bef r.i = false ∧ bit r.bef s.i = false)) := by
      intro s hsR hne
      constructor
      · intro hsT
        rcases h5 s hsR with h | h | ⟨h, _⟩
        · exact absurd h hne
        · exact .inl h
        · have hb : bit s.bef r.i = false := by
            cases hc : bit s.bef r.i with
            | false => rfl
            | true => exact absurd (hTl.bef hsT hc) hn
          have hb2 : bit r.bef s.i = true → s ∈ T' := by
            intro hc
            have hlt := h1.befLt _ hc
            obtain ⟨q, hq, hqi⟩ := (h2.inT s.i).2 (by have := h1.idx; omega)
            rw [← hlin.uniq (h3 q hq) hsR hqi]; exact hq
          cases hc : bit r.bef s.i with
          | true => exact .inl (hb2 hc)
          | false => exact .inr ⟨hb, rfl⟩
      · intro hsT'
        cases hc : bit r.bef s.i with
        | true =>
          obtain ⟨q, hq, hqi⟩ := hbT _ hc
          rw [← hlin.uniq (hTR q hq) hsR hqi]; exact .inl hq
        | false =>
          refine .inr ⟨?_, rfl⟩
          cases hc' : bit s.bef r.i with
          | false => rfl
          | true =>
            have := (h2.inT _).1 (hT'l.bef hsT' hc')
            have := h1.idx
            omega
    have hmem : ∀ s, (∀ q, q ∈ T → q ∈ R) → ∀ (W : Rec → Prop), (∀ q ∈ R, q ≠ r → W q → bit q.bef r.i = true ∨ bit r.bef q.i = true) → W s → (s ∈ T ↔ s ∈ T') := by
      intro s hq W hW hws
      constructor
      · intro hsT
        have hsR := hTR s hsT
        have hne : s ≠ r := fun e => hn ⟨s, hsT, by rw [e]⟩
        rcases (key s hsR hne).1 hsT with h | ⟨h6, h7⟩
        · exact h
        · rcases hW s hsR hne hws with h | h
          · rw [h6] at h; cases h
          · rw [h7] at h; cases h
      · intro hsT'
        have hsR := h3 s hsT'
        have hne : s ≠ r := fun e => by
          have := (h2.inT s.i).1 ⟨s, hsT', rfl⟩
          have := h1.idx
          subst e; omega
        rcases (key s hsR hne).2 hsT' with h | ⟨h6, h7⟩
        · exact h
        · rcases hW s hsR hne hws with h | h
          · rw [h6] at h; cases h
          · rw [h7] at h; cases h
    have rds : ∀ t, t ∈ r.o.looksAt ops → look t (appl { st0 with nb := N } T).fr = look t r.fr := by
      intro t ht
      rw [h1.fr, afr, appl_fr]
      refine ap_same frUps st0.fr hTl hT'l (fun s hw => hmem s hTR (Wr frUps t) ?_ hw) ?_
      · intro q hq hne hw
        rcases pf r q hr hq (fun e => hne e.symm) with h | h | ⟨h, _⟩
        · exact .inr h
        · exact .inl h
        · exact absurd ht (h t (wr_frUps.1 hw))
      · intro x y hx hy hwx hwy hne
        rcases hcmp x y (hTR x hx) (hTR y hy) hne with h | h | h
        · exact h
        · exact (h.dst t (wr_frUps.1 hwx) (wr_frUps.1 hwy)).elim
        · exact (h.dst t (wr_frUps.1 hwy) (wr_frUps.1 hwx)).elim
    refine ⟨?_, h1.no, fun hw => ?_⟩
    · rcases h1.guard with ⟨g1, g2⟩ | ⟨j, want, g, t, e, b, g1, g2, g3, g4, g5, g6⟩
      · rw [g2]; unfold Region.wanted; rw [g1]
      · have ht : t ∈ r.o.looksAt ops := by
          unfold Oper.looksAt
          rw [g1]
          simp [g2, g3]
        have hl := rds t ht
        rw [g4] at hl
        have hrel := hF.rel t _ hl
        have htlt := (hF.lt t _ hl).1
        have hv : a.tmps.getD t undef = .bool (decide ((den env e).i ≠ 0)) := hrel
        have hget : a.tmps[t]? = some (.bool (decide ((den env e).i ≠ 0))) := by
          have hlt : t < a.tmps.size := by rw [hF.size]; exact htlt
          rw [Array.getElem?_eq_getElem hlt]
          rw [Array.getD_eq_getD_getElem?, Array.getElem?_eq_getElem hlt] at hv
          exact congrArg some hv
        unfold Region.wanted
        rw [g1]
        have hy : yielded ops a.tmps j = some b := by
          unfold yielded
          rw [g2]
          simp only [Option.bind_some, g3, hget, g5]
        show (yielded ops a.tmps j == some want) = r.wants
        rw [hy, g6]
        cases b <;> cases want <;> rfl
    · by_cases hl : loose tab ops fs st0.hp R r = true
      · unfold loose at hl
        split at hl
        · rename_i k b hhv hups
          simp only [Bool.and_eq_true] at hl
          obtain ⟨hl1, hl2⟩ := hl
          have fin : ∀ c, look k (appl { st0 with nb := N } T).hp = some c → sameAt tab ops fs r k c = true → ∃ lk ev, (∀ k b, lk k = some b → look k (appl { st0 with nb := N } T).hp = some b) ∧ (∀ x s, ev x = some s → s.Rel env ρ (a.eval x)) ∧ OpGood P env lk r.lo ev r.o ⟨r.v, r.ups, r.hi⟩ := by
            intro c hc hsame
            refine ⟨fun i => look i [(k, c)], evR ops r.o r.fr, ?_, evR_rel hF rds, sameAt_good hT hs hsame hups⟩
            intro i d hd
            simp only [look_nil, look_cons, Nat.beq_eq] at hd
            split at hd
            · rename_i e; subst e; cases hd; exact hc
            · cases hd
          rcases ap_last Rec.ups st0.hp k T hTl with ⟨g1, _⟩ | ⟨s, hsT, ⟨c, hc⟩, g1, _⟩
          · split at hl1
            · rename_i c hc
              exact fin c (by rw [ahp, g1, hc]) hl1
            · cases hl1
          · refine fin c (by rw [ahp, g1, hc]) ?_
            have hall : ∀ {S : List Rec}, sameAll tab ops fs r k S = true → ∀ q ∈ S, bit q.bef r.i = true ∨ ∀ d, look k q.ups = some d → sameAt tab ops fs r k d = true := by
              intro S
              induction S with
              | nil => intro _ q hq; cases hq
              | cons x S ih =>
                intro hS q hq
                simp only [sameAll, Bool.and_eq_true, Bool.or_eq_true] at hS
                rcases List.mem_cons.1 hq with rfl | hq
                · refine hS.1.imp id fun h d hd => ?_
                  rw [hd] at h; exact h
                · exact ih hS.2 q hq
            rcases hall hl2 s (hTR s hsT) with h | h
            · exact absurd (hTl.bef hsT h) hn
            · exact h c hc
        · cases hl
      · refine ⟨fun i => look i r.hv, evR ops r.o r.fr, fun k b hb => ?_, evR_rel hF rds, h1.yes hw⟩
        have hb' := h1.hv k b hb
        rw [appl_hp] at hb'
        rw [ahp, ← hb']
        refine ap_same Rec.ups st0.hp hTl hT'l (fun s hws => hmem s hTR (Wr Rec.ups k) ?_ hws) ?_
        · intro q hq hne hws
          rcases pf r q hr hq (fun e => hne e.symm) with h | h | ⟨_, h⟩
          · exact .inr h
          · exact .inl h
          · rcases h with h | h
            · exact absurd h hl
            · exact absurd (look_idsOf hb) (h k (wr_ups.1 hws))
        · intro x y hx hy hwx hwy hne
          rcases hcmp x y (hTR x hx) (hTR y hy) hne with h | h | h
          · exact h
          · exact (h.ups k (wr_ups.1 hwx) (wr_ups.1 hwy)).elim
          · exact (h.ups k (wr_ups.1 hwy) (wr_ups.1 hwx)).elim

/-! ### The whole region -/

theorem RR.look {B : Base} {stA stB : St} {ρ : Rho} {w : World} (h : RR env B stA ρ w) (hl : ∀ i, look i stB.hp = look i stA.hp) (hnb : stB.nb = stA.nb) (hlt : HeapLt stB.nb stB.hp = true) (hwr : ∀ i, i ∈ stB.wr ↔ i ∈ stA.wr) : RR env B stB ρ w := by
  constructor
  · exact h.rho
  · rw [hnb]; exact h.nb
  · intro i b hb; dsimp only at hb; rw [hl] at hb; exact h.heap i b hb
  · intro i b j c hb hc; dsimp only at hb hc; rw [hl] at hb hc; exact h.sep i b j c hb hc
  · exact hlt
  · intro i b hb; rw [hl] at hb; exact h.old i b hb
  · intro i b hb; rw [hl] at hb; exact h.new i b hb
  · intro i hi; exact h.wr i ((hwr i).1 hi)
  · exact h.fr.mono fun k _ ⟨i, h1, h2⟩ => ⟨i, (hwr i).2 h1, h2⟩

theorem FR.look {stA stB : St} {ρ : Rho} {a : Act} (h : FR env stA ρ a) (hl : ∀ i, Sx.look i stB.fr = Sx.look i stA.fr) (hnb : stB.nb = stA.nb) (hnt : stB.nt = stA.nt) : FR env stB ρ a := by
  refine ⟨h.df, by rw [hnt]; exact h.size, fun t s hs => ?_, fun t s hs => ?_⟩
  · rw [hl] at hs; rw [hnt, hnb]; exact h.lt t s hs
  · rw [hl] at hs; exact h.rel t s hs

theorem RR.drew {B : Base} {st : St} {ρ : Rho} {w : World} (h : RR env B st ρ w) : RR env B st ρ { w with drawn := w.drawn + 1 } := by
  have hd : Fr (fun _ => False) w { w with drawn := w.drawn + 1 } := Fr.drew _ w
  refine ⟨h.rho, h.nb, fun i b hb => ?_, h.sep, h.lt, h.old, h.new, h.wr, ?_⟩
  · have := h.heap i b hb
    exact ⟨this.1.fr hd this.2 id, this.2⟩
  · exact h.fr.trans (hd.mono fun _ _ hf => hf.elim)

theorem RR.up {B : Base} {st : St} {ρ : Rho} {w : World} (h : RR env B st ρ w) {N : Nat} (hN : st.nb ≤ N) : RR env B { st with nb := N } ρ w :=
  ⟨h.rho, Nat.le_trans h.nb hN, h.heap, h.sep, heapLt_mono hN h.lt, h.old, h.new, h.wr, h.fr⟩

theorem FR.up {st : St} {ρ : Rho} {a : Act} (h : FR env st ρ a) {N : Nat} (hN : st.nb ≤ N) : FR env { st with nb := N } ρ a :=
  ⟨h.df, h.size, fun t s hs => ⟨(h.lt t s hs).1, sl_lt_mono hN (h.lt t s hs).2⟩, h.rel⟩

structure TextOk (P : Program) (ops : Array Oper) (env : Env) (st0 : St) (R : List Rec) (st : St) : Prop where
  fr : st.fr = (appl st0 R).fr
  hp : st.hp = (appl st0 R).hp
  wr : st.wr = (appl st0 R).wr
  nt : st.nt = st0.nt
  nb : st0.nb ≤ st.nb
  hi : ∀ r ∈ R, r.hi ≤ st.nb
  recs : TextR P ops env st0 R

theorem draw_wp (hT : TabOk P tab) (hm : P.follows .mixedOrders = true) {st : St} {R : List Rec} (hs : Sat env st.fs) (h : TextOk P ops env st0 R st) (hlen : R.length = ops.size) (hp : pairs tab ops st.fs st0.hp R R = true)
    {B : Base} {ρ : Rho} {a : Act} {w : World} (hRR : RR env B st0 ρ w) (hFR : FR env st0 ρ a) (id : Nat) {Q : Exit → Act → World → Prop} (hQ : ∀ ρ a w, RR env B st ρ w → FR env st ρ a → Q .normal a w) :
    (Code.region id ops true).wp P Q a w := by
  have D := drawOk_of hT hs h.recs hlen hp h.hi (fun t s hts => (hFR.lt t s hts).2) hRR.lt
  refine wp_region_any hm ?_
  refine draw_any D hRR.nb ?_ ops.size [] _ ρ a _ ?_ (by simp) ?_ trivial (fun s hs => by cases hs) (hRR.up h.nb).drew (hFR.up h.nb)
  · intro T ρ' a' w' hTl hTR hRR' hFR'
    have hcmp : ∀ r s, r ∈ R → s ∈ R → r ≠ s → (bit r.bef s.i = true ∨ bit s.bef r.i = true) ∨ PairFacts tab ops st.fs st0.hp R r s ∨ PairFacts tab ops st.fs st0.hp R s r := by
      intro r s hr hs' hne
      obtain ⟨T', _, _, _, h4, h5⟩ := pairs_at h.recs hp r hr
      rcases h5 s hs' with h | h | ⟨h, _⟩
      · exact absurd h.symm hne
      · rcases h4 s h with h | h
        · exact .inl (.inl h)
        · exact .inr (.inl (pairOk_facts h))
      · rcases h with h | h
        · exact .inl (.inr h)
        · exact .inr (.inr (pairOk_facts h))
    refine hQ ρ' a' w' (hRR'.look ?_ ?_ ?_ ?_) (hFR'.look ?_ ?_ ?_)
    · intro i
      rw [h.hp, appl_hp, appl_hp]
      refine ap_same Rec.ups st0.hp h.recs.lin hTl (fun r _ => (hTR r).symm) fun r s hr hs' hwr hws hne => ?_
      rcases hcmp r s hr hs' hne with h | h | h
      · exact h
      · exact (h.ups i (wr_ups.1 hwr) (wr_ups.1 hws)).elim
      · exact (h.ups i (wr_ups.1 hws) (wr_ups.1 hwr)).elim
    · rw [appl_nb]
    · rw [h.hp]; exact h.recs.heapLt hRR.lt h.hi h.nb
    · intro i
      rw [h.wr, appl_wr, appl_wr]
      constructor
      · rintro (h | ⟨r, h1, h2⟩)
        · exact .inl h
        · exact .inr ⟨r, (hTR r).2 h1, h2⟩
      · rintro (h | ⟨r, h1, h2⟩)
        · exact .inl h
        · exact .inr ⟨r, (hTR r).1 h1, h2⟩
    · intro i
      rw [h.fr, appl_fr, appl_fr]
      refine ap_same frUps st0.fr h.recs.lin hTl (fun r _ => (hTR r).symm) fun r s hr hs' hwr hws hne => ?_
      rcases hcmp r s hr hs' hne with h | h | h
      · exact h
      · exact (h.dst i (wr_frUps.1 hwr) (wr_frUps.1 hws)).elim
      · exact (h.dst i (wr_frUps.1 hws) (wr_frUps.1 hwr)).elim
    · rw [appl_nb]
    · rw [appl_nt, h.nt]
  · have : (unl R []).length ≤ R.length := List.length_filter_le _ _
    omega
  · intro j hj
    simp [hj, InT]
end

end Go.Sx
