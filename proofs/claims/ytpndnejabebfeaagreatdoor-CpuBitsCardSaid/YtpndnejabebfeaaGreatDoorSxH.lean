/- A part of the reckoning with symbols: states, terms and their meaning, used by the proofs of this seat. -/
import Derived.Test.YtpndnejabebfeaaGreatDoorSxG
import Derived.ChangeKeysEq
/-! Equality of structs and arrays of numbers. -/
noncomputable section
namespace Go.Sx

def vnum : Value → Int
  | .int _ n => n
  | .bool b => if b then 1 else 0
  | _ => 0

/-- Two cells of one kind. -/
def Twin : CK → Value → Value → Prop
  | .int k, x, y => ∃ a b, x = .int k a ∧ y = .int k b
  | .bool, x, y => ∃ a b, x = .bool a ∧ y = .bool b
  | .fix _, _, _ => False

theorem twin_one {c : CK} {x y : Value} (h : Twin c x y) : x.cells = #[x] ∧ y.cells = #[y] := by
  cases c with
  | int k => obtain ⟨_, _, rfl, rfl⟩ := h; exact ⟨rfl, rfl⟩
  | bool => obtain ⟨_, _, rfl, rfl⟩ := h; exact ⟨rfl, rfl⟩
  | fix s => exact h.elim

/-- The layout of a type of whole numbers and bools, laid one behind the other from 0 on. -/
def plainLay (tab : Tab) : Nat → Nat → Option Lay
  | 0, _ => none
  | d + 1, t =>
    match tlook t tab with
    | some ti =>
      match ti.desc with
      | .int k => if Nat.beq ti.size 1 then some [(.int k, 1)] else none
      | .bool => if Nat.beq ti.size 1 then some [(.bool, 1)] else none
      | .array n e =>
        match tlook e tab, plainLay tab d e with
        | some te, some L => if Nat.beq ti.size (n * te.size) && Nat.beq te.size L.size then some (Lay.many n L) else none
        | _, _ => none
      | .struct fs =>
        match ti.eqok, fieldsLay (plainLay tab d) tab 0 fs.toList with
        | true, some L => if Nat.beq L.size ti.size then some L else none
        | _, _ => none
      | _ => none
    | none => none
  where
  fieldsLay (rec : Nat → Option Lay) (tab : Tab) : Nat → List Field → Option Lay
    | _, [] => some []
    | off, f :: r =>
      match tlook f.type tab, rec f.type with
      | some tf, some L =>
        if Nat.beq f.offset off && !(f.name == "_") && Nat.beq tf.size L.size then
          match fieldsLay rec tab (off + tf.size) r with
          | some M => some (L ++ M)
          | none => none
        else none
      | _, _ => none

/-- What equality of a type comes to. -/
def EqOk (P : Program) (d t : Nat) (L : Lay) (agg : Bool) : Prop :=
  ∀ (w : World) (x y : Value), x.cells.size = L.size → y.cells.size = L.size → (agg = true → (∃ xs, x = .agg xs) ∧ ∃ ys, y = .agg ys) →
    (∀ (j : Nat) c u v, Lay.at L j = some c → x.cells[j]? = some u → y.cells[j]? = some v → Twin c u v) → (agg = false → x.cells = #[x] ∧ y.cells = #[y]) →
    ∃ r : Bool, (Op.equalIn d t x y).run P w = .ok r w ∧ (r = true ↔ ∀ (j : Nat) u v, x.cells[j]? = some u → y.cells[j]? = some v → vnum u = vnum v)

theorem part_eq {P : Program} {t : Nat} {ti : TI} (h : TIOk P t ti) (w : World) (xs : Array Value) (off : Nat) (hle : off + ti.size ≤ xs.size) (h1 : aggDesc ti.desc = false → ti.size = 1)
    (hplain : ∀ (j : Nat) u, xs[j]? = some u → u.cells = #[u]) :
    ∃ v, (part t xs off).run P w = .ok v w ∧ v.cells.size = ti.size ∧ (aggDesc ti.desc = true → ∃ ys, v = .agg ys) ∧ (aggDesc ti.desc = false → v.cells = #[v]) ∧ ∀ j, j < ti.size → v.cells[j]? = xs[off + j]? := by
  by_cases hagg : aggDesc ti.desc = true
  · refine ⟨.agg (xs.extract off (off + ti.size)), by simp [part, h.run_agg, hagg, h.run_size], by simp [Value.cells]; omega, fun _ => ⟨_, rfl⟩, (fun hh => absurd (hagg.symm.trans hh) (by simp)), fun j hj => ?_⟩
    simp only [Value.cells]
    rw [Array.getElem?_extract, if_pos (by omega)]
  · have hs := h1 (by simpa using hagg)
    have hlt : off < xs.size := by omega
    have hc := hplain off xs[off] (by simp [hlt])
    refine ⟨xs[off], by simp [part, h.run_agg, hagg, hlt], by rw [hc, hs]; rfl, fun hh => absurd hh hagg, fun _ => hc, fun j hj => ?_⟩
    have e : j = 0 := by omega
    subst e
    rw [hc]; simp [hlt]

theorem eqItems_ok {P : Program} {d e : Nat} {te : TI} {L : Lay} (hte : TIOk P e te) (hsz : te.size = L.size) (h1 : aggDesc te.desc = false → te.size = 1) (IH : EqOk P d e L (aggDesc te.desc)) (xs ys : Array Value) (N : Nat) (hx : xs.size = N) (hy : ys.size = N)
    (hpx : ∀ (j : Nat) u, xs[j]? = some u → u.cells = #[u]) (hpy : ∀ (j : Nat) u, ys[j]? = some u → u.cells = #[u])
    (ht : ∀ (i q : Nat) c u v, i * te.size + q < N → Lay.at L q = some c → xs[i * te.size + q]? = some u → ys[i * te.size + q]? = some v → Twin c u v) (w : World) : ∀ is : List Nat, (∀ i ∈ is, i * te.size + te.size ≤ N) →
    ∃ r : Bool, (Op.eqItems d e te.size xs ys is).run P w = .ok r w ∧ (r = true ↔ ∀ i ∈ is, ∀ q, q < te.size → ∀ u v, xs[i * te.size + q]? = some u → ys[i * te.size + q]? = some v → vnum u = vnum v) := by
  intro is
  induction is with
  | nil => intro _; exact ⟨true, by simp [Op.eqItems], by simp⟩
  | cons i is ih =>
    intro hle
    have hi := hle i (by simp)
    obtain ⟨a, a1, a2, a3, a4, a5⟩ := part_eq hte w xs (i * te.size) (by omega) h1 hpx
    obtain ⟨b, b1, b2, b3, b4, b5⟩ := part_eq hte w ys (i * te.size) (by omega) h1 hpy
    obtain ⟨r, r1, r2⟩ := IH w a b (by omega) (by omega) (fun h => ⟨a3 h, b3 h⟩) (by
      intro j c u v hc hu hv
      have hj : j < te.size := by have := (Array.getElem?_eq_some_iff.1 hu).1; omega
      rw [a5 j hj] at hu
      rw [b5 j hj] at hv
      exact ht i j c u v (by omega) hc hu hv) (fun h => ⟨a4 h, b4 h⟩)
    obtain ⟨r', q1, q2⟩ := ih (fun k hk => hle k (by simp [hk]))
    have hr : r = true ↔ ∀ q, q < te.size → ∀ u v, xs[i * te.size + q]? = some u → ys[i * te.size + q]? = some v → vnum u = vnum v := by
      rw [r2]
      constructor
      · intro h q hq u v hu hv
        exact h q u v (by rw [a5 q hq]; exact hu) (by rw [b5 q hq]; exact hv)
      · intro h q u v hu hv
        have hq : q < te.size := by have := (Array.getElem?_eq_some_iff.1 hu).1; omega
        rw [a5 q hq] at hu
        rw [b5 q hq] at hv
        exact h q hq u v hu hv
    simp only [Op.eqItems, Sem.run_bind, a1, b1, r1, Result.andThen_ok]
    cases r with
    | false =>
      refine ⟨false, by simp, ?_⟩
      simp only [Bool.false_eq_true, false_iff]
      intro h
      exact absurd (hr.2 (h i (by simp))) (by simp)
    | true =>
      refine ⟨r', by simpa using q1, ?_⟩
      rw [q2]
      have hr' := hr.1 rfl
      constructor
      · intro h k hk
        rcases List.mem_cons.1 hk with rfl | hk
        · exact hr'
        · exact h k hk
      · exact fun h k hk => h k (by simp [hk])

theorem eqFields_ok {P : Program} {tab : Tab} (hT : TabOk P tab) {d size : Nat} (rec : Nat → Option Lay)
    (IH : ∀ t ti L, tlook t tab = some ti → rec t = some L → (aggDesc ti.desc = false → ti.size = 1) ∧ EqOk P d t L (aggDesc ti.desc)) (xs ys : Array Value) (hx : xs.size = size) (hy : ys.size = size)
    (hpx : ∀ (j : Nat) u, xs[j]? = some u → u.cells = #[u]) (hpy : ∀ (j : Nat) u, ys[j]? = some u → u.cells = #[u]) (w : World) :
    ∀ (fs : List Field) (off : Nat) (L : Lay), plainLay.fieldsLay rec tab off fs = some L → off + L.size = size →
    (∀ (q : Nat) c u v, Lay.at L q = some c → xs[off + q]? = some u → ys[off + q]? = some v → Twin c u v) →
    ∃ r : Bool, (Op.eqFields d xs ys fs).run P w = .ok r w ∧ (r = true ↔ ∀ q, off ≤ q → q < size → ∀ u v, xs[q]? = some u → ys[q]? = some v → vnum u = vnum v) := by
  intro fs
  induction fs with
  | nil =>
    intro off L h hs _
    simp only [plainLay.fieldsLay, Option.some.injEq] at h
    subst h
    simp only [Lay.size] at hs
    exact ⟨true, by simp [Op.eqFields], by simp; intro q h1 h2; omega⟩
  | cons f r ih =>
    intro off L h hs ht
    simp only [plainLay.fieldsLay] at h
    split at h
    · rename_i tf Lf htf hrec
      split at h
      · rename_i hc
        simp only [Bool.and_eq_true, Nat.beq_eq, Bool.not_eq_true', beq_eq_false_iff_ne] at hc
        obtain ⟨⟨c1, c2⟩, c3⟩ := hc
        split at h
        · rename_i M hM
          cases h
          rw [Lay.size_append] at hs
          obtain ⟨r', q1, q2⟩ := ih _ _ hM (by omega) (by
            intro q c u v hc hu hv
            refine ht (tf.size + q) c u v ?_ (by rw [← Nat.add_assoc]; exact hu) (by rw [← Nat.add_assoc]; exact hv)
            rw [Lay.at_append, if_neg (by omega), c3]
            rw [show Lf.size + q - Lf.size = q by omega]
            exact hc)
          obtain ⟨hsc, hIH⟩ := IH _ _ _ htf hrec
          have hte := hT _ _ htf
          obtain ⟨a, a1, a2, a3, a4, a5⟩ := part_eq hte w xs f.offset (by omega) hsc hpx
          obtain ⟨b, b1, b2, b3, b4, b5⟩ := part_eq hte w ys f.offset (by omega) hsc hpy
          obtain ⟨r, r1, r2⟩ := hIH w a b (by omega) (by omega) (fun h => ⟨a3 h, b3 h⟩) (by
            intro j c u v hc hu hv
            have hj : j < tf.size := by have := (Array.getElem?_eq_some_iff.1 hu).1; omega
            rw [a5 j hj, c1] at hu
            rw [b5 j hj, c1] at hv
            refine ht j c u v ?_ hu hv
            rw [Lay.at_append, if_pos (by omega)]
            exact hc) (fun h => ⟨a4 h, b4 h⟩)
          have hr : r = true ↔ ∀ q, off ≤ q → q < off + tf.size → ∀ u v, xs[q]? = some u → ys[q]? = some v → vnum u = vnum v := by
            rw [r2]
            constructor
            · intro h q hq hq' u v hu hv
              have e : f.offset + (q - off) = q := by omega
              exact h (q - off) u v (by rw [a5 _ (by omega), e]; exact hu) (by rw [b5 _ (by omega), e]; exact hv)
            · intro h q u v hu hv
              have hq : q < tf.size := by have := (Array.getElem?_eq_some_iff.1 hu).1; omega
              rw [a5 q hq] at hu
              rw [b5 q hq] at hv
              exact h (f.offset + q) (by omega) (by omega) u v hu hv
          simp only [Op.eqFields, ne_eq, c2, not_false_eq_true, if_true, Sem.run_bind, a1, b1, r1, Result.andThen_ok]
          cases r with
          | false =>
            refine ⟨false, by simp, ?_⟩
            simp only [Bool.false_eq_true, false_iff]
            intro h
            exact absurd (hr.2 (fun q h1 h2 => h q h1 (by omega))) (by simp)
          | true =>
            refine ⟨r', by simpa using q1, ?_⟩
            rw [q2]
            have hr' := hr.1 rfl
            constructor
            · intro h q hq hq'
              by_cases hh : q < off + tf.size
              · exact hr' q hq hh
              · exact h q (by omega) hq'
            · exact fun h q hq hq' => h q (by omega) hq'
        · cases h
      · cases h
    · cases h

theorem one_cell_eq {x y : Value} (e1 : x.cells = #[x]) (e2 : y.cells = #[y]) : (∀ (j : Nat) u v, x.cells[j]? = some u → y.cells[j]? = some v → vnum u = vnum v) ↔ vnum x = vnum y := by
  constructor
  · exact fun h => h 0 x y (by rw [e1]; rfl) (by rw [e2]; rfl)
  · intro h j u v hu hv
    rw [e1] at hu
    rw [e2] at hv
    have hj : j = 0 := by have := (Array.getElem?_eq_some_iff.1 hu).1; simp at this; omega
    subst hj
    simp at hu hv
    subst hu; subst hv; exact h

theorem plainLay_ok {P : Program} {tab : Tab} (hT : TabOk P tab) : ∀ (d D t : Nat) (ti : TI) (L : Lay), d ≤ D → tlook t tab = some ti → plainLay tab d t = some L →
    L.size = ti.size ∧ (aggDesc ti.desc = false → ti.size = 1) ∧ EqOk P D t L (aggDesc ti.desc) := by
  intro d
  induction d with
  | zero => intro D t ti L _ _ h; cases h
  | succ d ih =>
    intro D t ti L hD ht h
    obtain ⟨D, rfl⟩ : ∃ D', D = D' + 1 := ⟨D - 1, by omega⟩
    have hti := hT _ _ ht
    simp only [plainLay, ht] at h
    cases hd : ti.desc with
    | int k =>
      simp only [hd] at h
      split at h
      · rename_i hs
        rw [Nat.beq_eq] at hs
        cases h
        refine ⟨by simp [Lay.size, hs], fun _ => hs, ?_⟩
        intro w x y h1 h2 _ h5 h4
        obtain ⟨e1, e2⟩ := h4 rfl
        rw [one_cell_eq e1 e2]
        obtain ⟨a, b, rfl, rfl⟩ := h5 0 (.int k) x y rfl (by rw [e1]; rfl) (by rw [e2]; rfl)
        exact ⟨a == b, by simp [Op.equalIn, hti.run_under, hd], by simp [vnum]⟩
      · cases h
    | bool =>
      simp only [hd] at h
      split at h
      · rename_i hs
        rw [Nat.beq_eq] at hs
        cases h
        refine ⟨by simp [Lay.size, hs], fun _ => hs, ?_⟩
        intro w x y h1 h2 _ h5 h4
        obtain ⟨e1, e2⟩ := h4 rfl
        rw [one_cell_eq e1 e2]
        obtain ⟨a, b, rfl, rfl⟩ := h5 0 .bool x y rfl (by rw [e1]; rfl) (by rw [e2]; rfl)
        exact ⟨a == b, by simp [Op.equalIn, hti.run_under, hd], by cases a <;> cases b <;> simp [vnum]⟩
      · cases h
    | array n e =>
      simp only [hd] at h
      split at h
      · rename_i te Le hte hLe
        split at h
        · rename_i hc
          simp only [Bool.and_eq_true, Nat.beq_eq] at hc
          cases h
          obtain ⟨m1, m2⟩ := Lay.many_spec n Le
          obtain ⟨hs0, hsc, hIH⟩ := ih D e te Le (by omega) hte hLe
          refine ⟨by rw [m1, hc.1, hc.2], fun h => by simp [aggDesc] at h, ?_⟩
          intro w x y h1 h2 h3 h5 _
          obtain ⟨⟨xs, rfl⟩, ys, rfl⟩ := h3 rfl
          simp only [Value.cells] at *
          obtain ⟨i, hi1, hi2, _⟩ := (hT _ _ hte).info
          rw [run_equalIn_array w D xs ys (by rw [hti.under, hd]) hi1]
          have hce : P.cellsOf e = te.size := by simp [Program.cellsOf, hi1, hi2]
          rw [hce]
          rw [m1, ← hc.2] at h1 h2
          have tw : ∀ (j : Nat) u v, xs[j]? = some u → ys[j]? = some v → ∃ c, Twin c u v := by
            intro j u v hu hv
            have hj : j < n * te.size := by have := (Array.getElem?_eq_some_iff.1 hu).1; omega
            obtain ⟨c, hc'⟩ := Lay.at_lt (L := Lay.many n Le) (j := j) (by rw [m1, ← hc.2]; exact hj)
            exact ⟨c, h5 j c u v hc' hu hv⟩
          obtain ⟨r, r1, r2⟩ := eqItems_ok (hT _ _ hte) hc.2 hsc hIH xs ys (n * te.size) h1 h2
            (by intro j u hu
                have hj : j < ys.size := by have := (Array.getElem?_eq_some_iff.1 hu).1; omega
                obtain ⟨c, hc'⟩ := tw j u ys[j] hu (by simp [hj])
                exact (twin_one hc').1)
            (by intro j u hu
                have hj : j < xs.size := by have := (Array.getElem?_eq_some_iff.1 hu).1; omega
                obtain ⟨c, hc'⟩ := tw j xs[j] u (by simp [hj]) hu
                exact (twin_one hc').2)
            (by intro i q c u v hlt hq hu hv
                obtain ⟨c', hc'⟩ := Lay.at_lt (L := Lay.many n Le) (j := i * te.size + q) (by rw [m1, ← hc.2]; exact hlt)
                have hm := m2 _ _ hc'
                have hqs := Lay.at_some hq
                rw [hc.2, Nat.mul_comm, Nat.mul_add_mod, Nat.mod_eq_of_lt hqs, hq] at hm
                cases hm
                exact h5 _ c u v hc' hu hv) w (List.range n) (by
            intro i hi
            have hi' : i + 1 ≤ n := by have := List.mem_range.1 hi; omega
            have := Nat.mul_le_mul_right te.size hi'
            rw [Nat.succ_mul] at this
            omega)
          refine ⟨r, r1, ?_⟩
          rw [r2]
          constructor
          · intro hh j u v hu hv
            have hj : j < n * te.size := by have := (Array.getElem?_eq_some_iff.1 hu).1; omega
            have hpos : 0 < te.size := by
              rcases Nat.eq_zero_or_pos te.size with h0 | h0
              · rw [h0] at hj; simp at hj
              · exact h0
            have e1 : j / te.size * te.size + j % te.size = j := by rw [Nat.mul_comm]; exact Nat.div_add_mod _ _
            exact hh (j / te.size) (by simp; exact Nat.div_lt_of_lt_mul (by rw [Nat.mul_comm]; exact hj)) (j % te.size) (Nat.mod_lt _ hpos) u v (by rw [e1]; exact hu) (by rw [e1]; exact hv)
          · exact fun hh i hi q hq u v hu hv => hh _ u v hu hv
        · cases h
      · cases h
    | struct fs =>
      simp only [hd] at h
      split at h
      · rename_i L' heq hL
        split at h
        · rename_i hs
          rw [Nat.beq_eq] at hs
          cases h
          refine ⟨hs, fun h => by simp [aggDesc] at h, ?_⟩
          intro w x y h1 h2 h3 h5 _
          obtain ⟨⟨xs, rfl⟩, ys, rfl⟩ := h3 rfl
          simp only [Value.cells] at *
          have hfo : P.fieldsOf t = fs := by simp [Program.fieldsOf, hti.under, hd]
          have hst := hti.stood heq
          rw [run_equalIn_struct w D t xs ys (by rw [hti.under, hd, hfo]) hst.1, hfo]
          have tw : ∀ (j : Nat) u v, xs[j]? = some u → ys[j]? = some v → ∃ c, Twin c u v := by
            intro j u v hu hv
            have hj : j < Lay.size L := by have := (Array.getElem?_eq_some_iff.1 hu).1; omega
            obtain ⟨c, hc'⟩ := Lay.at_lt hj
            exact ⟨c, h5 j c u v hc' hu hv⟩
          obtain ⟨r, r1, r2⟩ := eqFields_ok hT (d := D) (size := Lay.size L) (plainLay tab d) (fun t' ti' L' h1 h2 => (ih D t' ti' L' (by omega) h1 h2).2) xs ys h1 h2
            (by intro j u hu
                have hj : j < ys.size := by have := (Array.getElem?_eq_some_iff.1 hu).1; omega
                obtain ⟨c, hc'⟩ := tw j u ys[j] hu (by simp [hj])
                exact (twin_one hc').1)
            (by intro j u hu
                have hj : j < xs.size := by have := (Array.getElem?_eq_some_iff.1 hu).1; omega
                obtain ⟨c, hc'⟩ := tw j xs[j] u (by simp [hj]) hu
                exact (twin_one hc').2) w fs.toList 0 L hL (by omega) (by
              intro q c u v hc hu hv
              rw [Nat.zero_add] at hu hv
              exact h5 q c u v hc hu hv)
          refine ⟨r, r1, ?_⟩
          rw [r2]
          constructor
          · intro hh j u v hu hv
            have hj : j < Lay.size L := by have := (Array.getElem?_eq_some_iff.1 hu).1; omega
            exact hh j (by omega) hj u v hu hv
          · exact fun hh q _ _ u v hu hv => hh q u v hu hv
        · cases h
      · cases h
    | _ => simp [hd] at h

/-! ### As a term -/

def mkAeqs (Γ : List Fact) (A B : Tm) : Nat → Tm
  | 0 => .lit 1
  | n + 1 =>
    match mkAeqs Γ A B n with
    | .lit 0 => .lit 0
    | r => mkIte (mkEq Γ (mkGet Γ A (.lit (Int.ofNat n))) (mkGet Γ B (.lit (Int.ofNat n)))) r (.lit 0)

theorem mkAeqs_den {env : Env} {Γ : List Fact} (hs : Sat env Γ) (A B : Tm) : ∀ n, (den env (mkAeqs Γ A B n)).i = if agree n (den env A).a (den env B).a = true then 1 else 0 := by
  intro n
  induction n with
  | zero => simp [mkAeqs, den, agree]
  | succ n ih =>
    simp only [mkAeqs]
    split
    · rename_i heq
      rw [heq] at ih
      simp only [den] at ih
      have : ¬ agree n (den env A).a (den env B).a = true := by
        intro h; rw [if_pos h] at ih; cases ih
      have h2 : ¬ agree (n + 1) (den env A).a (den env B).a = true := by
        simp only [agree, Bool.and_eq_true]; exact fun h => this h.2
      rw [if_neg h2]; rfl
    · rw [mkIte_den, mkEq_den hs, mkGet_den hs, mkGet_den hs]
      have el : (den env (.lit (Int.ofNat n))).i = Int.ofNat n := rfl
      rw [el]
      have hag : agree (n + 1) (den env A).a (den env B).a = true ↔ (den env A).a (Int.ofNat n) = (den env B).a (Int.ofNat n) ∧ agree n (den env A).a (den env B).a = true := by
        simp only [agree, Bool.and_eq_true, ieq_iff]
      by_cases h1 : (den env A).a (Int.ofNat n) = (den env B).a (Int.ofNat n)
      · rw [if_pos h1, if_neg (by omega), ih]
        by_cases h2 : agree n (den env A).a (den env B).a = true
        · rw [if_pos h2, if_pos (hag.2 ⟨h1, h2⟩)]
        · rw [if_neg h2, if_neg (fun h => h2 (hag.1 h).2)]
      · rw [if_neg h1, if_pos rfl, if_neg (fun h => h1 (hag.1 h).1)]; rfl

def mkAeq (Γ : List Fact) (n : Nat) (A B : Tm) : Tm :=
  if Tm.beq A B then .lit 1 else if Nat.ble n 24 then mkAeqs Γ A B n else .aeq n A B

theorem mkAeq_den {env : Env} {Γ : List Fact} (hs : Sat env Γ) (n : Nat) (A B : Tm) : (den env (mkAeq Γ n A B)).i = if agree n (den env A).a (den env B).a = true then 1 else 0 := by
  unfold mkAeq
  split
  · rename_i h
    have := Tm.beq_eq h
    subst this
    rw [if_pos (agree_iff.2 fun _ _ => rfl)]; rfl
  · split
    · exact mkAeqs_den hs A B n
    · rfl

/-- Bools are laid as 0 and 1, surely? -/
def bools01 (Γ : List Fact) (A : Tm) : Nat → Lay → Bool
  | _, [] => true
  | off, (.bool, n) :: r =>
    (match (R Γ A).2 (some (Int.ofNat off, Int.ofNat (off + n) - 1)) with
    | some (lo, hi) => ile 0 lo && ile hi 1
    | none => false) && bools01 Γ A (off + n) r
  | off, (_, n) :: r => bools01 Γ A (off + n) r

theorem bools01_sound {env : Env} {Γ : List Fact} (hs : Sat env Γ) {A : Tm} : ∀ (L : Lay) (off : Nat), bools01 Γ A off L = true → ∀ j, Lay.at L j = some .bool → 0 ≤ (den env A).a ((off + j : Nat) : Int) ∧ (den env A).a ((off + j : Nat) : Int) ≤ 1 := by
  intro L
  induction L with
  | nil => intro off _ j h; cases h
  | cons p r ih =>
    intro off h j hj
    obtain ⟨c, n⟩ := p
    simp only [Lay.at, Nat.blt_eq] at hj
    have next : ∀ hb : bools01 Γ A (off + n) r = true, ¬ j < n → 0 ≤ (den env A).a ((off + j : Nat) : Int) ∧ (den env A).a ((off + j : Nat) : Int) ≤ 1 := by
      intro hb hn
      rw [if_neg hn] at hj
      have := ih (off + n) hb (j - n) hj
      rw [show off + n + (j - n) = off + j by omega] at this
      exact this
    cases c with
    | bool =>
      simp only [bools01, Bool.and_eq_true] at h
      by_cases hn : j < n
      · have h1 := h.1
        split at h1
        · rename_i lo hi heq
          simp only [Bool.and_eq_true, ile_iff] at h1
          have := (R_has hs A).2 (some (Int.ofNat off, Int.ofNat (off + n) - 1)) ((off + j : Nat) : Int) (by
            intro p hp; cases hp
            simp only [Int.ofNat_eq_natCast]; omega) _ heq
          dsimp only at this
          omega
        · cases h1
      · exact next h.2 hn
    | int k =>
      by_cases hn : j < n
      · rw [if_pos hn] at hj; cases hj
      · exact next h hn
    | fix s =>
      by_cases hn : j < n
      · rw [if_pos hn] at hj; cases hj
      · exact next h hn

def evAggEq (tab : Tab) (Γ : List Fact) (t : Nat) (L : Lay) (A : Tm) (M : Lay) (B : Tm) : Option Tm :=
  match tlook t tab, plainLay tab 8 t with
  | some ti, some N =>
    if aggDesc ti.desc && ti.eqok && Lay.beq (Lay.norm L) (Lay.norm N) && Lay.beq (Lay.norm M) (Lay.norm N) && bools01 Γ A 0 (Lay.norm N) && bools01 Γ B 0 (Lay.norm N) then some (mkAeq Γ ti.size A B) else none
  | _, _ => none

theorem rel_num {env : Env} {ρ : Rho} {A : Int → Int} {j : Int} {c : CK} {u : Value} (h : c.Rel env ρ A j u) (hb : c = .bool → 0 ≤ A j ∧ A j ≤ 1) (hf : ∀ s, c ≠ .fix s) : vnum u = A j := by
  cases c with
  | int k => simp only [CK.Rel] at h; rw [h]; rfl
  | bool =>
    simp only [CK.Rel] at h
    have := hb rfl
    rw [h]
    simp only [vnum]
    by_cases h0 : A j = 0
    · simp [h0]
    · simp [h0]; omega
  | fix s => exact absurd rfl (hf s)

theorem plain_at {tab : Tab} : ∀ (d t : Nat) (L : Lay), plainLay tab d t = some L → ∀ j s, Lay.at L j ≠ some (.fix s) := by
  intro d
  induction d with
  | zero => intro t L h; cases h
  | succ d ih =>
    have fl : ∀ (fs : List Field) (off : Nat) (L : Lay), plainLay.fieldsLay (plainLay tab d) tab off fs = some L → ∀ j s, Lay.at L j ≠ some (.fix s) := by
      intro fs
      induction fs with
      | nil => intro off L h j s hj; simp only [plainLay.fieldsLay, Option.some.injEq] at h; subst h; cases hj
      | cons f r ihr =>
        intro off L h j s hj
        simp only [plainLay.fieldsLay] at h
        split at h
        · rename_i tf Lf htf hrec
          split at h
          · split at h
            · rename_i M hM
              cases h
              rw [Lay.at_append] at hj
              split at hj
              · exact ih _ _ hrec _ _ hj
              · exact ihr _ _ hM _ _ hj
            · cases h
          · cases h
        · cases h
    intro t L h j s hj
    simp only [plainLay] at h
    split at h
    · split at h
      · split at h
        · cases h
          have := (at_one hj).1; cases this
        · cases h
      · split at h
        · cases h
          have := (at_one hj).1; cases this
        · cases h
      · split at h
        · rename_i Le _ hLe
          split at h
          · cases h
            exact ih _ _ hLe _ _ ((Lay.many_spec _ _).2 _ _ hj)
          · cases h
        · cases h
      · split at h
        · rename_i L' _ hL
          split at h
          · cases h; exact fl _ _ _ hL _ _ hj
          · cases h
        · cases h
      · cases h
    · cases h

theorem evAggEq_sound {P : Program} {tab : Tab} (hT : TabOk P tab) {env : Env} {Γ : List Fact} (hs : Sat env Γ) {t : Nat} {L M : Lay} {A B e : Tm} (h : evAggEq tab Γ t L A M B = some e)
    {ρ : Rho} {x y : Value} (hx : SV.Rel env ρ (.agg L A) x) (hy : SV.Rel env ρ (.agg M B) y) (w : World) :
    ∃ xs ys, x = .agg xs ∧ y = .agg ys ∧ P.eqGuardType P.depth t = false ∧ ∃ r : Bool, (Op.equalIn 10000 t x y).run P w = .ok r w ∧ r = decide ((den env e).i ≠ 0) := by
  unfold evAggEq at h
  split at h
  · rename_i ti N ht hN
    split at h
    · rename_i hc
      simp only [Bool.and_eq_true] at hc
      obtain ⟨⟨⟨⟨⟨c1, c2⟩, c3⟩, c4⟩, c5⟩, c6⟩ := hc
      cases h
      obtain ⟨xs, rfl, x1, x2⟩ := hx
      obtain ⟨ys, rfl, y1, y2⟩ := hy
      obtain ⟨n1, n2, n3⟩ := plainLay_ok hT 8 10000 t ti N (by omega) ht hN
      have hL : ∀ j, Lay.at L j = Lay.at N j := fun j => by rw [← Lay.at_norm L, ← Lay.at_norm N, Lay.beq_eq c3]
      have hM : ∀ j, Lay.at M j = Lay.at N j := fun j => by rw [← Lay.at_norm M, ← Lay.at_norm N, Lay.beq_eq c4]
      have hLs := Lay.size_eq_of_at hL
      have hMs := Lay.size_eq_of_at hM
      have nofix := plain_at 8 t N hN
      have b5 := bools01_sound hs (A := A) _ 0 c5
      have b6 := bools01_sound hs (A := B) _ 0 c6
      have numx : ∀ (j : Nat) c u, Lay.at N j = some c → xs[j]? = some u → vnum u = (den env A).a j := by
        intro j c u hc hu
        refine rel_num (x2 j c (by rw [hL]; exact hc) u hu) (fun e => ?_) (fun s e => nofix j s (by rw [hc, e]))
        subst e
        have := b5 j (by rw [Lay.at_norm]; exact hc)
        rwa [Nat.zero_add] at this
      have numy : ∀ (j : Nat) c u, Lay.at N j = some c → ys[j]? = some u → vnum u = (den env B).a j := by
        intro j c u hc hu
        refine rel_num (y2 j c (by rw [hM]; exact hc) u hu) (fun e => ?_) (fun s e => nofix j s (by rw [hc, e]))
        subst e
        have := b6 j (by rw [Lay.at_norm]; exact hc)
        rwa [Nat.zero_add] at this
      obtain ⟨r, r1, r2⟩ := n3 w (.agg xs) (.agg ys) (by simp only [Value.cells]; omega) (by simp only [Value.cells]; omega) (fun _ => ⟨⟨_, rfl⟩, _, rfl⟩) (by
        intro j c u v hc hu hv
        have h1 := x2 j c (by rw [hL]; exact hc) u hu
        have h2 := y2 j c (by rw [hM]; exact hc) v hv
        cases c with
        | int k => exact ⟨_, _, h1, h2⟩
        | bool => exact ⟨_, _, h1, h2⟩
        | fix s => exact absurd hc (nofix j s)) (fun h => by rw [c1] at h; cases h)
      refine ⟨xs, ys, rfl, rfl, (((hT _ _ ht).stood c2)).2, r, r1, ?_⟩
      rw [mkAeq_den hs]
      have key : r = true ↔ agree ti.size (den env A).a (den env B).a = true := by
        rw [r2, agree_iff]
        simp only [Value.cells]
        constructor
        · intro hh j hj
          obtain ⟨c, hc⟩ := Lay.at_lt (L := N) (j := j) (by omega)
          have hjx : j < xs.size := by omega
          have hjy : j < ys.size := by omega
          rw [← numx j c xs[j] hc (by simp [hjx]), ← numy j c ys[j] hc (by simp [hjy])]
          exact hh j _ _ (by simp [hjx]) (by simp [hjy])
        · intro hh j u v hu hv
          have hj : j < ti.size := by have := (Array.getElem?_eq_some_iff.1 hu).1; omega
          obtain ⟨c, hc⟩ := Lay.at_lt (L := N) (j := j) (by omega)
          rw [numx j c u hc hu, numy j c v hc hv]
          exact hh j hj
      by_cases hr : agree ti.size (den env A).a (den env B).a = true
      · rw [if_pos hr, key.2 hr]; rfl
      · rw [if_neg hr]
        have : r ≠ true := fun e => hr (key.1 e)
        simpa using this
    · cases h
  · cases h

end Go.Sx
