/- A part of the reckoning with symbols: states, terms and their meaning, used by the proofs of this seat. -/
import Derived.Test.YtpndnejabebfeaaGreatDoorSxJ
/-! 'append' where it makes a new block, and 'copy' of nothing or into forgotten cells: slices of one cell each. -/
noncomputable section
namespace Go.Sx

/-- The one kind of all cells from o on, l of them. -/
def spanKind (Γ : List Fact) (lay : BL) (o l : Tm) : Option CK :=
  match lay with
  | .fixed L => match rng Γ o, rng Γ l with
    | some (.ofNat olo, .ofNat ohi), some (_, .ofNat lhi) => Lay.uni L olo (ohi + lhi)
    | _, _ => none
  | .dyn c n => match rng Γ o with
    | some (lo, _) => if (isLit o 0 && Tm.beq l n) || (ile 0 lo && isLit (mkLt Γ n (mkAdd o l)) 0) then some c else none
    | none => none
  | .mp _ => none

theorem spanKind_plain {Γ : List Fact} {lay : BL} {o l : Tm} {c : CK} (h : spanKind Γ lay o l = some c) : lay.plain = true := by
  cases lay <;> first | rfl | cases h

theorem spanKind_sound {env : Env} {Γ : List Fact} (hs : Sat env Γ) {lay : BL} {o l : Tm} {c : CK} (h : spanKind Γ lay o l = some c) {off len : Nat} (ho : (off : Int) = (den env o).i) (hl : (len : Int) = (den env l).i) (j : Nat) (hj : j < len) :
    lay.at env (off + j) = some c := by
  unfold spanKind at h
  split at h
  · rename_i L
    split at h
    · rename_i olo ohi llo lhi h1 h2
      have g1 := rng_has hs _ _ h1
      have g2 := rng_has hs _ _ h2
      simp only [Int.ofNat_eq_natCast] at g1 g2
      exact Lay.uni_at h (by omega) (by omega)
    · cases h
  · rename_i d n
    split at h
    · rename_i lo hi h1
      have g1 := rng_has hs _ _ h1
      dsimp only at g1
      split at h
      · rename_i hc
        cases h
        simp only [BL.at]
        rw [if_pos]
        simp only [Bool.or_eq_true, Bool.and_eq_true, ile_iff] at hc
        rcases hc with ⟨c1, c2⟩ | ⟨c1, c2⟩
        · have e1 := isLit_den (env := env) c1
          rw [Tm.beq_eq c2] at hl
          omega
        · have e := mkLt_den hs n (mkAdd o l)
          rw [isLit_den c2, mkAdd_den] at e
          by_cases hh : (den env n).i < (den env o).i + (den env l).i
          · rw [if_pos hh] at e; omega
          · omega
      · cases h
    · cases h
  · cases h

theorem growBy_le : ∀ (n newLen c : Nat), Builtin.growBy newLen n c ≤ 2 ^ n * (c + 300) := by
  intro n
  induction n with
  | zero => intro newLen c; simp [Builtin.growBy]
  | succ n ih =>
    intro newLen c
    simp only [Builtin.growBy]
    split
    · have : 1 ≤ 2 ^ n := Nat.one_le_two_pow
      have h2 : 2 ^ (n + 1) = 2 * 2 ^ n := by rw [Nat.pow_succ]; omega
      rw [h2]
      have : 1 * (c + 300) ≤ 2 * 2 ^ n * (c + 300) := Nat.mul_le_mul_right _ (by omega)
      omega
    · have h1 := ih newLen (c + (c + 768) / 4)
      have h2 : 2 ^ (n + 1) = 2 ^ n * 2 := Nat.pow_succ ..
      rw [h2, Nat.mul_assoc]
      refine Nat.le_trans h1 (Nat.mul_le_mul_left _ (by omega))

theorem nextslicecap_le (newLen oldCap : Nat) (h : oldCap ≤ newLen) : Builtin.nextslicecap newLen oldCap ≤ 16 * (newLen + 300) := by
  unfold Builtin.nextslicecap
  split
  · omega
  · split
    · omega
    · have := growBy_le 4 newLen oldCap
      generalize Builtin.growBy newLen 4 oldCap = g at this ⊢
      have h2 : (2 : Nat) ^ 4 = 16 := by decide
      rw [h2] at this
      have h3 : 16 * (oldCap + 300) ≤ 16 * (newLen + 300) := Nat.mul_le_mul_left _ (by omega)
      exact Nat.le_trans this h3

/-- What a slice is made of, where it is one that stands or none. -/
def sliceOf : SC → Option (Option (Nat × Tm) × Tm × Option Tm)
  | .slice b o l c => some (some (b, o), l, c)
  | .val (.slice none 0 0) => some (none, .lit 0, some (.lit 0))
  | _ => none

def isIntD : TypeDesc → Bool
  | .int _ => true
  | _ => false

/-- The cells that a slice shows: their one kind (none of none), and the numbers. -/
def spanOf (Γ : List Fact) (lk : Lk) (p : Option (Nat × Tm)) (l : Tm) : Option (Option CK × Tm) :=
  if isLit l 0 then some (none, .nil) else
  match p with
  | some (b, o) => match lk b with
    | some blk => match spanKind Γ blk.lay o l with
      | some c => some (some c, if isLit o 0 then blk.A else .shf blk.A o)
      | none => none
    | none => none
  | none => none

def evAppend (tab : Tab) (Γ : List Fact) (lk : Lk) (tys : List Nat) (s x : SC) : Option (Tm × BL × Tm) :=
  match tys with
  | [st, xt] =>
    match tlook st tab, tlook xt tab, sliceOf s, sliceOf x with
    | some si, some xi, some (p, l, some c), some (q, n, _) =>
      match si.desc with
      | .slice e =>
        match tlook e tab with
        | some te =>
          if !(isIntD xi.desc) && Nat.beq te.size 1 && !(Nat.beq te.bytes 0) && te.zero.isSome && isLit (mkLt Γ c (mkAdd l n)) 1 && within Γ (mkMul (.lit (Int.ofNat (16 * te.bytes))) (mkAdd (mkAdd l n) (.lit 300))) 0 281474976710656 then
            match spanOf Γ lk p l, spanOf Γ lk q n with
            | some (none, _), some (some k, B) => some (mkAdd l n, .dyn k (mkAdd l n), B)
            | some (some k, A), some (some k', B) =>
              match n with
              | .lit (.ofNat m) => if CK.beq k k' && Nat.ble m 16 then some (mkAdd l n, .dyn k (mkAdd l n), layAll Γ B m A l) else none
              | _ => none
            | _, _ => none
          else none
        | none => none
      | _ => none
    | _, _, _, _ => none
  | _ => none

theorem sliceOf_rel {env : Env} {ρ : Rho} {s : SC} {p : Option (Nat × Tm)} {l : Tm} {c : Option Tm} (h : sliceOf s = some (p, l, c)) {v : Value} (hv : s.Rel env ρ v) :
    ∃ base len cap, v = .slice base len cap ∧ (len : Int) = (den env l).i ∧ len ≤ cap ∧ (∀ t, c = some t → (cap : Int) = (den env t).i) ∧
      (∀ b o, p = some (b, o) → 0 < len → ∃ off : Nat, base = some ⟨(ρ b).1, (ρ b).2 + off, none⟩ ∧ (off : Int) = (den env o).i) ∧ (p = none → base = none ∧ len = 0) := by
  unfold sliceOf at h
  split at h
  · rename_i b o l' c'
    cases h
    obtain ⟨off, len, cap, rfl, g2, g3, g4, g5⟩ := hv
    refine ⟨_, len, cap, rfl, g2, g3, g4, fun b' o' hp hlen => ?_, fun hp => (by cases hp)⟩
    cases hp
    exact ⟨off, rfl, g5 (by omega)⟩
  · cases h
    have : v = .slice none 0 0 := hv
    subst this
    exact ⟨none, 0, 0, rfl, rfl, Nat.le_refl _, fun t ht => (by cases ht; rfl), fun b o hp => (by cases hp), fun _ => ⟨rfl, rfl⟩⟩
  · cases h

/-- The cells of a slice, loaded. -/
theorem spanOf_load {P : Program} {env : Env} {Γ : List Fact} (hs : Sat env Γ) {lk : Lk} {p : Option (Nat × Tm)} {l : Tm} {k : Option CK} {A : Tm} (h : spanOf Γ lk p l = some (k, A)) {ρ : Rho} {w : World} (hH : HRel env ρ lk w)
    {base : Option Addr} {len cap m : Nat} (hm : m ≤ len) (hl : (len : Int) = (den env l).i) (hp : ∀ b o, p = some (b, o) → 0 < len → ∃ off : Nat, base = some ⟨(ρ b).1, (ρ b).2 + off, none⟩ ∧ (off : Int) = (den env o).i) (hn : p = none → base = none ∧ len = 0) :
    ∃ cs, (Builtin.firstCells 1 m (.slice base len cap)).run P w = .ok cs w ∧ cs.size = m ∧ (k = none → len = 0) ∧ ∀ c, k = some c → ∀ (j : Nat) u, cs[j]? = some u → c.Rel env ρ (den env A).a j u := by
  have zero : m = 0 → ∃ cs, (Builtin.firstCells 1 m (.slice base len cap)).run P w = .ok cs w ∧ cs.size = m := by
    intro h0
    subst h0
    cases base with
    | none => exact ⟨#[], by simp [Builtin.firstCells], rfl⟩
    | some a => exact ⟨#[], by simp [Builtin.firstCells, loadCells, loadCellsFrom], rfl⟩
  unfold spanOf at h
  split at h
  · rename_i h0
    cases h
    have e := isLit_den (env := env) h0
    obtain ⟨cs, h1, h2⟩ := zero (by omega)
    exact ⟨cs, h1, h2, fun _ => by omega, fun c hc => (by cases hc)⟩
  · split at h
    · rename_i b o
      split at h
      · rename_i blk hb
        split at h
        · rename_i c hc
          cases h
          by_cases hlen : m = 0
          · obtain ⟨cs, h1, h2⟩ := zero hlen
            refine ⟨cs, h1, h2, fun e => (by cases e), fun d _ j u hu => ?_⟩
            have := (Array.getElem?_eq_some_iff.1 hu).1
            omega
          · obtain ⟨off, rfl, ho⟩ := hp b o rfl (by omega)
            have hblk := (hH _ _ hb).1
            have hcell : ∀ j, j < m → ∃ v, w.cell? ⟨(ρ b).1, (ρ b).2 + off + j, none⟩ = some v ∧ c.Rel env ρ (den env blk.A).a ((off + j : Nat) : Int) v := by
              intro j hj
              obtain ⟨v, h1, h2, _⟩ := hblk.1 _ _ (spanKind_sound hs hc ho hl j (by omega))
              exact ⟨v, by rw [Nat.add_assoc]; exact h1, h2⟩
            let f : Nat → Value := fun j => (w.cell? ⟨(ρ b).1, (ρ b).2 + off + j, none⟩).getD default
            have hf : ∀ j, j < m → w.cell? ((⟨(ρ b).1, (ρ b).2 + off, none⟩ : Addr).add j) = some (f j) := by
              intro j hj
              obtain ⟨v, h1, _⟩ := hcell j hj
              rw [add_plain]
              simp only [f, h1, Option.getD_some]
            have hrun := run_loadCells (P := P) w ⟨(ρ b).1, (ρ b).2 + off, none⟩ m f hf
            refine ⟨((List.range m).map f).toArray, ?_, by simp, fun e => (by cases e), fun d hd j u hu => ?_⟩
            · simp only [Builtin.firstCells, Nat.mul_one]
              exact hrun
            · cases hd
              have hj : j < m := by
                have := (Array.getElem?_eq_some_iff.1 hu).1
                simpa using this
              obtain ⟨v, h1, h2⟩ := hcell j hj
              simp only [List.getElem?_toArray, List.getElem?_map, List.getElem?_range hj, Option.map_some, Option.some.injEq] at hu
              have e : u = v := by rw [← hu]; simp only [f, h1, Option.getD_some]
              subst e
              refine CK.rel_num ?_ h2
              split
              · rename_i h0
                have := isLit_den (env := env) h0
                congr 1; omega
              · simp only [den]; congr 1; omega
        · cases h
      · cases h
    · cases h

theorem evAppend_sound {P : Program} {tab : Tab} (hT : TabOk P tab) {env : Env} {Γ : List Fact} (hs : Sat env Γ) {lk : Lk} {tys : Array Nat} {s x : SC} {need : Tm} {L : BL} {A : Tm} (h : evAppend tab Γ lk tys.toList s x = some (need, L, A)) (ty : Nat)
    {ρ : Rho} {w : World} (hH : HRel env ρ lk w) {u v : Value} (hu : s.Rel env ρ u) (hv : x.Rel env ρ v) :
    ∃ cs e N C, (Builtin.append_ tys ty #[u, v]).run P w = .ok (.slice (some ⟨w.heap.size, 0, none⟩) N C) (w.drew.alloc (.cells cs e)) ∧ (N : Int) = (den env need).i ∧ N ≤ C ∧
      ∀ j k, L.at env j = some k → ∃ y, cs[j]? = some y ∧ k.Rel env ρ (den env A).a j y := by
  unfold evAppend at h
  split at h
  · rename_i st xt htys
    have htys' : tys = #[st, xt] := Array.ext' htys
    subst htys'
    split at h
    · rename_i si xi p l c q n cx hsi hxi hso hxo
      have hsi' := hT _ _ hsi
      have hxi' := hT _ _ hxi
      obtain ⟨base, len, cap, rfl, e1, e2, e3, e4, e5⟩ := sliceOf_rel hso hu
      obtain ⟨base', len', cap', rfl, f1, f2, _, f4, f5⟩ := sliceOf_rel hxo hv
      split at h
      · rename_i e hd
        split at h
        · rename_i te hte
          have hte' := hT _ _ hte
          split at h
          · rename_i hc
            simp only [Bool.and_eq_true, Bool.not_eq_true', Nat.beq_eq] at hc
            obtain ⟨⟨⟨⟨⟨c1, c2⟩, c3⟩, c4⟩, c5⟩, c6⟩ := hc
            have hcap := e3 _ rfl
            have hlt : cap < len + len' := by
              have e := mkLt_den hs c (mkAdd l n)
              rw [isLit_den c5, mkAdd_den] at e
              by_cases hh : (den env c).i < (den env l).i + (den env n).i
              · omega
              · rw [if_neg hh] at e; cases e
            have hb := within_sound hs c6
            simp only [mkMul_den, mkAdd_den, den, Int.ofNat_eq_natCast] at hb
            have hbytes : te.bytes ≠ 0 := by
              intro h0
              rw [h0] at c3
              cases c3
            obtain ⟨Z, hZ⟩ := Option.isSome_iff_exists.1 c4
            obtain ⟨z, hz, hzs, _⟩ := hte'.run_zero hZ w.drew
            obtain ⟨i, hi1, hi2, hi3, _⟩ := hte'.info
            have main : ∀ {k1 k2 : Option CK} {A1 A2 : Tm}, spanOf Γ lk p l = some (k1, A1) → spanOf Γ lk q n = some (k2, A2) →
                ∃ c1 c2 rest C, (Builtin.append_ #[st, xt] ty #[.slice base len cap, .slice base' len' cap']).run P w = .ok (.slice (some ⟨w.heap.size, 0, none⟩) (len + len') C) (w.drew.alloc (.cells (c1 ++ c2 ++ rest) e)) ∧ len + len' ≤ C ∧
                  c1.size = len ∧ c2.size = len' ∧ (k1 = none → len = 0) ∧ (k2 = none → len' = 0) ∧ (∀ c, k1 = some c → ∀ (j : Nat) u, c1[j]? = some u → c.Rel env ρ (den env A1).a j u) ∧ (∀ c, k2 = some c → ∀ (j : Nat) u, c2[j]? = some u → c.Rel env ρ (den env A2).a j u) := by
              intro k1 k2 A1 A2 hs1 hs2
              have hHd : HRel env ρ lk w.drew := fun i b hb => ⟨(hH i b hb).1.fr (Fr.drew (fun _ => False) w) (hH i b hb).2 id, (hH i b hb).2⟩
              obtain ⟨cs1, g1, g2, g3, g4⟩ := spanOf_load (P := P) hs hs1 hHd (cap := cap) (Nat.le_refl _) e1 e4 e5
              obtain ⟨cs2, g5, g6, g7, g8⟩ := spanOf_load (P := P) hs hs2 hHd (cap := cap') (Nat.le_refl _) f1 f4 f5
              have n1 : ¬ (len + len' ≤ cap) := by omega
              have hnx := nextslicecap_le (len + len') cap (by omega)
              have n2 : ¬ (2 ^ 48 < Builtin.nextslicecap (len + len') cap * te.bytes) := by
                have h1 : Builtin.nextslicecap (len + len') cap * te.bytes ≤ (16 * (len + len' + 300)) * te.bytes := Nat.mul_le_mul_right _ hnx
                have h2 : (16 * (len + len' + 300)) * te.bytes = 16 * te.bytes * (len + len' + 300) := by
                  rw [Nat.mul_assoc, Nat.mul_comm (len + len' + 300), ← Nat.mul_assoc]
                have h3 : ((16 * te.bytes : Nat) : Int) * ((len : Int) + len' + 300) ≤ 281474976710656 := by
                  rw [e1, f1]; exact hb.2
                have h4 : 16 * te.bytes * (len + len' + 300) ≤ 281474976710656 := by
                  generalize 16 * te.bytes = m at h3
                  have h6 : ((m * (len + len' + 300) : Nat) : Int) = (m : Int) * ((len : Int) + len' + 300) := by
                    rw [Int.natCast_mul]
                    congr 1
                  rw [← h6] at h3
                  exact Int.ofNat_le.1 h3
                have h5 : (2 : Nat) ^ 48 = 281474976710656 := by decide
                omega
              have hnotint : ∀ k, xi.desc ≠ .int k := by
                intro k hk
                rw [hk] at c1; cases c1
              have hcut := Question.cut (.appendCap (len + len') cap e) (w.tape w.drawn (.appendCap (len + len') cap e))
              refine ⟨cs1, cs2, Builtin.zeroCells z.cells ((Question.appendCap (len + len') cap e).cut (w.tape w.drawn (.appendCap (len + len') cap e)) - (len + len')), (Question.appendCap (len + len') cap e).cut (w.tape w.drawn (.appendCap (len + len') cap e)), ?_, ?_, g2, g6, g3, g7, g4, g8⟩
              · unfold Builtin.append_
                simp [hsi'.run_under, hd, hte'.run_size, hxi'.run_under, Builtin.lenOf, n1, typeInfo, hi1, hi3, n2, hbytes, Question.forced, newRow]
                rw [c2, g1]
                simp only [Result.andThen_ok]
                rw [g5]
                simp only [Result.andThen_ok]
                rw [hz]
                rfl
              · show len + len' ≤ len + len' + _
                omega
            have sum : ((len + len' : Nat) : Int) = (den env (mkAdd l n)).i := by rw [mkAdd_den, ← e1, ← f1]; rfl
            split at h
            · rename_i k B h1 h2
              cases h
              obtain ⟨cs1, cs2, rest, C, r1, r2, r3, r4, r5, _, _, r8⟩ := main h1 h2
              refine ⟨_, e, len + len', C, r1, sum, r2, fun j k' hk => ?_⟩
              simp only [BL.at] at hk
              split at hk
              · rename_i hj
                cases hk
                have h0 := r5 rfl
                have hj' : j < cs2.size := by omega
                refine ⟨cs2[j], ?_, r8 _ rfl j _ (Array.getElem?_eq_getElem hj')⟩
                rw [Array.append_assoc, Array.getElem?_append_right (by omega), Array.getElem?_append_left (by omega)]
                rw [show j - cs1.size = j by omega]
                exact Array.getElem?_eq_getElem hj'
              · cases hk
            · rename_i k A1 k2 B h1 h2
              split at h
              · rename_i m
                split at h
                · rename_i hkm
                  cases h
                  simp only [Bool.and_eq_true] at hkm
                  have hk2 := CK.beq_eq hkm.1
                  subst hk2
                  obtain ⟨cs1, cs2, rest, C, r1, r2, r3, r4, _, _, r7, r8⟩ := main h1 h2
                  refine ⟨_, e, len + len', C, r1, sum, r2, fun j k' hk => ?_⟩
                  simp only [BL.at] at hk
                  split at hk
                  · rename_i hj
                    cases hk
                    have hm : (len' : Int) = m := by rw [f1]; rfl
                    have hA := layAll_den hs B m A1 l (j : Int)
                    by_cases hjl : j < len
                    · have hj' : j < cs1.size := by omega
                      refine ⟨cs1[j], ?_, CK.rel_num ?_ (r7 _ rfl j _ (Array.getElem?_eq_getElem hj'))⟩
                      · rw [Array.append_assoc, Array.getElem?_append_left (by omega)]
                        exact Array.getElem?_eq_getElem hj'
                      · rw [hA, if_neg (by omega)]
                    · have hj' : j - len < cs2.size := by omega
                      refine ⟨cs2[j - len], ?_, CK.rel_num ?_ (r8 _ rfl (j - len) _ (Array.getElem?_eq_getElem hj'))⟩
                      · rw [Array.append_assoc, Array.getElem?_append_right (by omega), Array.getElem?_append_left (by omega)]
                        rw [show j - cs1.size = j - len by omega]
                        exact Array.getElem?_eq_getElem hj'
                      · rw [hA, if_pos (by omega)]
                        congr 1; omega
                  · cases hk
                · cases h
              · cases h
            · cases h
          · cases h
        · cases h
      · cases h
    · cases h
  · cases h

/-! ### copy -/

def simpleK : CK → Bool
  | .int _ => true
  | .bool => true
  | _ => false

def evCopy (tab : Tab) (Γ : List Fact) (lk : Lk) (tys : List Nat) (d x : SC) : Option (Tm × List (Nat × Blk)) :=
  match tys with
  | dt :: _ =>
    match tlook dt tab, sliceOf d, sliceOf x with
    | some di, some (p, l, _), some (q, n, _) =>
      match di.desc with
      | .slice e =>
        match tlook e tab with
        | some te =>
          match Nat.beq te.size 1, isLit n 0 || isLit l 0 with
          | true, true => some (.lit 0, [])
          | true, false =>
            match p, spanOf Γ lk q n with
            | some (b, o), some (some k, _) =>
              match lk b with
              | some blk => match spanKind Γ blk.lay o l with
                | some (.fix .junk) => if simpleK k && blk.rw then some (mkIte (mkLt Γ n l) n l, [(b, blk)]) else none
                | _ => none
              | none => none
            | _, _ => none
          | _, _ => none
        | none => none
      | _ => none
    | _, _, _ => none
  | _ => none

theorem sliceOf_lt {s : SC} {b : Nat} {o l : Tm} {c : Option Tm} (h : sliceOf s = some (some (b, o), l, c)) {nb : Nat} (hl : s.lt nb = true) : b < nb := by
  unfold sliceOf at h
  split at h
  · cases h
    simpa [SC.lt] using hl
  · cases h
  · cases h

theorem Step.touch {env : Env} {lk : Lk} {nb : Nat} {ρ : Rho} {w w' : World} {b : Nat} {blk : Blk} (hb : lk b = some blk) (hrw : blk.rw = true) (hbn : b < nb) (hrel : BlkRel env ρ w' (ρ b) blk) (hsz : (ρ b).1 < w.heap.size)
    (hsize : w'.heap.size = w.heap.size) (hfr : Fr (· = (ρ b).1) w w') : Step env lk nb ρ ρ w w' [(b, blk)] := by
  constructor
  · exact RhoEq.refl _ _
  · intro i b' hi
    simp only [look_nil, look_cons, Nat.beq_eq] at hi
    split at hi
    · rename_i e; subst e; cases hi
      exact ⟨hrel, by rw [hsize]; exact hsz⟩
    · cases hi
  · intro i b' hi _
    simp only [look_nil, look_cons, Nat.beq_eq] at hi
    split at hi
    · rename_i e; subst e; exact ⟨blk, hb, hrw⟩
    · cases hi
  · intro i b' hi h
    simp only [look_nil, look_cons, Nat.beq_eq] at hi
    split at hi
    · rename_i e; omega
    · cases hi
  · intro i j b' c' hi hj h h' hij
    simp only [look_nil, look_cons, Nat.beq_eq] at hi hj
    split at hi
    · omega
    · cases hi
  · exact hfr.mono fun k _ hk => ⟨b, blk, by simp [look_cons], hbn, hk.symm⟩

theorem evCopy_sound {P : Program} {tab : Tab} (hT : TabOk P tab) {env : Env} {Γ : List Fact} (hs : Sat env Γ) {lk : Lk} {nb : Nat} {tys : Array Nat} {d x : SC} {t : Tm} {ups : List (Nat × Blk)} (h : evCopy tab Γ lk tys.toList d x = some (t, ups)) (ty : Nat)
    (hlt : d.lt nb = true) {ρ : Rho} {w : World} (hH : HRel env ρ lk w) {u v : Value} (hu : d.Rel env ρ u) (hv : x.Rel env ρ v) :
    ∃ w', (Builtin.copy_ tys ty #[u, v]).run P w = .ok (.int .i64 (den env t).i) w' ∧ Step env lk nb ρ ρ w w' ups := by
  unfold evCopy at h
  split at h
  · rename_i dt tr htys
    have h0 : tys[0]? = some dt := by
      rw [← Array.getElem?_toList, htys]; rfl
    split at h
    · rename_i di p l cd q n cx hdi hdo hxo
      have hdi' := hT _ _ hdi
      obtain ⟨base, len, cap, rfl, e1, e2, _, e4, e5⟩ := sliceOf_rel hdo hu
      obtain ⟨base', len', cap', rfl, f1, f2, _, f4, f5⟩ := sliceOf_rel hxo hv
      split at h
      · rename_i e hd
        split at h
        · rename_i te hte
          have hte' := hT _ _ hte
          split at h
          · rename_i c1 c2
            rw [Nat.beq_eq] at c1
            cases h
            have hz : Nat.min len' len = 0 := by
              rw [Bool.or_eq_true] at c2
              rcases c2 with c2 | c2
              · have := isLit_den (env := env) c2
                have : len' = 0 := by omega
                subst this; exact Nat.zero_min _
              · have := isLit_den (env := env) c2
                have : len = 0 := by omega
                subst this; exact Nat.min_zero _
            refine ⟨w, ?_, Step.same⟩
            unfold Builtin.copy_
            simp only [h0]
            cases base <;> cases base' <;> simp [hdi'.run_under, hd, Builtin.lenOf, hte'.run_size, hz, Builtin.firstCells, loadCells, loadCellsFrom, storeCells, goInt, den]
          · rename_i c1 c2
            rw [Nat.beq_eq] at c1
            split at h
            · rename_i b o k A hsp
              split at h
              · rename_i blk hb
                split at h
                · rename_i hjk
                  split at h
                  · rename_i hc
                    rw [Bool.and_eq_true] at hc
                    cases h
                    have hmin : ((Nat.min len' len : Nat) : Int) = (den env (mkIte (mkLt Γ n l) n l)).i := by
                      rw [mkIte_den, mkLt_den hs]
                      by_cases hh : (den env n).i < (den env l).i
                      · rw [if_pos hh, if_neg (by decide)]
                        have : Nat.min len' len = len' := Nat.min_eq_left (by omega)
                        rw [this, f1]
                      · rw [if_neg hh, if_pos rfl]
                        have : Nat.min len' len = len := Nat.min_eq_right (by omega)
                        rw [this, e1]
                    generalize hmm : Nat.min len' len = m at hmin
                    have hm1 : m ≤ len' := by rw [← hmm]; exact Nat.min_le_left ..
                    have hm2 : m ≤ len := by rw [← hmm]; exact Nat.min_le_right ..
                    obtain ⟨cs, g1, g2, _, g4⟩ := spanOf_load (P := P) hs hsp hH (cap := cap') hm1 f1 f4 f5
                    have hblk := hH _ _ hb
                    have hone : ∀ y ∈ cs.toList, y.oneCell' = true := by
                      intro y hy
                      obtain ⟨j, hj⟩ := List.mem_iff_getElem?.1 hy
                      have := g4 _ rfl j y (by simpa using hj)
                      refine CK.one_rel (fun s hs' => ?_) this
                      subst hs'
                      cases hc.1
                    have hbn := sliceOf_lt hdo hlt
                    by_cases hl0 : len = 0
                    · have hm0 : m = 0 := by omega
                      subst hm0
                      have hcs : cs = #[] := Array.eq_empty_of_size_eq_zero g2
                      subst hcs
                      refine ⟨w, ?_, ?_⟩
                      · rw [← hmin]
                        unfold Builtin.copy_
                        simp only [h0]
                        cases base <;> simp [hdi'.run_under, hd, Builtin.lenOf, hte'.run_size, hmm, c1, g1, storeCells, goInt]
                      · exact Step.touch hb hc.2 hbn hblk.1 hblk.2 rfl (Fr.refl _ _)
                    · obtain ⟨off, rfl, ho⟩ := e4 b o rfl (by omega)
                      obtain ⟨w', k1, k2, k3, k4, k5, k6⟩ := run_storeCells_ok (P := P) (ρ b).1 ((ρ b).2 + off) cs.toList 0 w (fun j hj => by
                        have hj' : j < len := by simp at hj; omega
                        obtain ⟨y, h1, _, h3⟩ := hblk.1.1 _ _ (spanKind_sound hs hjk ho e1 j hj')
                        rw [Nat.add_zero, Nat.add_assoc]
                        exact ⟨⟨y, h1⟩, h3 hc.2⟩) hone
                      refine ⟨w', ?_, ?_⟩
                      · rw [← hmin]
                        unfold Builtin.copy_
                        simp only [h0]
                        simp [hdi'.run_under, hd, Builtin.lenOf, hte'.run_size, hmm, c1, g1, k1, goInt]
                      · refine Step.touch hb hc.2 hbn ⟨?_, BL.mapRel_plain (spanKind_plain hjk) _ _⟩ hblk.2 k5 k6
                        intro j c hcj
                        obtain ⟨y, h1, h2, h3⟩ := hblk.1.1 j c hcj
                        by_cases hr : off ≤ j ∧ j < off + cs.size
                        · have hc' := spanKind_sound hs hjk ho e1 (j - off) (by omega)
                          rw [show off + (j - off) = j by omega] at hc'
                          rw [hcj] at hc'
                          cases hc'
                          have hj' : j - off < cs.size := by omega
                          have := k2 (j - off) cs[j - off] (by simp [hj'])
                          rw [Nat.add_zero, Nat.add_assoc, show off + (j - off) = j by omega] at this
                          exact ⟨_, this, trivial, fun e => by rw [k4]; exact h3 e⟩
                        · refine ⟨y, ?_, h2, fun e => by rw [k4]; exact h3 e⟩
                          rw [k3 _ (fun q hq => by intro e; simp at e hq; omega)]
                          exact h1
                  · cases h
                · cases h
              · cases h
            · cases h
          · cases h
        · cases h
      · cases h
    · cases h
  · cases h

theorem Step.drew {env : Env} {lk : Lk} {nb : Nat} {ρ ρ' : Rho} {w w' : World} {ups : List (Nat × Blk)} (h : Step env lk nb ρ ρ' w.drew w' ups) : Step env lk nb ρ ρ' w w' ups :=
  ⟨h.rho, h.blks, h.old, h.new, h.apart, (Fr.drew _ w).trans (h.fr.mono fun _ _ hk => .inl hk)⟩

end Go.Sx
