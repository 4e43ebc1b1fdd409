/- A part of the reckoning with symbols: states, terms and their meaning, used by the proofs of this seat. -/
import Derived.Test.YtpndnejabebfeaaGreatDoorSxF
/-! The remaining operations, and all of them together. -/
noncomputable section
namespace Go.Sx

/-! ### Slices of one layout after another -/

def Lay.repl : Nat → Lay → Lay
  | 0, _ => []
  | n + 1, L => L ++ Lay.repl n L

theorem Lay.size_repl (L : Lay) : ∀ n, (Lay.repl n L).size = n * L.size
  | 0 => by simp [Lay.repl, Lay.size]
  | n + 1 => by simp only [Lay.repl, Lay.size_append, Lay.size_repl L n]; rw [Nat.add_mul]; omega

theorem Lay.at_repl (L : Lay) : ∀ (n j : Nat), j < n * L.size → Lay.at (Lay.repl n L) j = Lay.at L (j % L.size)
  | 0, j, h => by omega
  | n + 1, j, h => by
    simp only [Lay.repl, Lay.at_append]
    by_cases hj : j < L.size
    · rw [if_pos hj, Nat.mod_eq_of_lt hj]
    · rw [if_neg hj, Lay.at_repl L n _ (by rw [Nat.succ_mul] at h; omega)]
      congr 1
      exact (Nat.mod_eq_sub_mod (by omega)).symm

/-- n times a layout, short where it is of one kind. -/
def Lay.many (n : Nat) (L : Lay) : Lay :=
  match Lay.norm L with
  | [(c, k)] => [(c, n * k)]
  | M => Lay.norm (Lay.repl n M)

theorem Lay.many_spec (n : Nat) (L : Lay) : (Lay.many n L).size = n * L.size ∧ ∀ j c, Lay.at (Lay.many n L) j = some c → Lay.at L (j % L.size) = some c := by
  unfold Lay.many
  split
  · rename_i c k heq
    have hsz : L.size = k := by rw [← Lay.size_norm, heq]; simp [Lay.size]
    refine ⟨by simp [Lay.size, hsz], fun j d hd => ?_⟩
    obtain ⟨rfl, hj⟩ := at_one hd
    have hk : 0 < k := by
      rcases Nat.eq_zero_or_pos k with rfl | h
      · simp at hj
      · exact h
    rw [← Lay.at_norm, heq, hsz]
    simp only [Lay.at, Nat.blt_eq]
    rw [if_pos (Nat.mod_lt _ hk)]
  · refine ⟨by rw [Lay.size_norm, Lay.size_repl, Lay.size_norm], fun j d hd => ?_⟩
    rw [Lay.at_norm] at hd
    have hj := Lay.at_some hd
    rw [Lay.size_repl] at hj
    rw [Lay.at_repl _ _ _ hj, Lay.at_norm, Lay.size_norm] at hd
    exact hd

theorem cells_rep {env : Env} {ρ : Rho} {L : Lay} {z : Array Value} (n m : Nat) (hm : m = n * L.size) (hsz : z.size = L.size)
    (hrel : ∀ j c, Lay.at L j = some c → ∀ u, z[j]? = some u → c.Rel env ρ (den env (.rep 0)).a j u) :
    (madeCells z m).size = (Lay.many n L).size ∧ ∀ j c, Lay.at (Lay.many n L) j = some c → ∀ u, (madeCells z m)[j]? = some u → c.Rel env ρ (den env (.rep 0)).a j u := by
  obtain ⟨h1, h2⟩ := Lay.many_spec n L
  refine ⟨by rw [size_madeCells, h1, hm], fun j c hc u hu => ?_⟩
  have hL := h2 j c hc
  have hlt := Lay.at_some hL
  have hj := Lay.at_some hc
  rw [h1] at hj
  have hju : j < m := by omega
  have : u = z[j % z.size]! := by
    have : (madeCells z m)[j]? = some (z[j % z.size]!) := by
      simp [madeCells, hju]
    rw [this] at hu; cases hu; rfl
  have hz : z[j % L.size]? = some u := by
    rw [this, hsz]
    rw [getElem!_pos z _ (by omega), getElem?_pos z _ (by omega)]
  exact CK.rel_num (by rfl) (hrel _ _ hL u hz)

def evBuildSlice (tab : Tab) (Γ : List Fact) (t len : Nat) (ps : List (Nat × SV)) : Option (Lay × Tm) :=
  match tlook t tab with
  | some ti =>
    match ti.desc with
    | .slice e =>
      match tlook e tab with
      | some te =>
        if Nat.beq (len * te.size) 0 then (match ps with
          | [] => some ([], .nil)
          | _ => none)
        else match te.zero with
        | some Z => if Nat.beq Z.size te.size && Nat.ble (len * te.size) 16777216 && !Nat.beq (len * te.size) 0 then fillSV Γ (fun i => some (i * te.size, te.size)) (Lay.many len Z) (.rep 0) ps else none
        | none => none
      | none => none
    | _ => none
  | none => none

theorem evBuildSlice_sound {P : Program} {tab : Tab} (hT : TabOk P tab) {env : Env} {Γ : List Fact} (hs : Sat env Γ) {t len : Nat} {ps : List (Nat × SV)} {M : Lay} {B : Tm} (h : evBuildSlice tab Γ t len ps = some (M, B))
    {ρ : Rho} {vs : Array (Nat × Value)} (hv : PartsRel env ρ ps vs.toList) (w : World) :
    ∃ cs e, (Instr.buildSlice t len vs).run P w = .ok (.slice (some ⟨w.heap.size, 0, none⟩) len len) (w.alloc (.cells cs e)) ∧
      cs.size = M.size ∧ ∀ j c, Lay.at M j = some c → ∀ u, cs[j]? = some u → c.Rel env ρ (den env B).a j u := by
  unfold evBuildSlice at h
  split at h
  · rename_i ti ht
    have hti := hT _ _ ht
    split at h
    · rename_i e hd
      split at h
      · rename_i te hte
        have hte' := hT _ _ hte
        split at h
        · rename_i h0
          rw [Nat.beq_eq] at h0
          split at h
          · cases h
            have hvs : vs.toList = [] := by
              cases hl : vs.toList with
              | nil => rfl
              | cons x r => rw [hl] at hv; exact hv.elim
            refine ⟨#[], e, ?_, rfl, fun j c hc => by cases hc⟩
            simp [Instr.buildSlice, hti.run_under, hd, hte'.run_size, h0, newRow, hvs, Instr.fill]
            congr 2
            apply Array.ext'
            simp
          · cases h
        split at h
        · rename_i Z hz
          split at h
          · rename_i hc
            simp only [Bool.and_eq_true, Nat.beq_eq, Nat.ble_eq, Bool.not_eq_true', ← Bool.not_eq_true] at hc
            obtain ⟨⟨hZ, hle⟩, hne⟩ := hc
            obtain ⟨v0, hrun, hsz0, hrel0⟩ := hte'.run_zero hz w
            obtain ⟨g1, g2⟩ := cells_rep (env := env) (ρ := ρ) (L := Z) (z := v0.cells) len (len * te.size) (by rw [hZ]) hsz0 (hrel0 env ρ)
            obtain ⟨cs, k1, k2, k3, k4⟩ := fillSV_sound hs ps _ _ M B (madeCells v0.cells (len * te.size)) vs.toList h g1 g2 hv
            refine ⟨cs, e, ?_, k2, k4⟩
            have n1 : ¬ (16777216 < len * te.size) := by omega
            have k1' : Instr.fill (fun i => some (i * te.size, te.size)) ((Array.range (len * te.size)).map (v0.cells[· % v0.cells.size]!)) vs.toList = some cs := k1
            simp [Instr.buildSlice, hti.run_under, hd, hte'.run_size, n1, hne, hrun, newRow, k1']
          · cases h
        · cases h
      · cases h
    · cases h
  · cases h

/-! ### Places -/

def evFieldAddr (tab : Tab) (t : Nat) (s : SC) (f : Nat) : Option SC :=
  match s, tlook t tab with
  | .ptr b o, some ti =>
    match ti.desc with
    | .struct fs =>
      match fs[f]? with
      | some fd =>
        match tlook fd.type tab with
        | some tf => if Nat.beq tf.size 0 then none else some (.ptr b (mkAdd o (.lit (Int.ofNat fd.offset))))
        | none => none
      | none => none
    | _ => none
  | _, _ => none

theorem evFieldAddr_sound {P : Program} {tab : Tab} (hT : TabOk P tab) {env : Env} {t f : Nat} {s r : SC} (h : evFieldAddr tab t s f = some r)
    {ρ : Rho} {u : Value} (hu : s.Rel env ρ u) (w : World) : ∃ v, (Instr.fieldAt t u f).run P w = .ok v w ∧ r.Rel env ρ v := by
  unfold evFieldAddr at h
  split at h
  · rename_i b o ti ht
    have hti := hT _ _ ht
    obtain ⟨off, ho, rfl⟩ := hu
    split at h
    · rename_i fs hd
      split at h
      · rename_i fd hf
        split at h
        · rename_i tf htf
          have htf' := hT _ _ htf
          split at h
          · cases h
          · rename_i hz
            rw [Nat.beq_eq] at hz
            cases h
            refine ⟨_, by simp [Instr.fieldAt, hti.run_under, hd, hf, Instr.sureAddr, fieldPlace, htf'.run_size, hz]; rfl, off + fd.offset, ?_, ?_⟩
            · rw [mkAdd_den, ← ho]; simp [den]
            · rw [add_plain, Nat.add_assoc]
        · cases h
      · cases h
    · cases h
  · cases h

def evField (tab : Tab) (Γ : List Fact) (t : Nat) (s : SV) (f : Nat) : Option SV :=
  match s, tlook t tab with
  | .agg L A, some ti =>
    match ti.desc with
    | .struct fs =>
      match fs[f]? with
      | some fd =>
        match tlook fd.type tab with
        | some tf => partSV Γ tf L A (.lit (Int.ofNat fd.offset))
        | none => none
      | none => none
    | _ => none
  | _, _ => none

theorem evField_sound {P : Program} {tab : Tab} (hT : TabOk P tab) {env : Env} {Γ : List Fact} (hs : Sat env Γ) {t f : Nat} {s r : SV} (h : evField tab Γ t s f = some r)
    {ρ : Rho} {u : Value} (hu : s.Rel env ρ u) (w : World) : ∃ v, (Instr.field t u f).run P w = .ok v w ∧ r.Rel env ρ v := by
  unfold evField at h
  split at h
  · rename_i L A ti ht
    have hti := hT _ _ ht
    obtain ⟨cs, rfl, h2, h3⟩ := hu
    split at h
    · rename_i fs hd
      split at h
      · rename_i fd hf
        split at h
        · rename_i tf htf
          obtain ⟨v, g1, g2⟩ := partSV_sound (hT _ _ htf) hs h h2 h3 (off := fd.offset) (by simp [den]) w
          exact ⟨v, by simp [Instr.field, hti.run_under, hd, hf, asAgg, g1], g2⟩
        · cases h
      · cases h
    · cases h
  · cases h

def evIndexAddr (tab : Tab) (Γ : List Fact) (t : Nat) (s i : SC) : Option SC :=
  match tlook t tab, i with
  | some ti, .int _ e =>
    match ti.desc, s with
    | .array n el, .ptr b o =>
      match tlook el tab with
      | some te => if inDyn Γ (.lit (Int.ofNat n)) e then some (.ptr b (mkAdd o (mkMul e (.lit (Int.ofNat te.size))))) else none
      | none => none
    | .slice el, .slice b o len _ =>
      match tlook el tab with
      | some te => if inDyn Γ len e then some (.ptr b (mkAdd o (mkMul e (.lit (Int.ofNat te.size))))) else none
      | none => none
    | _, _ => none
  | _, _ => none

theorem evIndexAddr_sound {P : Program} {tab : Tab} (hT : TabOk P tab) {env : Env} {Γ : List Fact} (hs : Sat env Γ) {t : Nat} {s i r : SC} (h : evIndexAddr tab Γ t s i = some r)
    {ρ : Rho} {u q : Value} (hu : s.Rel env ρ u) (hq : i.Rel env ρ q) (w : World) : ∃ v, (Instr.indexAt t u q).run P w = .ok v w ∧ r.Rel env ρ v := by
  unfold evIndexAddr at h
  split at h
  · rename_i ti k e ht
    have hti := hT _ _ ht
    simp only [SC.Rel] at hq
    subst hq
    split at h
    · rename_i n el b o hd
      obtain ⟨off, ho, rfl⟩ := hu
      split at h
      · rename_i te hte
        split at h
        · rename_i hin
          have hb := inDyn_sound hs hin
          have el : (den env (.lit (Int.ofNat n))).i = (n : Int) := rfl
          cases h
          have hcond : 0 ≤ (den env e).i ∧ (den env e).i < (n : Int) := ⟨hb.1, by omega⟩
          refine ⟨_, by simp [Instr.indexAt, asIntOf, hti.run_under, hd, Instr.sureAddr, hcond, (hT _ _ hte).run_size]; rfl, off + (den env e).i.toNat * te.size, ?_, ?_⟩
          · rw [mkAdd_den, mkMul_den, ← ho]
            simp only [den, Int.ofNat_eq_natCast, Int.natCast_add, Int.natCast_mul, Int.toNat_of_nonneg hb.1]
          · rw [add_plain, Nat.add_assoc]
        · cases h
      · cases h
    · rename_i el b o len cap hd
      obtain ⟨off, ln, cp, rfl, h1, h2, h3, h4⟩ := hu
      split at h
      · rename_i te hte
        split at h
        · rename_i hin
          have hb := inDyn_sound hs hin
          cases h
          have hcond : 0 ≤ (den env e).i ∧ (den env e).i < (ln : Int) := ⟨hb.1, by omega⟩
          have ho := h4 (by omega)
          refine ⟨_, by simp [Instr.indexAt, asIntOf, hti.run_under, hd, hcond, (hT _ _ hte).run_size]; rfl, off + (den env e).i.toNat * te.size, ?_, ?_⟩
          · rw [mkAdd_den, mkMul_den, ← ho]
            simp only [den, Int.ofNat_eq_natCast, Int.natCast_add, Int.natCast_mul, Int.toNat_of_nonneg hb.1]
          · rw [add_plain, Nat.add_assoc]
        · cases h
      · cases h
    · cases h
  · cases h

def evIndex (tab : Tab) (Γ : List Fact) (t : Nat) (s : SV) (i : SC) : Option SV :=
  match tlook t tab, i with
  | some ti, .int _ e =>
    match ti.desc, s with
    | .array n el, .agg L A =>
      match tlook el tab with
      | some te => if inDyn Γ (.lit (Int.ofNat n)) e then partSV Γ te L A (mkMul e (.lit (Int.ofNat te.size))) else none
      | none => none
    | .string, .sc (.val (.string str)) =>
      match e with
      | .lit (.ofNat m) => match str.data.toList[m]? with
        | some c => some (.sc (.int .u8 (.lit (Int.ofNat c.toNat))))
        | none => none
      | _ => none
    | _, _ => none
  | _, _ => none

theorem evIndex_sound {P : Program} {tab : Tab} (hT : TabOk P tab) {env : Env} {Γ : List Fact} (hs : Sat env Γ) {t : Nat} {s r : SV} {i : SC} (h : evIndex tab Γ t s i = some r)
    {ρ : Rho} {u q : Value} (hu : s.Rel env ρ u) (hq : i.Rel env ρ q) (w : World) : ∃ v, (Instr.index t u q).run P w = .ok v w ∧ r.Rel env ρ v := by
  unfold evIndex at h
  split at h
  · rename_i ti k e ht
    have hti := hT _ _ ht
    simp only [SC.Rel] at hq
    subst hq
    split at h
    · rename_i n el L A hd
      obtain ⟨cs, rfl, h2, h3⟩ := hu
      split at h
      · rename_i te hte
        split at h
        · rename_i hin
          have hb := inDyn_sound hs hin
          have eln : (den env (.lit (Int.ofNat n))).i = (n : Int) := rfl
          have hcond : 0 ≤ (den env e).i ∧ (den env e).i < (n : Int) := ⟨hb.1, by omega⟩
          obtain ⟨v, g1, g2⟩ := partSV_sound (hT _ _ hte) hs h h2 h3 (off := (den env e).i.toNat * te.size) (by
            rw [mkMul_den]
            simp only [den, Int.ofNat_eq_natCast, Int.natCast_mul, Int.toNat_of_nonneg hb.1]) w
          exact ⟨v, by simp [Instr.index, asIntOf, hti.run_under, hd, hcond, (hT _ _ hte).run_size, g1], g2⟩
        · cases h
      · cases h
    · rename_i str hd
      simp only [SV.Rel, SC.Rel] at hu
      subst hu
      split at h
      · rename_i m
        split at h
        · rename_i c hc
          cases h
          have hm : str[m]? = some c := by
            obtain ⟨hlt, hget⟩ := List.getElem?_eq_some_iff.1 hc
            have hlt' : m < str.size := by simpa using hlt
            rw [getElem?_pos str m hlt']
            congr 1
          refine ⟨.int .u8 c.toNat, ?_, by simp [SV.Rel, SC.Rel, den]⟩
          simp [Instr.index, asIntOf, hti.run_under, hd, den, hm]
        · cases h
      · cases h
    · cases h
  · cases h

/-! ### Slicing -/

theorem run_bounds {P : Program} {w : World} {isSlice : Bool} {len cap l h : Nat} {lo hi : Option Value} (hlo : (lo = none ∧ l = 0) ∨ ∃ k : IntKind, lo = some (.int k l))
    (hhi : (hi = none ∧ h = len) ∨ ∃ k : IntKind, hi = some (.int k h)) (h1 : l ≤ h) (h2 : h ≤ cap) :
    (Instr.sliceBounds isSlice len cap lo hi none).run P w = .ok (l, h, cap) w := by
  rcases hlo with ⟨rfl, rfl⟩ | ⟨k, rfl⟩ <;> rcases hhi with ⟨rfl, rfl⟩ | ⟨k', rfl⟩ <;>
    simp [Instr.sliceBounds, Instr.sliceBound, asIntOf, h1, h2]

/-- 0 ≤ l ≤ h ≤ m, surely? -/
def ordered (Γ : List Fact) (l h m : Tm) : Bool :=
  (match rng Γ l with
  | some (x, _) => ile 0 x
  | none => false) && isLit (mkLt Γ h l) 0 && isLit (mkLt Γ m h) 0

theorem ordered_sound {env : Env} {Γ : List Fact} (hs : Sat env Γ) {l h m : Tm} (hh : ordered Γ l h m = true) : 0 ≤ (den env l).i ∧ (den env l).i ≤ (den env h).i ∧ (den env h).i ≤ (den env m).i := by
  unfold ordered at hh
  simp only [Bool.and_eq_true] at hh
  obtain ⟨⟨h1, h2⟩, h3⟩ := hh
  have e2 := mkLt_den hs h l
  have e3 := mkLt_den hs m h
  rw [isLit_den h2] at e2
  rw [isLit_den h3] at e3
  split at h1
  · rename_i x y heq
    rw [ile_iff] at h1
    have := (rng_has hs _ _ heq).1
    dsimp only at this
    split at e2
    · omega
    · split at e3
      · omega
      · omega
  · cases h1

def optInt : Option SC → Option (Option Tm)
  | none => some none
  | some (.int _ e) => some (some e)
  | some _ => none

def evSlice (tab : Tab) (Γ : List Fact) (t : Nat) (s : SC) (lo hi : Option SC) : Option SC :=
  match tlook t tab, optInt lo, optInt hi with
  | some ti, some lo, some hi =>
    match ti.desc, s with
    | .array n el, .ptr b o =>
      match tlook el tab with
      | some te =>
        let l := lo.getD (.lit 0)
        let m := Tm.lit (Int.ofNat n)
        let h := hi.getD m
        if ordered Γ l h m then some (.slice b (mkAdd o (mkMul l (.lit (Int.ofNat te.size)))) (mkSub h l) (some (mkSub m l))) else none
      | none => none
    | .slice el, .slice b o len cap =>
      match tlook el tab with
      | some te =>
        let l := lo.getD (.lit 0)
        let m := cap.getD len
        let h := hi.getD len
        if ordered Γ l h m then some (.slice b (mkAdd o (mkMul l (.lit (Int.ofNat te.size)))) (mkSub h l) (cap.map fun c => mkSub c l)) else none
      | none => none
    | _, _ => none
  | _, _, _ => none

def OptRel (env : Env) (ρ : Rho) : Option SC → Option Value → Prop
  | none, none => True
  | some s, some v => s.Rel env ρ v
  | _, _ => False

theorem optInt_rel {env : Env} {ρ : Rho} {s : Option SC} {v : Option Value} {e : Option Tm} (h : optInt s = some e) (hr : OptRel env ρ s v) (d : Tm) :
    (v = none ∧ e = none) ∨ ∃ (k : IntKind), v = some (.int k (den env (e.getD d)).i) := by
  match s, v with
  | none, none => simp [optInt] at h; exact .inl ⟨rfl, h.symm⟩
  | some s, some v =>
    cases s <;> simp [optInt] at h
    subst h
    simp only [OptRel, SC.Rel] at hr
    exact .inr ⟨_, by rw [hr]; rfl⟩
  | none, some v => exact hr.elim
  | some s, none => exact hr.elim

theorem evSlice_sound {P : Program} {tab : Tab} (hT : TabOk P tab) {env : Env} {Γ : List Fact} (hs : Sat env Γ) {t : Nat} {s r : SC} {lo hi : Option SC} (h : evSlice tab Γ t s lo hi = some r)
    {ρ : Rho} {u : Value} {lv hv : Option Value} (hu : s.Rel env ρ u) (hl : OptRel env ρ lo lv) (hh : OptRel env ρ hi hv) (w : World) : ∃ v, (Instr.sliceAt t u lv hv none).run P w = .ok v w ∧ r.Rel env ρ v := by
  unfold evSlice at h
  split at h
  · rename_i ti lo' hi' ht hlo hhi
    have hti := hT _ _ ht
    split at h
    · rename_i n el b o hd
      obtain ⟨off, ho, rfl⟩ := hu
      split at h
      · rename_i te hte
        dsimp only at h
        split at h
        · rename_i hord
          obtain ⟨o1, o2, o3⟩ := ordered_sound hs hord
          have en : (den env (.lit (Int.ofNat n))).i = (n : Int) := rfl
          cases h
          obtain ⟨L, hL⟩ : ∃ L : Nat, (L : Int) = (den env (lo'.getD (.lit 0))).i := ⟨_, Int.toNat_of_nonneg o1⟩
          obtain ⟨H, hH⟩ : ∃ H : Nat, (H : Int) = (den env (hi'.getD (.lit (Int.ofNat n)))).i := ⟨_, Int.toNat_of_nonneg (by omega)⟩
          have hb := run_bounds (P := P) (w := w) (isSlice := false) (len := n) (cap := n) (l := L) (h := H) (lo := lv) (hi := hv)
            (by rcases optInt_rel hlo hl (.lit 0) with ⟨h1, h2⟩ | ⟨k, h1⟩
                · subst h2; exact .inl ⟨h1, by simp [den] at hL; omega⟩
                · exact .inr ⟨k, by rw [h1, hL]⟩)
            (by rcases optInt_rel hhi hh (.lit (Int.ofNat n)) with ⟨h1, h2⟩ | ⟨k, h1⟩
                · subst h2; exact .inl ⟨h1, by simp [den] at hH; omega⟩
                · exact .inr ⟨k, by rw [h1, hH]⟩) (by omega) (by omega)
          refine ⟨.slice (some (if n = L then ⟨(ρ b).1, (ρ b).2 + off, none⟩ else (⟨(ρ b).1, (ρ b).2 + off, none⟩ : Addr).add (L * te.size))) (H - L) (n - L), ?_, ?_⟩
          · simp [Instr.sliceAt, hti.run_under, hd, Instr.sureAddr, hb, (hT _ _ hte).run_size]
          · by_cases hnL : n = L
            · refine ⟨off, H - L, n - L, by rw [if_pos hnL], by rw [mkSub_den, ← hH, ← hL]; omega, by omega, fun t ht' => by cases ht'; rw [mkSub_den, ← hL]; omega, fun hc => by omega⟩
            · refine ⟨off + L * te.size, H - L, n - L, by rw [if_neg hnL, add_plain, Nat.add_assoc], by rw [mkSub_den, ← hH, ← hL]; omega, by omega, fun t ht' => by cases ht'; rw [mkSub_den, ← hL]; omega, fun hc => ?_⟩
              rw [mkAdd_den, mkMul_den, ← ho, ← hL]; simp [den]
        · cases h
      · cases h
    · rename_i el b o len cap hd
      obtain ⟨off, ln, cp, rfl, h1, h2, h3, h4⟩ := hu
      split at h
      · rename_i te hte
        dsimp only at h
        split at h
        · rename_i hord
          obtain ⟨o1, o2, o3⟩ := ordered_sound hs hord
          cases h
          have hcap : (den env (cap.getD len)).i ≤ cp := by
            cases cap with
            | none => simp only [Option.getD_none]; omega
            | some c => simp only [Option.getD_some]; rw [h3 c rfl]; omega
          obtain ⟨L, hL⟩ : ∃ L : Nat, (L : Int) = (den env (lo'.getD (.lit 0))).i := ⟨_, Int.toNat_of_nonneg o1⟩
          obtain ⟨H, hH⟩ : ∃ H : Nat, (H : Int) = (den env (hi'.getD len)).i := ⟨_, Int.toNat_of_nonneg (by omega)⟩
          have hb := run_bounds (P := P) (w := w) (isSlice := true) (len := ln) (cap := cp) (l := L) (h := H) (lo := lv) (hi := hv)
            (by rcases optInt_rel hlo hl (.lit 0) with ⟨h1, h2⟩ | ⟨k, h1⟩
                · subst h2; exact .inl ⟨h1, by simp [den] at hL; omega⟩
                · exact .inr ⟨k, by rw [h1, hL]⟩)
            (by rcases optInt_rel hhi hh len with ⟨h1', h2'⟩ | ⟨k, h1'⟩
                · subst h2'; exact .inl ⟨h1', by simp only [Option.getD_none] at hH; omega⟩
                · exact .inr ⟨k, by rw [h1', hH]⟩) (by omega) (by omega)
          refine ⟨.slice (if cp = L then some ⟨(ρ b).1, (ρ b).2 + off, none⟩ else some ((⟨(ρ b).1, (ρ b).2 + off, none⟩ : Addr).add (L * te.size))) (H - L) (cp - L), ?_, ?_⟩
          · have : (Instr.sliceAt t (.slice (some ⟨(ρ b).1, (ρ b).2 + off, none⟩) ln cp) lv hv none).run P w = (Instr.slice t (.slice (some ⟨(ρ b).1, (ρ b).2 + off, none⟩) ln cp) lv hv none).run P w := by
              simp [Instr.sliceAt, hti.run_under, hd]
            rw [this]
            simp [Instr.slice, hti.run_under, hd, hb, (hT _ _ hte).run_size]
          · have hcp : ∀ t, cap.map (fun c => mkSub c (lo'.getD (.lit 0))) = some t → ((cp - L : Nat) : Int) = (den env t).i := by
              intro t ht'
              cases cap with
              | none => cases ht'
              | some c => simp at ht'; subst ht'; rw [mkSub_den, ← hL, ← h3 c rfl]; omega
            by_cases hnL : cp = L
            · exact ⟨off, H - L, cp - L, by rw [if_pos hnL], by rw [mkSub_den, ← hH, ← hL]; omega, by omega, hcp, fun hc => by omega⟩
            · refine ⟨off + L * te.size, H - L, cp - L, by rw [if_neg hnL, add_plain, Nat.add_assoc], by rw [mkSub_den, ← hH, ← hL]; omega, by omega, hcp, fun hc => ?_⟩
              rw [mkAdd_den, mkMul_den, ← h4 (by omega), ← hL]; simp [den]
        · cases h
      · cases h
    · cases h
  · cases h

end Go.Sx
