/- A part of the reckoning with symbols: states, terms and their meaning, used by the proofs of this seat. -/
import Derived.Test.YtpndnejabebfeaaGreatDoorSxD
/-! Operations on memory. -/
noncomputable section
namespace Go.Sx

/-! ### Reading -/

def isLit (t : Tm) (m : Int) : Bool :=
  match t with
  | .lit k => ieq k m
  | _ => false

theorem isLit_den {t : Tm} {m : Int} (h : isLit t m = true) (env : Env) : (den env t).i = m := by
  unfold isLit at h
  split at h
  · rw [ieq_iff] at h; exact h
  · cases h

def inDyn (Γ : List Fact) (n o : Tm) : Bool :=
  match rng Γ o with
  | some (lo, _) => ile 0 lo && isLit (mkLt Γ o n) 1
  | none => false

theorem inDyn_sound {env : Env} {Γ : List Fact} (hs : Sat env Γ) {n o : Tm} (h : inDyn Γ n o = true) : 0 ≤ (den env o).i ∧ (den env o).i < (den env n).i := by
  unfold inDyn at h
  split at h
  · rename_i lo hi heq
    simp only [Bool.and_eq_true, ile_iff] at h
    have e := mkLt_den hs o n
    rw [isLit_den h.2] at e
    have hlo := (rng_has hs _ _ heq).1
    dsimp only at hlo
    split at e
    · omega
    · omega
  · cases h

def inDynN (Γ : List Fact) (n o : Tm) (size : Nat) : Bool :=
  match rng Γ o with
  | some (lo, _) => ile 0 lo && isLit (mkLt Γ n (mkAdd o (.lit (Int.ofNat size)))) 0
  | none => false

theorem inDynN_sound {env : Env} {Γ : List Fact} (hs : Sat env Γ) {n o : Tm} {size : Nat} (h : inDynN Γ n o size = true) : 0 ≤ (den env o).i ∧ (den env o).i + size ≤ (den env n).i := by
  unfold inDynN at h
  split at h
  · rename_i lo hi heq
    simp only [Bool.and_eq_true, ile_iff] at h
    have e := mkLt_den hs n (mkAdd o (.lit (Int.ofNat size)))
    rw [isLit_den h.2, mkAdd_den] at e
    have el : (den env (.lit (Int.ofNat size))).i = (size : Int) := rfl
    have hlo := (rng_has hs _ _ heq).1
    dsimp only at hlo
    split at e
    · omega
    · omega
  · cases h

def cellKind (Γ : List Fact) (lay : BL) (o : Tm) : Option CK :=
  match lay with
  | .fixed L =>
    match o with
    | .lit (.ofNat n) => Lay.at L n
    | _ => match rng Γ o with
      | some (.ofNat lo, .ofNat hi) => Lay.uni L lo (hi + 1)
      | _ => none
  | .dyn c n => if inDyn Γ n o then some c else none
  | .mp _ => none

theorem cellKind_sound {env : Env} {Γ : List Fact} (hs : Sat env Γ) {lay : BL} {o : Tm} {c : CK} (h : cellKind Γ lay o = some c) :
    ∃ n : Nat, (n : Int) = (den env o).i ∧ lay.at env n = some c := by
  unfold cellKind at h
  split at h
  · split at h
    · exact ⟨_, rfl, h⟩
    · split at h
      · rename_i lo hi heq
        have := rng_has hs _ _ heq
        simp only [Int.ofNat_eq_natCast] at this
        refine ⟨(den env o).i.toNat, by omega, Lay.uni_at h (by omega) (by omega)⟩
      · cases h
  · split at h
    · rename_i hc
      have := inDyn_sound hs hc
      cases h
      refine ⟨(den env o).i.toNat, by omega, ?_⟩
      simp only [BL.at]
      rw [if_pos (by omega)]
    · cases h
  · cases h

def cellSC (Γ : List Fact) (A o : Tm) : CK → SC
  | .int k => .int k (mkGet Γ A o)
  | .bool => .bool (mkGet Γ A o)
  | .fix s => s

theorem cellSC_rel {env : Env} {Γ : List Fact} (hs : Sat env Γ) {ρ : Rho} {A o : Tm} {c : CK} {n : Nat} {v : Value} (hn : (n : Int) = (den env o).i)
    (h : c.Rel env ρ (den env A).a n v) : (cellSC Γ A o c).Rel env ρ v := by
  cases c with
  | int k => simp only [cellSC, SC.Rel, CK.Rel, mkGet_den hs] at *; rw [h, hn]
  | bool => simp only [cellSC, SC.Rel, CK.Rel, mkGet_den hs] at *; rw [h, hn]
  | fix s => exact h

def subLay (Γ : List Fact) (lay : BL) (o : Tm) (size : Nat) : Option Lay :=
  match lay with
  | .fixed L =>
    match o with
    | .lit (.ofNat n) => if Nat.ble (n + size) L.size then some (Lay.norm (Lay.take size (Lay.drop n L))) else none
    | _ => match rng Γ o with
      | some (.ofNat lo, .ofNat hi) => match Lay.uni L lo (hi + size) with
        | some c => some [(c, size)]
        | none => none
      | _ => none
  | .dyn c n => if inDynN Γ n o size then some [(c, size)] else none
  | .mp _ => none

theorem at_one {c d : CK} {n j : Nat} (h : Lay.at [(c, n)] j = some d) : d = c ∧ j < n := by
  simp only [Lay.at, Nat.blt_eq] at h
  split at h
  · cases h; exact ⟨rfl, by assumption⟩
  · cases h

theorem subLay_plain {Γ : List Fact} {lay : BL} {o : Tm} {size : Nat} {M : Lay} (h : subLay Γ lay o size = some M) : lay.plain = true := by
  cases lay <;> first | rfl | cases h

theorem subLay_sound {env : Env} {Γ : List Fact} (hs : Sat env Γ) {lay : BL} {o : Tm} {size : Nat} {M : Lay} (h : subLay Γ lay o size = some M) :
    M.size = size ∧ ∃ n : Nat, (n : Int) = (den env o).i ∧ ∀ j c, Lay.at M j = some c → lay.at env (n + j) = some c := by
  unfold subLay at h
  split at h
  · split at h
    · rename_i L n
      split at h
      · rename_i hb
        rw [Nat.ble_eq] at hb
        cases h
        refine ⟨?_, n, rfl, fun j c hc => ?_⟩
        · rw [Lay.size_norm, Lay.size_take _ _ (by rw [Lay.size_drop]; omega)]
        · rw [Lay.at_norm, Lay.at_take] at hc
          split at hc
          · rw [Lay.at_drop] at hc; exact hc
          · cases hc
      · cases h
    · split at h
      · rename_i lo hi heq
        have := rng_has hs _ _ heq
        simp only [Int.ofNat_eq_natCast] at this
        split at h
        · rename_i c hu
          cases h
          refine ⟨by simp [Lay.size], (den env o).i.toNat, by omega, fun j d hd => ?_⟩
          obtain ⟨rfl, hj⟩ := at_one hd
          exact Lay.uni_at hu (by omega) (by omega)
        · cases h
      · cases h
  · split at h
    · rename_i hc
      have := inDynN_sound hs hc
      cases h
      refine ⟨by simp [Lay.size], (den env o).i.toNat, by omega, fun j d hd => ?_⟩
      obtain ⟨rfl, hj⟩ := at_one hd
      simp only [BL.at]
      rw [if_pos (by omega)]
    · cases h
  · cases h

def evLoad (tab : Tab) (Γ : List Fact) (lk : Lk) (t : Nat) (s : SC) : Option SV :=
  match s with
  | .ptr b o =>
    match tlook t tab, lk b with
    | some ti, some blk =>
      if aggDesc ti.desc then
        match subLay Γ blk.lay o ti.size with
        | some M => some (.agg M (mkLoad Γ ti.size blk.A o))
        | none => none
      else
        match cellKind Γ blk.lay o with
        | some c => some (.sc (cellSC Γ blk.A o c))
        | none => none
    | _, _ => none
  | _ => none

theorem add_plain (b off k : Nat) : (⟨b, off, none⟩ : Addr).add k = ⟨b, off + k, none⟩ := by
  unfold Addr.add; split
  · simp_all
  · rfl

theorem evLoad_sound {P : Program} {tab : Tab} (hT : TabOk P tab) {env : Env} {Γ : List Fact} (hs : Sat env Γ) {lk : Lk} {t : Nat} {s : SC} {r : SV} (h : evLoad tab Γ lk t s = some r)
    {ρ : Rho} {w : World} (hH : HRel env ρ lk w) {u : Value} (hu : s.Rel env ρ u) : ∃ v, (Instr.loadAt t u).run P w = .ok v w ∧ r.Rel env ρ v := by
  unfold evLoad at h
  split at h
  · rename_i b o
    obtain ⟨off, ho, rfl⟩ := hu
    split at h
    · rename_i ti blk ht hb
      have hti := hT _ _ ht
      have hblk := (hH _ _ hb).1
      split at h
      · rename_i hagg
        split at h
        · rename_i M hM
          cases h
          obtain ⟨hsz, n, hn, hat⟩ := subLay_sound hs hM
          have en : n = off := by omega
          subst en
          have hcell : ∀ j, j < ti.size → ∃ v, w.cell? ⟨(ρ b).1, (ρ b).2 + n + j, none⟩ = some v ∧ ∀ c, Lay.at M j = some c → c.Rel env ρ (den env blk.A).a (n + j : Nat) v := by
            intro j hj
            obtain ⟨c, hc⟩ := Lay.at_lt (L := M) (j := j) (by omega)
            obtain ⟨v, h1, h2, _⟩ := hblk.1 _ _ (hat j c hc)
            exact ⟨v, by rw [Nat.add_assoc]; exact h1, fun d hd => by rw [hc] at hd; cases hd; exact h2⟩
          let f : Nat → Value := fun j => (w.cell? ⟨(ρ b).1, (ρ b).2 + n + j, none⟩).getD default
          have hf : ∀ j, j < ti.size → w.cell? ((⟨(ρ b).1, (ρ b).2 + n, none⟩ : Addr).add j) = some (f j) := by
            intro j hj
            obtain ⟨v, h1, _⟩ := hcell j hj
            rw [add_plain]
            simp only [f, h1, Option.getD_some]
          have hrun := run_loadCells (P := P) w ⟨(ρ b).1, (ρ b).2 + n, none⟩ ti.size f hf
          refine ⟨.agg ((List.range ti.size).map f).toArray, ?_, ((List.range ti.size).map f).toArray, rfl, by simp [hsz], ?_⟩
          · simp [Instr.loadAt, Instr.sureAddr, loadVar, hti.run_agg, hagg, hti.run_size, hrun]
          · intro j c hc u hu
            have hj : j < ti.size := by have := Lay.at_some hc; omega
            obtain ⟨v, h1, h2⟩ := hcell j hj
            simp only [List.getElem?_toArray, List.getElem?_map, List.getElem?_range hj, Option.map_some, Option.some.injEq] at hu
            have e : u = v := by rw [← hu]; simp only [f, h1, Option.getD_some]
            subst e
            have h3 := h2 c hc
            have eA : (den env (mkLoad Γ ti.size blk.A o)).a j = (den env blk.A).a ((n + j : Nat) : Int) := by
              rw [mkLoad_den hs ti.size blk.A o j (by omega) (by omega), ← ho]
              congr 1; omega
            cases c with
            | int k => simp only [CK.Rel] at *; rw [h3, eA]
            | bool => simp only [CK.Rel] at *; rw [h3, eA]
            | fix s => exact h3
        · cases h
      · rename_i hagg
        split at h
        · rename_i c hc
          cases h
          obtain ⟨n, hn, hat⟩ := cellKind_sound hs hc
          have en : n = off := by omega
          subst en
          obtain ⟨v, h1, h2, _⟩ := hblk.1 _ _ hat
          refine ⟨v, ?_, cellSC_rel hs hn h2⟩
          simp [Instr.loadAt, Instr.sureAddr, loadVar, hti.run_agg, hagg, h1]
        · cases h
    · cases h
  · cases h

/-! ### Writing -/

def SC.one : SC → Bool
  | .val u => u.oneCell'
  | .junk => false
  | _ => true

def Lay.one : Lay → Bool
  | [] => true
  | (.fix s, _) :: r => s.one && Lay.one r
  | _ :: r => Lay.one r

theorem SC.one_rel {env : Env} {ρ : Rho} {s : SC} {v : Value} (h : s.one = true) (hr : s.Rel env ρ v) : v.oneCell' = true := by
  cases s with
  | int k e => rw [hr]; rfl
  | bool e => rw [hr]; rfl
  | val u => rw [hr]; exact h
  | ptr b o => obtain ⟨_, _, rfl⟩ := hr; rfl
  | slice b o l c => obtain ⟨_, _, _, rfl, _⟩ := hr; rfl
  | func f a c => obtain ⟨_, _, rfl, _⟩ := hr; rfl
  | iface t s => obtain ⟨_, rfl, _⟩ := hr; rfl
  | mapv b => cases hr; rfl
  | junk => cases h

theorem Lay.one_at : ∀ {L : Lay} {j : Nat} {s : SC}, Lay.one L = true → Lay.at L j = some (.fix s) → s.one = true := by
  intro L
  induction L with
  | nil => intro j s _ h; cases h
  | cons p r ih =>
    intro j s h1 h2
    obtain ⟨c, n⟩ := p
    simp only [Lay.at] at h2
    cases c with
    | fix s' =>
      simp only [Lay.one, Bool.and_eq_true] at h1
      split at h2
      · cases h2; exact h1.1
      · exact ih h1.2 h2
    | int k =>
      split at h2
      · cases h2
      · exact ih h1 h2
    | bool =>
      split at h2
      · cases h2
      · exact ih h1 h2

theorem CK.one_rel {env : Env} {ρ : Rho} {A : Int → Int} {j : Int} {c : CK} {v : Value} (h : ∀ s, c = .fix s → s.one = true) (hr : c.Rel env ρ A j v) : v.oneCell' = true := by
  cases c with
  | int k => rw [hr]; rfl
  | bool => rw [hr]; rfl
  | fix s => exact SC.one_rel (h s rfl) hr

theorem run_storeCells_ok {P : Program} (b off : Nat) : ∀ (vs : List Value) (i : Nat) (w : World),
    (∀ j, j < vs.length → (∃ v, w.cell? ⟨b, off + i + j, none⟩ = some v) ∧ w.frozen? ⟨b, off + i + j, none⟩ = false) → (∀ v ∈ vs, v.oneCell' = true) →
    ∃ w', (storeCells ⟨b, off, none⟩ vs i).run P w = .ok () w' ∧ (∀ j v, vs[j]? = some v → w'.cell? ⟨b, off + i + j, none⟩ = some v) ∧
      (∀ p : Addr, (∀ j, j < vs.length → p ≠ ⟨b, off + i + j, none⟩) → w'.cell? p = w.cell? p) ∧ (∀ p, w'.frozen? p = w.frozen? p) ∧ w'.heap.size = w.heap.size ∧ Fr (· = b) w w' := by
  intro vs
  induction vs with
  | nil => intro i w _ _; exact ⟨w, rfl, (by intro j v h; simp at h), fun _ _ => rfl, fun _ => rfl, rfl, Fr.refl _ _⟩
  | cons v r ih =>
    intro i w h1 h2
    obtain ⟨⟨v0, hv0⟩, hf0⟩ := h1 0 (by simp)
    simp only [Nat.add_zero] at hv0 hf0
    have hstep : (store ((⟨b, off, none⟩ : Addr).add i) v).run P w = .ok () (w.setCell ⟨b, off + i, none⟩ v) := by
      rw [add_plain, run_store P w _ v _ (h2 v (by simp)), hv0]
      simp [hf0]
    obtain ⟨w', g1, g2, g3, g4, g5, g6⟩ := ih (i + 1) (w.setCell ⟨b, off + i, none⟩ v) (fun j hj => by
      obtain ⟨⟨u, hu⟩, hf⟩ := h1 (j + 1) (by simp; omega)
      have e : off + i + (j + 1) = off + (i + 1) + j := by omega
      rw [e] at hu hf
      refine ⟨⟨u, ?_⟩, by rw [World.frozen?_setCell]; exact hf⟩
      rw [World.cell?_setCell_other _ _ _ _ (by intro e; simp at e)]
      exact hu) (fun u hu => h2 u (by simp [hu]))
    refine ⟨w', ?_, ?_, ?_, ?_, ?_, ?_⟩
    · simp only [storeCells, Sem.run_bind, hstep, Result.andThen_ok, g1]
    · intro j u hu
      cases j with
      | zero =>
        simp only [List.getElem?_cons_zero, Option.some.injEq] at hu
        subst hu
        rw [g3 _ (fun j hj => by intro e; simp at e), Nat.add_zero]
        exact World.cell?_setCell_same _ _ _ hv0
      | succ j =>
        have := g2 j u (by simpa using hu)
        rw [show off + i + (j + 1) = off + (i + 1) + j by omega]
        exact this
    · intro p hp
      rw [g3 p (fun j hj => by rw [show off + (i + 1) + j = off + i + (j + 1) by omega]; exact hp (j + 1) (by simp; omega))]
      exact World.cell?_setCell_other _ _ _ _ (by have := hp 0 (by simp); simp only [Nat.add_zero] at this; exact fun e => this e.symm)
    · intro p; rw [g4, World.frozen?_setCell]
    · rw [g5]; simp
    · exact (Fr.setCell (· = b) w _ _ rfl).trans (g6.mono fun k _ hk => .inl hk)

def bool01 (Γ : List Fact) (e : Tm) : Tm := if within Γ e 0 1 then e else .not (.not e)

/-- What is laid of a scalar: its kind, and its number. -/
def scCK : SC → CK
  | .int k _ => .int k
  | .bool _ => .bool
  | s => .fix s

def scNum : SC → Tm
  | .int _ e => e
  | .bool e => e
  | _ => .lit 0

theorem scCK_rel {env : Env} {ρ : Rho} {s : SC} {v : Value} {A : Int → Int} {j : Int} (hA : A j = (den env (scNum s)).i) (h : s.Rel env ρ v) : (scCK s).Rel env ρ A j v := by
  cases s with
  | int k e => simp only [scCK, CK.Rel, SC.Rel, scNum] at *; rw [h, hA]
  | bool e => simp only [scCK, CK.Rel, SC.Rel, scNum] at *; rw [h, hA]
  | _ => exact h

/-- A value as cells. -/
def svLay : SV → Lay
  | .sc s => [(scCK s, 1)]
  | .agg L _ => L

def svArr : SV → Tm
  | .sc s => .cons (scNum s) .nil
  | .agg _ A => A

theorem sv_cells {env : Env} {ρ : Rho} {s : SV} {v : Value} (h1 : Lay.one (svLay s) = true) (h : s.Rel env ρ v) :
    v.cells.size = (svLay s).size ∧ ∀ j c, Lay.at (svLay s) j = some c → ∀ u, v.cells[j]? = some u → c.Rel env ρ (den env (svArr s)).a j u := by
  cases s with
  | sc s =>
    have ho : v.oneCell' = true := by
      have := Lay.one_at (j := 0) h1 (s := s)
      cases s with
      | int k e => rw [h]; rfl
      | bool e => rw [h]; rfl
      | _ => exact SC.one_rel (env := env) (ρ := ρ) (this (by simp [svLay, scCK, Lay.at])) (by exact h)
    have hc : v.cells = #[v] := by cases v <;> first | rfl | cases ho
    rw [hc]
    refine ⟨by simp [svLay, Lay.size], fun j c hc u hu => ?_⟩
    obtain ⟨rfl, hj⟩ := at_one hc
    have e : j = 0 := by omega
    subst e
    simp at hu
    subst hu
    exact scCK_rel (by simp [svArr, den]) h
  | agg L A =>
    obtain ⟨cs, rfl, h2, h3⟩ := h
    exact ⟨h2, h3⟩

def fixedAt (lay : BL) (o : Tm) : Option (Lay × Nat) :=
  match lay, o with
  | .fixed L, .lit (.ofNat n) => some (L, n)
  | _, _ => none

theorem fixedAt_eq {lay : BL} {o : Tm} {L : Lay} {n : Nat} (h : fixedAt lay o = some (L, n)) : lay = .fixed L ∧ o = .lit (.ofNat n) := by
  unfold fixedAt at h
  split at h
  · cases h; exact ⟨rfl, rfl⟩
  · cases h

def allJunk : Lay → Bool
  | [(.fix .junk, _)] => true
  | _ => false

theorem allJunk_at {L : Lay} (h : allJunk L = true) {j : Nat} {c : CK} (hc : Lay.at L j = some c) : c = .fix .junk := by
  unfold allJunk at h
  split at h
  · exact (at_one hc).1
  · cases h

def evStore (tab : Tab) (Γ : List Fact) (lk : Lk) (t : Nat) (s : SC) (v : SV) : Option (Nat × Blk) :=
  match s with
  | .ptr b o =>
    match tlook t tab, lk b with
    | some ti, some blk =>
      let M := svLay v
      if !blk.rw || !Lay.one M || !Nat.beq M.size ti.size then none else
      match fixedAt blk.lay o with
      | some (L, n) =>
        if Nat.ble (n + ti.size) L.size then
          some (b, ⟨.fixed (Lay.put L n M), mkStore Γ L.size ti.size blk.A o (svArr v), true⟩)
        else none
      | none =>
        match subLay Γ blk.lay o ti.size with
        | some M' => if allJunk M' then some (b, ⟨blk.lay, blk.A, true⟩) else if Lay.beq (Lay.norm M') (Lay.norm M) then some (b, ⟨blk.lay, (if Nat.ble ti.size 8 then layAll Γ (svArr v) ti.size blk.A o else .spl blk.A o ti.size (svArr v)), true⟩) else none
        | none => none
    | _, _ => none
  | _ => none

theorem CK.rel_num {env : Env} {ρ : Rho} {A B : Int → Int} {i j : Int} {c : CK} {v : Value} (h : A i = B j) (hr : c.Rel env ρ A i v) : c.Rel env ρ B j v := by
  cases c with
  | int k => simp only [CK.Rel] at *; rw [hr, h]
  | bool => simp only [CK.Rel] at *; rw [hr, h]
  | fix s => exact hr

/-- What a store of cells does to a block, where the new layout and the new numbers are as they must be. -/
theorem store_common {P : Program} {env : Env} {lk : Lk} {nb : Nat} {ρ : Rho} {w : World} {ti : TI} {t b n : Nat} {blk : Blk} {lay' : BL} {A' : Tm} {sv : SV} {v : Value}
    (hti : TIOk P t ti) (hH : HRel env ρ lk w) (hb : lk b = some blk) (hrw : blk.rw = true) (hone : Lay.one (svLay sv) = true) (hsz : (svLay sv).size = ti.size)
    (hv : sv.Rel env ρ v) (hbn : b < nb) (hpl : lay'.plain = true)
    (hold : ∀ j, j < ti.size → ∃ c, blk.lay.at env (n + j) = some c)
    (hin : ∀ j c, lay'.at env (n + j) = some c → j < ti.size → c = .fix .junk ∨ (Lay.at (svLay sv) j = some c ∧ (den env A').a ((n + j : Nat) : Int) = (den env (svArr sv)).a j))
    (hout : ∀ j c, lay'.at env j = some c → ¬ (n ≤ j ∧ j < n + ti.size) → blk.lay.at env j = some c ∧ (den env A').a j = (den env blk.A).a j) :
    ∃ w', (Instr.storeAt t (.pointer (some ⟨(ρ b).1, (ρ b).2 + n, none⟩)) v).run P w = .ok () w' ∧ Step env lk nb ρ ρ w w' [(b, ⟨lay', A', true⟩)] := by
  obtain ⟨hcs, hrel⟩ := sv_cells hone hv
  have hblk := hH _ _ hb
  have hone' : ∀ u ∈ v.cells.toList, u.oneCell' = true := by
    intro u hu
    obtain ⟨j, hj⟩ := List.mem_iff_getElem?.1 hu
    have hj' : j < v.cells.size := by
      have := (List.getElem?_eq_some_iff.1 hj).1; simpa using this
    obtain ⟨c, hc⟩ := Lay.at_lt (L := svLay sv) (j := j) (by omega)
    refine CK.one_rel (fun s hs => ?_) (hrel j c hc u (by simpa using hj))
    subst hs
    exact Lay.one_at hone hc
  obtain ⟨w', g1, g2, g3, g4, g5, g6⟩ := run_storeCells_ok (P := P) (ρ b).1 ((ρ b).2 + n) v.cells.toList 0 w (fun j hj => by
    obtain ⟨c, hc⟩ := hold j (by simp at hj; omega)
    obtain ⟨u, h1, _, h3⟩ := hblk.1.1 _ _ hc
    rw [Nat.add_zero, Nat.add_assoc]
    exact ⟨⟨u, h1⟩, h3 hrw⟩) hone'
  refine ⟨w', ?_, ?_⟩
  · have : ¬ v.cells.size ≠ ti.size := by omega
    simp only [Instr.storeAt, Instr.sureAddr, Sem.run_bind, Sem.run_pure, Result.andThen_ok, storeVar, hti.run_size]
    rw [if_neg this]
    simp [g1]
  · constructor
    · exact RhoEq.refl _ _
    · intro i b' hi
      simp only [look_nil, look_cons, Nat.beq_eq] at hi
      split at hi
      · rename_i e; subst e; cases hi
        refine ⟨⟨fun j c hc => ?_, BL.mapRel_plain hpl _ _⟩, by rw [g5]; exact hblk.2⟩
        dsimp only at hc
        by_cases hr : n ≤ j ∧ j < n + ti.size
        · obtain ⟨q, rfl⟩ : ∃ q, j = n + q := ⟨j - n, by omega⟩
          obtain ⟨u, hu⟩ : ∃ u, v.cells[q]? = some u := ⟨v.cells[q]'(by omega), by simp [show q < v.cells.size by omega]⟩
          have hcell := g2 q u (by simpa using hu)
          refine ⟨u, by rw [Nat.add_zero, Nat.add_assoc] at hcell; exact hcell, ?_, fun _ => ?_⟩
          · rcases hin q c hc (by omega) with rfl | ⟨hc', hA⟩
            · trivial
            · exact CK.rel_num (by exact hA.symm) (hrel q c hc' u hu)
          rw [g4]
          obtain ⟨c0, hc0⟩ := hold q (by omega)
          obtain ⟨_, _, _, h3⟩ := hblk.1.1 _ _ hc0
          exact h3 hrw
        · obtain ⟨hc', hA⟩ := hout j c hc hr
          obtain ⟨u, h1, h2, h3⟩ := hblk.1.1 _ _ hc'
          refine ⟨u, ?_, CK.rel_num (by exact hA.symm) h2, fun _ => by rw [g4]; exact h3 hrw⟩
          rw [g3 _ (fun q hq => by intro e; simp at e hq; omega)]
          exact h1
      · cases hi
    · intro i b' hi _
      simp only [look_nil, look_cons, Nat.beq_eq] at hi
      split at hi
      · rename_i e; subst e; exact ⟨blk, hb, hrw⟩
      · cases hi
    · intro i b' hi h
      simp only [look_nil, look_cons, Nat.beq_eq] at hi
      split at hi
      · rename_i e; omega
      · cases hi
    · intro i j b' c' hi hj h h' hij
      simp only [look_nil, look_cons, Nat.beq_eq] at hi hj
      split at hi
      · omega
      · cases hi
    · exact g6.mono fun k _ hk => ⟨b, ⟨lay', A', true⟩, by simp [look_cons], hbn, hk.symm⟩

theorem evStore_sound {P : Program} {tab : Tab} (hT : TabOk P tab) {env : Env} {Γ : List Fact} (hs : Sat env Γ) {lk : Lk} {nb t : Nat} {s : SC} {sv : SV} {r : Nat × Blk} (h : evStore tab Γ lk t s sv = some r)
    (hlt : s.lt nb = true) {ρ : Rho} {w : World} (hH : HRel env ρ lk w) {u v : Value} (hu : s.Rel env ρ u) (hv : sv.Rel env ρ v) :
    ∃ w', (Instr.storeAt t u v).run P w = .ok () w' ∧ Step env lk nb ρ ρ w w' [r] := by
  unfold evStore at h
  split at h
  · rename_i b o
    obtain ⟨off, ho, rfl⟩ := hu
    simp only [SC.lt, Nat.blt_eq] at hlt
    split at h
    · rename_i ti blk ht hb
      have hti := hT _ _ ht
      dsimp only at h
      split at h
      · cases h
      · rename_i hc
        simp only [Bool.or_eq_true, Bool.not_eq_true', not_or, Bool.not_eq_false, Nat.beq_eq] at hc
        obtain ⟨⟨hrw, hone⟩, hsz⟩ := hc
        split at h
        · rename_i L n hLo
          obtain ⟨hL, rfl⟩ := fixedAt_eq hLo
          split at h
          · rename_i hle
            rw [Nat.ble_eq] at hle
            cases h
            have en : off = n := by simp only [den, Int.ofNat_eq_natCast] at ho; omega
            subst en
            refine store_common hti hH hb hrw hone hsz hv hlt rfl ?_ ?_ ?_
            · intro j hj
              rw [hL]
              exact Lay.at_lt (by omega)
            · intro j c hc hj
              simp only [BL.at] at hc
              rw [Lay.at_put _ _ _ (by omega), if_pos (by omega)] at hc
              have hsL := Lay.at_some hc
              refine .inr ⟨by rw [← hc]; congr 1; omega, ?_⟩
              rw [mkStore_den hs _ _ _ _ _ _ (by omega) (by omega), if_pos (by simp only [den, Int.ofNat_eq_natCast]; omega)]
              congr 1
              simp only [den, Int.ofNat_eq_natCast]; omega
            · intro j c hc hj
              simp only [BL.at] at hc
              have hsL := Lay.at_some hc
              rw [Lay.size_put _ _ _ (by omega)] at hsL
              rw [Lay.at_put _ _ _ (by omega), if_neg (by omega)] at hc
              refine ⟨by rw [hL]; exact hc, ?_⟩
              rw [mkStore_den hs _ _ _ _ _ _ (by omega) (by omega), if_neg (by simp only [den, Int.ofNat_eq_natCast]; omega)]
          · cases h
        · split at h
          · rename_i M' hM
            split at h
            · rename_i hj0
              cases h
              obtain ⟨hsM, n, hn, hat⟩ := subLay_sound hs hM
              have en : n = off := by omega
              subst en
              refine store_common hti hH hb hrw hone hsz hv hlt (subLay_plain hM) ?_ ?_ ?_
              · intro j hj
                obtain ⟨c, hc⟩ := Lay.at_lt (L := M') (j := j) (by omega)
                exact ⟨c, hat j c hc⟩
              · intro j c hc hj
                obtain ⟨d, hd⟩ := Lay.at_lt (L := M') (j := j) (by omega)
                have := hat j d hd
                rw [this] at hc
                cases hc
                exact .inl (allJunk_at hj0 hd)
              · intro j c hc _
                exact ⟨hc, rfl⟩
            split at h
            · rename_i hbq
              cases h
              have hML : ∀ j, Lay.at M' j = Lay.at (svLay sv) j := fun j => by rw [← Lay.at_norm M', ← Lay.at_norm (svLay sv), Lay.beq_eq hbq]
              obtain ⟨hsM, n, hn, hat⟩ := subLay_sound hs hM
              have en : n = off := by omega
              subst en
              have hAA : ∀ j : Int, (den env (if Nat.ble ti.size 8 = true then layAll Γ (svArr sv) ti.size blk.A o else .spl blk.A o ti.size (svArr sv))).a j
                  = if (n : Int) ≤ j ∧ j < n + ti.size then (den env (svArr sv)).a (j - n) else (den env blk.A).a j := by
                intro j
                split
                · rw [layAll_den hs, ho]
                · simp only [den]; rw [ho]
              refine store_common hti hH hb hrw hone hsz hv hlt (subLay_plain hM) ?_ ?_ ?_
              · intro j hj
                obtain ⟨c, hc⟩ := Lay.at_lt (L := M') (j := j) (by omega)
                exact ⟨c, hat j c hc⟩
              · intro j c hc hj
                obtain ⟨d, hd⟩ := Lay.at_lt (L := M') (j := j) (by omega)
                have := hat j d hd
                rw [this] at hc
                cases hc
                refine .inr ⟨by rw [← hML]; exact hd, ?_⟩
                rw [hAA, if_pos (by omega)]
                congr 1; omega
              · intro j c hc hj
                refine ⟨hc, ?_⟩
                rw [hAA, if_neg (by omega)]
            · cases h
          · cases h
    · cases h
  · cases h

/-! ### New blocks -/

theorem Step.alloc {env : Env} {lk : Lk} {nb : Nat} {ρ : Rho} {w : World} {cs : Array Value} {t : Nat} {blk : Blk} (hpl : blk.lay.plain = true) (hlt : blk.lay.lt nb = true)
    (h : ∀ j c, blk.lay.at env j = some c → ∃ v, cs[j]? = some v ∧ c.Rel env ρ (den env blk.A).a j v) :
    Step env lk nb ρ (fun i => if i = nb then (w.heap.size, 0) else ρ i) w (w.alloc (.cells cs t)) [(nb, blk)] := by
  have hrho : RhoEq nb ρ (fun i => if i = nb then (w.heap.size, 0) else ρ i) := fun i hi => if_neg (by omega)
  constructor
  · exact hrho
  · intro i b hi
    simp only [look_nil, look_cons, Nat.beq_eq] at hi
    split at hi
    · rename_i e; subst e; cases hi
      refine ⟨⟨?_, BL.mapRel_plain hpl _ _⟩, by simp⟩
      intro j c hc
      obtain ⟨v, h1, h2⟩ := h j c hc
      refine ⟨v, by simp [h1], CK.Rel.rho hrho (BL.lt_at hlt hc) h2, fun _ => by simp⟩
    · cases hi
  · intro i b hi hlt'
    simp only [look_nil, look_cons, Nat.beq_eq] at hi
    split at hi
    · omega
    · cases hi
  · intro i b hi _
    simp only [look_nil, look_cons, Nat.beq_eq] at hi
    split at hi
    · rename_i e; simp [e]
    · cases hi
  · intro i j b c hi hj _ _ hij
    simp only [look_nil, look_cons, Nat.beq_eq] at hi hj
    split at hi
    · split at hj
      · omega
      · cases hj
    · cases hi
  · exact Fr.alloc _ _ _

def ptrTo (nb : Nat) : SV := .sc (.ptr nb (.lit 0))

theorem ptrTo_rel {env : Env} {ρ : Rho} {nb k : Nat} (h : ρ nb = (k, 0)) : (ptrTo nb).Rel env ρ (.pointer (some ⟨k, 0, none⟩)) :=
  ⟨0, by simp [den], by rw [h]⟩

end Go.Sx
