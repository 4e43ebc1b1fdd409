/- A part of the reckoning with symbols: states, terms and their meaning, used by the proofs of this seat. -/
import Derived.Test.YtpndnejabebfeaaGreatDoorSxT
/-! From a tree of what was reckoned to the law; tables. -/
noncomputable section
namespace Go.Sx

/-! ### A law -/

def allGe (n : Nat) : List Nat → Bool
  | [] => true
  | i :: r => Nat.ble n i && allGe n r

theorem allGe_at {n : Nat} : ∀ {l : List Nat}, allGe n l = true → ∀ i ∈ l, n ≤ i := by
  intro l
  induction l with
  | nil => intro _ i h; cases h
  | cons a r ih =>
    intro h i hi
    simp only [allGe, Bool.and_eq_true, Nat.ble_eq] at h
    rcases List.mem_cons.1 hi with rfl | hi
    · exact h.1
    · exact ih h.2 i hi

def lawEnd (C : Cfg) (nb : Nat) (rs : List ResultVar) : Rs → Tree Unit
  | .at (.exit _) _ => .err "exit"
  | .at _ st =>
    match resVals C.tab st rs with
    | some [.sc (.bool e)] =>
      match truth st.fs e with
      | some true => bind2 (allGe nb st.wr) (.leaf ()) (.err "writes")
      | some false => .err "false"
      | none => .err "may be false"
    | _ => .err "result"
  | .out _ _ _ => .err "out"

def lawStart (fn : Func) (as : List SV) (hp : Heap) (nb nv : Nat) (fs : List Fact) : St := { fr := frameOf 0 as, nt := fn.ntmps, hp := hp, nb := nb, nv := nv, fs := fs, wr := [] }

def lawTree (C : Cfg) (fuel : Nat) (fn : Func) (body : Code) (as : List SV) (hp : Heap) (nb nv : Nat) (fs : List Fact) : Tree Unit :=
  run C fuel (.code body) (lawStart fn as hp nb nv fs) (lawEnd C nb fn.results.toList)

theorem law_calls {P : Program} {C : Cfg} (hC : CfgOk P C) {f : FuncId} {fn : Func} {body : Code} (hf : P.funcs[f]? = some fn) (hb : fn.body = some body) {fuel : Nat} {as : List SV} {hp : Heap} {nb nv : Nat} {fs : List Fact} {env : Env}
    (hpath : ∃ L, Path env (lawTree C fuel fn body as hp nb nv fs) L) (h1 : (Nat.ble as.length fn.ntmps && SVsLt nb as && HeapLt nb hp) = true) (hs : Sat env fs) {ρ : Rho} {w : World} {vs : List Value} (hvs : SVsRel env ρ as vs)
    (hH : HRel env ρ (fun i => look i hp) w) (hS : SepK ρ (fun i => look i hp)) :
    Calls P f vs.toArray w fun e w' => e = .returned (.bool true) ∧ RowKit.Below w.heap.size w w' := by
  obtain ⟨L, hL⟩ := hpath
  obtain ⟨r, h2, h3⟩ := run_sound hC fuel _ env (.code body) (lawStart fn as hp nb nv fs) _ L hs hL
  cases r with
  | out o nv fs => exact h3.elim
  | «at» ex st' =>
    obtain ⟨g1, g2, g3⟩ := h3
    simp only [Bool.and_eq_true, Nat.ble_eq] at h1
    let B : Base := ⟨nb, w, ρ, fun i => look i hp⟩
    have hRR : RR env B (lawStart fn as hp nb nv fs) ρ w := by
      refine ⟨RhoEq.refl _ _, Nat.le_refl _, hH, hS, h1.2, fun i b hb _ => ⟨b, hb, id⟩, fun i b hb hi => ?_, fun i hi => (by cases hi), Fr.refl _ _⟩
      have := (HeapLt.at h1.2 hb).1
      have h' : nb ≤ i := hi
      omega
    have hlen := hvs.length
    have hFR : FR env (lawStart fn as hp nb nv fs) ρ { tmps := vs.toArray ++ Array.replicate (fn.ntmps - vs.toArray.size) undef, defers := [] } := by
      refine ⟨rfl, by simp [lawStart]; omega, fun t s hs => ?_, fun t s hs => ?_⟩
      · obtain ⟨_, g2, g3, _⟩ := frameOf_look hs hvs h1.1.2
        exact ⟨by simp [lawStart] at g2 ⊢; omega, g3⟩
      · obtain ⟨_, g2, _, v, g4, g5⟩ := frameOf_look hs hvs h1.1.2
        have : (vs.toArray ++ Array.replicate (fn.ntmps - vs.toArray.size) undef).getD t undef = v := by
          have hlt : t < vs.length := by simp at g2; omega
          simp only [Array.getD_eq_getD_getElem?]
          rw [Array.getElem?_append_left (by simpa using hlt)]
          simp only [Nat.sub_zero] at g4
          simp [g4]
        dsimp only
        rw [this]; exact g5
    have fin : (∀ i, ex ≠ .exit i) → (∃ e, resVals C.tab st' fn.results.toList = some [.sc (.bool e)] ∧ (den env e).i ≠ 0 ∧ allGe nb st'.wr = true) →
        Calls P f vs.toArray w fun e w' => e = .returned (.bool true) ∧ RowKit.Below w.heap.size w w' := by
      rintro hex ⟨e, k1, k2, k3⟩
      refine calls_of_wp hf hb (wp_mono (g3 B ρ _ w hRR hFR) ?_)
      rintro x a' w' ⟨rfl, ρ', hRR', hFR'⟩
      obtain ⟨v, q1, q2⟩ := results_run (P := P) hC.tab g1 hFR' hRR'.heap k1
      have hv : v = .bool true := by
        have : v = .bool (decide ((den env e).i ≠ 0)) := q2
        rw [this, decide_eq_true k2]
      subst hv
      have hbel : RowKit.Below w.heap.size w w' := by
        refine Fr.below (hRR'.fr.mono fun k _ hk => ?_)
        obtain ⟨i, i1, i2, _⟩ := hk
        have := allGe_at k3 i i1
        have h' : i < nb := i2
        omega
      cases ex with
      | normal => exact ⟨hFR'.df, _, q1, rfl, hbel⟩
      | ret => exact ⟨hFR'.df, _, q1, rfl, hbel⟩
      | exit i => exact absurd rfl (hex i)
    have get : Path env (match resVals C.tab st' fn.results.toList with
        | some [.sc (.bool e)] =>
          match truth st'.fs e with
          | some true => bind2 (allGe nb st'.wr) (.leaf ()) (.err "writes")
          | some false => .err "false"
          | none => .err "may be false"
        | _ => .err "result" : Tree Unit) L → ∃ e, resVals C.tab st' fn.results.toList = some [.sc (.bool e)] ∧ (den env e).i ≠ 0 ∧ allGe nb st'.wr = true := by
      intro hp
      split at hp
      · rename_i e he
        split at hp
        · rename_i ht
          obtain ⟨k1, _⟩ := path_bind2 hp
          exact ⟨e, he, truth_true g1 ht, k1⟩
        · exact hp.elim
        · exact hp.elim
      · exact hp.elim
    cases ex with
    | normal => exact fin (fun i e => by cases e) (get h2)
    | ret => exact fin (fun i e => by cases e) (get h2)
    | exit i => exact h2.elim

/-! ### Tables -/

def zeroIs : CK → Value → Bool
  | .int k, .int l n => keq k l && ieq n 0
  | .bool, .bool b => !b
  | .fix (.val u), v => vbeq u v
  | _, _ => false

/-- Do cells stand as a layout says, all with zero? -/
def zeroGo (c : CK) (n : Nat) (L : Lay) : List Value → Bool
  | [] => Nat.beq n 0 && (match L with
    | [] => true
    | _ => false)
  | v :: r =>
    match n, L with
    | n + 1, L => zeroIs c v && zeroGo c n L r
    | 0, (d, m) :: L => !(Nat.beq m 0) && (zeroIs d v && zeroGo d (m - 1) L r)
    | 0, [] => false

theorem zeroGo_ok : ∀ (l : List Value) (c : CK) (n : Nat) (L : Lay), zeroGo c n L l = true → l.length = n + Lay.size L ∧ ∀ j d, Lay.at ((c, n) :: L) j = some d → ∀ u, l[j]? = some u → zeroIs d u = true := by
  intro l
  induction l with
  | nil =>
    intro c n L h
    simp only [zeroGo, Bool.and_eq_true, Nat.beq_eq] at h
    obtain ⟨h1, h2⟩ := h
    cases L with
    | nil => subst h1; exact ⟨rfl, fun j d _ u hu => by simp at hu⟩
    | cons p L => cases h2
  | cons v r ih =>
    intro c n L h
    cases n with
    | succ n =>
      simp only [zeroGo, Bool.and_eq_true] at h
      obtain ⟨h1, h2⟩ := ih c n L h.2
      refine ⟨by simp only [List.length_cons, h1]; omega, fun j d hd u hu => ?_⟩
      cases j with
      | zero =>
        simp only [Lay.at, Nat.blt_eq] at hd
        rw [if_pos (by omega)] at hd
        cases hd
        simp only [List.getElem?_cons_zero, Option.some.injEq] at hu
        rw [← hu]; exact h.1
      | succ j =>
        refine h2 j d ?_ u (by simpa using hu)
        simp only [Lay.at, Nat.blt_eq] at hd ⊢
        by_cases hj : j < n
        · rw [if_pos (by omega)] at hd; rw [if_pos hj]; exact hd
        · rw [if_neg (by omega)] at hd; rw [if_neg hj]
          rw [← hd]; congr 1; omega
    | zero =>
      cases L with
      | nil => simp [zeroGo] at h
      | cons p L =>
        obtain ⟨e, m⟩ := p
        simp only [zeroGo, Bool.and_eq_true, Bool.not_eq_true'] at h
        obtain ⟨h0, h1, h2⟩ := h
        have hm : m ≠ 0 := Nat.ne_of_beq_eq_false h0
        obtain ⟨h3, h4⟩ := ih e (m - 1) L h2
        refine ⟨by simp only [List.length_cons, h3, Lay.size]; omega, fun j d hd u hu => ?_⟩
        simp only [Lay.at, Nat.blt_eq] at hd
        rw [if_neg (by omega)] at hd
        simp only [Nat.sub_zero] at hd
        cases j with
        | zero =>
          rw [if_pos (by omega)] at hd
          cases hd
          simp only [List.getElem?_cons_zero, Option.some.injEq] at hu
          rw [← hu]; exact h1
        | succ j =>
          refine h4 j d ?_ u (by simpa using hu)
          simp only [Lay.at, Nat.blt_eq]
          by_cases hj : j < m - 1
          · rw [if_pos (by omega)] at hd; rw [if_pos hj]; exact hd
          · rw [if_neg (by omega)] at hd; rw [if_neg hj]
            rw [← hd]; congr 1; omega

theorem zeroIs_rel {env : Env} {ρ : Rho} {d : CK} {u : Value} (h : zeroIs d u = true) (j : Int) : d.Rel env ρ (den env (.rep 0)).a j u := by
  cases d with
  | int k =>
    cases u <;> simp [zeroIs] at h
    rw [keq_eq h.1, ieq_iff.1 h.2]; rfl
  | bool => cases u <;> simp [zeroIs] at h; rw [h]; rfl
  | fix s =>
    cases s <;> simp [zeroIs] at h
    rw [vbeq_eq h]; rfl

def zintB : TypeDesc → Option Value → Bool
  | .int k, some (.int l n) => keq k l && ieq n 0
  | .int _, _ => false
  | _, _ => true

theorem zintB_ok {d : TypeDesc} {z : Option Value} (h : zintB d z = true) : ∀ k, d = .int k → z = some (.int k 0) := by
  intro k hk
  subst hk
  cases z with
  | none => cases h
  | some v =>
    cases v <;> first | (cases h; done) | skip
    simp only [zintB, Bool.and_eq_true] at h
    rw [keq_eq h.1, ieq_iff.1 h.2]

def tiChk (x : TI) (i : TypeInfo) : Bool :=
  Nat.beq i.size x.size && Nat.beq i.bytes x.bytes && (match x.zero with
  | none => true
  | some L => match i.zero with
    | some v => zeroGo .bool 0 L v.cells.toList
    | none => false) && zintB x.desc i.zero

theorem tiOk {P : Program} {t : Nat} {x : TI} {i : TypeInfo} (hu : P.underlying t = some x.desc) (hi : P.info? t = some i) (h : tiChk x i = true)
    (he : x.eqok = true → P.stoodInHeld t = false ∧ P.eqGuardType P.depth t = false) : TIOk P t x := by
  simp only [tiChk, Bool.and_eq_true, Nat.beq_eq] at h
  obtain ⟨⟨⟨h1, h2⟩, h3⟩, h4⟩ := h
  refine ⟨hu, ⟨i, hi, h1, h2, fun L hL => ?_⟩, fun k hk => ⟨i, hi, zintB_ok h4 k hk⟩, he⟩
  rw [hL] at h3
  dsimp only at h3
  split at h3
  · rename_i v hv
    obtain ⟨g1, g2⟩ := zeroGo_ok _ _ _ _ h3
    refine ⟨v, hv, by simpa using g1, fun env ρ j c hc u hu => ?_⟩
    refine zeroIs_rel (g2 j c ?_ u (by simpa using hu)) j
    simp only [Lay.at, Nat.blt_eq]
    rw [if_neg (by omega)]
    simpa using hc
  · cases h3

theorem tabOk_of {P : Program} {tab : Tab} (h : tab.All (fun t x => TIOk P t x) id) : TabOk P tab := fun _ _ hx => BT.all_get (g := id) h hx

theorem funsOk_of {P : Program} {t : BT Func} (h : t.All (fun f fn => P.funcs[f]? = some fn ∧ FunOk P f) id) : ∀ f fn, tlook f t = some fn → P.funcs[f]? = some fn ∧ FunOk P f := fun _ _ hx => BT.all_get (g := id) h hx

end Go.Sx
