/- A part of the reckoning with symbols: states, terms and their meaning, used by the proofs of this seat. -/
import Derived.Test.YtpndnejabebfeaaGreatDoorSxR
/-! The run is sound. -/
noncomputable section
namespace Go.Sx

def Post (env : Env) (B : Base) (st' : St) (ex : Ex) : Exit → Act → World → Prop := fun e a w => e = ex.to ∧ ∃ ρ, RR env B st' ρ w ∧ FR env st' ρ a

def Snd (P : Program) (C : Cfg) (env : Env) : Job → St → Rs → Prop
  | .code c, st, .at ex st' => Sat env st'.fs ∧ st.nb ≤ st'.nb ∧ ∀ B ρ a w, RR env B st ρ w → FR env st ρ a → c.wp P (Post env B st' ex) a w
  | .rounds b, st, .at ex st' => Sat env st'.fs ∧ st.nb ≤ st'.nb ∧ ∃ m, ∀ B ρ a w, RR env B st ρ w → FR env st ρ a → Code.rounds P b (Post env B st' ex) m a w
  | .ops arr l, st, .at ex st' => ex = .normal ∧ Sat env st'.fs ∧ st.nb ≤ st'.nb ∧ ∀ B ρ a w, RR env B st ρ w → FR env st ρ a → wpOps P arr (Post env B st' .normal) l a w
  | .op o ev hp, st, .out out _ fs => Sat env fs ∧ OpGood P env (fun i => look i hp) st.nb ev o out
  | .draw arr _ R st0, st, .at ex st' => ex = .normal ∧ Sat env st'.fs ∧ st.nb ≤ st'.nb ∧
      (TextOk P arr env st0 R st → ∃ Rf, TextOk P arr env st0 Rf st' ∧ Rf.length = arr.size ∧ pairs C.tab arr st'.fs st0.hp Rf Rf = true)
  | _, _, _ => False

section
variable {P : Program} {C : Cfg} {env : Env} {α : Type}

theorem path_bind2 {c : Bool} {t : Tree α} {s : String} {L : α} (h : Path env (bind2 c t (.err s)) L) : c = true ∧ Path env t L := by
  cases c with
  | true => exact ⟨rfl, h⟩
  | false => exact h.elim

theorem sat_addT {st : St} (hs : Sat env st.fs) {e : Tm} (h : ¬ (den env e).i = 0) : Sat env (st.addT e).fs := factsT_ok hs h
theorem sat_addF {st : St} (hs : Sat env st.fs) {e : Tm} (h : (den env e).i = 0) : Sat env (st.addF e).fs := factsF_ok hs h

theorem RR.facts {B : Base} {st : St} {ρ : Rho} {w : World} (h : RR env B st ρ w) (fs : List Fact) : RR env B { st with fs := fs } ρ w :=
  ⟨h.rho, h.nb, h.heap, h.sep, h.lt, h.old, h.new, h.wr, h.fr⟩
theorem FR.facts {st : St} {ρ : Rho} {a : Act} (h : FR env st ρ a) (fs : List Fact) : FR env { st with fs := fs } ρ a := ⟨h.df, h.size, h.lt, h.rel⟩

theorem wanted_none {o : Oper} (h : o.guard = none) (y : Nat → Option Bool) : Region.wanted o y = true := by unfold Region.wanted; rw [h]

theorem gdOf_spec {st : St} {arr : Array Oper} {j : Nat} {e : Tm} (h : gdOf st arr j = some e) : ∃ g t, arr[j]? = some g ∧ g.dst = some t ∧ look t st.fr = some (.sv (.sc (.bool e))) := by
  unfold gdOf at h
  split at h
  · rename_i g hg
    split at h
    · rename_i t ht
      split at h
      · rename_i e' he
        cases h
        exact ⟨g, t, hg, ht, he⟩
      · cases h
    · cases h
  · cases h

theorem wanted_some {o : Oper} {j : Nat} {want : Bool} (hg : o.guard = some (j, want)) {st : St} {arr : Array Oper} {e : Tm} (h : gdOf st arr j = some e) {ρ : Rho} {a : Act} (hF : FR env st ρ a) :
    Region.wanted o (yielded arr a.tmps) = (decide ((den env e).i ≠ 0) == want) := by
  obtain ⟨g, t, h1, h2, h3⟩ := gdOf_spec h
  have hv : a.tmps.getD t undef = .bool (decide ((den env e).i ≠ 0)) := hF.rel t _ h3
  have htlt := (hF.lt t _ h3).1
  have hget : a.tmps[t]? = some (.bool (decide ((den env e).i ≠ 0))) := by
    have hlt : t < a.tmps.size := by rw [hF.size]; exact htlt
    rw [Array.getElem?_eq_getElem hlt]
    rw [Array.getD_eq_getD_getElem?, Array.getElem?_eq_getElem hlt] at hv
    exact congrArg some hv
  have hy : yielded arr a.tmps j = some (decide ((den env e).i ≠ 0)) := by
    unfold yielded
    rw [h1]
    simp only [Option.bind_some, h2, hget]
  unfold Region.wanted
  rw [hg]
  show (yielded arr a.tmps j == some want) = _
  rw [hy]
  cases decide ((den env e).i ≠ 0) <;> cases want <;> rfl

theorem wanted_skip {o : Oper} {j : Nat} {want : Bool} (hg : o.guard = some (j, want)) {st : St} {arr : Array Oper} (h : gdSkip st arr j = true) {ρ : Rho} {a : Act} (hF : FR env st ρ a) :
    Region.wanted o (yielded arr a.tmps) = false := by
  unfold gdSkip at h
  split at h
  · rename_i g hgj
    split at h
    · rename_i t ht
      split at h
      · rename_i hl
        obtain ⟨vs, hv, hr⟩ := hF.rel t _ hl
        have hvs : vs = #[] := by
          cases hx : vs.toList with
          | nil => exact Array.toList_eq_nil_iff.1 hx
          | cons _ _ => rw [hx] at hr; exact hr.elim
        subst hvs
        have htlt := (hF.lt t _ hl).1
        have hlt : t < a.tmps.size := by rw [hF.size]; exact htlt
        have hget : a.tmps[t]? = some (.tuple #[]) := by
          rw [Array.getElem?_eq_getElem hlt]
          rw [Array.getD_eq_getD_getElem?, Array.getElem?_eq_getElem hlt] at hv
          simpa using hv
        simp [Region.wanted, hg, yielded, hgj, ht, hget]
      · cases h
    · cases h
  · cases h

theorem truth_dec {fs : List Fact} (hs : Sat env fs) {e : Tm} {b : Bool} (h : truth fs e = some b) : b = decide ((den env e).i ≠ 0) := by
  cases b with
  | true => exact (decide_eq_true (truth_true hs h)).symm
  | false => exact (decide_eq_false (by rw [truth_false hs h]; simp)).symm

/-- One operation in the order of the text. -/
theorem opGood_step {B : Base} {st : St} {ρ : Rho} {a : Act} {w : World} (hRR : RR env B st ρ w) (hFR : FR env st ρ a) {o : Oper} {out : Out} (hg : OpGood P env (fun i => look i st.hp) st.nb (evOf st) o out) {nv : Nat} {fs : List Fact}
    (hf : fits st o.dst out.v out.ups out.nb = true) {K : Act → World → Prop} {Q : Exit → Act → World → Prop}
    (hK : ∀ ρ a w, RR env B (st.after o.dst out.v out.ups out.nb nv fs) ρ w → FR env (st.after o.dst out.v out.ups out.nb nv fs) ρ a → K a w) : o.wp P a w K Q := by
  refine hg ρ w a (evOf_rel hFR) hRR.heap hRR.sep K Q ?_
  intro ρ' v w' hstep hrel
  exact hK ρ' _ w' (hRR.step (fun _ _ h => h) hstep hf) (hFR.step hstep.rho hf hrel)

theorem step_nb {st : St} {d : Option Tmp} {v : Option Sl} {ups : List (Nat × Blk)} {nb : Nat} (h : fits st d v ups nb = true) : st.nb ≤ nb := by
  simp only [fits, Bool.and_eq_true, Nat.ble_eq] at h
  exact h.1.1.1

/-- One record more. -/
theorem TextOk.cons {arr : Array Oper} {st0 : St} {R : List Rec} {st : St} (h : TextOk P arr env st0 R st) {r : Rec} {nv : Nat} {fs : List Fact} (hlo : r.lo = st.nb) (hf : fits st r.o.dst r.v r.ups r.hi = true)
    (hidx : r.i = R.length) (hop : arr[r.i]? = some r.o) (hbef : r.bef = befOf R r.o.after.toList) (hlt : Nat.shiftRight r.bef r.i = 0) (hfr : r.fr = st.fr) (hhv : ∀ k b, look k r.hv = some b → look k st.hp = some b)
    (hguard : (r.o.guard = none ∧ r.wants = true) ∨ ∃ j want g t e b, r.o.guard = some (j, want) ∧ arr[j]? = some g ∧ g.dst = some t ∧ look t r.fr = some (.sv (.sc (.bool e))) ∧ b = decide ((den env e).i ≠ 0) ∧ r.wants = (b == want))
    (hno : r.wants = false → r.v = none ∧ r.ups = []) (hyes : r.wants = true → OpGood P env (fun i => look i r.hv) r.lo (evR arr r.o r.fr) r.o ⟨r.v, r.ups, r.hi⟩) :
    TextOk P arr env st0 (r :: R) (st.after r.o.dst r.v r.ups r.hi nv fs) := by
  have hnb := step_nb hf
  simp only [fits, Bool.and_eq_true, Nat.ble_eq] at hf
  obtain ⟨⟨⟨f1, f2⟩, f3⟩, f4⟩ := hf
  have hfre : (st.after r.o.dst r.v r.ups r.hi nv fs).fr = (appl st0 (r :: R)).fr := by
    simp only [St.after, appl, St.put, h.fr]
    cases r.o.dst <;> rfl
  constructor
  · exact hfre
  · simp only [St.after, appl, St.put, h.hp]
  · simp only [St.after, appl, St.put, h.wr]
  · exact h.nt
  · exact Nat.le_trans h.nb hnb
  · intro s hs
    rcases List.mem_cons.1 hs with rfl | hs
    · exact Nat.le_refl _
    · exact Nat.le_trans (h.hi s hs) hnb
  · refine ⟨?_, h.recs⟩
    constructor
    · exact hidx
    · exact hop
    · exact hbef
    · intro j hj
      rw [bit_eq] at hj
      rcases Nat.lt_or_ge j r.i with hlt' | hge
      · exact hlt'
      · exfalso
        have : r.bef >>> r.i = 0 := hlt
        have h2 := Nat.testBit_shiftRight r.bef (i := r.i) (j := j - r.i)
        rw [this, Nat.zero_testBit, show r.i + (j - r.i) = j by omega, hj] at h2
        cases h2
    · rw [hlo]; exact ⟨h.nb, hnb, h.hi⟩
    · refine ⟨by rw [hlo]; exact f2, fun s hs => by rw [hs] at f4; exact f4, fun d hd => ?_⟩
      rw [hd] at f3
      have : d < st.nt := by simpa using f3
      rw [h.nt] at this; exact this
    · rw [hfr, h.fr]
    · intro k b hb; rw [← h.hp]; exact hhv k b hb
    · exact hguard
    · exact hno
    · exact hyes

theorem oneBlk_look {hp : Heap} {s : Option Sl} {k : Nat} {b : Blk} (h : look k (oneBlk hp s) = some b) : look k hp = some b := by
  unfold oneBlk at h
  split at h
  · split at h
    · rename_i x hx
      simp only [look_nil, look_cons, Nat.beq_eq] at h
      split at h
      · rename_i e; subst e; cases h; exact hx
      · cases h
    · cases h
  · split at h
    · rename_i x hx
      simp only [look_nil, look_cons, Nat.beq_eq] at h
      split at h
      · rename_i e; subst e; cases h; exact hx
      · cases h
    · cases h
  · cases h

theorem viewOf_look {R : List Rec} {bef : Nat} {hp : Heap} {ev : Ev} {o : Oper} {k : Nat} {b : Blk} (h : look k (viewOf R bef hp ev o) = some b) : look k hp = some b := by
  unfold viewOf at h
  split at h
  · exact oneBlk_look h
  · exact oneBlk_look h
  · exact oneBlk_look h
  · exact oneBlk_look h
  · rw [look_keepOf] at h
    split at h
    · exact h
    · cases h
  · cases h

theorem path_ask {st : St} {e : Tm} {again : St → Tree α} {L : α} (hs : Sat env st.fs) (h : Path env (ask st e again) L) : ∃ fs', Sat env fs' ∧ Path env (again { st with fs := fs' }) L := by
  unfold ask at h
  cases hd : decideT st.fs e with
  | yes =>
    rw [hd] at h
    refine ⟨_, sat_addT hs (?_ : ¬ (den env e).i = 0), h⟩
    unfold decideT at hd
    dsimp only at hd
    split at hd
    · rename_i ht; have := truth_true hs ht; rw [reT_den hs] at this; exact this
    · cases hd
    · split at hd
      · split at hd <;> cases hd
      · cases hd
  | no =>
    rw [hd] at h
    refine ⟨_, sat_addF hs (?_ : (den env e).i = 0), h⟩
    unfold decideT at hd
    dsimp only at hd
    split at hd
    · cases hd
    · rename_i ht; have := truth_false hs ht; rw [reT_den hs] at this; exact this
    · split at hd
      · split at hd <;> cases hd
      · cases hd
  | same e' =>
    rw [hd] at h
    have he : (den env e').i = (den env e).i := by
      unfold decideT at hd
      dsimp only at hd
      split at hd
      · cases hd
      · cases hd
      · split at hd
        · split at hd
          · cases hd
          · cases hd; exact reT_den hs e
        · cases hd; exact reT_den hs e
    simp only [Path] at h
    split at h
    · rename_i h0
      have h1 := sat_addF hs h0
      exact ⟨_, sat_addF (st := st.addF e') h1 (by rw [← he]; exact h0), h⟩
    · rename_i h0
      have h1 := sat_addT hs h0
      exact ⟨_, sat_addT (st := st.addT e') h1 (by rw [← he]; exact h0), h⟩
  | part c =>
    rw [hd] at h
    simp only [Path] at h
    split at h
    · rename_i h0; exact ⟨_, sat_addF hs h0, h⟩
    · rename_i h0; exact ⟨_, sat_addT hs h0, h⟩

theorem path_node {c : Tm} {l r : Tree α} {L : α} (h : Path env (.node c l r) L) : (¬ (den env c).i = 0 ∧ Path env l L) ∨ ((den env c).i = 0 ∧ Path env r L) := by
  simp only [Path] at h
  split at h
  · rename_i h0; exact .inr ⟨h0, h⟩
  · rename_i h0; exact .inl ⟨h0, h⟩

theorem call_good (hC : CfgOk P C) {o : Oper} {c : Call} (hop : o.op = .call c) {ev : Ev} {fid : FuncId} {as : List SV} (hev : evCall ev c = some (fid, as)) (hfo : FunOk P fid) {fn : Func} {body : Code} (hfn : P.funcs[fid]? = some fn) (hb : fn.body = some body)
    {hp : Heap} {st : St} (h1 : as.length ≤ fn.ntmps) (h2 : SVsLt st.nb as = true) (h3 : HeapLt st.nb hp = true) {ex : Ex} {st' : St} (hex : ∀ i, ex ≠ .exit i) (hs' : Sat env st'.fs)
    (hwp : ∀ B ρ a w, RR env B { fr := frameOf 0 as, nt := fn.ntmps, hp := hp, nb := st.nb, nv := st.nv, fs := st.fs, wr := [] } ρ w → FR env { fr := frameOf 0 as, nt := fn.ntmps, hp := hp, nb := st.nb, nv := st.nv, fs := st.fs, wr := [] } ρ a → body.wp P (Post env B st' ex) a w)
    {l : List SV} (hl : resVals C.tab st' fn.results.toList = some l) {out : Out} (ho : callOut st.nb st' l = some out) : OpGood P env (fun i => look i hp) st.nb ev o out := by
  intro ρ w a ha hH hS K Q hK
  obtain ⟨vs, hrun, hvs⟩ := evCall_run (P := P) (env := env) (ρ := ρ) (ev := ev) (r := a.eval) ha hop hev hfo w
  unfold Oper.wp
  rw [hrun, Oper.upon_enter]
  let B : Base := ⟨st.nb, w, ρ, fun i => look i hp⟩
  have hRR : RR env B { fr := frameOf 0 as, nt := fn.ntmps, hp := hp, nb := st.nb, nv := st.nv, fs := st.fs, wr := [] } ρ w := by
    refine ⟨RhoEq.refl _ _, Nat.le_refl _, hH, hS, h3, fun i b hb _ => ⟨b, hb, id⟩, fun i b hb hi => ?_, fun i hi => (by cases hi), Fr.refl _ _⟩
    have := (HeapLt.at h3 hb).1
    have h' : st.nb ≤ i := hi
    omega
  have hlen := hvs.length
  have hFR : FR env { fr := frameOf 0 as, nt := fn.ntmps, hp := hp, nb := st.nb, nv := st.nv, fs := st.fs, wr := [] } ρ { tmps := vs.toArray ++ Array.replicate (fn.ntmps - vs.toArray.size) undef, defers := [] } := by
    refine ⟨rfl, by simp; omega, fun t s hs => ?_, fun t s hs => ?_⟩
    · obtain ⟨_, g2, g3, _⟩ := frameOf_look hs hvs h2
      exact ⟨by simp at g2 ⊢; omega, g3⟩
    · obtain ⟨_, g2, _, v, g4, g5⟩ := frameOf_look hs hvs h2
      have : (vs.toArray ++ Array.replicate (fn.ntmps - vs.toArray.size) undef).getD t undef = v := by
        have hlt : t < vs.length := by simp at g2; omega
        simp only [Array.getD_eq_getD_getElem?]
        rw [Array.getElem?_append_left (by simpa using hlt)]
        simp only [Nat.sub_zero] at g4
        simp [g4]
      dsimp only
      rw [this]; exact g5
  refine Calls.mono (calls_of_wp (R := fun e w' => ∃ v ρ', e = .returned v ∧ (resSl l).Rel env ρ' v ∧ Step env (fun i => look i hp) st.nb ρ ρ' w w' out.ups) hfn hb (wp_mono (hwp B ρ _ w hRR hFR) ?_)) ?_
  · rintro e a' w' ⟨rfl, ρ', hRR', hFR'⟩
    have hres := results_run (P := P) hC.tab hs' hFR' hRR'.heap hl
    obtain ⟨v, g1, g2⟩ := hres
    obtain ⟨_, _, g3⟩ := callOut_step hRR' ho
    cases ex with
    | normal => exact ⟨hFR'.df, v, g1, v, ρ', rfl, g2, g3⟩
    | ret => exact ⟨hFR'.df, v, g1, v, ρ', rfl, g2, g3⟩
    | exit i => exact absurd rfl (hex i)
  · rintro e w' ⟨v, ρ', rfl, g2, g3⟩
    refine hK ρ' v w' g3 fun s hs => ?_
    have : out.v = some (resSl l) := by
      unfold callOut at ho
      dsimp only at ho
      split at ho
      · cases ho; rfl
      · cases ho
    rw [this] at hs
    cases hs; exact g2

theorem summ_good {o : Oper} {c : Call} (hop : o.op = .call c) {ev : Ev} {fid : FuncId} {as : List SV} (hev : evCall ev c = some (fid, as)) (hfo : FunOk P fid) {hp : Heap} {nb : Nat} {out : Out}
    (h : ∀ (ρ : Rho) (w : World) (vs : List Value), SVsRel env ρ as vs → HRel env ρ (fun i => look i hp) w → SepK ρ (fun i => look i hp) →
      Calls P fid vs.toArray w fun e w' => ∃ v ρ', e = .returned v ∧ (∀ s, out.v = some s → s.Rel env ρ' v) ∧ Step env (fun i => look i hp) nb ρ ρ' w w' out.ups) : OpGood P env (fun i => look i hp) nb ev o out := by
  intro ρ w a ha hH hS K Q hK
  obtain ⟨vs, hrun, hvs⟩ := evCall_run (P := P) (env := env) (ρ := ρ) (ev := ev) (r := a.eval) ha hop hev hfo w
  unfold Oper.wp
  rw [hrun, Oper.upon_enter]
  refine Calls.mono (h ρ w vs hvs hH hS) ?_
  rintro e w' ⟨v, ρ', rfl, g2, g3⟩
  exact hK ρ' v w' g3 g2
end

end Go.Sx
