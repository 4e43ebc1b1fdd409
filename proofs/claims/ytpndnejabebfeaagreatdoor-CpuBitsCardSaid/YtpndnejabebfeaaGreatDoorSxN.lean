/- A part of the reckoning with symbols: states, terms and their meaning, used by the proofs of this seat. -/
import Derived.Test.YtpndnejabebfeaaGreatDoorSxM
/-! The run of a function's code on a state. -/
noncomputable section
namespace Go.Sx

inductive Ex where
  | normal
  | exit (id : Nat)
  | ret

def Ex.to : Ex → Exit
  | .normal => .normal
  | .exit id => .exit id
  | .ret => .ret

inductive Rs where
  | at (ex : Ex) (st : St)
  | out (o : Out) (nv : Nat) (fs : List Fact)

/-- A loop whose rounds are forgotten: its first region, its counters with their ranges (the first goes up in each round), what else it writes, and how it is left. -/
structure LoopSpec where
  rid : Nat
  pos : String
  cnt : List (Tmp × Int × Int)
  jt : List Tmp
  jb : List Tmp
  ex : Ex

/-- The contracts of one function: some, or one for each number that its first argument may be. -/
inductive SE where
  | list (l : List Summ)
  | byLit (t : BT Summ)

structure Cfg where
  tab : Tab
  funs : BT Func
  summs : BT SE
  loops : List LoopSpec

structure FunOk (P : Program) (f : FuncId) : Prop where
  call : ∀ (args : Array Value) (w : World), (callFunc f args).run P w = .ok (.enter f args) w

/-- Where a contract wants a number that stands in the text, does it stand there? -/
def litOk : SV → SV → Bool
  | .sc (.int _ (.lit m)), .sc (.int _ (.lit n)) => ieq m n
  | .sc (.int _ (.lit _)), _ => false
  | _, _ => true
def litsOk : List SV → List SV → Bool
  | a :: r, b :: s => litOk a b && litsOk r s
  | _, _ => true
def pinSV (Γ : List Fact) : SV → SV
  | .sc s => .sc (pinS Γ s)
  | s => s
def pinSVs (Γ : List Fact) : List SV → List SV
  | [] => []
  | s :: r => pinSV Γ s :: pinSVs Γ r
theorem pinSVs_rel {env : Env} {Γ : List Fact} (hs : Sat env Γ) {ρ : Rho} : ∀ {l : List SV} {vs : List Value}, SVsRel env ρ l vs → SVsRel env ρ (pinSVs Γ l) vs := by
  intro l
  induction l with
  | nil => intro vs h; exact h
  | cons s r ih =>
    intro vs h
    cases vs with
    | nil => exact h.elim
    | cons v vs =>
      refine ⟨?_, ih h.2⟩
      cases s with
      | sc s => exact pinS_rel hs h.1
      | agg L A => exact h.1

def firstFit (as : List SV) : List Summ → Option Summ
  | [] => none
  | S :: r => match litsOk S.args as with
    | true => some S
    | false => firstFit as r

theorem firstFit_mem {as : List SV} : ∀ {l : List Summ} {S : Summ}, firstFit as l = some S → S ∈ l := by
  intro l
  induction l with
  | nil => intro S h; cases h
  | cons a r ih =>
    intro S h
    simp only [firstFit] at h
    split at h
    · cases h; exact List.mem_cons_self ..
    · exact List.mem_cons_of_mem _ (ih h)

def litArg : List SV → Option Nat
  | .sc (.int _ (.lit (.ofNat n))) :: _ => some n
  | _ => none

def findSumm (f : FuncId) (as : List SV) (t : BT SE) : Option Summ :=
  match tlook f t with
  | some (.list l) => firstFit as l
  | some (.byLit t) => match litArg as with
    | some n => tlook n t
    | none => none
  | none => none

def SummOk (P : Program) (f : FuncId) (S : Summ) : Prop := Valid P S ∧ FunOk P S.fn ∧ S.fn = f

def SummsAll (P : Program) (f : FuncId) : List Summ → Prop
  | [] => True
  | S :: r => SummOk P f S ∧ SummsAll P f r

def SEOk (P : Program) (f : FuncId) : SE → Prop
  | .list l => SummsAll P f l
  | .byLit t => t.All (fun _ S => SummOk P f S) id

theorem SummsAll.mem {P : Program} {f : FuncId} : ∀ {l : List Summ} {S : Summ}, SummsAll P f l → S ∈ l → SummOk P f S := by
  intro l
  induction l with
  | nil => intro S _ h; cases h
  | cons a r ih =>
    intro S h hS
    rcases List.mem_cons.1 hS with rfl | hS
    · exact h.1
    · exact ih h.2 hS

theorem summs_of {P : Program} {t : BT SE} (h : t.All (fun f e => SEOk P f e) id) : ∀ f as S, findSumm f as t = some S → SummOk P f S := by
  intro f as S hf
  unfold findSumm at hf
  split at hf
  · rename_i l hl
    exact SummsAll.mem (BT.all_get (g := id) h hl) (firstFit_mem hf)
  · rename_i u hu
    split at hf
    · exact BT.all_get (g := id) (BT.all_get (g := id) h hu) hf
    · cases hf
  · cases hf

structure CfgOk (P : Program) (C : Cfg) : Prop where
  tab : TabOk P C.tab
  funs : ∀ f fn, tlook f C.funs = some fn → P.funcs[f]? = some fn ∧ FunOk P f
  summs : ∀ f as S, findSumm f as C.summs = some S → SummOk P f S
  mixed : P.follows .mixedOrders = true

/-! ### Small parts -/

def evOf (st : St) : Ev
  | .tmp t => look t st.fr
  | .const v => some (.sv (conSV v))
  | .func f => some (.sv (.sc (.func (.func f) [] [])))
  | .global _ => none

theorem evOf_rel {env : Env} {st : St} {ρ : Rho} {a : Act} (h : FR env st ρ a) : EvRel env ρ (evOf st) a.eval := by
  intro x s hx
  cases x with
  | tmp t => exact h.rel t s hx
  | const v => cases hx; exact conSV_rel env ρ v
  | func f => cases hx; exact ⟨#[], #[], rfl, trivial, trivial⟩
  | global g => cases hx

def evArgs (ev : Ev) : List Operand → Option (List SV)
  | [] => some []
  | x :: r =>
    match evV ev x, evArgs ev r with
    | some s, some l => some (s :: l)
    | _, _ => none

theorem evArgs_rel {env : Env} {ρ : Rho} {ev : Ev} {r : Operand → Value} (h : EvRel env ρ ev r) : ∀ {ps : List Operand} {l : List SV}, evArgs ev ps = some l → SVsRel env ρ l (ps.map r) := by
  intro ps
  induction ps with
  | nil => intro l hl; cases hl; trivial
  | cons x ps ih =>
    intro l hl
    simp only [evArgs] at hl
    split at hl
    · rename_i s l' h1 h2
      cases hl
      exact ⟨h.v h1, ih h2⟩
    · cases hl

def ptrSVs : List (Nat × Tm) → List SV
  | [] => []
  | (b, o) :: r => .sc (.ptr b o) :: ptrSVs r

theorem ptrSVs_rel {env : Env} {ρ : Rho} : ∀ {l : List (Nat × Tm)} {vs : List Value}, PtrsRel env ρ l vs → SVsRel env ρ (ptrSVs l) vs := by
  intro l
  induction l with
  | nil => intro vs h; cases vs <;> simp [PtrsRel, ptrSVs, SVsRel] at *
  | cons p r ih =>
    intro vs h
    obtain ⟨b, o⟩ := p
    cases vs with
    | nil => exact h.elim
    | cons v vs => exact ⟨h.1, ih h.2⟩

theorem SVsRel.append {env : Env} {ρ : Rho} : ∀ {a b : List SV} {u v : List Value}, SVsRel env ρ a u → SVsRel env ρ b v → SVsRel env ρ (a ++ b) (u ++ v) := by
  intro a
  induction a with
  | nil => intro b u v h h'; cases u with
    | nil => exact h'
    | cons x xs => exact h.elim
  | cons s r ih =>
    intro b u v h h'
    cases u with
    | nil => exact h.elim
    | cons x xs => exact ⟨h.1, ih h.2 h'⟩

/-- Whom a call calls, and with what. -/
def evCall (ev : Ev) (c : Call) : Option (FuncId × List SV) :=
  match c.callee with
  | .value f =>
    match ev1 ev f, evArgs ev c.args.toList with
    | some (.func (.func fid) a b), some l => some (fid, ptrSVs a ++ l ++ ptrSVs b)
    | _, _ => none
  | _ => none

theorem evCall_run {P : Program} {env : Env} {ρ : Rho} {ev : Ev} {r : Operand → Value} (h : EvRel env ρ ev r) {o : Oper} {c : Call} (hop : o.op = .call c) {fid : FuncId} {as : List SV} (hc : evCall ev c = some (fid, as)) (hf : FunOk P fid) (w : World) :
    ∃ vs : List Value, (execOp r o).run P w = .ok (.enter fid vs.toArray) w ∧ SVsRel env ρ as vs := by
  unfold evCall at hc
  split at hc
  · rename_i f hcl
    split at hc
    · rename_i fid' a b l h1 h2
      cases hc
      obtain ⟨fa, ca, e, g1, g2⟩ := h.one h1
      refine ⟨fa.toList ++ c.args.toList.map r ++ ca.toList, ?_, ((ptrSVs_rel g1).append (evArgs_rel h h2)).append (ptrSVs_rel g2)⟩
      have := hf.call (fa ++ c.args.map r ++ ca) w
      have e2 : (fa.toList ++ c.args.toList.map r ++ ca.toList).toArray = fa ++ c.args.map r ++ ca := by
        apply Array.ext'; simp
      rw [e2]
      simp only [execOp, hop, resolve, hcl, e, Deferred.ofValue, Sem.run_bind, Sem.run_pure, Result.andThen_ok, invoke, this]
    · cases hc
  · cases hc

def frameOf : Nat → List SV → List (Nat × Sl)
  | _, [] => []
  | i, s :: r => (i, .sv s) :: frameOf (i + 1) r

theorem frameOf_look {env : Env} {ρ : Rho} {n : Nat} : ∀ {as : List SV} {i : Nat} {vs : List Value} {t : Nat} {s : Sl}, look t (frameOf i as) = some s → SVsRel env ρ as vs → SVsLt n as = true →
    i ≤ t ∧ t < i + vs.length ∧ s.lt n = true ∧ ∃ v, vs[t - i]? = some v ∧ s.Rel env ρ v := by
  intro as
  induction as with
  | nil => intro i vs t s h; cases h
  | cons a r ih =>
    intro i vs t s h hr hl
    cases vs with
    | nil => exact hr.elim
    | cons v vs =>
      simp only [SVsLt, Bool.and_eq_true] at hl
      simp only [frameOf, look_cons, Nat.beq_eq] at h
      split at h
      · rename_i e; subst e; cases h
        exact ⟨Nat.le_refl _, by simp, hl.1, v, by simp, hr.1⟩
      · rename_i hne
        obtain ⟨h1, h2, h3, u, h4, h5⟩ := ih h hr.2 hl.2
        refine ⟨by omega, by simp; omega, h3, u, ?_, h5⟩
        rw [show t - i = (t - (i + 1)) + 1 by omega, List.getElem?_cons_succ]
        exact h4

def resVals (tab : Tab) (st : St) : List ResultVar → Option (List SV)
  | [] => some []
  | .tmp t :: r =>
    match look t st.fr, resVals tab st r with
    | some (.sv s), some l => some (s :: l)
    | _, _ => none
  | .cell a t :: r =>
    match look a st.fr, resVals tab st r with
    | some (.sv (.sc p)), some l =>
      match p, evLoad tab st.fs (fun i => look i st.hp) t p with
      | .ptr _ _, some s => some (s :: l)
      | _, _ => none
    | _, _ => none

def resSl : List SV → Sl
  | [s] => .sv s
  | l => .tup l

theorem resVals_run {P : Program} {tab : Tab} (hT : TabOk P tab) {env : Env} {st : St} (hs : Sat env st.fs) {ρ : Rho} {a : Act} {w : World} (hF : FR env st ρ a) (hH : HRel env ρ (fun i => look i st.hp) w) :
    ∀ (g : ResultVar → Sem Value), (∀ t, g (.tmp t) = pure (a.tmps.getD t undef)) → (∀ x t, g (.cell x t) = do loadVar t (← asAddr (a.tmps.getD x undef))) →
    ∀ (rs : List ResultVar) (l : List SV), resVals tab st rs = some l → ∃ vs : List Value, (rs.mapM g).run P w = .ok vs w ∧ SVsRel env ρ l vs := by
  intro g hg1 hg2 rs
  induction rs with
  | nil => intro l h; cases h; exact ⟨[], by simp, trivial⟩
  | cons r rs ih =>
    intro l h
    cases r with
    | tmp t =>
      simp only [resVals] at h
      split at h
      · rename_i s l' h1 h2
        cases h
        obtain ⟨vs, g1, g2⟩ := ih _ h2
        exact ⟨a.tmps.getD t undef :: vs, by simp only [List.mapM_cons, hg1, Sem.run_bind, Sem.run_pure, Result.andThen_ok, g1], hF.rel _ _ h1, g2⟩
      · cases h
    | cell x t =>
      simp only [resVals] at h
      split at h
      · rename_i p l' h1 h2
        split at h
        · rename_i b o s h3
          cases h
          obtain ⟨vs, g1, g2⟩ := ih _ h2
          have hp := hF.rel _ _ h1
          obtain ⟨v, g3, g4⟩ := evLoad_sound (P := P) hT hs h3 hH (u := a.tmps.getD x undef) hp
          obtain ⟨off, _, e⟩ := hp
          refine ⟨v :: vs, ?_, g4, g2⟩
          have : (do loadVar t (← asAddr (a.tmps.getD x undef)) : Sem Value).run P w = .ok v w := by
            rw [e] at g3 ⊢
            simpa [Instr.loadAt, Instr.sureAddr, asAddr] using g3
          rw [List.mapM_cons, hg2, Sem.run_bind, this]
          simp only [Result.andThen_ok, Sem.run_bind, g1, Sem.run_pure]
        · cases h
      · cases h

theorem SVsRel.length {env : Env} {ρ : Rho} : ∀ {l : List SV} {vs : List Value}, SVsRel env ρ l vs → vs.length = l.length := by
  intro l
  induction l with
  | nil => intro vs h; cases vs <;> simp [SVsRel] at *
  | cons a r ih =>
    intro vs h
    cases vs with
    | nil => exact h.elim
    | cons v vs => simp [ih h.2]

theorem results_run {P : Program} {tab : Tab} (hT : TabOk P tab) {env : Env} {st : St} (hs : Sat env st.fs) {ρ : Rho} {a : Act} {w : World} (hF : FR env st ρ a) (hH : HRel env ρ (fun i => look i st.hp) w) {fn : Func} {l : List SV}
    (h : resVals tab st fn.results.toList = some l) : ∃ v, (results fn a.tmps).run P w = .ok v w ∧ (resSl l).Rel env ρ v := by
  obtain ⟨vs, h1, h2⟩ := resVals_run hT hs hF hH (fun
      | .tmp t => pure (a.tmps.getD t undef)
      | .cell x t => do loadVar t (← asAddr (a.tmps.getD x undef)) : ResultVar → Sem Value) (fun _ => rfl) (fun _ _ => rfl) _ _ h
  have hl := h2.length
  have hrun : (results fn a.tmps).run P w = .ok (if h : vs.toArray.size = 1 then vs.toArray[0] else .tuple vs.toArray) w := by
    unfold results
    rw [Array.mapM_eq_mapM_toList]
    simp only [Sem.run_bind, Sem.run_map]
    refine (congrArg (fun r : Result (List Value) => Result.andThen (Result.andThen r (fun a w' => Result.ok a.toArray w')) _) h1).trans ?_
    simp
  refine ⟨_, hrun, ?_⟩
  match l, vs, h2, hl with
  | [], [], h2, _ => simp [resSl, Sl.Rel, SVsRel]
  | [s], [v], h2, _ => simpa [resSl, Sl.Rel] using h2.1
  | s :: s' :: r, v :: v' :: r', h2, _ =>
    have : ¬ (v :: v' :: r').toArray.size = 1 := by simp
    rw [dif_neg this]
    exact ⟨_, rfl, by simpa using h2⟩

/-! ### What of a callee's heap is kept -/

def sIds : SC → List Nat
  | .ptr b _ => [b]
  | .slice b _ _ _ => [b]
  | .func _ a c => idsOf a ++ idsOf c
  | .iface _ s => sIds s
  | .mapv b => [b]
  | _ => []

def layIds : Lay → List Nat
  | [] => []
  | (.fix s, _) :: r => sIds s ++ layIds r
  | _ :: r => layIds r

def svIds : SV → List Nat
  | .sc s => sIds s
  | .agg L _ => layIds L

def svsIds : List SV → List Nat
  | [] => []
  | s :: r => svIds s ++ svsIds r

def blIds : BL → List Nat
  | .fixed L => layIds L
  | .dyn (.fix s) _ => sIds s
  | .dyn _ _ => []
  | .mp _ => []

def memN (n : Nat) : List Nat → Bool
  | [] => false
  | a :: r => Nat.beq n a || memN n r

theorem memN_iff {n : Nat} : ∀ {l : List Nat}, memN n l = true ↔ n ∈ l := by
  intro l
  induction l with
  | nil => simp [memN]
  | cons a r ih => simp only [memN, Bool.or_eq_true, Nat.beq_eq, ih, List.mem_cons]

/-- All that can be come to from some blocks. -/
def reach (hp : Heap) : Nat → List Nat → List Nat → List Nat
  | 0, _, seen => seen
  | _, [], seen => seen
  | n + 1, i :: todo, seen =>
    if memN i seen then reach hp n todo seen else
    match look i hp with
    | some b => reach hp n (blIds b.lay ++ todo) (i :: seen)
    | none => reach hp n todo (i :: seen)

def oldIds (hp : Heap) (nb : Nat) (wr : List Nat) : List Nat :=
  match wr with
  | [] => []
  | i :: r => (if Nat.blt i nb then (match look i hp with
    | some b => i :: blIds b.lay
    | none => [i]) else []) ++ oldIds hp nb r

def keepOf (hp : Heap) (p : Nat → Bool) : Heap :=
  match hp with
  | [] => []
  | (i, b) :: r => if p i then (i, b) :: keepOf r p else keepOf r p

theorem look_keepOf {p : Nat → Bool} {i : Nat} : ∀ {hp : Heap}, look i (keepOf hp p) = if p i = true then look i hp else none := by
  intro hp
  induction hp with
  | nil => simp [keepOf, look_nil]
  | cons q r ih =>
    obtain ⟨j, b⟩ := q
    simp only [keepOf]
    split
    · rename_i hj
      simp only [look_cons, Nat.beq_eq]
      by_cases e : i = j
      · subst e; rw [if_pos rfl, if_pos hj, if_pos rfl]
      · rw [if_neg e, ih, if_neg e]
    · rename_i hj
      rw [ih]
      simp only [look_cons, Nat.beq_eq]
      by_cases e : i = j
      · subst e; rw [if_neg hj, if_neg hj]
      · rw [if_neg e]

def allIn (hp : Heap) (nb : Nat) : List Nat → Bool
  | [] => true
  | i :: r => (!(Nat.blt i nb) || (look i hp).isSome) && allIn hp nb r

theorem allIn_at {hp : Heap} {nb : Nat} : ∀ {l : List Nat}, allIn hp nb l = true → ∀ i ∈ l, i < nb → ∃ b, look i hp = some b := by
  intro l
  induction l with
  | nil => intro _ i h; cases h
  | cons a r ih =>
    intro h i hi hin
    simp only [allIn, Bool.and_eq_true, Bool.or_eq_true, Bool.not_eq_true'] at h
    rcases List.mem_cons.1 hi with rfl | hi
    · rcases h.1 with h1 | h1
      · have : Nat.blt i nb = true := by simpa using hin
        rw [this] at h1; cases h1
      · exact Option.isSome_iff_exists.1 h1
    · exact ih h.2 i hi hin

def keepP (nb : Nat) (wr seen : List Nat) (i : Nat) : Bool := if Nat.blt i nb then memN i wr else memN i seen

/-- What a call leaves, out of the callee's last state. -/
def callOut (nb : Nat) (st : St) (l : List SV) : Option Out :=
  let seen := reach st.hp 200 (svsIds l ++ oldIds st.hp nb st.wr) []
  let ups := keepOf st.hp (keepP nb st.wr seen)
  if allIn st.hp nb st.wr && upsLt nb st.nb ups then some ⟨some (resSl l), ups, st.nb⟩ else none

theorem callOut_step {env : Env} {B : Base} {st : St} {ρ : Rho} {w : World} (h : RR env B st ρ w) {l : List SV} {out : Out} (ho : callOut B.nb st l = some out) :
    out.v = some (resSl l) ∧ out.nb = st.nb ∧ Step env B.lk B.nb B.ρ ρ B.w w out.ups := by
  unfold callOut at ho
  dsimp only at ho
  split at ho
  · rename_i hc
    simp only [Bool.and_eq_true] at hc
    cases ho
    refine ⟨rfl, rfl, ?_⟩
    have hk : ∀ i b, look i (keepOf st.hp (keepP B.nb st.wr (reach st.hp 200 (svsIds l ++ oldIds st.hp B.nb st.wr) []))) = some b → look i st.hp = some b ∧ (i < B.nb → i ∈ st.wr) := by
      intro i b hb
      rw [look_keepOf] at hb
      split at hb
      · rename_i hp
        refine ⟨hb, fun hi => ?_⟩
        unfold keepP at hp
        rw [if_pos (by simpa using hi)] at hp
        exact memN_iff.1 hp
      · cases hb
    constructor
    · exact h.rho
    · intro i b hb; exact h.heap i b (hk i b hb).1
    · intro i b hb hi; exact h.wr i ((hk i b hb).2 hi) hi
    · intro i b hb hi; exact h.new i b (hk i b hb).1 hi
    · intro i j b c hb hcj hi hj hij
      refine h.sep i b j c (hk i b hb).1 (hk j c hcj).1 hij ?_
      have : ∀ {u : Heap}, upsLt B.nb st.nb u = true → look i u = some b → b.rw = true := by
        intro u
        induction u with
        | nil => intro _ h; cases h
        | cons p r ih =>
          intro hu hl
          obtain ⟨k, x⟩ := p
          simp only [upsLt, Bool.and_eq_true, Bool.or_eq_true, Nat.blt_eq] at hu
          simp only [look_cons, Nat.beq_eq] at hl
          split at hl
          · rename_i e; cases hl; exact hu.1.2.resolve_left (by omega)
          · exact ih hu.2 hl
      exact this hc.2 hb
    · refine h.fr.mono fun k _ hk' => ?_
      obtain ⟨i, h1, h2, h3⟩ := hk'
      obtain ⟨b, hb⟩ := allIn_at hc.1 i h1 h2
      refine ⟨i, b, ?_, h2, by rw [← h.rho i h2]; exact h3⟩
      rw [look_keepOf, if_pos]
      · exact hb
      · unfold keepP; rw [if_pos (by simpa using h2)]; exact memN_iff.2 h1
  · cases ho

/-! ### Finding the terms and blocks for a contract -/

structure Uni where
  σ : List (Nat × Tm)
  τ : List (Nat × Nat)

def uniTm (p a : Tm) (u : Uni) : Uni :=
  match p with
  | .v i => match look i u.σ with
    | some _ => u
    | none => ⟨(i, a) :: u.σ, u.τ⟩
  | _ => u

def uniId (p a : Nat) (u : Uni) : Uni :=
  match look p u.τ with
  | some _ => u
  | none => ⟨u.σ, (p, a) :: u.τ⟩

def uniPtrs : List (Nat × Tm) → List (Nat × Tm) → Uni → Uni
  | (b, o) :: r, (c, p) :: s, u => uniPtrs r s (uniTm o p (uniId b c u))
  | _, _, u => u

def uniSC : SC → SC → Uni → Uni
  | .int _ e, .int _ a, u => uniTm e a u
  | .bool e, .bool a, u => uniTm e a u
  | .ptr b o, .ptr c p, u => uniTm o p (uniId b c u)
  | .slice b o l c, .slice b' o' l' c', u => (match c, c' with
    | some x, some y => uniTm x y
    | _, _ => id) (uniTm l l' (uniTm o o' (uniId b b' u)))
  | .func _ a c, .func _ b d, u => uniPtrs c d (uniPtrs a b u)
  | .iface _ s, .iface _ r, u => uniSC s r u
  | _, _, u => u

def uniLay : Lay → Lay → Uni → Uni
  | (.fix s, _) :: r, (.fix t, _) :: q, u => uniLay r q (uniSC s t u)
  | _ :: r, _ :: q, u => uniLay r q u
  | _, _, u => u

def uniElems (Γ : List Fact) (B : Tm) : Nat → Tm → Uni → Uni
  | j, .cons e r, u => uniElems Γ B (j + 1) r (uniTm e (mkGet Γ B (.lit (Int.ofNat j))) u)
  | _, _, u => u

def uniArr (Γ : List Fact) (p a : Tm) (u : Uni) : Uni :=
  match p with
  | .cons _ _ => uniElems Γ a 0 p u
  | _ => uniTm p a u

def uniSV (Γ : List Fact) : SV → SV → Uni → Uni
  | .sc s, .sc t, u => uniSC s t u
  | .agg L A, .agg M B, u => uniArr Γ A B (uniLay L M u)
  | _, _, u => u

def uniSVs (Γ : List Fact) : List SV → List SV → Uni → Uni
  | s :: r, t :: q, u => uniSVs Γ r q (uniSV Γ s t u)
  | _, _, u => u

def uniHeap (Γ : List Fact) (hp : Heap) : Heap → Uni → Uni
  | [], u => u
  | (i, p) :: r, u =>
    match look i u.τ with
    | some k =>
      match look k hp with
      | some b => uniHeap Γ hp r (match p.lay, b.lay with
        | .fixed L, .fixed M => uniArr Γ p.A b.A (uniLay L M u)
        | .dyn c n, .dyn d m => uniTm p.A b.A (uniTm n m (uniLay [(c, 1)] [(d, 1)] u))
        | _, _ => u)
      | none => uniHeap Γ hp r u
    | none => uniHeap Γ hp r u

def listOf {α : Type} (d : α) (l : List (Nat × α)) : Nat → Nat → List α
  | _, 0 => []
  | i, n + 1 => (look i l).getD d :: listOf d l (i + 1) n

end Go.Sx
