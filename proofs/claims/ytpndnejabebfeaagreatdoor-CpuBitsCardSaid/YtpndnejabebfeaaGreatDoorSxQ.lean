/- A part of the reckoning with symbols: states, terms and their meaning, used by the proofs of this seat. -/
import Derived.Test.YtpndnejabebfeaaGreatDoorSxW
/-! The run of a function's code on a state, with regions in any order. -/
noncomputable section
namespace Go.Sx

/-! ### Records: what is kept of an operation, and what is asked of them all -/

def evR (ops : Array Oper) (o : Oper) (fr : List (Nat × Sl)) : Ev
  | .tmp t => if memN t (o.looksAt ops) then look t fr else none
  | .const v => some (.sv (conSV v))
  | .func f => some (.sv (.sc (.func (.func f) [] [])))
  | .global _ => none

def recIn (j : Nat) : List Rec → Option Rec
  | [] => none
  | r :: T => if Nat.beq r.i j then some r else recIn j T

def befOf (R : List Rec) : List Edge → Nat
  | [] => 0
  | e :: r => if Region.binds .any e then Nat.lor (Nat.lor (Nat.shiftLeft 1 e.on) (match recIn e.on R with
    | some s => s.bef
    | none => 0)) (befOf R r) else befOf R r

/-- Does an operation that this one need not wait for write the block? -/
def wrUnord (bef k : Nat) : List Rec → Bool
  | [] => false
  | s :: T => (!(bit bef s.i) && memN k (idsOf s.ups)) || wrUnord bef k T

def oneBlk (hp : Heap) : Option Sl → Heap
  | some (.sv (.sc (.ptr b _))) => match look b hp with
    | some x => [(b, x)]
    | none => []
  | some (.sv (.sc (.mapv b))) => match look b hp with
    | some x => [(b, x)]
    | none => []
  | _ => []

def viewOf (R : List Rec) (bef : Nat) (hp : Heap) (ev : Ev) (o : Oper) : Heap :=
  match o.op with
  | .load _ x => oneBlk hp (ev x)
  | .store _ x _ => oneBlk hp (ev x)
  | .lookup _ x _ _ => oneBlk hp (ev x)
  | .insert _ x _ _ => oneBlk hp (ev x)
  | .call _ => keepOf hp (fun k => !(wrUnord bef k R))
  | _ => []

def disj (a : List Nat) : List Nat → Bool
  | [] => true
  | k :: r => !(memN k a) && disj a r

def upsAll (p : Nat → Bool) : List (Nat × Blk) → Bool
  | [] => true
  | (k, b) :: r => p k && b.lay.all p && upsAll p r

def optAll (p : Nat → Bool) : Option Sl → Bool
  | some s => s.all p
  | none => true

def dstIn (d : Option Tmp) (l : List Tmp) : Bool :=
  match d with
  | some t => memN t l
  | none => false

def dstNe (d e : Option Tmp) : Bool :=
  match d, e with
  | some t, some u => !(Nat.beq t u)
  | _, _ => true

def SV.beq : SV → SV → Bool
  | .sc a, .sc b => SC.beq a b
  | .agg L A, .agg M B => Lay.beq L M && Tm.beq A B
  | _, _ => false

theorem SV.beq_eq {a b : SV} (h : SV.beq a b = true) : a = b := by
  cases a <;> cases b <;> simp [SV.beq] at h
  · rw [SC.beq_eq h]
  · rw [Lay.beq_eq h.1, Tm.beq_eq h.2]

section
variable (tab : Tab) (ops : Array Oper) (fs : List Fact)

/-- Does an operation come to the same with another block in its view? -/
def sameAt (r : Rec) (k : Nat) (b : Blk) : Bool :=
  match opEval tab fs (fun i => look i [(k, b)]) r.lo (evR ops r.o r.fr) r.o, r.v with
  | .ok ⟨some (.sv s), [], n⟩, some (.sv t) => SV.beq s t && Nat.beq n r.hi
  | _, _ => false

def sameAll (r : Rec) (k : Nat) : List Rec → Bool
  | [] => true
  | s :: T => (bit s.bef r.i || (match look k s.ups with
    | some b => sameAt tab ops fs r k b
    | none => true)) && sameAll r k T

def loose (hp0 : Heap) (R : List Rec) (r : Rec) : Bool :=
  match r.hv, r.ups with
  | [(k, _)], [] => (match look k hp0 with
    | some b => sameAt tab ops fs r k b
    | none => false) && sameAll tab ops fs r k R
  | _, _ => false

/-- r comes later in the text than s, and neither waits for the other. -/
def pairOk (hp0 : Heap) (R : List Rec) (r s : Rec) : Bool :=
  dstNe r.o.dst s.o.dst && !(dstIn r.o.dst (s.o.looksAt ops)) && !(dstIn s.o.dst (r.o.looksAt ops)) &&
  disj (idsOf r.ups) (idsOf s.ups) &&
  (disj (idsOf s.hv) (idsOf r.ups) || loose tab ops fs hp0 R s) && (disj (idsOf r.hv) (idsOf s.ups) || loose tab ops fs hp0 R r) &&
  (Nat.beq s.lo s.hi || (upsAll (outR s.lo s.hi) r.ups && optAll (outR s.lo s.hi) r.v))

def pairsWith (hp0 : Heap) (R : List Rec) (r : Rec) : List Rec → Bool
  | [] => true
  | s :: T => (bit r.bef s.i || pairOk tab ops fs hp0 R r s) && pairsWith hp0 R r T

def pairs (hp0 : Heap) (R : List Rec) : List Rec → Bool
  | [] => true
  | r :: T => pairsWith tab ops fs hp0 R r T && pairs hp0 R T
end

inductive Job where
  | code (c : Code)
  | rounds (b : Code)
  | ops (arr : Array Oper) (l : List Nat)
  | op (o : Oper) (ev : Ev) (hp : Heap)
  | draw (arr : Array Oper) (l : List Nat) (R : List Rec) (st0 : St)

/-! ### The run -/

def gdOf (st : St) (arr : Array Oper) (j : Nat) : Option Tm :=
  match arr[j]? with
  | some g =>
    match g.dst with
    | some t => match look t st.fr with
      | some (.sv (.sc (.bool e))) => some e
      | _ => none
    | none => none
  | none => none

/-- Was the operation that a guard looks at itself left out? -/
def gdSkip (st : St) (arr : Array Oper) (j : Nat) : Bool :=
  match arr[j]? with
  | some g =>
    match g.dst with
    | some t => match look t st.fr with
      | some (.tup []) => true
      | _ => false
    | none => false
  | none => false

def St.addT (st : St) (e : Tm) : St := { st with fs := factsT st.fs e ++ st.fs }
def St.addF (st : St) (e : Tm) : St := { st with fs := factsF st.fs e ++ st.fs }

/-- A binding; of nothing, none. -/
def bindT {α : Type} (n m : Nat) (sem : List Val → List Val) (args : List Tm) (k : Tree α) : Tree α :=
  match m with
  | 0 => k
  | m + 1 => .bind n (m + 1) sem args k

theorem path_bindT {α : Type} {env : Env} {n m : Nat} {sem : List Val → List Val} {args : List Tm} {k : Tree α} {L : α} (h : Path env (bindT n m sem args k) L) : (∀ j, j < m → env (n + j) = (sem (args.map (den env))).getD j default) ∧ Path env k L := by
  cases m with
  | zero => exact ⟨fun j hj => (by omega), h⟩
  | succ m => exact h

/-- A number, reckoned before it is handed on. -/
def forceN {α : Type} (n : Nat) (k : Nat → α) : α := match n with
  | 0 => k 0
  | m + 1 => k (Nat.succ m)
theorem forceN_eq {α : Type} (n : Nat) (k : Nat → α) : forceN n k = k n := by cases n <;> rfl

/-- 'after', with its numbers reckoned. -/
def St.next {α : Type} (st : St) (dst : Option Tmp) (v : Option Sl) (ups : List (Nat × Blk)) (nb nv : Nat) (fs : List Fact) (k : St → α) : α :=
  match st with
  | ⟨fr, nt, hp, _, _, _, wr⟩ => forceN nt fun nt => forceN nb fun nb => forceN nv fun nv => k ⟨(match dst with
      | some d => aset d (v.getD (.sv (.sc .junk))) fr
      | none => fr), nt, asets ups hp, nb, nv, fs, idsOf ups ++ wr⟩
theorem St.next_eq {α : Type} (st : St) (dst : Option Tmp) (v : Option Sl) (ups : List (Nat × Blk)) (nb nv : Nat) (fs : List Fact) (k : St → α) : st.next dst v ups nb nv fs k = k (st.after dst v ups nb nv fs) := by
  cases st; simp only [St.next, forceN_eq]; rfl

/-- The state with a test decided, or a part of it. -/
def ask {α : Type} (st : St) (e : Tm) (again : St → Tree α) : Tree α :=
  match decideT st.fs e with
  | .yes => again (st.addT e)
  | .no => again (st.addF e)
  | .same e' => .node e' (again ((st.addT e').addT e)) (again ((st.addF e').addF e))
  | .part c => .node c (again (st.addT c)) (again (st.addF c))

def run (C : Cfg) : Nat → {α : Type} → Job → St → (Rs → Tree α) → Tree α
  | 0, _, _, _, _ => .err "fuel"
  | n + 1, _, .code c, st, k =>
    match c with
    | .skip => k (.at .normal st)
    | .label _ => k (.at .normal st)
    | .seq a b => run C n (.code a) st fun r => match r with
      | .at .normal st' => run C n (.code b) st' k
      | r => k r
    | .cond c a b =>
      match ev1 (evOf st) c with
      | some (.bool e) =>
        match truth st.fs e with
        | some true => run C n (.code a) st k
        | some false => run C n (.code b) st k
        | none => ask st e fun st' => run C n (.code (.cond c a b)) st' k
      | _ => .err "cond"
    | .block id b => run C n (.code b) st fun r => match r with
      | .at (.exit i) st' => bind2 (Nat.beq i id) (k (.at .normal st')) (k (.at (.exit i) st'))
      | r => k r
    | .loop b =>
      match loopOf C b with
      | none => run C n (.rounds b) st k
      | some sp => loopTree (loopPre sp st (loopHead sp st) (loopTail sp st)) (loopHead sp st).nv (fun _ => run C n (.code b) (loopHead sp st) (loopBody sp st.nv (loopHead sp st) (loopTail sp st))) (fun _ => k (.at sp.ex (loopTail sp st)))
    | .exit id => k (.at (.exit id) st)
    | .scope b => run C n (.code b) st k
    | .ret => k (.at .ret st)
    | .region _ ops draw =>
      match draw with
      | true => run C n (.draw ops (List.range ops.size) [] st) st k
      | false => run C n (.ops ops (List.range ops.size)) st k
    | _ => .err "code"
  | n + 1, _, .rounds b, st, k => run C n (.code b) st fun r => match r with
      | .at .normal st' => run C n (.rounds b) st' k
      | r => k r
  | _ + 1, _, .ops _ [], st, k => k (.at .normal st)
  | n + 1, _, .ops arr (i :: l), st, k =>
    match arr[i]? with
    | none => .err "index"
    | some o =>
      match o.guard with
      | none => run C n (.op o (evOf st) st.hp) st fun r => match r with
        | .out out nv fs => bind2 (fits st o.dst out.v out.ups out.nb) (st.next o.dst out.v out.ups out.nb nv fs fun st' => run C n (.ops arr l) st' k) (.err "fits")
        | .at _ _ => .err "op"
      | some (j, want) =>
        match gdOf st arr j with
        | some e =>
          match truth st.fs e with
          | some b => match b == want with
            | true => run C n (.op o (evOf st) st.hp) st fun r => match r with
              | .out out nv fs => bind2 (fits st o.dst out.v out.ups out.nb) (st.next o.dst out.v out.ups out.nb nv fs fun st' => run C n (.ops arr l) st' k) (.err "fits")
              | .at _ _ => .err "op"
            | false => (bind2 (fits st o.dst (some (.tup [])) [] st.nb) (st.next o.dst (some (.tup [])) [] st.nb st.nv st.fs fun st' => run C n (.ops arr l) st' k) (.err "fits"))
          | none => ask st e fun st' => run C n (.ops arr (i :: l)) st' k
        | none => match gdSkip st arr j with
          | true => (bind2 (fits st o.dst (some (.tup [])) [] st.nb) (st.next o.dst (some (.tup [])) [] st.nb st.nv st.fs fun st' => run C n (.ops arr l) st' k) (.err "fits"))
          | false => .err "guard"
  | _ + 1, _, .draw arr [] R st0, st, k => bind2 (Nat.beq R.length arr.size && pairs C.tab arr st.fs st0.hp R R) (k (.at .normal st)) (.err "order")
  | n + 1, _, .draw arr (i :: l) R st0, st, k =>
    match arr[i]? with
    | none => .err "index"
    | some o =>
      match Nat.beq i R.length && Nat.beq (Nat.shiftRight (befOf R o.after.toList) i) 0 with
      | false => .err "edges"
      | true =>
      match o.guard with
      | none => run C n (.op o (evR arr o st.fr) (viewOf R (befOf R o.after.toList) st.hp (evR arr o st.fr) o)) st fun r => match r with
        | .out out nv fs => bind2 (fits st o.dst out.v out.ups out.nb) (st.next o.dst out.v out.ups out.nb nv fs fun st' => run C n (.draw arr l (⟨i, o, befOf R o.after.toList, true, out.v, out.ups, st.nb, out.nb, viewOf R (befOf R o.after.toList) st.hp (evR arr o st.fr) o, st.fr⟩ :: R) st0) st' k) (.err "fits")
        | .at _ _ => .err "op"
      | some (j, want) =>
        match gdOf st arr j with
        | some e =>
          match truth st.fs e with
          | some b => match b == want with
            | true => (run C n (.op o (evR arr o st.fr) (viewOf R (befOf R o.after.toList) st.hp (evR arr o st.fr) o)) st fun r => match r with
            | .out out nv fs => bind2 (fits st o.dst out.v out.ups out.nb) (st.next o.dst out.v out.ups out.nb nv fs fun st' => run C n (.draw arr l (⟨i, o, befOf R o.after.toList, true, out.v, out.ups, st.nb, out.nb, viewOf R (befOf R o.after.toList) st.hp (evR arr o st.fr) o, st.fr⟩ :: R) st0) st' k) (.err "fits")
            | .at _ _ => .err "op")
            | false => (bind2 (fits st o.dst none [] st.nb) (st.next o.dst none [] st.nb st.nv st.fs fun st' => run C n (.draw arr l (⟨i, o, befOf R o.after.toList, false, none, [], st.nb, st.nb, [], st.fr⟩ :: R) st0) st' k) (.err "fits"))
          | none => ask st e fun st' => run C n (.draw arr (i :: l) R st0) st' k
        | none => .err "guard"
  | n + 1, _, .op o ev hp, st, k =>
    match o.op with
    | .call c =>
      match evCall ev c with
      | some (fid, as) =>
        match findSumm fid (pinSVs st.fs as) C.summs with
        | some S =>
          let u := uniHeap st.fs hp S.hp (uniSVs st.fs S.args (pinSVs st.fs as) ⟨[], []⟩)
          let σ := listOf (.lit 0) u.σ 0 S.nin
          let τ := listOf 0 u.τ 0 S.nh
          bind2 (useOk st.fs S (pinSVs st.fs as) hp σ τ st.nb st.nv)
            (bindT st.nv S.nout S.sem σ (k (.out (useOut st.fs S σ τ st.nb st.nv) (st.nv + S.nout) (S.post.map (Fact.subst (useσ S σ st.nv)) ++ st.fs))))
            (.err (o.pos ++ "contract"))
        | none =>
          match tlook fid C.funs with
          | some fn =>
            match fn.body with
            | some body =>
              bind2 (Nat.ble as.length fn.ntmps && SVsLt st.nb as && HeapLt st.nb hp)
                (run C n (.code body) { fr := frameOf 0 as, nt := fn.ntmps, hp := hp, nb := st.nb, nv := st.nv, fs := st.fs, wr := [] } fun r => match r with
                  | .at (.exit _) _ => .err "exit"
                  | .at _ st' =>
                    match resVals C.tab st' fn.results.toList with
                    | some l => match callOut st.nb st' l with
                      | some out => k (.out out st'.nv st'.fs)
                      | none => .err "callOut"
                    | none => .err "results"
                  | .out _ _ _ => .err "out")
                (.err (o.pos ++ "callee"))
            | none => .err (o.pos ++ "no body")
          | none => .err (o.pos ++ "no function")
      | none =>
        match opEval C.tab st.fs (fun i => look i hp) st.nb ev o with
        | .ok out => k (.out out st.nv st.fs)
        | .split e => ask st e fun st' => run C n (.op o ev hp) st' k
        | .err s => .err (o.pos ++ s)
    | _ =>
      match opEval C.tab st.fs (fun i => look i hp) st.nb ev o with
      | .ok out => k (.out out st.nv st.fs)
      | .split e => ask st e fun st' => run C n (.op o ev hp) st' k
      | .err s => .err (o.pos ++ s)

end Go.Sx
