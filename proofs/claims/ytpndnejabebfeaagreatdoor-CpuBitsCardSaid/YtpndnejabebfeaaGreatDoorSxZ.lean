/- A part of the reckoning with symbols: states, terms and their meaning, used by the proofs of this seat. -/
import Derived.Test.YtpndnejabebfeaaGreatDoorSxT
/-! The run once more, in small pieces: the same, but sooner reckoned. -/
noncomputable section
namespace Go.Sx

def opMove (_tab : Tab) (_Γ : List Fact) (_lk : Lk) (nb : Nat) (ev : Ev) (x : Operand) : Res Out := match ev x with
    | some s => .ok ⟨some s, [], nb⟩
    | none => .err "move"

def opAssign (_tab : Tab) (_Γ : List Fact) (_lk : Lk) (nb : Nat) (ev : Ev) (x : Operand) : Res Out := match ev x with
    | some s => .ok ⟨some s, [], nb⟩
    | none => .err "assign"

def opPick (_tab : Tab) (Γ : List Fact) (_lk : Lk) (nb : Nat) (ev : Ev) (c : Operand) (a : Operand) (b : Operand) : Res Out :=
    match ev1 ev c with
    | some (.bool e) => match truth Γ e with
      | some true => outV nb (evV ev a) "pick"
      | some false => outV nb (evV ev b) "pick"
      | none => .split e
    | _ => .err "pick"

def opAlloc (tab : Tab) (_Γ : List Fact) (_lk : Lk) (nb : Nat) (_ev : Ev) (t : Nat) : Res Out :=
    match tlook t tab with
    | some ti => match ti.zero with
      | some Z => newOut nb (.ptr nb (.lit 0)) (.fixed Z) (.rep 0)
      | none => .err "alloc"
    | none => .err "alloc"

def opBox (_tab : Tab) (_Γ : List Fact) (_lk : Lk) (nb : Nat) (ev : Ev) (x : Operand) : Res Out :=
    match evV ev x with
    | some s => if Lay.one (svLay s) then newOut nb (.ptr nb (.lit 0)) (.fixed (svLay s)) (svArr s) else .err "box"
    | none => .err "box"

def opBuild (tab : Tab) (Γ : List Fact) (_lk : Lk) (nb : Nat) (ev : Ev) (t : Nat) (ps : Array (Nat × Operand)) : Res Out :=
    match evParts ev ps.toList with
    | some l => outV nb (evBuild tab Γ t l) "build"
    | none => .err "build"

def opBuildSlice (tab : Tab) (Γ : List Fact) (_lk : Lk) (nb : Nat) (ev : Ev) (t : Nat) (len : Nat) (ps : Array (Nat × Operand)) : Res Out :=
    match evParts ev ps.toList with
    | some l => match evBuildSlice tab Γ t len l with
      | some (L, A) => newOut nb (.slice nb (.lit 0) (.lit (Int.ofNat len)) (some (.lit (Int.ofNat len)))) (.fixed L) A
      | none => .err "buildSlice"
    | none => .err "buildSlice"

def opLoad (tab : Tab) (Γ : List Fact) (lk : Lk) (nb : Nat) (ev : Ev) (t : Nat) (x : Operand) : Res Out :=
    match ev1 ev x with
    | some s => outV nb (evLoad tab Γ lk t s) "load"
    | none => .err "load"

def opStore (tab : Tab) (Γ : List Fact) (lk : Lk) (nb : Nat) (ev : Ev) (t : Nat) (x : Operand) (y : Operand) : Res Out :=
    match ev1 ev x, evV ev y with
    | some s, some v => if s.lt nb then (match evStore tab Γ lk t s v with
      | some u => .ok ⟨none, [u], nb⟩
      | none => .err "store") else .err "store"
    | _, _ => .err "store"

def opNilCheck (_tab : Tab) (_Γ : List Fact) (_lk : Lk) (nb : Nat) (ev : Ev) (x : Operand) : Res Out :=
    match ev1 ev x with
    | some s => if nilOk s then .ok ⟨some (.sv (.sc s)), [], nb⟩ else .err "nilCheck"
    | none => .err "nilCheck"

def opBinOp (tab : Tab) (Γ : List Fact) (_lk : Lk) (nb : Nat) (ev : Ev) (op : BinOp) (t : Nat) (x : Operand) (y : Operand) : Res Out :=
    match evV ev x, evV ev y with
    | some a, some b => (evBin tab Γ op t (Region.isConst x || Region.isConst y) a b).bind fun s => .ok ⟨some (.sv (.sc s)), [], nb⟩
    | _, _ => .err "binOp"

def opUnOp (_tab : Tab) (Γ : List Fact) (_lk : Lk) (nb : Nat) (ev : Ev) (op : UnOp) (x : Operand) : Res Out :=
    match ev1 ev x with
    | some s => outS nb (evUn Γ op s) "unOp"
    | none => .err "unOp"

def opConvert (tab : Tab) (Γ : List Fact) (_lk : Lk) (nb : Nat) (ev : Ev) (src : Nat) (dst : Nat) (x : Operand) : Res Out :=
    match ev1 ev x with
    | some s => outS nb (evConvert tab Γ src dst s) "convert"
    | none => .err "convert"

def opMakeInterface (tab : Tab) (_Γ : List Fact) (_lk : Lk) (nb : Nat) (ev : Ev) (t : Nat) (x : Operand) : Res Out :=
    match ev1 ev x with
    | some s => outS nb (evIface tab t s) "iface"
    | none => .err "iface"

def opMakeFunc (_tab : Tab) (_Γ : List Fact) (_lk : Lk) (nb : Nat) (ev : Ev) (fn : Fn) (first : Array Operand) (caps : Array Operand) : Res Out :=
    match evPtrs ev first.toList, evPtrs ev caps.toList with
    | some a, some b => .ok ⟨some (.sv (.sc (.func fn a b))), [], nb⟩
    | _, _ => .err "makeFunc"

def opMakeSlice (tab : Tab) (Γ : List Fact) (_lk : Lk) (nb : Nat) (ev : Ev) (t : Nat) (l : Operand) (c : Operand) : Res Out :=
    match ev1 ev l, ev1 ev c with
    | some a, some b => match evMake tab Γ t a b with
      | some (bl, lt, ct) => newOut nb (.slice nb (.lit 0) lt (some ct)) bl (.rep 0)
      | none => .err "make"
    | _, _ => .err "make"

def opSlice (tab : Tab) (Γ : List Fact) (_lk : Lk) (nb : Nat) (ev : Ev) (t : Nat) (x : Operand) (lo : Option Operand) (hi : Option Operand) (mx : Option Operand) : Res Out :=
    match ev1 ev x, mx with
    | some s, none =>
      match opEval.evOpt ev lo, opEval.evOpt ev hi with
      | some l, some h => outS nb (evSlice tab Γ t s l h) "slice"
      | _, _ => .err "slice"
    | _, _ => .err "slice"

def opFieldAddr (tab : Tab) (_Γ : List Fact) (_lk : Lk) (nb : Nat) (ev : Ev) (t : Nat) (x : Operand) (f : Nat) : Res Out :=
    match ev1 ev x with
    | some s => outS nb (evFieldAddr tab t s f) "fieldAddr"
    | none => .err "fieldAddr"

def opField (tab : Tab) (Γ : List Fact) (_lk : Lk) (nb : Nat) (ev : Ev) (t : Nat) (x : Operand) (f : Nat) : Res Out :=
    match evV ev x with
    | some s => outV nb (evField tab Γ t s f) "field"
    | none => .err "field"

def opIndexAddr (tab : Tab) (Γ : List Fact) (_lk : Lk) (nb : Nat) (ev : Ev) (t : Nat) (x : Operand) (i : Operand) : Res Out :=
    match ev1 ev x, ev1 ev i with
    | some s, some j => outS nb (evIndexAddr tab Γ t s j) "indexAddr"
    | _, _ => .err "indexAddr"

def opIndex (tab : Tab) (Γ : List Fact) (_lk : Lk) (nb : Nat) (ev : Ev) (t : Nat) (x : Operand) (i : Operand) : Res Out :=
    match evV ev x, ev1 ev i with
    | some s, some j => orCut Γ j (outV nb (evIndex tab Γ t s (pinS Γ j)) "index")
    | _, _ => .err "index"

def opExtract (_tab : Tab) (_Γ : List Fact) (_lk : Lk) (nb : Nat) (ev : Ev) (x : Operand) (i : Nat) : Res Out :=
    match ev x with
    | some (.tup l) => outV nb (listGet l i) "extract"
    | _ => .err "extract"

def opMakeMap (tab : Tab) (_Γ : List Fact) (_lk : Lk) (nb : Nat) (_ev : Ev) (t : Nat) : Res Out := if intMap tab t then .ok ⟨some (.sv (.sc (.mapv nb))), [(nb, ⟨.mp [], .rep 0, true⟩)], nb + 1⟩ else .err "makeMap"

def opInsert (tab : Tab) (_Γ : List Fact) (lk : Lk) (nb : Nat) (ev : Ev) (t : Nat) (m : Operand) (k : Operand) (x : Operand) : Res Out :=
    match ev1 ev m, ev1 ev k, ev1 ev x with
    | some a, some b, some c => if a.lt nb then (match evInsert tab lk t a b c with
      | some u => .ok ⟨none, [u], nb⟩
      | none => .err "insert") else .err "insert"
    | _, _, _ => .err "insert"

def opLookup (tab : Tab) (Γ : List Fact) (lk : Lk) (nb : Nat) (ev : Ev) (t : Nat) (m : Operand) (k : Operand) (ok : Bool) : Res Out :=
    match ev1 ev m, ev1 ev k with
    | some a, some b => orCut Γ b (match evLookup tab lk t a (pinS Γ b) ok with
      | some s => .ok ⟨some s, [], nb⟩
      | none => .err "lookup")
    | _, _ => .err "lookup"

def opCall (tab : Tab) (Γ : List Fact) (lk : Lk) (nb : Nat) (ev : Ev) (c : Call) : Res Out :=
    match c.callee with
    | .builtin .len =>
      match c.args.toList with
      | [x] => match evV ev x with
        | some s => outS nb (evLen tab c.argTypes s) "len"
        | none => .err "len"
      | _ => .err "len"
    | .builtin .min =>
      match evList ev c.args.toList with
      | some (a :: r) => outS nb (evMinMaxs Γ false a r) "min"
      | _ => .err "min"
    | .builtin .max =>
      match evList ev c.args.toList with
      | some (a :: r) => outS nb (evMinMaxs Γ true a r) "max"
      | _ => .err "max"
    | .builtin .append =>
      match c.args.toList with
      | [x, y] => match ev1 ev x, ev1 ev y with
        | some s, some u => match evAppend tab Γ lk c.argTypes.toList s u with
          | some (need, L, A) => newOut nb (.slice nb (.lit 0) need none) L A
          | none => .err "append"
        | _, _ => .err "append"
      | _ => .err "append"
    | .builtin .copy =>
      match c.args.toList with
      | [x, y] => match ev1 ev x, ev1 ev y with
        | some s, some u => match evCopy tab Γ lk c.argTypes.toList s u with
          | some (t, ups) => if s.lt nb then .ok ⟨some (.sv (.sc (.int .i64 t))), ups, nb⟩ else .err "copy"
          | none => .err "copy"
        | _, _ => .err "copy"
      | _ => .err "copy"
    | _ => .err "call"

def opEvalF (tab : Tab) (Γ : List Fact) (lk : Lk) (nb : Nat) (ev : Ev) (o : Oper) : Res Out :=
  match o.op with
  | .move x => opMove tab Γ lk nb ev x
  | .assign x => opAssign tab Γ lk nb ev x
  | .pick c a b => opPick tab Γ lk nb ev c a b
  | .alloc t => opAlloc tab Γ lk nb ev t
  | .box _ x => opBox tab Γ lk nb ev x
  | .build t ps => opBuild tab Γ lk nb ev t ps
  | .buildSlice t len ps => opBuildSlice tab Γ lk nb ev t len ps
  | .load t x => opLoad tab Γ lk nb ev t x
  | .store t x y => opStore tab Γ lk nb ev t x y
  | .nilCheck x => opNilCheck tab Γ lk nb ev x
  | .binOp op t x y _ => opBinOp tab Γ lk nb ev op t x y
  | .unOp op _ x => opUnOp tab Γ lk nb ev op x
  | .convert src dst x => opConvert tab Γ lk nb ev src dst x
  | .makeInterface t x => opMakeInterface tab Γ lk nb ev t x
  | .makeFunc fn first caps => opMakeFunc tab Γ lk nb ev fn first caps
  | .makeSlice t l c => opMakeSlice tab Γ lk nb ev t l c
  | .slice t x lo hi mx => opSlice tab Γ lk nb ev t x lo hi mx
  | .fieldAddr t x f => opFieldAddr tab Γ lk nb ev t x f
  | .field t x f => opField tab Γ lk nb ev t x f
  | .indexAddr t x i => opIndexAddr tab Γ lk nb ev t x i
  | .index t x i => opIndex tab Γ lk nb ev t x i
  | .extract x i => opExtract tab Γ lk nb ev x i
  | .call c => opCall tab Γ lk nb ev c
  | .makeMap t none => opMakeMap tab Γ lk nb ev t
  | .insert t m k x => opInsert tab Γ lk nb ev t m k x
  | .lookup t m k ok => opLookup tab Γ lk nb ev t m k ok
  | _ => .err "op"

theorem opEvalF_eq (tab : Tab) (Γ : List Fact) (lk : Lk) (nb : Nat) (ev : Ev) (o : Oper) : opEvalF tab Γ lk nb ev o = opEval tab Γ lk nb ev o := by
  unfold opEvalF opEval
  cases o.op <;> first | rfl | skip
  all_goals (rename_i r; cases r <;> rfl)

abbrev Run := {α : Type} → Job → St → (Rs → Tree α) → Tree α

section
variable (C : Cfg) (rec : Run) {α : Type}

def fSeq (b : Code) (k : Rs → Tree α) (r : Rs) : Tree α :=
  match r with
  | .at .normal st' => rec (.code b) st' k
  | r => k r

def fRounds (b : Code) (k : Rs → Tree α) (r : Rs) : Tree α :=
  match r with
  | .at .normal st' => rec (.rounds b) st' k
  | r => k r

def fBlock (id : Nat) (k : Rs → Tree α) (r : Rs) : Tree α :=
  match r with
  | .at (.exit i) st' => bind2 (Nat.beq i id) (k (.at .normal st')) (k (.at (.exit i) st'))
  | r => k r

def fCondT (c : Operand) (a b : Code) (st : St) (k : Rs → Tree α) (e : Tm) (t : Option Bool) : Tree α :=
  match t with
  | some true => rec (.code a) st k
  | some false => rec (.code b) st k
  | none => ask st e fun st' => rec (.code (.cond c a b)) st' k

def fCond (c : Operand) (a b : Code) (st : St) (k : Rs → Tree α) (s : Option SC) : Tree α :=
  match s with
  | some (.bool e) => fCondT rec c a b st k e (truth st.fs e)
  | _ => .err "cond"

def fLoop (b : Code) (st : St) (k : Rs → Tree α) (o : Option LoopSpec) : Tree α :=
  match o with
  | none => rec (.rounds b) st k
  | some sp => loopTree (loopPre sp st (loopHead sp st) (loopTail sp st)) (loopHead sp st).nv (fun _ => rec (.code b) (loopHead sp st) (loopBody sp st.nv (loopHead sp st) (loopTail sp st))) (fun _ => k (.at sp.ex (loopTail sp st)))

def fRegion (ops : Array Oper) (st : St) (k : Rs → Tree α) (d : Bool) : Tree α :=
  match d with
  | true => rec (.draw ops (List.range ops.size) [] st) st k
  | false => rec (.ops ops (List.range ops.size)) st k

def fCode (c : Code) (st : St) (k : Rs → Tree α) : Tree α :=
  match c with
  | .skip => k (.at .normal st)
  | .label _ => k (.at .normal st)
  | .seq a b => rec (.code a) st (fSeq rec b k)
  | .cond c a b => fCond rec c a b st k (ev1 (evOf st) c)
  | .block id b => rec (.code b) st (fBlock id k)
  | .loop b => fLoop rec b st k (loopOf C b)
  | .exit id => k (.at (.exit id) st)
  | .scope b => rec (.code b) st k
  | .ret => k (.at .ret st)
  | .region _ ops draw => fRegion rec ops st k draw
  | _ => .err "code"

def fOpsK (arr : Array Oper) (l : List Nat) (o : Oper) (st : St) (k : Rs → Tree α) (r : Rs) : Tree α :=
  match r with
  | .out out nv fs => bind2 (fits st o.dst out.v out.ups out.nb) (st.next o.dst out.v out.ups out.nb nv fs fun st' => rec (.ops arr l) st' k) (.err "fits")
  | .at _ _ => .err "op"

def fOpsG (arr : Array Oper) (i : Nat) (l : List Nat) (o : Oper) (want : Bool) (st : St) (k : Rs → Tree α) (e : Tm) (t : Option Bool) : Tree α :=
  match t with
  | some b => match b == want with
    | true => rec (.op o (evOf st) st.hp) st (fOpsK rec arr l o st k)
    | false => bind2 (fits st o.dst (some (.tup [])) [] st.nb) (st.next o.dst (some (.tup [])) [] st.nb st.nv st.fs fun st' => rec (.ops arr l) st' k) (.err "fits")
  | none => ask st e fun st' => rec (.ops arr (i :: l)) st' k

def fOpsJ (arr : Array Oper) (j i : Nat) (l : List Nat) (o : Oper) (want : Bool) (st : St) (k : Rs → Tree α) (g : Option Tm) : Tree α :=
  match g with
  | some e => fOpsG rec arr i l o want st k e (truth st.fs e)
  | none => match gdSkip st arr j with
    | true => bind2 (fits st o.dst (some (.tup [])) [] st.nb) (st.next o.dst (some (.tup [])) [] st.nb st.nv st.fs fun st' => rec (.ops arr l) st' k) (.err "fits")
    | false => .err "guard"

def fOps1 (arr : Array Oper) (i : Nat) (l : List Nat) (o : Oper) (st : St) (k : Rs → Tree α) (g : Option (Nat × Bool)) : Tree α :=
  match g with
  | none => rec (.op o (evOf st) st.hp) st (fOpsK rec arr l o st k)
  | some (j, want) => fOpsJ rec arr j i l o want st k (gdOf st arr j)

def fOps0 (arr : Array Oper) (i : Nat) (l : List Nat) (st : St) (k : Rs → Tree α) (o : Option Oper) : Tree α :=
  match o with
  | none => .err "index"
  | some o => fOps1 rec arr i l o st k o.guard

def fGetI {β : Type} (l : List β) (i : Nat) : Option β := l[i]?
def fGet {β : Type} (l : List β) : Nat → Option β :=
  List.rec (motive := fun _ => Nat → Option β) (fun _ => none) (fun a _ ih i => Nat.casesOn (motive := fun _ => Option β) i (some a) ih) l

theorem fGet_eq {β : Type} (l : List β) : ∀ i : Nat, fGet l i = l[i]? := by
  induction l with
  | nil => intro i; rfl
  | cons a r ih =>
    intro i
    cases i with
    | zero => rfl
    | succ n => rw [List.getElem?_cons_succ]; exact ih n

def fOps (arr : Array Oper) (l : List Nat) (st : St) (k : Rs → Tree α) : Tree α :=
  match l with
  | [] => k (.at .normal st)
  | i :: l => fOps0 rec arr i l st k (fGet arr.toList i)

def fDrawK (arr : Array Oper) (i : Nat) (l : List Nat) (R : List Rec) (st0 : St) (o : Oper) (st : St) (k : Rs → Tree α) (bef : Nat) (hv : Heap) (r : Rs) : Tree α :=
  match r with
  | .out out nv fs => bind2 (fits st o.dst out.v out.ups out.nb) (st.next o.dst out.v out.ups out.nb nv fs fun st' => rec (.draw arr l (⟨i, o, bef, true, out.v, out.ups, st.nb, out.nb, hv, st.fr⟩ :: R) st0) st' k) (.err "fits")
  | .at _ _ => .err "op"

def fDrawG (arr : Array Oper) (i : Nat) (l : List Nat) (R : List Rec) (st0 : St) (o : Oper) (want : Bool) (st : St) (k : Rs → Tree α) (bef : Nat) (hv : Heap) (e : Tm) (t : Option Bool) : Tree α :=
  match t with
  | some b => match b == want with
    | true => rec (.op o (evR arr o st.fr) hv) st (fDrawK rec arr i l R st0 o st k bef hv)
    | false => bind2 (fits st o.dst none [] st.nb) (st.next o.dst none [] st.nb st.nv st.fs fun st' => rec (.draw arr l (⟨i, o, bef, false, none, [], st.nb, st.nb, [], st.fr⟩ :: R) st0) st' k) (.err "fits")
  | none => ask st e fun st' => rec (.draw arr (i :: l) R st0) st' k

def fDrawJ (arr : Array Oper) (i : Nat) (l : List Nat) (R : List Rec) (st0 : St) (o : Oper) (want : Bool) (st : St) (k : Rs → Tree α) (bef : Nat) (hv : Heap) (g : Option Tm) : Tree α :=
  match g with
  | some e => fDrawG rec arr i l R st0 o want st k bef hv e (truth st.fs e)
  | none => .err "guard"

def fDraw2 (arr : Array Oper) (i : Nat) (l : List Nat) (R : List Rec) (st0 : St) (o : Oper) (st : St) (k : Rs → Tree α) (bef : Nat) (hv : Heap) (g : Option (Nat × Bool)) : Tree α :=
  match g with
  | none => rec (.op o (evR arr o st.fr) hv) st (fDrawK rec arr i l R st0 o st k bef hv)
  | some (j, want) => fDrawJ rec arr i l R st0 o want st k bef hv (gdOf st arr j)

def fDraw1 (arr : Array Oper) (i : Nat) (l : List Nat) (R : List Rec) (st0 : St) (o : Oper) (st : St) (k : Rs → Tree α) (bef : Nat) (ok : Bool) : Tree α :=
  match ok with
  | false => .err "edges"
  | true => fDraw2 rec arr i l R st0 o st k bef (viewOf R bef st.hp (evR arr o st.fr) o) o.guard

def fDraw0 (arr : Array Oper) (i : Nat) (l : List Nat) (R : List Rec) (st0 : St) (st : St) (k : Rs → Tree α) (o : Option Oper) : Tree α :=
  match o with
  | none => .err "index"
  | some o => forceN (befOf R o.after.toList) fun bef => fDraw1 rec arr i l R st0 o st k bef (Nat.beq i R.length && Nat.beq (Nat.shiftRight bef i) 0)

def fDraw (arr : Array Oper) (l : List Nat) (R : List Rec) (st0 : St) (st : St) (k : Rs → Tree α) : Tree α :=
  match l with
  | [] => bind2 (Nat.beq R.length arr.size && pairs C.tab arr st.fs st0.hp R R) (k (.at .normal st)) (.err "order")
  | i :: l => fDraw0 rec arr i l R st0 st k (fGet arr.toList i)

def fRes (o : Oper) (ev : Ev) (hp : Heap) (st : St) (k : Rs → Tree α) (r : Res Out) : Tree α :=
  match r with
  | .ok out => k (.out out st.nv st.fs)
  | .split e => ask st e fun st' => rec (.op o ev hp) st' k
  | .err s => .err (o.pos ++ s)

def fSumm (o : Oper) (ags : List SV) (hp : Heap) (st : St) (k : Rs → Tree α) (S : Summ) (σ : List Tm) (τ : List Nat) : Tree α :=
  bind2 (useOk st.fs S (pinSVs st.fs ags) hp σ τ st.nb st.nv)
    (bindT st.nv S.nout S.sem σ (k (.out (useOut st.fs S σ τ st.nb st.nv) (st.nv + S.nout) (S.post.map (Fact.subst (useσ S σ st.nv)) ++ st.fs))))
    (.err (o.pos ++ "contract"))

def fEnd2 (k : Rs → Tree α) (st' : St) (o : Option Out) : Tree α :=
  match o with
  | some out => k (.out out st'.nv st'.fs)
  | none => .err "callOut"

def fEnd1 (nb : Nat) (k : Rs → Tree α) (st' : St) (l : Option (List SV)) : Tree α :=
  match l with
  | some l => fEnd2 k st' (callOut nb st' l)
  | none => .err "results"

def fEnd (fn : Func) (nb : Nat) (k : Rs → Tree α) (r : Rs) : Tree α :=
  match r with
  | .at (.exit _) _ => .err "exit"
  | .at _ st' => fEnd1 nb k st' (resVals C.tab st' fn.results.toList)
  | .out _ _ _ => .err "out"

def fBody (o : Oper) (ags : List SV) (hp : Heap) (st : St) (k : Rs → Tree α) (fn : Func) (b : Option Code) : Tree α :=
  match b with
  | some body => bind2 (Nat.ble ags.length fn.ntmps && SVsLt st.nb ags && HeapLt st.nb hp)
      (rec (.code body) { fr := frameOf 0 ags, nt := fn.ntmps, hp := hp, nb := st.nb, nv := st.nv, fs := st.fs, wr := [] } (fEnd C fn st.nb k))
      (.err (o.pos ++ "callee"))
  | none => .err (o.pos ++ "no body")

def fFun (o : Oper) (ags : List SV) (hp : Heap) (st : St) (k : Rs → Tree α) (f : Option Func) : Tree α :=
  match f with
  | some fn => fBody C rec o ags hp st k fn fn.body
  | none => .err (o.pos ++ "no function")

def fCall1 (o : Oper) (fid : Nat) (ags : List SV) (hp : Heap) (st : St) (k : Rs → Tree α) (s : Option Summ) : Tree α :=
  match s with
  | some S =>
    let u := uniHeap st.fs hp S.hp (uniSVs st.fs S.args (pinSVs st.fs ags) ⟨[], []⟩)
    fSumm o ags hp st k S (listOf (.lit 0) u.σ 0 S.nin) (listOf 0 u.τ 0 S.nh)
  | none => fFun C rec o ags hp st k (tlook fid C.funs)

def fCall (o : Oper) (ev : Ev) (hp : Heap) (st : St) (k : Rs → Tree α) (c : Option (FuncId × List SV)) : Tree α :=
  match c with
  | some (fid, ags) => fCall1 C rec o fid ags hp st k (findSumm fid (pinSVs st.fs ags) C.summs)
  | none => fRes rec o ev hp st k (opEvalF C.tab st.fs (fun i => look i hp) st.nb ev o)

def fOp (o : Oper) (ev : Ev) (hp : Heap) (st : St) (k : Rs → Tree α) : Tree α :=
  match o.op with
  | .call c => fCall C rec o ev hp st k (evCall ev c)
  | _ => fRes rec o ev hp st k (opEvalF C.tab st.fs (fun i => look i hp) st.nb ev o)

def fJob (j : Job) (st : St) (k : Rs → Tree α) : Tree α :=
  match j with
  | .code c => fCode C rec c st k
  | .rounds b => rec (.code b) st (fRounds rec b k)
  | .ops arr l => fOps rec arr l st k
  | .op o ev hp => fOp C rec o ev hp st k
  | .draw arr l R st0 => fDraw C rec arr l R st0 st k
end

def runF (C : Cfg) : Nat → Run
  | 0 => fun _ _ _ => .err "fuel"
  | n + 1 => fun j st k => fJob C (runF C n) j st k

theorem run_step (C : Cfg) (n : Nat) (α : Type) (j : Job) (st : St) (k : Rs → Tree α) : fJob C (fun {_} => run C n) j st k = run C (n + 1) j st k := by
  cases j with
  | code c => cases c <;> rfl
  | rounds b => rfl
  | ops arr l =>
    cases l with
    | nil => rfl
    | cons i l =>
      simp only [fJob, fOps, fGet_eq, Array.getElem?_toList, run]
      cases arr[i]? with
      | none => rfl
      | some o =>
        simp only [fOps0]
        cases o.guard with
        | none => rfl
        | some g => rfl
  | draw arr l R st0 =>
    cases l with
    | nil => rfl
    | cons i l =>
      simp only [fJob, fDraw, fGet_eq, Array.getElem?_toList, run]
      cases arr[i]? with
      | none => rfl
      | some o =>
        simp only [fDraw0, forceN_eq]
        cases (Nat.beq i R.length && Nat.beq (Nat.shiftRight (befOf R o.after.toList) i) 0) with
        | false => rfl
        | true =>
          simp only [fDraw1]
          cases o.guard with
          | none => rfl
          | some g => rfl
  | op o ev hp =>
    simp only [fJob, fOp, run, opEvalF_eq, fCall]
    cases o.op <;> rfl

theorem runF_eq (C : Cfg) : ∀ n : Nat, @runF C n = fun {α} => @run C n α := by
  intro n
  induction n with
  | zero => funext α j st k; simp only [runF, run]
  | succ n ih =>
    funext α j st k
    simp only [runF]
    rw [ih]
    exact run_step C n α j st k

end Go.Sx
