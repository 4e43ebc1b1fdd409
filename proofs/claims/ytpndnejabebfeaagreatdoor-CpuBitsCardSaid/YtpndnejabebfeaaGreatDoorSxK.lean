/- A part of the reckoning with symbols: states, terms and their meaning, used by the proofs of this seat. -/
import Derived.Test.YtpndnejabebfeaaGreatDoorSxY
/-! 'opEval'. -/
noncomputable section
namespace Go.Sx

def outV (nb : Nat) : Option SV → String → Res Out
  | some s, _ => .ok ⟨some (.sv s), [], nb⟩
  | none, e => .err e

def outS (nb : Nat) : Option SC → String → Res Out
  | some s, _ => .ok ⟨some (.sv (.sc s)), [], nb⟩
  | none, e => .err e

theorem outV_ok {nb : Nat} {x : Option SV} {e : String} {out : Out} (h : outV nb x e = .ok out) : ∃ s, x = some s ∧ out = ⟨some (.sv s), [], nb⟩ := by
  cases x with
  | none => cases h
  | some s => cases h; exact ⟨s, rfl, rfl⟩

theorem outS_ok {nb : Nat} {x : Option SC} {e : String} {out : Out} (h : outS nb x e = .ok out) : ∃ s, x = some s ∧ out = ⟨some (.sv (.sc s)), [], nb⟩ := by
  cases x with
  | none => cases h
  | some s => cases h; exact ⟨s, rfl, rfl⟩

def newOut (nb : Nat) (v : SC) (L : BL) (A : Tm) : Res Out :=
  if L.lt nb && L.plain then .ok ⟨some (.sv (.sc v)), [(nb, ⟨L, A, true⟩)], nb + 1⟩ else .err "new"

def truth (Γ : List Fact) (e : Tm) : Option Bool :=
  match rng Γ e with
  | some (lo, hi) => if ilt 0 lo || ilt hi 0 then some true else if ieq lo 0 && ieq hi 0 then some false else none
  | none => none

theorem truth_true {env : Env} {Γ : List Fact} (hs : Sat env Γ) {e : Tm} (h : truth Γ e = some true) : (den env e).i ≠ 0 := by
  unfold truth at h
  split at h
  · rename_i lo hi heq
    have := rng_has hs _ _ heq
    dsimp only at this
    split at h
    · rename_i hc
      simp only [Bool.or_eq_true, ilt_iff] at hc
      omega
    · split at h <;> cases h
  · cases h

theorem truth_false {env : Env} {Γ : List Fact} (hs : Sat env Γ) {e : Tm} (h : truth Γ e = some false) : (den env e).i = 0 := by
  unfold truth at h
  split at h
  · rename_i lo hi heq
    have := rng_has hs _ _ heq
    dsimp only at this
    split at h
    · cases h
    · split at h
      · rename_i hc
        simp only [Bool.and_eq_true, ieq_iff] at hc
        omega
      · cases h
  · cases h

/-- A number that can be but one. -/
def pinT (Γ : List Fact) (e : Tm) : Tm :=
  match e with
  | .lit _ => e
  | _ => match rng Γ e with
    | some (lo, hi) => if ieq lo hi then .lit lo else e
    | none => e

theorem pinT_den {env : Env} {Γ : List Fact} (hs : Sat env Γ) (e : Tm) : (den env (pinT Γ e)).i = (den env e).i := by
  unfold pinT
  split
  · rfl
  · split
    · rename_i lo hi heq
      split
      · rename_i h; exact (rng_lit hs heq h).symm
      · rfl
    · rfl

def pinS (Γ : List Fact) : SC → SC
  | .int k e => .int k (pinT Γ e)
  | s => s

theorem pinS_rel {env : Env} {Γ : List Fact} (hs : Sat env Γ) {ρ : Rho} {s : SC} {v : Value} (h : s.Rel env ρ v) : (pinS Γ s).Rel env ρ v := by
  cases s with
  | int k e => simp only [pinS, SC.Rel, pinT_den hs] at *; exact h
  | _ => exact h

/-- Has a number few values, but more than one? -/
def smallT (Γ : List Fact) (e : Tm) : Bool :=
  match rng Γ e with
  | some (lo, hi) => ilt lo hi && ile (hi - lo) 300
  | none => false

/-- The innermost part of few values that a number is made of. -/
def coreT (Γ : List Fact) : Tm → Tm
  | .b2 o a b =>
    match a, b with
    | a, .lit n => if smallT Γ a then coreT Γ a else .b2 o a (.lit n)
    | .lit n, b => if smallT Γ b then coreT Γ b else .b2 o (.lit n) b
    | a, b => .b2 o a b
  | .wrap k a => if smallT Γ a then coreT Γ a else .wrap k a
  | t => t

def lowT (Γ : List Fact) (e : Tm) : Option Tm :=
  match rng Γ e with
  | some (lo, _) => some (.b2 .eq e (.lit lo))
  | none => none

/-- A test that parts a small range. -/
def cutAt (Γ : List Fact) (s : SC) : Option Tm :=
  match s with
  | .int _ e => if smallT Γ e then lowT Γ (coreT Γ e) else none
  | _ => none

def orCut (Γ : List Fact) (s : SC) (r : Res Out) : Res Out :=
  match r with
  | .err m => match cutAt Γ s with
    | some c => .split c
    | none => .err m
  | r => r

theorem orCut_ok {Γ : List Fact} {s : SC} {r : Res Out} {out : Out} (h : orCut Γ s r = .ok out) : r = .ok out := by
  unfold orCut at h
  split at h
  · split at h <;> cases h
  · exact h

/-! ### Deciding a test -/

def mkB2 (Γ : List Fact) : B2 → Tm → Tm → Tm
  | .add, a, b => mkAdd a b
  | .sub, a, b => mkSub a b
  | .mul, a, b => mkMul a b
  | .quo, a, b => mkQuo a b
  | .rem, a, b => mkRem Γ a b
  | .shl k, a, b => mkShl k a b
  | .shr k, a, b => mkShr k a b
  | .bit o k, a, b => mkBit Γ o k a b
  | .lt, a, b => mkLt Γ a b
  | .eq, a, b => mkEq Γ a b

theorem mkB2_den {env : Env} {Γ : List Fact} (hs : Sat env Γ) (o : B2) (a b : Tm) : (den env (mkB2 Γ o a b)).i = o.den (den env a).i (den env b).i := by
  cases o <;> simp only [mkB2, B2.den]
  · exact mkAdd_den env a b
  · exact mkSub_den env a b
  · exact mkMul_den env a b
  · exact mkQuo_den env a b
  · exact mkRem_den hs a b
  · exact mkShl_den env _ a b
  · exact mkShr_den env _ a b
  · exact mkBit_den hs _ _ a b
  · exact mkLt_den hs a b
  · exact mkEq_den hs a b

/-- What is known of some bits, out of what is known of more. -/
def lookAnd (k : IntKind) (x : Tm) (n : Int) : List Fact → Option Int
  | [] => none
  | .iv (.b2 (.bit .and l) y (.lit m)) lo hi :: r => if keq k l && ieq lo hi && ieq (bitsOp .and k m n) n && Tm.beq x y then some (bitsOp .and k lo n) else lookAnd k x n r
  | _ :: r => lookAnd k x n r

theorem lookAnd_sound {env : Env} {k : IntKind} {x : Tm} {n v : Int} : ∀ {Γ : List Fact}, Sat env Γ → lookAnd k x n Γ = some v → bitsOp .and k (den env x).i n = v := by
  intro Γ
  induction Γ with
  | nil => intro _ h; cases h
  | cons f r ih =>
    intro hs h
    have hr : Sat env r := fun g hg => hs g (List.mem_cons_of_mem _ hg)
    unfold lookAnd at h
    split at h
    · cases ‹_ = _›
    · rename_i l y m lo hi r' heq
      cases heq
      split at h
      · rename_i hc
        simp only [Bool.and_eq_true, ieq_iff] at hc
        obtain ⟨⟨⟨h1, h2⟩, h3⟩, h4⟩ := hc
        cases h
        have hf := hs _ (List.mem_cons_self ..)
        have e1 := keq_eq h1
        have e2 := Tm.beq_eq h4
        subst e1; subst e2
        simp only [Fact.ok, den, B2.den] at hf
        have : lo = bitsOp .and k (den env x).i m := by omega
        rw [this, bits_assoc, h3]
      · exact ih hr h
    · rename_i heq
      cases heq
      exact ih hr h

def pinAnd (Γ : List Fact) (t : Tm) : Tm :=
  match t with
  | .b2 (.bit .and k) x (.lit n) => match lookAnd k x n Γ with
    | some v => .lit v
    | none => t
  | t => t

theorem pinAnd_den {env : Env} {Γ : List Fact} (hs : Sat env Γ) (t : Tm) : (den env (pinAnd Γ t)).i = (den env t).i := by
  unfold pinAnd
  split
  · split
    · rename_i h; exact (lookAnd_sound hs h).symm
    · rfl
  · rfl

/-- A number made anew under the facts at hand. -/
def reT (Γ : List Fact) : Tm → Tm
  | .b2 o a b => pinT Γ (pinAnd Γ (mkB2 Γ o (reT Γ a) (reT Γ b)))
  | .wrap k a => pinT Γ (mkWrap Γ k (reT Γ a))
  | .not a => mkNot Γ (reT Γ a)
  | .get a i => pinT Γ (mkGet Γ a (reT Γ i))
  | .v n => pinT Γ (.v n)
  | .ite c a b => match truth Γ (reT Γ c) with
    | some true => reT Γ a
    | some false => reT Γ b
    | none => .ite (reT Γ c) (reT Γ a) (reT Γ b)
  | t => t

theorem reT_den {env : Env} {Γ : List Fact} (hs : Sat env Γ) (t : Tm) : (den env (reT Γ t)).i = (den env t).i := by
  induction t with
  | b2 o a b iha ihb => simp only [reT]; rw [pinT_den hs, pinAnd_den hs, mkB2_den hs, iha, ihb]; rfl
  | wrap k a ih => simp only [reT]; rw [pinT_den hs, mkWrap_den hs, ih]; rfl
  | not a ih => simp only [reT]; rw [mkNot_den hs, ih]; rfl
  | get a i _ ih => simp only [reT]; rw [pinT_den hs, mkGet_den hs, ih]; rfl
  | v n => simp only [reT]; rw [pinT_den hs]
  | ite c a b ihc iha ihb =>
    simp only [reT]
    split
    · rename_i h
      have := truth_true hs h
      rw [ihc] at this
      simp only [den]; rw [if_neg this]; exact iha
    · rename_i h
      have := truth_false hs h
      rw [ihc] at this
      simp only [den]; rw [if_pos this]; exact ihb
    · simp only [den]
      rw [ihc]
      split
      · exact ihb
      · exact iha
  | _ => rfl

def small16 (Γ : List Fact) (e : Tm) : Bool :=
  match rng Γ e with
  | some (lo, hi) => ilt lo hi && ile (hi - lo) 31
  | none => false
def orSmall (Γ : List Fact) (e : Tm) : Option Tm → Option Tm
  | some s => some s
  | none => if small16 Γ e then some e else none
/-- The innermost part of few values that alone decides a number. -/
def coreG (Γ : List Fact) : Tm → Option Tm
  | .b2 o a (.lit n) => orSmall Γ (.b2 o a (.lit n)) (coreG Γ a)
  | .b2 o (.lit n) b => orSmall Γ (.b2 o (.lit n) b) (coreG Γ b)
  | .wrap k a => orSmall Γ (.wrap k a) (coreG Γ a)
  | .get _ i => coreG Γ i
  | .v n => orSmall Γ (.v n) none
  | _ => none
def strip : Tm → Tm
  | .not a => strip a
  | t => t
/-- The first test inside a number. -/
def iteIn : Tm → Option Tm
  | .ite c _ _ => some (strip c)
  | .b2 _ a b => match iteIn a with
    | some c => some c
    | none => iteIn b
  | .wrap _ a => iteIn a
  | .not a => iteIn a
  | .get _ i => iteIn i
  | _ => none
/-- A test that is better made first. -/
def coreC (Γ : List Fact) : Tm → Option Tm
  | .not a => coreC Γ a
  | .b2 _ a (.lit _) => match coreG Γ a with
    | some s => if Tm.beq s a then none else lowT Γ s
    | none => iteIn a
  | .b2 _ (.lit _) b => match coreG Γ b with
    | some s => if Tm.beq s b then none else lowT Γ s
    | none => iteIn b
  | .b2 .eq a b => if within Γ a 0 1 then some (strip a) else iteIn (.b2 .eq a b)
  | t => iteIn t

inductive Dec where
  | yes
  | no
  | same (e : Tm)
  | part (c : Tm)

def decideT (Γ : List Fact) (e : Tm) : Dec :=
  let e' := reT Γ e
  match truth Γ e' with
  | some true => .yes
  | some false => .no
  | none => match coreC Γ e' with
    | some c => match truth Γ c with
      | none => .part c
      | some _ => .same e'
    | none => .same e'

def opEval (tab : Tab) (Γ : List Fact) (lk : Lk) (nb : Nat) (ev : Ev) (o : Oper) : Res Out :=
  match o.op with
  | .move x => match ev x with
    | some s => .ok ⟨some s, [], nb⟩
    | none => .err "move"
  | .assign x => match ev x with
    | some s => .ok ⟨some s, [], nb⟩
    | none => .err "assign"
  | .pick c a b =>
    match ev1 ev c with
    | some (.bool e) => match truth Γ e with
      | some true => outV nb (evV ev a) "pick"
      | some false => outV nb (evV ev b) "pick"
      | none => .split e
    | _ => .err "pick"
  | .alloc t =>
    match tlook t tab with
    | some ti => match ti.zero with
      | some Z => newOut nb (.ptr nb (.lit 0)) (.fixed Z) (.rep 0)
      | none => .err "alloc"
    | none => .err "alloc"
  | .box _ x =>
    match evV ev x with
    | some s => if Lay.one (svLay s) then newOut nb (.ptr nb (.lit 0)) (.fixed (svLay s)) (svArr s) else .err "box"
    | none => .err "box"
  | .build t ps =>
    match evParts ev ps.toList with
    | some l => outV nb (evBuild tab Γ t l) "build"
    | none => .err "build"
  | .buildSlice t len ps =>
    match evParts ev ps.toList with
    | some l => match evBuildSlice tab Γ t len l with
      | some (L, A) => newOut nb (.slice nb (.lit 0) (.lit (Int.ofNat len)) (some (.lit (Int.ofNat len)))) (.fixed L) A
      | none => .err "buildSlice"
    | none => .err "buildSlice"
  | .load t x =>
    match ev1 ev x with
    | some s => outV nb (evLoad tab Γ lk t s) "load"
    | none => .err "load"
  | .store t x y =>
    match ev1 ev x, evV ev y with
    | some s, some v => if s.lt nb then (match evStore tab Γ lk t s v with
      | some u => .ok ⟨none, [u], nb⟩
      | none => .err "store") else .err "store"
    | _, _ => .err "store"
  | .nilCheck x =>
    match ev1 ev x with
    | some s => if nilOk s then .ok ⟨some (.sv (.sc s)), [], nb⟩ else .err "nilCheck"
    | none => .err "nilCheck"
  | .binOp op t x y _ =>
    match evV ev x, evV ev y with
    | some a, some b => (evBin tab Γ op t (Region.isConst x || Region.isConst y) a b).bind fun s => .ok ⟨some (.sv (.sc s)), [], nb⟩
    | _, _ => .err "binOp"
  | .unOp op _ x =>
    match ev1 ev x with
    | some s => outS nb (evUn Γ op s) "unOp"
    | none => .err "unOp"
  | .convert src dst x =>
    match ev1 ev x with
    | some s => outS nb (evConvert tab Γ src dst s) "convert"
    | none => .err "convert"
  | .makeInterface t x =>
    match ev1 ev x with
    | some s => outS nb (evIface tab t s) "iface"
    | none => .err "iface"
  | .makeFunc fn first caps =>
    match evPtrs ev first.toList, evPtrs ev caps.toList with
    | some a, some b => .ok ⟨some (.sv (.sc (.func fn a b))), [], nb⟩
    | _, _ => .err "makeFunc"
  | .makeSlice t l c =>
    match ev1 ev l, ev1 ev c with
    | some a, some b => match evMake tab Γ t a b with
      | some (bl, lt, ct) => newOut nb (.slice nb (.lit 0) lt (some ct)) bl (.rep 0)
      | none => .err "make"
    | _, _ => .err "make"
  | .slice t x lo hi mx =>
    match ev1 ev x, mx with
    | some s, none =>
      match evOpt ev lo, evOpt ev hi with
      | some l, some h => outS nb (evSlice tab Γ t s l h) "slice"
      | _, _ => .err "slice"
    | _, _ => .err "slice"
  | .fieldAddr t x f =>
    match ev1 ev x with
    | some s => outS nb (evFieldAddr tab t s f) "fieldAddr"
    | none => .err "fieldAddr"
  | .field t x f =>
    match evV ev x with
    | some s => outV nb (evField tab Γ t s f) "field"
    | none => .err "field"
  | .indexAddr t x i =>
    match ev1 ev x, ev1 ev i with
    | some s, some j => outS nb (evIndexAddr tab Γ t s j) "indexAddr"
    | _, _ => .err "indexAddr"
  | .index t x i =>
    match evV ev x, ev1 ev i with
    | some s, some j => orCut Γ j (outV nb (evIndex tab Γ t s (pinS Γ j)) "index")
    | _, _ => .err "index"
  | .extract x i =>
    match ev x with
    | some (.tup l) => outV nb (listGet l i) "extract"
    | _ => .err "extract"
  | .call c =>
    match c.callee with
    | .builtin .len =>
      match c.args.toList with
      | [x] => match evV ev x with
        | some s => outS nb (evLen tab c.argTypes s) "len"
        | none => .err "len"
      | _ => .err "len"
    | .builtin .min =>
      match evList ev c.args.toList with
      | some (a :: r) => outS nb (evMinMaxs Γ false a r) "min"
      | _ => .err "min"
    | .builtin .max =>
      match evList ev c.args.toList with
      | some (a :: r) => outS nb (evMinMaxs Γ true a r) "max"
      | _ => .err "max"
    | .builtin .append =>
      match c.args.toList with
      | [x, y] => match ev1 ev x, ev1 ev y with
        | some s, some u => match evAppend tab Γ lk c.argTypes.toList s u with
          | some (need, L, A) => newOut nb (.slice nb (.lit 0) need none) L A
          | none => .err "append"
        | _, _ => .err "append"
      | _ => .err "append"
    | .builtin .copy =>
      match c.args.toList with
      | [x, y] => match ev1 ev x, ev1 ev y with
        | some s, some u => match evCopy tab Γ lk c.argTypes.toList s u with
          | some (t, ups) => if s.lt nb then .ok ⟨some (.sv (.sc (.int .i64 t))), ups, nb⟩ else .err "copy"
          | none => .err "copy"
        | _, _ => .err "copy"
      | _ => .err "copy"
    | _ => .err "call"
  | .makeMap t none => if intMap tab t then .ok ⟨some (.sv (.sc (.mapv nb))), [(nb, ⟨.mp [], .rep 0, true⟩)], nb + 1⟩ else .err "makeMap"
  | .insert t m k x =>
    match ev1 ev m, ev1 ev k, ev1 ev x with
    | some a, some b, some c => if a.lt nb then (match evInsert tab lk t a b c with
      | some u => .ok ⟨none, [u], nb⟩
      | none => .err "insert") else .err "insert"
    | _, _, _ => .err "insert"
  | .lookup t m k ok =>
    match ev1 ev m, ev1 ev k with
    | some a, some b => orCut Γ b (match evLookup tab lk t a (pinS Γ b) ok with
      | some s => .ok ⟨some s, [], nb⟩
      | none => .err "lookup")
    | _, _ => .err "lookup"
  | _ => .err "op"
  where
  evOpt (ev : Ev) : Option Operand → Option (Option SC)
    | none => some none
    | some x => match ev1 ev x with
      | some s => some (some s)
      | none => none

theorem evOpt_rel {env : Env} {ρ : Rho} {ev : Ev} {r : Operand → Value} (h : EvRel env ρ ev r) {x : Option Operand} {s : Option SC} (hs : opEval.evOpt ev x = some s) : OptRel env ρ s (x.map r) := by
  cases x with
  | none => cases hs; trivial
  | some x =>
    simp only [opEval.evOpt] at hs
    split at hs
    · rename_i s' h1; cases hs; exact h.one h1
    · cases hs

theorem newOut_ok {nb : Nat} {v : SC} {L : BL} {A : Tm} {out : Out} (h : newOut nb v L A = .ok out) : (L.lt nb && L.plain) = true ∧ out = ⟨some (.sv (.sc v)), [(nb, ⟨L, A, true⟩)], nb + 1⟩ := by
  unfold newOut at h
  split at h
  · cases h; exact ⟨by assumption, rfl⟩
  · cases h

theorem listGet_rel {env : Env} {ρ : Rho} : ∀ {l : List SV} {i : Nat} {s : SV} {vs : List Value}, listGet l i = some s → SVsRel env ρ l vs → ∃ v, vs[i]? = some v ∧ s.Rel env ρ v := by
  intro l
  induction l with
  | nil => intro i s vs h; cases h
  | cons a r ih =>
    intro i s vs h hr
    cases vs with
    | nil => exact hr.elim
    | cons v vs =>
      cases i with
      | zero => cases h; exact ⟨v, rfl, hr.1⟩
      | succ n =>
        obtain ⟨u, h1, h2⟩ := ih (i := n) (by simpa only [listGet] using h) hr.2
        exact ⟨u, by simpa using h1, h2⟩

/-- A new block, and what points to it. -/
theorem opGood_new {P : Program} {env : Env} {lk : Lk} {nb : Nat} {ev : Ev} {o : Oper} {v : SC} {L : BL} {A : Tm} (hlt : (L.lt nb && L.plain) = true)
    (h : ∀ (ρ : Rho) (w : World) (r : Operand → Value), EvRel env ρ ev r → HRel env ρ lk w →
      ∃ cs e z, (execOp r o).run P w = .ok (.value z) (w.alloc (.cells cs e)) ∧ (∀ ρ' : Rho, ρ' nb = (w.heap.size, 0) → v.Rel env ρ' z) ∧
        ∀ j c, L.at env j = some c → ∃ x, cs[j]? = some x ∧ c.Rel env ρ (den env A).a j x) :
    OpGood P env lk nb ev o ⟨some (.sv (.sc v)), [(nb, ⟨L, A, true⟩)], nb + 1⟩ :=
  opGood_of_run fun ρ w r hr hH _ => by
    obtain ⟨cs, e, z, h1, h2, h3⟩ := h ρ w r hr hH
    refine ⟨fun i => if i = nb then (w.heap.size, 0) else ρ i, z, _, h1, Step.alloc (blk := ⟨L, A, true⟩) (Bool.and_eq_true_iff.1 hlt).2 (Bool.and_eq_true_iff.1 hlt).1 h3, fun s hs => ?_⟩
    cases hs
    exact h2 _ (by simp)

theorem getOf {α : Type} [DecidableEq α] (a b : α) : a = b ∨ a ≠ b := by by_cases h : a = b <;> simp [h]

set_option maxHeartbeats 1000000 in
theorem opEval_sound {P : Program} {tab : Tab} (hT : TabOk P tab) {env : Env} {Γ : List Fact} (hs : Sat env Γ) {lk : Lk} {nb : Nat} {ev : Ev} {o : Oper} {out : Out} (h : opEval tab Γ lk nb ev o = .ok out) :
    OpGood P env lk nb ev o out := by
  unfold opEval at h
  split at h
  · rename_i x hop
    split at h
    · rename_i s hx
      cases h
      exact opGood_of_run fun ρ w r hr hH _ => ⟨ρ, r x, w, by simp [execOp, hop, nxt], Step.same, fun s' hs' => by cases hs'; exact hr x s hx⟩
    · cases h
  · rename_i x hop
    split at h
    · rename_i s hx
      cases h
      exact opGood_of_run fun ρ w r hr hH _ => ⟨ρ, r x, w, by simp [execOp, hop, nxt], Step.same, fun s' hs' => by cases hs'; exact hr x s hx⟩
    · cases h
  · rename_i c a b hop
    split at h
    · rename_i e hc
      split at h
      · rename_i h0
        have h0 := truth_true hs h0
        obtain ⟨s, hb, rfl⟩ := outV_ok h
        exact opGood_pure fun ρ w r hr hH => ⟨r a, by
          have := EvRel.one hr hc
          simp only [SC.Rel] at this
          simp [execOp, hop, this, asBool, h0], EvRel.v hr hb⟩
      · rename_i h0
        have h0 := truth_false hs h0
        obtain ⟨s, hb, rfl⟩ := outV_ok h
        exact opGood_pure fun ρ w r hr hH => ⟨r b, by
          have := EvRel.one hr hc
          simp only [SC.Rel] at this
          simp [execOp, hop, this, asBool, h0], EvRel.v hr hb⟩
      · cases h
    · cases h
  · rename_i t hop
    split at h
    · rename_i ti ht
      split at h
      · rename_i Z hz
        obtain ⟨hlt, rfl⟩ := newOut_ok h
        refine opGood_new hlt fun ρ w r hr hH => ?_
        obtain ⟨v, h1, h2, h3⟩ := (hT _ _ ht).run_zero hz w
        refine ⟨v.cells, t, .pointer (some ⟨w.heap.size, 0, none⟩), by simp [execOp, hop, Instr.alloc, h1, newVar, newRow], fun ρ' hρ => ptrTo_rel hρ, fun j c hc => ?_⟩
        have hj : j < v.cells.size := by have := Lay.at_some hc; omega
        exact ⟨_, getElem?_pos _ j hj, h3 env ρ j c hc _ (getElem?_pos _ j hj)⟩
      · cases h
    · cases h
  · rename_i t x hop
    split at h
    · rename_i s hx
      split at h
      · rename_i hone
        obtain ⟨hlt, rfl⟩ := newOut_ok h
        refine opGood_new hlt fun ρ w r hr hH => ?_
        obtain ⟨h2, h3⟩ := sv_cells hone (EvRel.v hr hx)
        refine ⟨(r x).cells, t, .pointer (some ⟨w.heap.size, 0, none⟩), by simp [execOp, hop, Instr.box, newVar, newRow], fun ρ' hρ => ptrTo_rel hρ, fun j c hc => ?_⟩
        have hj : j < (r x).cells.size := by have := Lay.at_some hc; omega
        exact ⟨_, getElem?_pos _ j hj, h3 j c hc _ (getElem?_pos _ j hj)⟩
      · cases h
    · cases h
  · rename_i t ps hop
    split at h
    · rename_i l hl
      obtain ⟨s, hb, rfl⟩ := outV_ok h
      refine opGood_pure fun ρ w r hr hH => ?_
      obtain ⟨v, h1, h2⟩ := evBuild_sound hT hs hb (ρ := ρ) (vs := ps.map fun p => (p.1, r p.2)) (by simpa using evParts_rel hr hl) w
      exact ⟨v, by simp [execOp, hop, h1], h2⟩
    · cases h
  · rename_i t len ps hop
    split at h
    · rename_i l hl
      split at h
      · rename_i L A hb
        obtain ⟨hlt, rfl⟩ := newOut_ok h
        refine opGood_new hlt fun ρ w r hr hH => ?_
        obtain ⟨cs, e, h1, h2, h3⟩ := evBuildSlice_sound hT hs hb (ρ := ρ) (vs := ps.map fun p => (p.1, r p.2)) (by simpa using evParts_rel hr hl) w
        refine ⟨cs, e, _, by simp [execOp, hop, h1]; rfl, fun ρ' hρ => ?_, fun j c hc => ?_⟩
        · exact ⟨0, len, len, by rw [hρ], by simp [den], Nat.le_refl _, fun t ht => by cases ht; simp [den], fun _ => by simp [den]⟩
        · have hj : j < cs.size := by have := Lay.at_some hc; omega
          exact ⟨_, getElem?_pos _ j hj, h3 j c hc _ (getElem?_pos _ j hj)⟩
      · cases h
    · cases h
  · rename_i t x hop
    split at h
    · rename_i s hx
      obtain ⟨s', hb, rfl⟩ := outV_ok h
      refine opGood_pure fun ρ w r hr hH => ?_
      obtain ⟨v, h1, h2⟩ := evLoad_sound hT hs hb hH (EvRel.one hr hx)
      exact ⟨v, by simp [execOp, hop, h1], h2⟩
    · cases h
  · rename_i t x y hop
    split at h
    · rename_i s v hx hy
      split at h
      · rename_i hlt
        split at h
        · rename_i u hu
          cases h
          refine opGood_of_run fun ρ w r hr hH _ => ?_
          obtain ⟨w', h1, h2⟩ := evStore_sound hT hs hu hlt hH (EvRel.one hr hx) (EvRel.v hr hy)
          exact ⟨ρ, undef, w', by simp [execOp, hop, h1, nxt], h2, fun s hs => by cases hs⟩
        · cases h
      · cases h
    · cases h
  · rename_i x hop
    split at h
    · rename_i s hx
      split at h
      · rename_i hn
        cases h
        refine opGood_pure fun ρ w r hr hH => ?_
        have hr' := EvRel.one hr hx
        refine ⟨r x, ?_, hr'⟩
        cases s with
        | ptr b o => obtain ⟨off, _, e⟩ := hr'; simp [execOp, hop, e]
        | func fn f c =>
          cases fn with
          | func fid => obtain ⟨fa, ca, e, _⟩ := hr'; simp [execOp, hop, e]
          | _ => simp [nilOk] at hn
        | _ => simp [nilOk] at hn
      · cases h
    · cases h
  · rename_i op t x y u hop
    split at h
    · rename_i a b hx hy
      obtain ⟨s, hb, h⟩ := Res.bind_ok h
      cases h
      refine opGood_pure fun ρ w r hr hH => ?_
      obtain ⟨z, h1, h2⟩ := evBin_sound hT hs (xo := x) (yo := y) (by intro hl; cases x <;> cases y <;> simp [Region.isConst] at hl ⊢) hb (EvRel.v hr hx) (EvRel.v hr hy) w
      exact ⟨z, by simp only [execOp, hop, Sem.run_bind, h1, Result.andThen_ok, Sem.run_pure], h2⟩
    · cases h
  · rename_i op t x hop
    split at h
    · rename_i s hx
      obtain ⟨s', hb, rfl⟩ := outS_ok h
      refine opGood_pure fun ρ w r hr hH => ?_
      obtain ⟨v, h1, h2⟩ := evUn_sound (P := P) hs hb (EvRel.one hr hx) w
      exact ⟨v, by simp [execOp, hop, h1], h2⟩
    · cases h
  · rename_i src dst x hop
    split at h
    · rename_i s hx
      obtain ⟨s', hb, rfl⟩ := outS_ok h
      refine opGood_pure fun ρ w r hr hH => ?_
      obtain ⟨v, h1, h2⟩ := evConvert_sound hT hs hb (EvRel.one hr hx) w
      exact ⟨v, by simp [execOp, hop, h1], h2⟩
    · cases h
  · rename_i t x hop
    split at h
    · rename_i s hx
      obtain ⟨s', hb, rfl⟩ := outS_ok h
      refine opGood_pure fun ρ w r hr hH => ?_
      obtain ⟨v, h1, h2⟩ := evIface_sound hT hb (EvRel.one hr hx) w
      exact ⟨v, by simp [execOp, hop, h1], h2⟩
    · cases h
  · rename_i fn first caps hop
    split at h
    · rename_i a b ha hb
      cases h
      refine opGood_pure fun ρ w r hr hH => ?_
      refine ⟨.func fn (first.map r) (caps.map r), by simp [execOp, hop, Instr.makeFunc], _, _, rfl, ?_, ?_⟩
      · simpa using evPtrs_rel hr ha
      · simpa using evPtrs_rel hr hb
    · cases h
  · rename_i t l c hop
    split at h
    · rename_i a b ha hb
      split at h
      · rename_i bl lt ct hm
        obtain ⟨hlt, rfl⟩ := newOut_ok h
        refine opGood_new hlt fun ρ w r hr hH => ?_
        obtain ⟨cs, e, L, C, h1, h2, h3, h4, h5⟩ := evMake_sound hT hs hm (EvRel.one hr ha) (EvRel.one hr hb) w
        refine ⟨cs, e, _, by simp [execOp, hop, h1]; rfl, fun ρ' hρ => ?_, h5⟩
        exact ⟨0, L, C, by rw [hρ], h2, h4, fun t ht => by cases ht; exact h3, fun _ => by simp [den]⟩
      · cases h
    · cases h
  · rename_i t x lo hi mx hop
    split at h
    · rename_i s hx
      split at h
      · rename_i l hh hl hhi
        obtain ⟨s', hb, rfl⟩ := outS_ok h
        refine opGood_pure fun ρ w r hr hH => ?_
        obtain ⟨v, h1, h2⟩ := evSlice_sound hT hs hb (EvRel.one hr hx) (evOpt_rel hr hl) (evOpt_rel hr hhi) w
        exact ⟨v, by simp [execOp, hop, h1], h2⟩
      · cases h
    · cases h
  · rename_i t x f hop
    split at h
    · rename_i s hx
      obtain ⟨s', hb, rfl⟩ := outS_ok h
      refine opGood_pure fun ρ w r hr hH => ?_
      obtain ⟨v, h1, h2⟩ := evFieldAddr_sound hT hb (EvRel.one hr hx) w
      exact ⟨v, by simp [execOp, hop, h1], h2⟩
    · cases h
  · rename_i t x f hop
    split at h
    · rename_i s hx
      obtain ⟨s', hb, rfl⟩ := outV_ok h
      refine opGood_pure fun ρ w r hr hH => ?_
      obtain ⟨v, h1, h2⟩ := evField_sound hT hs hb (EvRel.v hr hx) w
      exact ⟨v, by simp [execOp, hop, h1], h2⟩
    · cases h
  · rename_i t x i hop
    split at h
    · rename_i s j hx hi
      obtain ⟨s', hb, rfl⟩ := outS_ok h
      refine opGood_pure fun ρ w r hr hH => ?_
      obtain ⟨v, h1, h2⟩ := evIndexAddr_sound hT hs hb (EvRel.one hr hx) (EvRel.one hr hi) w
      exact ⟨v, by simp [execOp, hop, h1], h2⟩
    · cases h
  · rename_i t x i hop
    split at h
    · rename_i s j hx hi
      obtain ⟨s', hb, rfl⟩ := outV_ok (orCut_ok h)
      refine opGood_pure fun ρ w r hr hH => ?_
      obtain ⟨v, h1, h2⟩ := evIndex_sound hT hs hb (EvRel.v hr hx) (pinS_rel hs (EvRel.one hr hi)) w
      exact ⟨v, by simp [execOp, hop, h1], h2⟩
    · cases h
  · rename_i x i hop
    split at h
    · rename_i l hx
      obtain ⟨s', hb, rfl⟩ := outV_ok h
      refine opGood_pure fun ρ w r hr hH => ?_
      obtain ⟨vs, e, h1⟩ := hr x _ hx
      obtain ⟨v, h2, h3⟩ := listGet_rel hb h1
      have h2' : vs[i]? = some v := by simpa using h2
      exact ⟨v, by simp [execOp, hop, e, Instr.extract, h2'], h3⟩
    · cases h
  · rename_i c hop
    split at h
    · rename_i hcl
      split at h
      · rename_i x hargs
        have hargs' : c.args = #[x] := Array.ext' hargs
        split at h
        · rename_i s hx
          obtain ⟨s', hb, rfl⟩ := outS_ok h
          refine opGood_pure fun ρ w r hr hH => ?_
          obtain ⟨v, h1, h2⟩ := evLen_sound (P := P) hT (ty := o.type) hb (EvRel.v hr hx) w
          exact ⟨v, by simp [execOp, hop, resolve, hcl, hargs', invoke, builtin, h1], h2⟩
        · cases h
      · cases h
    · rename_i hcl
      split at h
      · rename_i a l hargs
        obtain ⟨s', hb, rfl⟩ := outS_ok h
        refine opGood_pure fun ρ w r hr hH => ?_
        have hl := evList_rel hr hargs
        cases hc : c.args.toList with
        | nil => rw [hc] at hl; exact hl.elim
        | cons x xs =>
          rw [hc] at hl
          obtain ⟨v, h1, h2⟩ := mins_sound (P := P) hs w l (xs.map r) a s' (r x) hb hl.1 hl.2
          have : (c.args.map r).toList = r x :: xs.map r := by simp [hc]
          exact ⟨v, by simp [execOp, hop, resolve, hcl, invoke, builtin, Builtin.min_, hc, h1], h2⟩
      · cases h
    · rename_i hcl
      split at h
      · rename_i a l hargs
        obtain ⟨s', hb, rfl⟩ := outS_ok h
        refine opGood_pure fun ρ w r hr hH => ?_
        have hl := evList_rel hr hargs
        cases hc : c.args.toList with
        | nil => rw [hc] at hl; exact hl.elim
        | cons x xs =>
          rw [hc] at hl
          obtain ⟨v, h1, h2⟩ := maxs_sound (P := P) hs w l (xs.map r) a s' (r x) hb hl.1 hl.2
          exact ⟨v, by simp [execOp, hop, resolve, hcl, invoke, builtin, Builtin.max_, hc, h1], h2⟩
      · cases h
    · rename_i hcl
      split at h
      · rename_i x y hargs
        have hargs' : c.args = #[x, y] := Array.ext' hargs
        split at h
        · rename_i s u hx hy
          split at h
          · rename_i need L A happ
            obtain ⟨hlt, rfl⟩ := newOut_ok h
            refine opGood_of_run fun ρ w r hr hH _ => ?_
            obtain ⟨cs, e, N, K, h1, h2, h3, h4⟩ := evAppend_sound (P := P) hT hs happ o.type hH (EvRel.one hr hx) (EvRel.one hr hy)
            refine ⟨fun i => if i = nb then (w.drew.heap.size, 0) else ρ i, _, _, by simp only [execOp, hop, resolve, hcl, hargs', invoke, builtin, Sem.run_bind, Sem.run_pure, Result.andThen_ok, List.map_toArray, List.map_cons, List.map_nil, h1]; rfl, Step.drew (Step.alloc (blk := ⟨L, A, true⟩) (Bool.and_eq_true_iff.1 hlt).2 (Bool.and_eq_true_iff.1 hlt).1 h4), fun s' hs' => ?_⟩
            cases hs'
            refine ⟨0, N, K, ?_, h2, h3, fun t ht => (by cases ht), fun _ => rfl⟩
            simp
          · cases h
        · cases h
      · cases h
    · rename_i hcl
      split at h
      · rename_i x y hargs
        have hargs' : c.args = #[x, y] := Array.ext' hargs
        split at h
        · rename_i s u hx hy
          split at h
          · rename_i t ups hcp
            split at h
            · rename_i hlt
              cases h
              refine opGood_of_run fun ρ w r hr hH _ => ?_
              obtain ⟨w', h1, h2⟩ := evCopy_sound (P := P) hT hs hcp o.type hlt hH (EvRel.one hr hx) (EvRel.one hr hy)
              refine ⟨ρ, _, w', by simp only [execOp, hop, resolve, hcl, hargs', invoke, builtin, Sem.run_bind, Sem.run_pure, Result.andThen_ok, List.map_toArray, List.map_cons, List.map_nil, h1]; rfl, h2, fun s' hs' => ?_⟩
              cases hs'
              rfl
            · cases h
          · cases h
        · cases h
      · cases h
    · cases h
  · rename_i t hop
    split at h
    · rename_i hm
      cases h
      refine opGood_of_run fun ρ w r hr hH _ => ?_
      refine ⟨fun i => if i = nb then (w.heap.size, 0) else ρ i, .map (some w.heap.size), _, ?_, Step.allocMap, fun s' hs' => ?_⟩
      · have hmk : (Instr.makeMap t none).run P w = .ok (.map (some w.heap.size)) (w.alloc (.map #[] 0)) := rfl
        simp only [execOp, hop, Option.map_none, Sem.run_bind, hmk, Result.andThen_ok, Sem.run_pure, nxt]
      · cases hs'
        simp [Sl.Rel, SV.Rel, SC.Rel]
    · cases h
  · rename_i t m k x hop
    split at h
    · rename_i a b c ha hb hc
      split at h
      · rename_i hlt
        split at h
        · rename_i u hi
          cases h
          refine opGood_of_run fun ρ w r hr hH _ => ?_
          obtain ⟨w', h1, h2⟩ := evInsert_sound (P := P) hT hi hlt hH (EvRel.one hr ha) (EvRel.one hr hb) (EvRel.one hr hc)
          exact ⟨ρ, undef, w', by simp [execOp, hop, h1, nxt], h2, fun s' hs' => by cases hs'⟩
        · cases h
      · cases h
    · cases h
  · rename_i t m k ok hop
    split at h
    · rename_i a b ha hb
      have h' := orCut_ok h
      split at h'
      · rename_i s hl
        cases h'
        refine opGood_of_run fun ρ w r hr hH _ => ?_
        obtain ⟨v, h1, h2⟩ := evLookup_sound (P := P) hT hl hH (EvRel.one hr ha) (pinS_rel hs (EvRel.one hr hb))
        exact ⟨ρ, v, w, by simp [execOp, hop, h1, nxt], Step.same, fun s' hs' => by cases hs'; exact h2⟩
      · cases h'
    · cases h
  · cases h

end Go.Sx
