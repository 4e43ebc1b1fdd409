/- A part of the reckoning with symbols: states, terms and their meaning, used by the proofs of this seat. -/
import Derived.Test.YtpndnejabebfeaaGreatSxJ
/-! 'opEval'. -/
namespace Go.Sx

def outV (nb : Nat) : Option SV → String → Res Out
  | some s, _ => .ok ⟨some (.sv s), [], nb⟩
  | none, e => .err e

def outS (nb : Nat) : Option SC → String → Res Out
  | some s, _ => .ok ⟨some (.sv (.sc s)), [], nb⟩
  | none, e => .err e

theorem outV_ok {nb : Nat} {x : Option SV} {e : String} {out : Out} (h : outV nb x e = .ok out) : ∃ s, x = some s ∧ out = ⟨some (.sv s), [], nb⟩ := by
  cases x with
  | none => cases h
  | some s => cases h; exact ⟨s, rfl, rfl⟩

theorem outS_ok {nb : Nat} {x : Option SC} {e : String} {out : Out} (h : outS nb x e = .ok out) : ∃ s, x = some s ∧ out = ⟨some (.sv (.sc s)), [], nb⟩ := by
  cases x with
  | none => cases h
  | some s => cases h; exact ⟨s, rfl, rfl⟩

def newOut (nb : Nat) (v : SC) (L : BL) (A : Tm) : Res Out :=
  if L.lt nb then .ok ⟨some (.sv (.sc v)), [(nb, ⟨L, A, true⟩)], nb + 1⟩ else .err "new"

def truth (Γ : List Fact) (e : Tm) : Option Bool :=
  match rng Γ e with
  | some (lo, hi) => if ilt 0 lo || ilt hi 0 then some true else if ieq lo 0 && ieq hi 0 then some false else none
  | none => none

theorem truth_true {env : Env} {Γ : List Fact} (hs : Sat env Γ) {e : Tm} (h : truth Γ e = some true) : (den env e).i ≠ 0 := by
  unfold truth at h
  split at h
  · rename_i lo hi heq
    have := rng_has hs _ _ heq
    dsimp only at this
    split at h
    · rename_i hc
      simp only [Bool.or_eq_true, ilt_iff] at hc
      omega
    · split at h <;> cases h
  · cases h

theorem truth_false {env : Env} {Γ : List Fact} (hs : Sat env Γ) {e : Tm} (h : truth Γ e = some false) : (den env e).i = 0 := by
  unfold truth at h
  split at h
  · rename_i lo hi heq
    have := rng_has hs _ _ heq
    dsimp only at this
    split at h
    · cases h
    · split at h
      · rename_i hc
        simp only [Bool.and_eq_true, ieq_iff] at hc
        omega
      · cases h
  · cases h

def opEval (tab : Tab) (Γ : List Fact) (lk : Lk) (nb : Nat) (ev : Ev) (o : Oper) : Res Out :=
  match o.op with
  | .move x => match ev x with
    | some s => .ok ⟨some s, [], nb⟩
    | none => .err "move"
  | .assign x => match ev x with
    | some s => .ok ⟨some s, [], nb⟩
    | none => .err "assign"
  | .pick c a b =>
    match ev1 ev c with
    | some (.bool e) => match truth Γ e with
      | some true => outV nb (evV ev a) "pick"
      | some false => outV nb (evV ev b) "pick"
      | none => .split e
    | _ => .err "pick"
  | .alloc t =>
    match look t tab with
    | some ti => match ti.zero with
      | some Z => newOut nb (.ptr nb (.lit 0)) (.fixed Z) (.rep 0)
      | none => .err "alloc"
    | none => .err "alloc"
  | .box _ x =>
    match evV ev x with
    | some s => if Lay.one (svLay s) then newOut nb (.ptr nb (.lit 0)) (.fixed (svLay s)) (svArr s) else .err "box"
    | none => .err "box"
  | .build t ps =>
    match evParts ev ps.toList with
    | some l => outV nb (evBuild tab Γ t l) "build"
    | none => .err "build"
  | .buildSlice t len ps =>
    match evParts ev ps.toList with
    | some l => match evBuildSlice tab Γ t len l with
      | some (L, A) => newOut nb (.slice nb (.lit 0) (.lit (Int.ofNat len)) (some (.lit (Int.ofNat len)))) (.fixed L) A
      | none => .err "buildSlice"
    | none => .err "buildSlice"
  | .load t x =>
    match ev1 ev x with
    | some s => outV nb (evLoad tab Γ lk t s) "load"
    | none => .err "load"
  | .store t x y =>
    match ev1 ev x, evV ev y with
    | some s, some v => if s.lt nb then (match evStore tab Γ lk t s v with
      | some u => .ok ⟨none, [u], nb⟩
      | none => .err "store") else .err "store"
    | _, _ => .err "store"
  | .nilCheck x =>
    match ev1 ev x with
    | some s => if nilOk s then .ok ⟨some (.sv (.sc s)), [], nb⟩ else .err "nilCheck"
    | none => .err "nilCheck"
  | .binOp op t x y _ =>
    match evV ev x, evV ev y with
    | some a, some b => (evBin tab Γ op t (Region.isConst x || Region.isConst y) a b).bind fun s => .ok ⟨some (.sv (.sc s)), [], nb⟩
    | _, _ => .err "binOp"
  | .unOp op _ x =>
    match ev1 ev x with
    | some s => outS nb (evUn Γ op s) "unOp"
    | none => .err "unOp"
  | .convert src dst x =>
    match ev1 ev x with
    | some s => outS nb (evConvert tab Γ src dst s) "convert"
    | none => .err "convert"
  | .makeInterface t x =>
    match ev1 ev x with
    | some s => outS nb (evIface tab t s) "iface"
    | none => .err "iface"
  | .makeFunc fn first caps =>
    match evPtrs ev first.toList, evPtrs ev caps.toList with
    | some a, some b => .ok ⟨some (.sv (.sc (.func fn a b))), [], nb⟩
    | _, _ => .err "makeFunc"
  | .makeSlice t l c =>
    match ev1 ev l, ev1 ev c with
    | some a, some b => match evMake tab Γ t a b with
      | some (bl, lt, ct) => newOut nb (.slice nb (.lit 0) lt (some ct)) bl (.rep 0)
      | none => .err "make"
    | _, _ => .err "make"
  | .slice t x lo hi mx =>
    match ev1 ev x, mx with
    | some s, none =>
      match evOpt ev lo, evOpt ev hi with
      | some l, some h => outS nb (evSlice tab Γ t s l h) "slice"
      | _, _ => .err "slice"
    | _, _ => .err "slice"
  | .fieldAddr t x f =>
    match ev1 ev x with
    | some s => outS nb (evFieldAddr tab t s f) "fieldAddr"
    | none => .err "fieldAddr"
  | .field t x f =>
    match evV ev x with
    | some s => outV nb (evField tab Γ t s f) "field"
    | none => .err "field"
  | .indexAddr t x i =>
    match ev1 ev x, ev1 ev i with
    | some s, some j => outS nb (evIndexAddr tab Γ t s j) "indexAddr"
    | _, _ => .err "indexAddr"
  | .index t x i =>
    match evV ev x, ev1 ev i with
    | some s, some j => outV nb (evIndex tab Γ t s j) "index"
    | _, _ => .err "index"
  | .extract x i =>
    match ev x with
    | some (.tup l) => outV nb (listGet l i) "extract"
    | _ => .err "extract"
  | .call c =>
    match c.callee with
    | .builtin .len =>
      match c.args.toList with
      | [x] => match evV ev x with
        | some s => outS nb (evLen tab c.argTypes s) "len"
        | none => .err "len"
      | _ => .err "len"
    | .builtin .min =>
      match evList ev c.args.toList with
      | some (a :: r) => outS nb (evMinMaxs Γ false a r) "min"
      | _ => .err "min"
    | .builtin .max =>
      match evList ev c.args.toList with
      | some (a :: r) => outS nb (evMinMaxs Γ true a r) "max"
      | _ => .err "max"
    | _ => .err "call"
  | _ => .err "op"
  where
  evOpt (ev : Ev) : Option Operand → Option (Option SC)
    | none => some none
    | some x => match ev1 ev x with
      | some s => some (some s)
      | none => none

theorem evOpt_rel {env : Env} {ρ : Rho} {ev : Ev} {r : Operand → Value} (h : EvRel env ρ ev r) {x : Option Operand} {s : Option SC} (hs : opEval.evOpt ev x = some s) : OptRel env ρ s (x.map r) := by
  cases x with
  | none => cases hs; trivial
  | some x =>
    simp only [opEval.evOpt] at hs
    split at hs
    · rename_i s' h1; cases hs; exact h.one h1
    · cases hs

theorem newOut_ok {nb : Nat} {v : SC} {L : BL} {A : Tm} {out : Out} (h : newOut nb v L A = .ok out) : L.lt nb = true ∧ out = ⟨some (.sv (.sc v)), [(nb, ⟨L, A, true⟩)], nb + 1⟩ := by
  unfold newOut at h
  split at h
  · cases h; exact ⟨by assumption, rfl⟩
  · cases h

theorem listGet_rel {env : Env} {ρ : Rho} : ∀ {l : List SV} {i : Nat} {s : SV} {vs : List Value}, listGet l i = some s → SVsRel env ρ l vs → ∃ v, vs[i]? = some v ∧ s.Rel env ρ v := by
  intro l
  induction l with
  | nil => intro i s vs h; cases h
  | cons a r ih =>
    intro i s vs h hr
    cases vs with
    | nil => exact hr.elim
    | cons v vs =>
      cases i with
      | zero => cases h; exact ⟨v, rfl, hr.1⟩
      | succ n =>
        obtain ⟨u, h1, h2⟩ := ih (i := n) (by simpa only [listGet] using h) hr.2
        exact ⟨u, by simpa using h1, h2⟩

/-- A new block, and what points to it. -/
theorem opGood_new {P : Program} {env : Env} {lk : Lk} {nb : Nat} {ev : Ev} {o : Oper} {v : SC} {L : BL} {A : Tm} (hlt : L.lt nb = true)
    (h : ∀ (ρ : Rho) (w : World) (r : Operand → Value), EvRel env ρ ev r → HRel env ρ lk w →
      ∃ cs e z, (execOp r o).run P w = .ok (.value z) (w.alloc (.cells cs e)) ∧ (∀ ρ' : Rho, ρ' nb = (w.heap.size, 0) → v.Rel env ρ' z) ∧
        ∀ j c, L.at env j = some c → ∃ x, cs[j]? = some x ∧ c.Rel env ρ (den env A).a j x) :
    OpGood P env lk nb ev o ⟨some (.sv (.sc v)), [(nb, ⟨L, A, true⟩)], nb + 1⟩ :=
  opGood_of_run fun ρ w r hr hH _ => by
    obtain ⟨cs, e, z, h1, h2, h3⟩ := h ρ w r hr hH
    refine ⟨fun i => if i = nb then (w.heap.size, 0) else ρ i, z, _, h1, Step.alloc (blk := ⟨L, A, true⟩) hlt h3, fun s hs => ?_⟩
    cases hs
    exact h2 _ (by simp)

theorem getOf {α : Type} [DecidableEq α] (a b : α) : a = b ∨ a ≠ b := by by_cases h : a = b <;> simp [h]

set_option maxHeartbeats 1000000 in
theorem opEval_sound {P : Program} {tab : Tab} (hT : TabOk P tab) {env : Env} {Γ : List Fact} (hs : Sat env Γ) {lk : Lk} {nb : Nat} {ev : Ev} {o : Oper} {out : Out} (h : opEval tab Γ lk nb ev o = .ok out) :
    OpGood P env lk nb ev o out := by
  unfold opEval at h
  split at h
  · rename_i x hop
    split at h
    · rename_i s hx
      cases h
      exact opGood_of_run fun ρ w r hr hH _ => ⟨ρ, r x, w, by simp [execOp, hop, nxt], Step.same, fun s' hs' => by cases hs'; exact hr x s hx⟩
    · cases h
  · rename_i x hop
    split at h
    · rename_i s hx
      cases h
      exact opGood_of_run fun ρ w r hr hH _ => ⟨ρ, r x, w, by simp [execOp, hop, nxt], Step.same, fun s' hs' => by cases hs'; exact hr x s hx⟩
    · cases h
  · rename_i c a b hop
    split at h
    · rename_i e hc
      split at h
      · rename_i h0
        have h0 := truth_true hs h0
        obtain ⟨s, hb, rfl⟩ := outV_ok h
        exact opGood_pure fun ρ w r hr hH => ⟨r a, by
          have := EvRel.one hr hc
          simp only [SC.Rel] at this
          simp [execOp, hop, this, asBool, h0], EvRel.v hr hb⟩
      · rename_i h0
        have h0 := truth_false hs h0
        obtain ⟨s, hb, rfl⟩ := outV_ok h
        exact opGood_pure fun ρ w r hr hH => ⟨r b, by
          have := EvRel.one hr hc
          simp only [SC.Rel] at this
          simp [execOp, hop, this, asBool, h0], EvRel.v hr hb⟩
      · cases h
    · cases h
  · rename_i t hop
    split at h
    · rename_i ti ht
      split at h
      · rename_i Z hz
        obtain ⟨hlt, rfl⟩ := newOut_ok h
        refine opGood_new hlt fun ρ w r hr hH => ?_
        obtain ⟨v, h1, h2, h3⟩ := (hT _ _ ht).run_zero hz w
        refine ⟨v.cells, t, .pointer (some ⟨w.heap.size, 0, none⟩), by simp [execOp, hop, Instr.alloc, h1, newVar, newRow], fun ρ' hρ => ptrTo_rel hρ, fun j c hc => ?_⟩
        have hj : j < v.cells.size := by have := Lay.at_some hc; omega
        exact ⟨_, getElem?_pos _ j hj, h3 env ρ j c hc _ (getElem?_pos _ j hj)⟩
      · cases h
    · cases h
  · rename_i t x hop
    split at h
    · rename_i s hx
      split at h
      · rename_i hone
        obtain ⟨hlt, rfl⟩ := newOut_ok h
        refine opGood_new hlt fun ρ w r hr hH => ?_
        obtain ⟨h2, h3⟩ := sv_cells hone (EvRel.v hr hx)
        refine ⟨(r x).cells, t, .pointer (some ⟨w.heap.size, 0, none⟩), by simp [execOp, hop, Instr.box, newVar, newRow], fun ρ' hρ => ptrTo_rel hρ, fun j c hc => ?_⟩
        have hj : j < (r x).cells.size := by have := Lay.at_some hc; omega
        exact ⟨_, getElem?_pos _ j hj, h3 j c hc _ (getElem?_pos _ j hj)⟩
      · cases h
    · cases h
  · rename_i t ps hop
    split at h
    · rename_i l hl
      obtain ⟨s, hb, rfl⟩ := outV_ok h
      refine opGood_pure fun ρ w r hr hH => ?_
      obtain ⟨v, h1, h2⟩ := evBuild_sound hT hs hb (ρ := ρ) (vs := ps.map fun p => (p.1, r p.2)) (by simpa using evParts_rel hr hl) w
      exact ⟨v, by simp [execOp, hop, h1], h2⟩
    · cases h
  · rename_i t len ps hop
    split at h
    · rename_i l hl
      split at h
      · rename_i L A hb
        obtain ⟨hlt, rfl⟩ := newOut_ok h
        refine opGood_new hlt fun ρ w r hr hH => ?_
        obtain ⟨cs, e, h1, h2, h3⟩ := evBuildSlice_sound hT hs hb (ρ := ρ) (vs := ps.map fun p => (p.1, r p.2)) (by simpa using evParts_rel hr hl) w
        refine ⟨cs, e, _, by simp [execOp, hop, h1]; rfl, fun ρ' hρ => ?_, fun j c hc => ?_⟩
        · exact ⟨0, len, len, by rw [hρ], by simp [den], Nat.le_refl _, fun t ht => by cases ht; simp [den], fun _ => by simp [den]⟩
        · have hj : j < cs.size := by have := Lay.at_some hc; omega
          exact ⟨_, getElem?_pos _ j hj, h3 j c hc _ (getElem?_pos _ j hj)⟩
      · cases h
    · cases h
  · rename_i t x hop
    split at h
    · rename_i s hx
      obtain ⟨s', hb, rfl⟩ := outV_ok h
      refine opGood_pure fun ρ w r hr hH => ?_
      obtain ⟨v, h1, h2⟩ := evLoad_sound hT hs hb hH (EvRel.one hr hx)
      exact ⟨v, by simp [execOp, hop, h1], h2⟩
    · cases h
  · rename_i t x y hop
    split at h
    · rename_i s v hx hy
      split at h
      · rename_i hlt
        split at h
        · rename_i u hu
          cases h
          refine opGood_of_run fun ρ w r hr hH _ => ?_
          obtain ⟨w', h1, h2⟩ := evStore_sound hT hs hu hlt hH (EvRel.one hr hx) (EvRel.v hr hy)
          exact ⟨ρ, undef, w', by simp [execOp, hop, h1, nxt], h2, fun s hs => by cases hs⟩
        · cases h
      · cases h
    · cases h
  · rename_i x hop
    split at h
    · rename_i s hx
      split at h
      · rename_i hn
        cases h
        refine opGood_pure fun ρ w r hr hH => ?_
        have hr' := EvRel.one hr hx
        refine ⟨r x, ?_, hr'⟩
        cases s with
        | ptr b o => obtain ⟨off, _, e⟩ := hr'; simp [execOp, hop, e]
        | func fn f c =>
          cases fn with
          | func fid => obtain ⟨fa, ca, e, _⟩ := hr'; simp [execOp, hop, e]
          | _ => simp [nilOk] at hn
        | _ => simp [nilOk] at hn
      · cases h
    · cases h
  · rename_i op t x y u hop
    split at h
    · rename_i a b hx hy
      obtain ⟨s, hb, h⟩ := Res.bind_ok h
      cases h
      refine opGood_pure fun ρ w r hr hH => ?_
      obtain ⟨z, h1, h2⟩ := evBin_sound hT hs (xo := x) (yo := y) (by intro hl; cases x <;> cases y <;> simp [Region.isConst] at hl ⊢) hb (EvRel.v hr hx) (EvRel.v hr hy) w
      exact ⟨z, by simp only [execOp, hop, Sem.run_bind, h1, Result.andThen_ok, Sem.run_pure], h2⟩
    · cases h
  · rename_i op t x hop
    split at h
    · rename_i s hx
      obtain ⟨s', hb, rfl⟩ := outS_ok h
      refine opGood_pure fun ρ w r hr hH => ?_
      obtain ⟨v, h1, h2⟩ := evUn_sound (P := P) hs hb (EvRel.one hr hx) w
      exact ⟨v, by simp [execOp, hop, h1], h2⟩
    · cases h
  · rename_i src dst x hop
    split at h
    · rename_i s hx
      obtain ⟨s', hb, rfl⟩ := outS_ok h
      refine opGood_pure fun ρ w r hr hH => ?_
      obtain ⟨v, h1, h2⟩ := evConvert_sound hT hs hb (EvRel.one hr hx) w
      exact ⟨v, by simp [execOp, hop, h1], h2⟩
    · cases h
  · rename_i t x hop
    split at h
    · rename_i s hx
      obtain ⟨s', hb, rfl⟩ := outS_ok h
      refine opGood_pure fun ρ w r hr hH => ?_
      obtain ⟨v, h1, h2⟩ := evIface_sound hT hb (EvRel.one hr hx) w
      exact ⟨v, by simp [execOp, hop, h1], h2⟩
    · cases h
  · rename_i fn first caps hop
    split at h
    · rename_i a b ha hb
      cases h
      refine opGood_pure fun ρ w r hr hH => ?_
      refine ⟨.func fn (first.map r) (caps.map r), by simp [execOp, hop, Instr.makeFunc], _, _, rfl, ?_, ?_⟩
      · simpa using evPtrs_rel hr ha
      · simpa using evPtrs_rel hr hb
    · cases h
  · rename_i t l c hop
    split at h
    · rename_i a b ha hb
      split at h
      · rename_i bl lt ct hm
        obtain ⟨hlt, rfl⟩ := newOut_ok h
        refine opGood_new hlt fun ρ w r hr hH => ?_
        obtain ⟨cs, e, L, C, h1, h2, h3, h4, h5⟩ := evMake_sound hT hs hm (EvRel.one hr ha) (EvRel.one hr hb) w
        refine ⟨cs, e, _, by simp [execOp, hop, h1]; rfl, fun ρ' hρ => ?_, h5⟩
        exact ⟨0, L, C, by rw [hρ], h2, h4, fun t ht => by cases ht; exact h3, fun _ => by simp [den]⟩
      · cases h
    · cases h
  · rename_i t x lo hi mx hop
    split at h
    · rename_i s hx
      split at h
      · rename_i l hh hl hhi
        obtain ⟨s', hb, rfl⟩ := outS_ok h
        refine opGood_pure fun ρ w r hr hH => ?_
        obtain ⟨v, h1, h2⟩ := evSlice_sound hT hs hb (EvRel.one hr hx) (evOpt_rel hr hl) (evOpt_rel hr hhi) w
        exact ⟨v, by simp [execOp, hop, h1], h2⟩
      · cases h
    · cases h
  · rename_i t x f hop
    split at h
    · rename_i s hx
      obtain ⟨s', hb, rfl⟩ := outS_ok h
      refine opGood_pure fun ρ w r hr hH => ?_
      obtain ⟨v, h1, h2⟩ := evFieldAddr_sound hT hb (EvRel.one hr hx) w
      exact ⟨v, by simp [execOp, hop, h1], h2⟩
    · cases h
  · rename_i t x f hop
    split at h
    · rename_i s hx
      obtain ⟨s', hb, rfl⟩ := outV_ok h
      refine opGood_pure fun ρ w r hr hH => ?_
      obtain ⟨v, h1, h2⟩ := evField_sound hT hs hb (EvRel.v hr hx) w
      exact ⟨v, by simp [execOp, hop, h1], h2⟩
    · cases h
  · rename_i t x i hop
    split at h
    · rename_i s j hx hi
      obtain ⟨s', hb, rfl⟩ := outS_ok h
      refine opGood_pure fun ρ w r hr hH => ?_
      obtain ⟨v, h1, h2⟩ := evIndexAddr_sound hT hs hb (EvRel.one hr hx) (EvRel.one hr hi) w
      exact ⟨v, by simp [execOp, hop, h1], h2⟩
    · cases h
  · rename_i t x i hop
    split at h
    · rename_i s j hx hi
      obtain ⟨s', hb, rfl⟩ := outV_ok h
      refine opGood_pure fun ρ w r hr hH => ?_
      obtain ⟨v, h1, h2⟩ := evIndex_sound hT hs hb (EvRel.v hr hx) (EvRel.one hr hi) w
      exact ⟨v, by simp [execOp, hop, h1], h2⟩
    · cases h
  · rename_i x i hop
    split at h
    · rename_i l hx
      obtain ⟨s', hb, rfl⟩ := outV_ok h
      refine opGood_pure fun ρ w r hr hH => ?_
      obtain ⟨vs, e, h1⟩ := hr x _ hx
      obtain ⟨v, h2, h3⟩ := listGet_rel hb h1
      have h2' : vs[i]? = some v := by simpa using h2
      exact ⟨v, by simp [execOp, hop, e, Instr.extract, h2'], h3⟩
    · cases h
  · rename_i c hop
    split at h
    · rename_i hcl
      split at h
      · rename_i x hargs
        have hargs' : c.args = #[x] := Array.ext' hargs
        split at h
        · rename_i s hx
          obtain ⟨s', hb, rfl⟩ := outS_ok h
          refine opGood_pure fun ρ w r hr hH => ?_
          obtain ⟨v, h1, h2⟩ := evLen_sound (P := P) hT (ty := o.type) hb (EvRel.v hr hx) w
          exact ⟨v, by simp [execOp, hop, resolve, hcl, hargs', invoke, builtin, h1], h2⟩
        · cases h
      · cases h
    · rename_i hcl
      split at h
      · rename_i a l hargs
        obtain ⟨s', hb, rfl⟩ := outS_ok h
        refine opGood_pure fun ρ w r hr hH => ?_
        have hl := evList_rel hr hargs
        cases hc : c.args.toList with
        | nil => rw [hc] at hl; exact hl.elim
        | cons x xs =>
          rw [hc] at hl
          obtain ⟨v, h1, h2⟩ := mins_sound (P := P) hs w l (xs.map r) a s' (r x) hb hl.1 hl.2
          have : (c.args.map r).toList = r x :: xs.map r := by simp [hc]
          exact ⟨v, by simp [execOp, hop, resolve, hcl, invoke, builtin, Builtin.min_, hc, h1], h2⟩
      · cases h
    · rename_i hcl
      split at h
      · rename_i a l hargs
        obtain ⟨s', hb, rfl⟩ := outS_ok h
        refine opGood_pure fun ρ w r hr hH => ?_
        have hl := evList_rel hr hargs
        cases hc : c.args.toList with
        | nil => rw [hc] at hl; exact hl.elim
        | cons x xs =>
          rw [hc] at hl
          obtain ⟨v, h1, h2⟩ := maxs_sound (P := P) hs w l (xs.map r) a s' (r x) hb hl.1 hl.2
          exact ⟨v, by simp [execOp, hop, resolve, hcl, invoke, builtin, Builtin.max_, hc, h1], h2⟩
      · cases h
    · cases h
  · cases h

end Go.Sx
