/- A part of the reckoning with symbols: states, terms and their meaning, used by the proofs of this seat. -/
import Derived.Test.YtpndnejabebfeaaGreatSxT
/-! From a tree of what was reckoned to the law; tables. -/
namespace Go.Sx

/-! ### A tree whose leaves are all good -/

def Tm.lt (n : Nat) : Tm → Bool
  | .v i => Nat.blt i n
  | .lit _ => true
  | .b2 _ a b => a.lt n && b.lt n
  | .wrap _ a => a.lt n
  | .not a => a.lt n
  | .ite c a b => c.lt n && a.lt n && b.lt n
  | .get a i => a.lt n && i.lt n
  | .upd a i e => a.lt n && i.lt n && e.lt n
  | .shf a o => a.lt n && o.lt n
  | .spl a o _ b => a.lt n && o.lt n && b.lt n
  | .nil => true
  | .cons e r => e.lt n && r.lt n
  | .rep _ => true
  | .aeq _ a b => a.lt n && b.lt n

theorem den_lt {n : Nat} {env env' : Env} (h : ∀ i, i < n → env' i = env i) (t : Tm) (ht : t.lt n = true) : den env' t = den env t := by
  induction t with
  | v i => simp only [Tm.lt, Nat.blt_eq] at ht; exact h i ht
  | lit k => rfl
  | nil => rfl
  | rep k => rfl
  | wrap k a ih => simp only [den, ih ht]
  | not a ih => simp only [den, ih ht]
  | b2 o a b iha ihb => simp only [Tm.lt, Bool.and_eq_true] at ht; simp only [den, iha ht.1, ihb ht.2]
  | get a b iha ihb => simp only [Tm.lt, Bool.and_eq_true] at ht; simp only [den, iha ht.1, ihb ht.2]
  | shf a b iha ihb => simp only [Tm.lt, Bool.and_eq_true] at ht; simp only [den, iha ht.1, ihb ht.2]
  | cons a b iha ihb => simp only [Tm.lt, Bool.and_eq_true] at ht; simp only [den, iha ht.1, ihb ht.2]
  | aeq k a b iha ihb => simp only [Tm.lt, Bool.and_eq_true] at ht; simp only [den, iha ht.1, ihb ht.2]
  | ite c a b ihc iha ihb => simp only [Tm.lt, Bool.and_eq_true] at ht; simp only [den, ihc ht.1.1, iha ht.1.2, ihb ht.2]
  | upd a b c iha ihb ihc => simp only [Tm.lt, Bool.and_eq_true] at ht; simp only [den, iha ht.1.1, ihb ht.1.2, ihc ht.2]
  | spl a b k c iha ihb ihc => simp only [Tm.lt, Bool.and_eq_true] at ht; simp only [den, iha ht.1.1, ihb ht.1.2, ihc ht.2]

def tmsLt (n : Nat) : List Tm → Bool
  | [] => true
  | t :: r => t.lt n && tmsLt n r

theorem den_tms {n : Nat} {env env' : Env} (h : ∀ i, i < n → env' i = env i) : ∀ l : List Tm, tmsLt n l = true → l.map (den env') = l.map (den env) := by
  intro l
  induction l with
  | nil => intro _; rfl
  | cons t r ih =>
    intro hl
    simp only [tmsLt, Bool.and_eq_true] at hl
    simp only [List.map_cons, den_lt h t hl.1, ih hl.2]

def Tree.ok {α : Type} (nv : Nat) : Tree α → Bool
  | .leaf _ => true
  | .node c l r => c.lt nv && l.ok nv && r.ok nv
  | .bind n m _ args k => Nat.beq n nv && tmsLt nv args && k.ok (nv + m)
  | .err _ => false

/-- The same where nothing is bound. -/
def Tree.okN {α : Type} : Tree α → Bool
  | .leaf _ => true
  | .node _ l r => l.okN && r.okN
  | .bind _ _ _ _ _ => false
  | .err _ => false

theorem Tree.okN_path {α : Type} (env : Env) : ∀ t : Tree α, t.okN = true → ∃ L, Path env t L := by
  intro t
  induction t with
  | leaf a => intro _; exact ⟨a, rfl⟩
  | node c l r ihl ihr =>
    intro h
    simp only [Tree.okN, Bool.and_eq_true] at h
    simp only [Path]
    split
    · exact ihr h.2
    · exact ihl h.1
  | bind n m sem args k ih => intro h; cases h
  | err s => intro h; cases h

theorem Tree.ok_path {α : Type} : ∀ (t : Tree α) (nv : Nat) (env : Env), t.ok nv = true → ∃ env', (∀ i, i < nv → env' i = env i) ∧ ∃ L, Path env' t L := by
  intro t
  induction t with
  | leaf a => intro nv env _; exact ⟨env, fun _ _ => rfl, a, rfl⟩
  | node c l r ihl ihr =>
    intro nv env h
    simp only [Tree.ok, Bool.and_eq_true] at h
    by_cases hc : (den env c).i = 0
    · obtain ⟨env', h1, L, h2⟩ := ihr nv env h.2
      refine ⟨env', h1, L, ?_⟩
      simp only [Path]
      rw [den_lt h1 c h.1.1, if_pos hc]; exact h2
    · obtain ⟨env', h1, L, h2⟩ := ihl nv env h.1.2
      refine ⟨env', h1, L, ?_⟩
      simp only [Path]
      rw [den_lt h1 c h.1.1, if_neg hc]; exact h2
  | bind n m sem args k ih =>
    intro nv env h
    simp only [Tree.ok, Bool.and_eq_true, Nat.beq_eq] at h
    obtain ⟨⟨rfl, h2⟩, h3⟩ := h
    obtain ⟨env', h4, L, h5⟩ := ih (n + m) (fun i => if n ≤ i ∧ i < n + m then (sem (args.map (den env))).getD (i - n) default else env i) h3
    have h6 : ∀ i, i < n → env' i = env i := fun i hi => by rw [h4 i (by omega), if_neg (by omega)]
    refine ⟨env', h6, L, ?_, h5⟩
    intro j hj
    rw [h4 (n + j) (by omega), if_pos (by omega), den_tms h6 args h2]
    congr 1; omega
  | err s => intro nv env h; cases h

/-! ### A law -/

def allGe (n : Nat) : List Nat → Bool
  | [] => true
  | i :: r => Nat.ble n i && allGe n r

theorem allGe_at {n : Nat} : ∀ {l : List Nat}, allGe n l = true → ∀ i ∈ l, n ≤ i := by
  intro l
  induction l with
  | nil => intro _ i h; cases h
  | cons a r ih =>
    intro h i hi
    simp only [allGe, Bool.and_eq_true, Nat.ble_eq] at h
    rcases List.mem_cons.1 hi with rfl | hi
    · exact h.1
    · exact ih h.2 i hi

def lawEnd (C : Cfg) (nb : Nat) (rs : List ResultVar) : Rs → Tree Unit
  | .at (.exit _) _ => .err "exit"
  | .at _ st =>
    match resVals C.tab st rs with
    | some [.sc (.bool e)] =>
      match truth st.fs e with
      | some true => bind2 (allGe nb st.wr) (.leaf ()) (.err "writes")
      | some false => .err "false"
      | none => .err "may be false"
    | _ => .err "result"
  | .out _ _ _ => .err "out"

def lawStart (fn : Func) (as : List SV) (hp : Heap) (nb nv : Nat) (fs : List Fact) : St := { fr := frameOf 0 as, nt := fn.ntmps, hp := hp, nb := nb, nv := nv, fs := fs, wr := [] }

def lawTree (C : Cfg) (fuel : Nat) (fn : Func) (body : Code) (as : List SV) (hp : Heap) (nb nv : Nat) (fs : List Fact) : Tree Unit :=
  run C fuel (.code body) (lawStart fn as hp nb nv fs) (lawEnd C nb fn.results.toList)

theorem law_calls {P : Program} {C : Cfg} (hC : CfgOk P C) {f : FuncId} {fn : Func} {body : Code} (hf : P.funcs[f]? = some fn) (hb : fn.body = some body) {fuel : Nat} {as : List SV} {hp : Heap} {nb nv : Nat} {fs : List Fact} {env : Env}
    (hpath : ∃ L, Path env (lawTree C fuel fn body as hp nb nv fs) L) (h1 : (Nat.ble as.length fn.ntmps && SVsLt nb as && HeapLt nb hp) = true) (hs : Sat env fs) {ρ : Rho} {w : World} {vs : List Value} (hvs : SVsRel env ρ as vs)
    (hH : HRel env ρ (fun i => look i hp) w) (hS : SepK ρ (fun i => look i hp)) :
    Calls P f vs.toArray w fun e w' => e = .returned (.bool true) ∧ RowKit.Below w.heap.size w w' := by
  obtain ⟨L, hL⟩ := hpath
  obtain ⟨r, h2, h3⟩ := run_sound hC fuel (.code body) (lawStart fn as hp nb nv fs) _ L hs hL
  cases r with
  | out o nv fs => exact h3.elim
  | «at» ex st' =>
    obtain ⟨g1, g2, g3⟩ := h3
    simp only [Bool.and_eq_true, Nat.ble_eq] at h1
    let B : Base := ⟨nb, w, ρ, fun i => look i hp⟩
    have hRR : RR env B (lawStart fn as hp nb nv fs) ρ w := by
      refine ⟨RhoEq.refl _ _, Nat.le_refl _, hH, hS, h1.2, fun i b hb _ => ⟨b, hb, id⟩, fun i b hb hi => ?_, fun i hi => (by cases hi), Fr.refl _ _⟩
      have := (HeapLt.at h1.2 hb).1
      have h' : nb ≤ i := hi
      omega
    have hlen := hvs.length
    have hFR : FR env (lawStart fn as hp nb nv fs) ρ { tmps := vs.toArray ++ Array.replicate (fn.ntmps - vs.toArray.size) undef, defers := [] } := by
      refine ⟨rfl, by simp [lawStart]; omega, fun t s hs => ?_, fun t s hs => ?_⟩
      · obtain ⟨_, g2, g3, _⟩ := frameOf_look hs hvs h1.1.2
        exact ⟨by simp [lawStart] at g2 ⊢; omega, g3⟩
      · obtain ⟨_, g2, _, v, g4, g5⟩ := frameOf_look hs hvs h1.1.2
        have : (vs.toArray ++ Array.replicate (fn.ntmps - vs.toArray.size) undef).getD t undef = v := by
          have hlt : t < vs.length := by simp at g2; omega
          simp only [Array.getD_eq_getD_getElem?]
          rw [Array.getElem?_append_left (by simpa using hlt)]
          simp only [Nat.sub_zero] at g4
          simp [g4]
        dsimp only
        rw [this]; exact g5
    have fin : (∀ i, ex ≠ .exit i) → (∃ e, resVals C.tab st' fn.results.toList = some [.sc (.bool e)] ∧ (den env e).i ≠ 0 ∧ allGe nb st'.wr = true) →
        Calls P f vs.toArray w fun e w' => e = .returned (.bool true) ∧ RowKit.Below w.heap.size w w' := by
      rintro hex ⟨e, k1, k2, k3⟩
      refine calls_of_wp hf hb (wp_mono (g3 B ρ _ w hRR hFR) ?_)
      rintro x a' w' ⟨rfl, ρ', hRR', hFR'⟩
      obtain ⟨v, q1, q2⟩ := results_run (P := P) hC.tab g1 hFR' hRR'.heap k1
      have hv : v = .bool true := by
        have : v = .bool (decide ((den env e).i ≠ 0)) := q2
        rw [this, decide_eq_true k2]
      subst hv
      have hbel : RowKit.Below w.heap.size w w' := by
        refine Fr.below (hRR'.fr.mono fun k _ hk => ?_)
        obtain ⟨i, i1, i2, _⟩ := hk
        have := allGe_at k3 i i1
        have h' : i < nb := i2
        omega
      cases ex with
      | normal => exact ⟨hFR'.df, _, q1, rfl, hbel⟩
      | ret => exact ⟨hFR'.df, _, q1, rfl, hbel⟩
      | exit i => exact absurd rfl (hex i)
    have get : Path env (match resVals C.tab st' fn.results.toList with
        | some [.sc (.bool e)] =>
          match truth st'.fs e with
          | some true => bind2 (allGe nb st'.wr) (.leaf ()) (.err "writes")
          | some false => .err "false"
          | none => .err "may be false"
        | _ => .err "result" : Tree Unit) L → ∃ e, resVals C.tab st' fn.results.toList = some [.sc (.bool e)] ∧ (den env e).i ≠ 0 ∧ allGe nb st'.wr = true := by
      intro hp
      split at hp
      · rename_i e he
        split at hp
        · rename_i ht
          obtain ⟨k1, _⟩ := path_bind2 hp
          exact ⟨e, he, truth_true g1 ht, k1⟩
        · exact hp.elim
        · exact hp.elim
      · exact hp.elim
    cases ex with
    | normal => exact fin (fun i e => by cases e) (get h2)
    | ret => exact fin (fun i e => by cases e) (get h2)
    | exit i => exact h2.elim

/-! ### Tables -/

def zeroIs : CK → Value → Bool
  | .int k, .int l n => keq k l && ieq n 0
  | .bool, .bool b => !b
  | .fix (.val u), v => vbeq u v
  | _, _ => false

/-- Do cells stand as a layout says, all with zero? -/
def zeroGo (c : CK) (n : Nat) (L : Lay) : List Value → Bool
  | [] => Nat.beq n 0 && (match L with
    | [] => true
    | _ => false)
  | v :: r =>
    match n, L with
    | n + 1, L => zeroIs c v && zeroGo c n L r
    | 0, (d, m) :: L => !(Nat.beq m 0) && (zeroIs d v && zeroGo d (m - 1) L r)
    | 0, [] => false

theorem zeroGo_ok : ∀ (l : List Value) (c : CK) (n : Nat) (L : Lay), zeroGo c n L l = true → l.length = n + Lay.size L ∧ ∀ j d, Lay.at ((c, n) :: L) j = some d → ∀ u, l[j]? = some u → zeroIs d u = true := by
  intro l
  induction l with
  | nil =>
    intro c n L h
    simp only [zeroGo, Bool.and_eq_true, Nat.beq_eq] at h
    obtain ⟨h1, h2⟩ := h
    cases L with
    | nil => subst h1; exact ⟨rfl, fun j d _ u hu => by simp at hu⟩
    | cons p L => cases h2
  | cons v r ih =>
    intro c n L h
    cases n with
    | succ n =>
      simp only [zeroGo, Bool.and_eq_true] at h
      obtain ⟨h1, h2⟩ := ih c n L h.2
      refine ⟨by simp only [List.length_cons, h1]; omega, fun j d hd u hu => ?_⟩
      cases j with
      | zero =>
        simp only [Lay.at, Nat.blt_eq] at hd
        rw [if_pos (by omega)] at hd
        cases hd
        simp only [List.getElem?_cons_zero, Option.some.injEq] at hu
        rw [← hu]; exact h.1
      | succ j =>
        refine h2 j d ?_ u (by simpa using hu)
        simp only [Lay.at, Nat.blt_eq] at hd ⊢
        by_cases hj : j < n
        · rw [if_pos (by omega)] at hd; rw [if_pos hj]; exact hd
        · rw [if_neg (by omega)] at hd; rw [if_neg hj]
          rw [← hd]; congr 1; omega
    | zero =>
      cases L with
      | nil => simp [zeroGo] at h
      | cons p L =>
        obtain ⟨e, m⟩ := p
        simp only [zeroGo, Bool.and_eq_true, Bool.not_eq_true'] at h
        obtain ⟨h0, h1, h2⟩ := h
        have hm : m ≠ 0 := Nat.ne_of_beq_eq_false h0
        obtain ⟨h3, h4⟩ := ih e (m - 1) L h2
        refine ⟨by simp only [List.length_cons, h3, Lay.size]; omega, fun j d hd u hu => ?_⟩
        simp only [Lay.at, Nat.blt_eq] at hd
        rw [if_neg (by omega)] at hd
        simp only [Nat.sub_zero] at hd
        cases j with
        | zero =>
          rw [if_pos (by omega)] at hd
          cases hd
          simp only [List.getElem?_cons_zero, Option.some.injEq] at hu
          rw [← hu]; exact h1
        | succ j =>
          refine h4 j d ?_ u (by simpa using hu)
          simp only [Lay.at, Nat.blt_eq]
          by_cases hj : j < m - 1
          · rw [if_pos (by omega)] at hd; rw [if_pos hj]; exact hd
          · rw [if_neg (by omega)] at hd; rw [if_neg hj]
            rw [← hd]; congr 1; omega

theorem zeroIs_rel {env : Env} {ρ : Rho} {d : CK} {u : Value} (h : zeroIs d u = true) (j : Int) : d.Rel env ρ (den env (.rep 0)).a j u := by
  cases d with
  | int k =>
    cases u <;> simp [zeroIs] at h
    rw [keq_eq h.1, ieq_iff.1 h.2]; rfl
  | bool => cases u <;> simp [zeroIs] at h; rw [h]; rfl
  | fix s =>
    cases s <;> simp [zeroIs] at h
    rw [vbeq_eq h]; rfl

def tiChk (x : TI) (i : TypeInfo) : Bool :=
  Nat.beq i.size x.size && Nat.beq i.bytes x.bytes && (match x.zero with
  | none => true
  | some L => match i.zero with
    | some v => zeroGo .bool 0 L v.cells.toList
    | none => false)

theorem tiOk {P : Program} {t : Nat} {x : TI} {i : TypeInfo} (hu : P.underlying t = some x.desc) (hi : P.info? t = some i) (h : tiChk x i = true)
    (he : x.eqok = true → P.stoodInHeld t = false ∧ P.eqGuardType P.depth t = false) : TIOk P t x := by
  simp only [tiChk, Bool.and_eq_true, Nat.beq_eq] at h
  obtain ⟨⟨h1, h2⟩, h3⟩ := h
  refine ⟨hu, ⟨i, hi, h1, h2, fun L hL => ?_⟩, he⟩
  rw [hL] at h3
  dsimp only at h3
  split at h3
  · rename_i v hv
    obtain ⟨g1, g2⟩ := zeroGo_ok _ _ _ _ h3
    refine ⟨v, hv, by simpa using g1, fun env ρ j c hc u hu => ?_⟩
    refine zeroIs_rel (g2 j c ?_ u (by simpa using hu)) j
    simp only [Lay.at, Nat.blt_eq]
    rw [if_neg (by omega)]
    simpa using hc
  · cases h3

def TabAll (P : Program) : Tab → Prop
  | [] => True
  | (t, x) :: r => TIOk P t x ∧ TabAll P r

theorem TabAll.ok {P : Program} : ∀ {tab : Tab}, TabAll P tab → TabOk P tab := by
  intro tab
  induction tab with
  | nil => intro _ t x h; cases h
  | cons p r ih =>
    intro h t x hl
    obtain ⟨u, y⟩ := p
    simp only [look, Nat.beq_eq] at hl
    split at hl
    · rename_i e; subst e; cases hl; exact h.1
    · exact ih h.2 t x hl

def FunAll (P : Program) : List (Nat × Func) → Prop
  | [] => True
  | (f, fn) :: r => (P.funcs[f]? = some fn ∧ FunOk P f) ∧ FunAll P r

theorem FunAll.ok {P : Program} : ∀ {l : List (Nat × Func)}, FunAll P l → ∀ f fn, look f l = some fn → P.funcs[f]? = some fn ∧ FunOk P f := by
  intro l
  induction l with
  | nil => intro _ f fn h; cases h
  | cons p r ih =>
    intro h f fn hl
    obtain ⟨g, y⟩ := p
    simp only [look, Nat.beq_eq] at hl
    split at hl
    · rename_i e; subst e; cases hl; exact h.1
    · exact ih h.2 f fn hl

end Go.Sx
