/- A part of the reckoning with symbols: states, terms and their meaning, used by the proofs of this seat. -/
import Derived.Test.YtpndnejabebfeaaGreatDoorSxP
/-! Which variables a state names; a loop whose rounds forget what they do. -/
noncomputable section
namespace Go.Sx

/-! ### A tree whose leaves are all good -/

def Tm.lt (n : Nat) : Tm → Bool
  | .v i => Nat.blt i n
  | .lit _ => true
  | .b2 _ a b => a.lt n && b.lt n
  | .wrap _ a => a.lt n
  | .not a => a.lt n
  | .ite c a b => c.lt n && a.lt n && b.lt n
  | .get a i => a.lt n && i.lt n
  | .upd a i e => a.lt n && i.lt n && e.lt n
  | .shf a o => a.lt n && o.lt n
  | .spl a o _ b => a.lt n && o.lt n && b.lt n
  | .nil => true
  | .cons e r => e.lt n && r.lt n
  | .rep _ => true
  | .aeq _ a b => a.lt n && b.lt n

theorem den_lt {n : Nat} {env env' : Env} (h : ∀ i, i < n → env' i = env i) (t : Tm) (ht : t.lt n = true) : den env' t = den env t := by
  induction t with
  | v i => simp only [Tm.lt, Nat.blt_eq] at ht; exact h i ht
  | lit k => rfl
  | nil => rfl
  | rep k => rfl
  | wrap k a ih => simp only [den, ih ht]
  | not a ih => simp only [den, ih ht]
  | b2 o a b iha ihb => simp only [Tm.lt, Bool.and_eq_true] at ht; simp only [den, iha ht.1, ihb ht.2]
  | get a b iha ihb => simp only [Tm.lt, Bool.and_eq_true] at ht; simp only [den, iha ht.1, ihb ht.2]
  | shf a b iha ihb => simp only [Tm.lt, Bool.and_eq_true] at ht; simp only [den, iha ht.1, ihb ht.2]
  | cons a b iha ihb => simp only [Tm.lt, Bool.and_eq_true] at ht; simp only [den, iha ht.1, ihb ht.2]
  | aeq k a b iha ihb => simp only [Tm.lt, Bool.and_eq_true] at ht; simp only [den, iha ht.1, ihb ht.2]
  | ite c a b ihc iha ihb => simp only [Tm.lt, Bool.and_eq_true] at ht; simp only [den, ihc ht.1.1, iha ht.1.2, ihb ht.2]
  | upd a b c iha ihb ihc => simp only [Tm.lt, Bool.and_eq_true] at ht; simp only [den, iha ht.1.1, ihb ht.1.2, ihc ht.2]
  | spl a b k c iha ihb ihc => simp only [Tm.lt, Bool.and_eq_true] at ht; simp only [den, iha ht.1.1, ihb ht.1.2, ihc ht.2]

def tmsLt (n : Nat) : List Tm → Bool
  | [] => true
  | t :: r => t.lt n && tmsLt n r

theorem den_tms {n : Nat} {env env' : Env} (h : ∀ i, i < n → env' i = env i) : ∀ l : List Tm, tmsLt n l = true → l.map (den env') = l.map (den env) := by
  intro l
  induction l with
  | nil => intro _; rfl
  | cons t r ih =>
    intro hl
    simp only [tmsLt, Bool.and_eq_true] at hl
    simp only [List.map_cons, den_lt h t hl.1, ih hl.2]

def Tree.ok {α : Type} (nv : Nat) : Tree α → Bool
  | .leaf _ => true
  | .node c l r => c.lt nv && l.ok nv && r.ok nv
  | .bind n m _ args k => Nat.beq n nv && tmsLt nv args && k.ok (nv + m)
  | .err _ => false

/-- The same where nothing is bound. -/
def Tree.okN {α : Type} : Tree α → Bool
  | .leaf _ => true
  | .node _ l r => l.okN && r.okN
  | .bind _ _ _ _ _ => false
  | .err _ => false

theorem Tree.okN_path {α : Type} (env : Env) : ∀ t : Tree α, t.okN = true → ∃ L, Path env t L := by
  intro t
  induction t with
  | leaf a => intro _; exact ⟨a, rfl⟩
  | node c l r ihl ihr =>
    intro h
    simp only [Tree.okN, Bool.and_eq_true] at h
    simp only [Path]
    split
    · exact ihr h.2
    · exact ihl h.1
  | bind n m sem args k ih => intro h; cases h
  | err s => intro h; cases h

theorem Tree.ok_path {α : Type} : ∀ (t : Tree α) (nv : Nat) (env : Env), t.ok nv = true → ∃ env', (∀ i, i < nv → env' i = env i) ∧ ∃ L, Path env' t L := by
  intro t
  induction t with
  | leaf a => intro nv env _; exact ⟨env, fun _ _ => rfl, a, rfl⟩
  | node c l r ihl ihr =>
    intro nv env h
    simp only [Tree.ok, Bool.and_eq_true] at h
    by_cases hc : (den env c).i = 0
    · obtain ⟨env', h1, L, h2⟩ := ihr nv env h.2
      refine ⟨env', h1, L, ?_⟩
      simp only [Path]
      rw [den_lt h1 c h.1.1, if_pos hc]; exact h2
    · obtain ⟨env', h1, L, h2⟩ := ihl nv env h.1.2
      refine ⟨env', h1, L, ?_⟩
      simp only [Path]
      rw [den_lt h1 c h.1.1, if_neg hc]; exact h2
  | bind n m sem args k ih =>
    intro nv env h
    simp only [Tree.ok, Bool.and_eq_true, Nat.beq_eq] at h
    obtain ⟨⟨rfl, h2⟩, h3⟩ := h
    obtain ⟨env', h4, L, h5⟩ := ih (n + m) (fun i => if n ≤ i ∧ i < n + m then (sem (args.map (den env))).getD (i - n) default else env i) h3
    have h6 : ∀ i, i < n → env' i = env i := fun i hi => by rw [h4 i (by omega), if_neg (by omega)]
    refine ⟨env', h6, L, ?_, h5⟩
    intro j hj
    rw [h4 (n + j) (by omega), if_pos (by omega), den_tms h6 args h2]
    congr 1; omega
  | err s => intro nv env h; cases h

/-! ### Which variables a state names -/

section
variable (n : Nat)
def ptrsT : List (Nat × Tm) → Bool
  | [] => true
  | (_, o) :: r => o.lt n && ptrsT r

def optT : Option Tm → Bool
  | some t => t.lt n
  | none => true

def SC.tlt : SC → Bool
  | .int _ e => e.lt n
  | .bool e => e.lt n
  | .val _ => true
  | .ptr _ o => o.lt n
  | .slice _ o l c => o.lt n && l.lt n && optT n c
  | .func _ a c => ptrsT n a && ptrsT n c
  | .iface _ s => SC.tlt s
  | .mapv _ => true
  | .junk => true

def CK.tlt : CK → Bool
  | .fix s => s.tlt n
  | _ => true

def Lay.tlt : Lay → Bool
  | [] => true
  | (c, _) :: r => c.tlt n && Lay.tlt r

def SV.tlt : SV → Bool
  | .sc s => s.tlt n
  | .agg L A => Lay.tlt n L && A.lt n

def SVsT : List SV → Bool
  | [] => true
  | s :: r => s.tlt n && SVsT r

def Sl.tlt : Sl → Bool
  | .sv s => s.tlt n
  | .tup l => SVsT n l

def BL.tlt : BL → Bool
  | .fixed L => Lay.tlt n L
  | .dyn c t => c.tlt n && t.lt n
  | .mp _ => true

def heapT : Heap → Bool
  | [] => true
  | (_, b) :: r => b.lay.tlt n && b.A.lt n && heapT r

def frT : List (Nat × Sl) → Bool
  | [] => true
  | (_, s) :: r => s.tlt n && frT r

def Fact.tlt : Fact → Bool
  | .iv t _ _ => t.lt n
  | .el a _ _ _ _ => a.lt n

def factsT' : List Fact → Bool
  | [] => true
  | f :: r => f.tlt n && factsT' r
end

def Upto (n : Nat) (env env' : Env) : Prop := ∀ i, i < n → env' i = env i

section
variable {n : Nat} {env env' : Env} {ρ : Rho} (h : Upto n env env')
include h

theorem PtrsRel.upto : ∀ {l : List (Nat × Tm)} {vs : List Value}, ptrsT n l = true → PtrsRel env ρ l vs → PtrsRel env' ρ l vs := by
  intro l
  induction l with
  | nil => intro vs _ hr; cases vs <;> simp [PtrsRel] at hr ⊢
  | cons q r ih =>
    intro vs hl hr
    obtain ⟨b, o⟩ := q
    simp only [ptrsT, Bool.and_eq_true] at hl
    cases vs with
    | nil => simp [PtrsRel] at hr
    | cons v vs =>
      obtain ⟨⟨off, h1, h2⟩, hr⟩ := hr
      exact ⟨⟨off, by rw [den_lt h _ hl.1]; exact h1, h2⟩, ih hl.2 hr⟩

theorem SC.Rel.upto : ∀ {s : SC} {v : Value}, s.tlt n = true → s.Rel env ρ v → s.Rel env' ρ v := by
  intro s
  induction s with
  | int k e => intro v hl hr; simp only [SC.Rel, den_lt h e hl]; exact hr
  | bool e => intro v hl hr; simp only [SC.Rel, den_lt h e hl]; exact hr
  | ptr b o =>
    intro v hl hr
    obtain ⟨off, h1, h2⟩ := hr
    exact ⟨off, by rw [den_lt h o hl]; exact h1, h2⟩
  | slice b o l c =>
    intro v hl hr
    simp only [SC.tlt, Bool.and_eq_true] at hl
    obtain ⟨off, len, cap, g1, g2, g3, g4, g5⟩ := hr
    refine ⟨off, len, cap, g1, by rw [den_lt h l hl.1.2]; exact g2, g3, fun t ht => ?_, fun hc => by rw [den_lt h o hl.1.1]; exact g5 hc⟩
    subst ht
    have h4 := hl.2
    rw [den_lt h t h4]; exact g4 t rfl
  | func fn f c =>
    intro v hl hr
    simp only [SC.tlt, Bool.and_eq_true] at hl
    obtain ⟨fa, ca, h1, h2, h3⟩ := hr
    exact ⟨fa, ca, h1, PtrsRel.upto h hl.1 h2, PtrsRel.upto h hl.2 h3⟩
  | iface t s ih =>
    intro v hl hr
    obtain ⟨u, h1, h2⟩ := hr
    exact ⟨u, h1, ih hl h2⟩
  | _ => intro v _ hr; exact hr

theorem CK.Rel.upto {c : CK} {A : Int → Int} {j : Int} {v : Value} (hl : c.tlt n = true) (hr : c.Rel env ρ A j v) : c.Rel env' ρ A j v := by
  cases c with
  | fix s => exact SC.Rel.upto h hl hr
  | _ => exact hr

theorem SV.Rel.upto {s : SV} {v : Value} (hl : s.tlt n = true) (hr : s.Rel env ρ v) : s.Rel env' ρ v := by
  cases s with
  | sc s => exact SC.Rel.upto h hl hr
  | agg L A =>
    simp only [SV.tlt, Bool.and_eq_true] at hl
    obtain ⟨cs, h1, h2, h3⟩ := hr
    refine ⟨cs, h1, h2, fun j c hc u hu => ?_⟩
    rw [den_lt h A hl.2]
    refine CK.Rel.upto h ?_ (h3 j c hc u hu)
    have : ∀ {M : Lay} {j : Nat} {c : CK}, Lay.tlt n M = true → Lay.at M j = some c → c.tlt n = true := by
      intro M
      induction M with
      | nil => intro j c _ hc; cases hc
      | cons q r ih =>
        intro j c hl hc
        obtain ⟨d, m⟩ := q
        simp only [Lay.tlt, Bool.and_eq_true] at hl
        simp only [Lay.at] at hc
        split at hc
        · cases hc; exact hl.1
        · exact ih hl.2 hc
    exact this hl.1 hc

theorem SVsRel.upto : ∀ {l : List SV} {vs : List Value}, SVsT n l = true → SVsRel env ρ l vs → SVsRel env' ρ l vs := by
  intro l
  induction l with
  | nil => intro vs _ hr; cases vs <;> simp [SVsRel] at hr ⊢
  | cons q r ih =>
    intro vs hl hr
    simp only [SVsT, Bool.and_eq_true] at hl
    cases vs with
    | nil => simp [SVsRel] at hr
    | cons v vs => exact ⟨SV.Rel.upto h hl.1 hr.1, ih hl.2 hr.2⟩

theorem Sl.Rel.upto {s : Sl} {v : Value} (hl : s.tlt n = true) (hr : s.Rel env ρ v) : s.Rel env' ρ v := by
  cases s with
  | sv s => exact SV.Rel.upto h hl hr
  | tup l => obtain ⟨vs, h1, h2⟩ := hr; exact ⟨vs, h1, SVsRel.upto h hl h2⟩

theorem BlkRel.upto {w : World} {q : Nat × Nat} {b : Blk} (hl : (b.lay.tlt n && b.A.lt n) = true) (hr : BlkRel env ρ w q b) : BlkRel env' ρ w q b := by
  simp only [Bool.and_eq_true] at hl
  refine ⟨?_, hr.2⟩
  intro j c hc
  have hc' : b.lay.at env j = some c ∧ c.tlt n = true := by
    cases hb : b.lay with
    | fixed L =>
      rw [hb] at hc
      have h1 := hl.1
      rw [hb] at h1
      have : ∀ {M : Lay} {j : Nat} {c : CK}, Lay.tlt n M = true → Lay.at M j = some c → c.tlt n = true := by
        intro M
        induction M with
        | nil => intro j c _ hc; cases hc
        | cons q r ih =>
          intro j c hl hc
          obtain ⟨d, m⟩ := q
          simp only [Lay.tlt, Bool.and_eq_true] at hl
          simp only [Lay.at] at hc
          split at hc
          · cases hc; exact hl.1
          · exact ih hl.2 hc
      exact ⟨hc, this h1 hc⟩
    | dyn d m =>
      rw [hb] at hc
      have h1 := hl.1
      rw [hb] at h1
      simp only [BL.tlt, Bool.and_eq_true] at h1
      simp only [BL.at, den_lt h m h1.2] at hc
      refine ⟨hc, ?_⟩
      split at hc
      · cases hc; exact h1.1
      · cases hc
    | mp es => rw [hb] at hc; cases hc
  obtain ⟨v, h1, h2, h3⟩ := hr.1 j c hc'.1
  exact ⟨v, h1, by rw [den_lt h b.A hl.2]; exact CK.Rel.upto h hc'.2 h2, h3⟩

theorem Sat.upto : ∀ {fs : List Fact}, factsT' n fs = true → Sat env fs → Sat env' fs := by
  intro fs
  induction fs with
  | nil => intro _ _ f hf; cases hf
  | cons g r ih =>
    intro hl hs f hf
    simp only [factsT', Bool.and_eq_true] at hl
    rcases List.mem_cons.1 hf with rfl | hf
    · have := hs f (List.mem_cons_self ..)
      cases f with
      | iv t lo hi => simp only [Fact.ok, den_lt h t hl.1]; exact this
      | el a fr to lo hi => simp only [Fact.ok, den_lt h a hl.1]; exact this
    · exact ih hl.2 (fun g hg => hs g (List.mem_cons_of_mem _ hg)) f hf
end

theorem heapT_at {n : Nat} : ∀ {hp : Heap} {i : Nat} {b : Blk}, heapT n hp = true → look i hp = some b → (b.lay.tlt n && b.A.lt n) = true := by
  intro hp
  induction hp with
  | nil => intro i b _ h; cases h
  | cons q r ih =>
    intro i b hl hb
    obtain ⟨j, x⟩ := q
    simp only [heapT] at hl
    rw [Bool.and_eq_true] at hl
    simp only [look_cons, Nat.beq_eq] at hb
    split at hb
    · cases hb; exact hl.1
    · exact ih hl.2 hb

theorem frT_at {n : Nat} : ∀ {fr : List (Nat × Sl)} {t : Nat} {s : Sl}, frT n fr = true → look t fr = some s → s.tlt n = true := by
  intro fr
  induction fr with
  | nil => intro i b _ h; cases h
  | cons q r ih =>
    intro i b hl hb
    obtain ⟨j, x⟩ := q
    simp only [frT, Bool.and_eq_true] at hl
    simp only [look_cons, Nat.beq_eq] at hb
    split at hb
    · cases hb; exact hl.1
    · exact ih hl.2 hb

theorem RR.upto {n : Nat} {env env' : Env} {B : Base} {st : St} {ρ : Rho} {w : World} (h : RR env B st ρ w) (hu : Upto n env env') (hl : heapT n st.hp = true) : RR env' B st ρ w :=
  ⟨h.rho, h.nb, fun i b hb => ⟨BlkRel.upto hu (heapT_at hl hb) (h.heap i b hb).1, (h.heap i b hb).2⟩, h.sep, h.lt, h.old, h.new, h.wr, h.fr⟩

theorem FR.upto {n : Nat} {env env' : Env} {st : St} {ρ : Rho} {a : Act} (h : FR env st ρ a) (hu : Upto n env env') (hl : frT n st.fr = true) : FR env' st ρ a :=
  ⟨h.df, h.size, h.lt, fun t s hs => Sl.Rel.upto hu (frT_at hl hs) (h.rel t s hs)⟩

/-! ### A state held against a weaker one -/

def chkSl (Γ : List Fact) (σ : Nat → Tm) (p s : Sl) : Bool :=
  match p, s with
  | .sv (.sc .junk), _ => true
  | .sv p, .sv s => chkSV Γ σ id p s
  | .tup p, .tup s => chkSVs Γ σ id p s
  | _, _ => false

def chkFr (Γ : List Fact) (σ : Nat → Tm) (fr : List (Nat × Sl)) : List (Nat × Sl) → Bool
  | [] => true
  | (t, p) :: r => (match look t fr with
    | some s => chkSl Γ σ p s
    | none => false) && chkFr Γ σ fr r

def wrSub (n : Nat) (wr : List Nat) : List Nat → Bool
  | [] => true
  | i :: r => (Nat.ble n i || memN i wr) && wrSub n wr r

def chkSt (Γ : List Fact) (σ : Nat → Tm) (p st : St) : Bool :=
  chkFr Γ σ st.fr p.fr && chkHeap Γ σ id st.hp p.hp && wrSub p.nb p.wr st.wr && Nat.beq p.nt st.nt

section
variable {env : Env} {ρ : Rho} {Γ : List Fact} {σ : Nat → Tm}

theorem chkSl_rel (hs : Sat env Γ) {p s : Sl} {v : Value} (h : chkSl Γ σ p s = true) (hr : s.Rel env ρ v) : p.Rel (fun i => den env (σ i)) ρ v := by
  unfold chkSl at h
  split at h
  · trivial
  · exact chkSV_rel hs h hr
  · obtain ⟨vs, h1, h2⟩ := hr
    exact ⟨vs, h1, chkSVs_rel hs h h2⟩
  · cases h

theorem chkFr_at : ∀ {fr q : List (Nat × Sl)}, chkFr Γ σ fr q = true → ∀ t p, look t q = some p → ∃ s, look t fr = some s ∧ chkSl Γ σ p s = true := by
  intro fr q
  induction q with
  | nil => intro _ t p h; cases h
  | cons x r ih =>
    intro h t p hp
    obtain ⟨j, y⟩ := x
    simp only [chkFr, Bool.and_eq_true] at h
    simp only [look_cons, Nat.beq_eq] at hp
    split at hp
    · rename_i e; subst e; cases hp
      have h1 := h.1
      split at h1
      · rename_i s hs; exact ⟨s, hs, h1⟩
      · cases h1
    · exact ih h.2 t p hp

theorem wrSub_at {n : Nat} {wr : List Nat} : ∀ {l : List Nat}, wrSub n wr l = true → ∀ i ∈ l, i < n → i ∈ wr := by
  intro l
  induction l with
  | nil => intro _ i h; cases h
  | cons a r ih =>
    intro h i hi hn
    simp only [wrSub, Bool.and_eq_true, Bool.or_eq_true, Nat.ble_eq] at h
    rcases List.mem_cons.1 hi with rfl | hi
    · rcases h.1 with h1 | h1
      · omega
      · exact memN_iff.1 h1
    · exact ih h.2 i hi hn

theorem RR.weak {B : Base} {st p : St} {w : World} (hs : Sat env Γ) (h : RR env B st ρ w) (hc : chkSt Γ σ p st = true) (hnb : B.nb ≤ p.nb) (hlt : HeapLt p.nb p.hp = true)
    (hwr : ∀ i, i ∈ p.wr → i < B.nb → ∃ b, B.lk i = some b ∧ b.rw = true) : RR (fun i => den env (σ i)) B p ρ w := by
  simp only [chkSt, Bool.and_eq_true] at hc
  obtain ⟨⟨⟨_, h2⟩, h3⟩, _⟩ := hc
  have hat : ∀ i b, look i p.hp = some b → ∃ c, look i st.hp = some c ∧ chkBlk Γ σ id b c = true := fun i b hb => chkHeap_at h2 i b hb
  constructor
  · exact h.rho
  · exact hnb
  · intro i b hb
    obtain ⟨c, hc, hk⟩ := hat i b hb
    have := h.heap i c hc
    exact ⟨(chkBlk_rel hs hk this.1).1, this.2⟩
  · intro i b j c hb hc hij hrw
    obtain ⟨b', hb', hk⟩ := hat i b hb
    obtain ⟨c', hc', _⟩ := hat j c hc
    exact h.sep i b' j c' hb' hc' hij ((chkBlk_rel (ρ := ρ) hs hk (h.heap i b' hb').1).2 hrw)
  · exact hlt
  · intro i b hb hi
    obtain ⟨b', hb', hk⟩ := hat i b hb
    obtain ⟨b0, h4, h5⟩ := h.old i b' hb' hi
    exact ⟨b0, h4, fun e => h5 ((chkBlk_rel (ρ := ρ) hs hk (h.heap i b' hb').1).2 e)⟩
  · intro i b hb hi
    obtain ⟨b', hb', _⟩ := hat i b hb
    exact h.new i b' hb' hi
  · exact hwr
  · refine h.fr.mono fun k _ hk => ?_
    obtain ⟨i, i1, i2, i3⟩ := hk
    exact ⟨i, wrSub_at h3 i i1 (by omega), i2, i3⟩

theorem FR.weak {st p : St} {a : Act} (hs : Sat env Γ) (h : FR env st ρ a) (hc : chkSt Γ σ p st = true) (hlt : ∀ t s, look t p.fr = some s → s.lt p.nb = true) : FR (fun i => den env (σ i)) p ρ a := by
  simp only [chkSt, Bool.and_eq_true, Nat.beq_eq] at hc
  obtain ⟨⟨⟨h1, _⟩, _⟩, hnt⟩ := hc
  refine ⟨h.df, by rw [hnt]; exact h.size, fun t s hs' => ?_, fun t s hs' => ?_⟩
  · obtain ⟨s', h2, _⟩ := chkFr_at h1 t s hs'
    exact ⟨by rw [hnt]; exact (h.lt t s' h2).1, hlt t s hs'⟩
  · obtain ⟨s', h2, h3⟩ := chkFr_at h1 t s hs'
    exact chkSl_rel hs h3 (h.rel t s' h2)
end

/-! ### Loops whose rounds are forgotten -/

/-- The first region of a piece of code: its number and where it stands. -/
def firstReg : Code → Option (Nat × String)
  | .region id ops _ => some (id, match ops[0]? with
    | some o => o.pos
    | none => "")
  | .seq a b => match firstReg a with
    | some x => some x
    | none => firstReg b
  | .block _ b => firstReg b
  | .loop b => firstReg b
  | .scope b => firstReg b
  | .cond _ a b => match firstReg a with
    | some x => some x
    | none => firstReg b
  | _ => none

def strEqB (a b : String) : Bool := a == b

def findLoop (key : Nat × String) : List LoopSpec → Option LoopSpec
  | [] => none
  | sp :: r => if Nat.beq sp.rid key.1 && strEqB sp.pos key.2 then some sp else findLoop key r

def loopOf (C : Cfg) (b : Code) : Option LoopSpec :=
  match C.loops with
  | [] => none
  | l => match firstReg b with
    | some key => findLoop key l
    | none => none

/-- The counters' values in a state. -/
def cntVals (fr : List (Nat × Sl)) : List (Tmp × Int × Int) → Option (List Tm)
  | [] => some []
  | (t, _, _) :: r =>
    match look t fr, cntVals fr r with
    | some (.sv (.sc (.int .i64 e))), some l => some (e :: l)
    | _, _ => none

def cntSet (nv : Nat) : List (Tmp × Int × Int) → List (Nat × Sl) → List (Nat × Sl)
  | [], fr => fr
  | (t, _, _) :: r, fr => aset t (.sv (.sc (.int .i64 (.v nv)))) (cntSet (nv + 1) r fr)

def cntFacts (nv : Nat) : List (Tmp × Int × Int) → List Fact → List Fact
  | [], fs => fs
  | (_, lo, hi) :: r, fs => .iv (.v nv) lo hi :: cntFacts (nv + 1) r fs

def junkFr : List Tmp → List (Nat × Sl) → List (Nat × Sl)
  | [], fr => fr
  | t :: r, fr => aset t (.sv (.sc .junk)) (junkFr r fr)

def junkBlk (b : Blk) : Blk :=
  match b.lay with
  | .fixed L => ⟨.fixed [(.fix .junk, L.size)], .rep 0, b.rw⟩
  | .dyn _ n => ⟨.dyn (.fix .junk) n, .rep 0, b.rw⟩
  | .mp es => ⟨.mp es, b.A, b.rw⟩

def blkId (s : Option Sl) : Option Nat :=
  match s with
  | some (.sv (.sc (.ptr b _))) => some b
  | some (.sv (.sc (.slice b _ _ _))) => some b
  | _ => none

def junkIds (fr : List (Nat × Sl)) : List Tmp → List Nat
  | [] => []
  | t :: r => match blkId (look t fr) with
    | some b => b :: junkIds fr r
    | none => junkIds fr r

def junkHp : List Nat → Heap → Heap
  | [], hp => hp
  | i :: r, hp => match look i hp with
    | some b => putAt i (junkBlk b) (junkHp r hp)
    | none => junkHp r hp

def loopHead (sp : LoopSpec) (st : St) : St :=
  { fr := cntSet st.nv sp.cnt (junkFr sp.jt st.fr), nt := st.nt, hp := junkHp (junkIds st.fr sp.jb) st.hp, nb := st.nb, nv := st.nv + sp.cnt.length, fs := cntFacts st.nv sp.cnt st.fs, wr := junkIds st.fr sp.jb ++ st.wr }

def loopTail (sp : LoopSpec) (st : St) : St :=
  { fr := junkFr (sp.cnt.map (fun x => x.1)) (junkFr sp.jt st.fr), nt := st.nt, hp := junkHp (junkIds st.fr sp.jb) st.hp, nb := st.nb, nv := st.nv, fs := st.fs, wr := junkIds st.fr sp.jb ++ st.wr }

def cntIn (Γ : List Fact) : List (Tmp × Int × Int) → List Tm → Bool
  | [], [] => true
  | (_, lo, hi) :: r, e :: l => within Γ e lo hi && cntIn Γ r l
  | _, _ => false

def loopσ (nv : Nat) (es : List Tm) (i : Nat) : Tm := if Nat.ble nv i then es.getD (i - nv) (.lit 0) else .v i

def frLt (n : Nat) : List (Nat × Sl) → Bool
  | [] => true
  | (_, s) :: r => s.lt n && frLt n r

def wrOk (hp : Heap) (nb : Nat) : List Nat → Bool
  | [] => true
  | i :: r => (match look i hp with
    | some b => b.rw
    | none => false) && wrOk hp nb r

def exEq : Ex → Ex → Bool
  | .normal, .normal => true
  | .exit i, .exit j => Nat.beq i j
  | .ret, .ret => true
  | _, _ => false

theorem exEq_eq {a b : Ex} (h : exEq a b = true) : a = b := by
  cases a <;> cases b <;> simp [exEq] at h
  · rfl
  · rw [h]
  · rfl

def CR (env : Env) : Nat → List (Tmp × Int × Int) → Prop
  | _, [] => True
  | nv, (_, lo, hi) :: r => (lo ≤ (env nv).i ∧ (env nv).i ≤ hi) ∧ CR env (nv + 1) r

theorem cr_sat {env : Env} {fs : List Fact} (hs : Sat env fs) : ∀ {cnt : List (Tmp × Int × Int)} {nv : Nat}, CR env nv cnt → Sat env (cntFacts nv cnt fs) := by
  intro cnt
  induction cnt with
  | nil => intro nv _; exact hs
  | cons x r ih =>
    intro nv h f hf
    obtain ⟨t, lo, hi⟩ := x
    rcases List.mem_cons.1 hf with rfl | hf
    · exact h.1
    · exact ih h.2 f hf

theorem cr_upto {env env' : Env} : ∀ {cnt : List (Tmp × Int × Int)} {nv : Nat}, (∀ i, i < nv + cnt.length → env' i = env i) → CR env nv cnt → CR env' nv cnt := by
  intro cnt
  induction cnt with
  | nil => intro nv _ _; trivial
  | cons x r ih =>
    intro nv h hc
    obtain ⟨t, lo, hi⟩ := x
    simp only [List.length_cons] at h
    refine ⟨?_, ih (fun i hi' => h i (by omega)) hc.2⟩
    rw [h nv (by omega)]; exact hc.1

theorem cntIn_cr {env env' : Env} {Γ : List Fact} (hs : Sat env Γ) : ∀ {cnt : List (Tmp × Int × Int)} {es : List Tm} {nv : Nat}, cntIn Γ cnt es = true → (∀ j, j < es.length → env' (nv + j) = den env (es.getD j (.lit 0))) → CR env' nv cnt := by
  intro cnt
  induction cnt with
  | nil => intro es nv _ _; trivial
  | cons x r ih =>
    intro es nv h he
    obtain ⟨t, lo, hi⟩ := x
    cases es with
    | nil => cases h
    | cons e es =>
      simp only [cntIn, Bool.and_eq_true] at h
      refine ⟨?_, ih h.2 fun j hj => ?_⟩
      · have := he 0 (by simp)
        simp only [Nat.add_zero, List.getD_cons_zero] at this
        rw [this]; exact within_sound hs h.1
      · have := he (j + 1) (by simp; omega)
        simp only [List.getD_cons_succ] at this
        rw [← this]; congr 1; omega

theorem cntIn_len {Γ : List Fact} : ∀ {cnt : List (Tmp × Int × Int)} {es : List Tm}, cntIn Γ cnt es = true → es.length = cnt.length := by
  intro cnt
  induction cnt with
  | nil => intro es h; cases es <;> simp [cntIn] at h ⊢
  | cons x r ih =>
    intro es h
    obtain ⟨t, lo, hi⟩ := x
    cases es with
    | nil => cases h
    | cons e es => simp only [cntIn, Bool.and_eq_true] at h; simp [ih h.2]

theorem frLt_at {n : Nat} : ∀ {fr : List (Nat × Sl)} {t : Nat} {s : Sl}, frLt n fr = true → look t fr = some s → s.lt n = true := by
  intro fr
  induction fr with
  | nil => intro i b _ h; cases h
  | cons q r ih =>
    intro i b hl hb
    obtain ⟨j, x⟩ := q
    simp only [frLt, Bool.and_eq_true] at hl
    simp only [look_cons, Nat.beq_eq] at hb
    split at hb
    · cases hb; exact hl.1
    · exact ih hl.2 hb

theorem wrOk_at {hp : Heap} {nb : Nat} : ∀ {l : List Nat}, wrOk hp nb l = true → ∀ i ∈ l, ∃ b, look i hp = some b ∧ b.rw = true := by
  intro l
  induction l with
  | nil => intro _ i h; cases h
  | cons a r ih =>
    intro h i hi
    simp only [wrOk, Bool.and_eq_true] at h
    rcases List.mem_cons.1 hi with rfl | hi
    · have h1 := h.1
      split at h1
      · rename_i b hb; exact ⟨b, hb, h1⟩
      · cases h1
    · exact ih h.2 i hi

def bind2 {α : Type} : Bool → Tree α → Tree α → Tree α
  | true, a, _ => a
  | false, _, b => b

/-- The first reason why a tree is no good. -/
def Tree.why {α : Type} : Tree α → String
  | .leaf _ => ""
  | .node _ l r => match l.why with
    | "" => r.why
    | s => s
  | .bind _ _ _ _ k => k.why
  | .err s => s

def loopTree {α : Type} (pre : Bool) (nv : Nat) (T : Unit → Tree Unit) (c : Unit → Tree α) : Tree α :=
  match pre with
  | false => .err "loop head"
  | true => match (T ()).ok nv with
    | true => c ()
    | false => .err ("loop: " ++ (T ()).why)

theorem path_loopTree {α : Type} {env : Env} {pre : Bool} {nv : Nat} {T : Unit → Tree Unit} {c : Unit → Tree α} {L : α} (h : Path env (loopTree pre nv T c) L) : pre = true ∧ (T ()).ok nv = true ∧ Path env (c ()) L := by
  unfold loopTree at h
  split at h
  · exact h.elim
  · split at h
    · rename_i h1; exact ⟨rfl, h1, h⟩
    · exact h.elim

/-- What the end of a round is asked. -/
def loopBody (sp : LoopSpec) (nv : Nat) (st1 st2 : St) : Rs → Tree Unit
  | .at .normal st' =>
    match cntVals st'.fr sp.cnt with
    | some (e :: es) => bind2 (cntIn st'.fs sp.cnt (e :: es) && within st'.fs (mkLt st'.fs (.v nv) e) 1 1 && chkSt st'.fs (loopσ nv (e :: es)) st1 st') (.leaf ()) (.err "loop: round")
    | _ => .err "loop: counters"
  | .at ex st' => bind2 (exEq ex sp.ex && chkSt st'.fs .v st2 st') (.leaf ()) (.err "loop: exit")
  | .out _ _ _ => .err "loop: out"

def loopPre (sp : LoopSpec) (st st1 st2 : St) : Bool :=
  match cntVals st.fr sp.cnt with
  | some (e :: es) => cntIn st.fs sp.cnt (e :: es) && chkSt st.fs (loopσ st.nv (e :: es)) st1 st && frT st.nv st2.fr && heapT st.nv st2.hp && frT st1.nv st1.fr && heapT st1.nv st1.hp && factsT' st.nv st.fs &&
      frLt st.nb st1.fr && frLt st.nb st2.fr && HeapLt st.nb st1.hp && HeapLt st.nb st2.hp && wrOk st.hp st.nb (junkIds st.fr sp.jb)
  | _ => false

end Go.Sx
