/- A part of the reckoning with symbols: states, terms and their meaning, used by the proofs of this seat. -/
import Derived.Test.YtpndnejabebfeaaGreatDoorSxX
import Derived.MapKept
/-! Maps from whole numbers to whole numbers that are at hand. -/
noncomputable section
namespace Go.Sx

def mapLook (k : Int) : List (Int × Int) → Option Int
  | [] => none
  | (a, b) :: r => if ieq k a then some b else mapLook k r

def isI64 : TypeDesc → Bool
  | .int .i64 => true
  | _ => false
theorem isI64_eq {d : TypeDesc} (h : isI64 d = true) : d = .int .i64 := by
  unfold isI64 at h
  split at h
  · rfl
  · cases h

/-- Is a type map[int]int? -/
def intMap (tab : Tab) (t : Nat) : Bool :=
  match tlook t tab with
  | some ti =>
    match ti.desc with
    | .map k e =>
      match tlook k tab, tlook e tab with
      | some tk, some te => isI64 tk.desc && isI64 te.desc
      | _, _ => false
    | _ => false
  | none => false

theorem intMap_spec {P : Program} {tab : Tab} (hT : TabOk P tab) {t : Nat} (h : intMap tab t = true) : ∃ k e, P.underlying t = some (.map k e) ∧ P.underlying k = some (.int .i64) ∧ ∀ w : World, (zeroValue e).run P w = .ok (.int .i64 0) w := by
  unfold intMap at h
  split at h
  · rename_i ti hti
    split at h
    · rename_i k e hd
      split at h
      · rename_i tk te hk he
        simp only [Bool.and_eq_true] at h
        have h1 := hT _ _ hti
        have h2 := hT _ _ hk
        have h3 := hT _ _ he
        refine ⟨k, e, by rw [h1.under, hd], by rw [h2.under, isI64_eq h.1], fun w => ?_⟩
        obtain ⟨i, hi, hz⟩ := h3.zint _ (isI64_eq h.2)
        simp [zeroValue, typeInfo, program, Sem.run, hi, hz]
      · cases h
    · cases h
  · cases h

theorem findNow_ok (k : Int) : ∀ (es : List MapEntry) (l : List (Int × Int)) (i : Nat), es.map (fun e => (e.key, e.val)) = l.map (fun x => (Value.int .i64 x.1, Value.int .i64 x.2)) →
    (mapLook k l = none → Instr.findNow (.int .i64) (.int .i64 k) es i = some none) ∧ ∀ v, mapLook k l = some v → ∃ j, Instr.findNow (.int .i64) (.int .i64 k) es i = some (some (j, .int .i64 v)) := by
  intro es
  induction es with
  | nil => intro l i h; cases l with
    | nil => exact ⟨fun _ => rfl, fun v hv => by cases hv⟩
    | cons x r => cases h
  | cons e es ih =>
    intro l i h
    cases l with
    | nil => cases h
    | cons x r =>
      obtain ⟨a, b⟩ := x
      simp only [List.map_cons, List.cons.injEq, Prod.mk.injEq] at h
      obtain ⟨⟨h1, h2⟩, h3⟩ := h
      obtain ⟨g1, g2⟩ := ih r (i + 1) h3
      have hs : Instr.sameNow (.int .i64) (.int .i64 k) e.key = some (k == a) := by rw [h1]; simp [Instr.sameNow]
      simp only [mapLook, Instr.findNow, hs]
      by_cases hk : k = a
      · subst hk
        rw [if_pos (ieq_iff.2 rfl)]
        rw [show (k == k) = true from by simp]
        refine ⟨fun hn => (by cases hn), fun v hv => ?_⟩
        cases hv
        exact ⟨i, by simp only [h2]⟩
      · rw [if_neg (fun hh => hk (ieq_iff.1 hh))]
        rw [show (k == a) = false from by simpa using hk]
        exact ⟨g1, g2⟩

def evLookup (tab : Tab) (lk : Lk) (t : Nat) (m k : SC) (ok : Bool) : Option Sl :=
  match m, k with
  | .mapv b, .int .i64 (.lit n) =>
    match lk b, intMap tab t with
    | some blk, true =>
      match blk.lay with
      | .mp es =>
        let r := match mapLook n es with
          | some v => (v, true)
          | none => (0, false)
        some (if ok then .tup [.sc (.int .i64 (.lit r.1)), .sc (.bool (.lit (if r.2 then 1 else 0)))] else .sv (.sc (.int .i64 (.lit r.1))))
      | _ => none
    | _, _ => none
  | _, _ => none

theorem evLookup_sound {P : Program} {tab : Tab} (hT : TabOk P tab) {env : Env} {lk : Lk} {t : Nat} {m k : SC} {ok : Bool} {r : Sl} (h : evLookup tab lk t m k ok = some r)
    {ρ : Rho} {w : World} (hH : HRel env ρ lk w) {u q : Value} (hu : m.Rel env ρ u) (hq : k.Rel env ρ q) : ∃ v, (Instr.lookup t u q ok).run P w = .ok v w ∧ r.Rel env ρ v := by
  unfold evLookup at h
  split at h
  · rename_i b n
    split at h
    · rename_i blk hb hm
      split at h
      · rename_i es hl
        obtain ⟨kt, e, h1, h2, h3⟩ := intMap_spec hT hm
        have hrel := (hH _ _ hb).1.2
        rw [hl] at hrel
        obtain ⟨arr, clock, g1, g2⟩ := hrel
        cases hu
        cases hq
        obtain ⟨f1, f2⟩ := findNow_ok n arr.toList es 0 g2
        have hck : ∀ e' : Bool, (Instr.checkKey e' 10000 kt (.int .i64 n)).run P w = .ok () w := fun e' => by
          unfold Instr.checkKey
          simp [run_underlying h2]
        cases hml : mapLook n es with
        | none =>
          have := f1 hml
          rw [hml] at h
          cases h
          refine ⟨if ok then .tuple #[.int .i64 0, .bool false] else .int .i64 0, ?_, ?_⟩
          · unfold Instr.lookup Instr.findKey
            simp [run_underlying h1, run_underlying h2, MapKept.run_getObj_map g1, hck, den, this, h3]
          · cases ok
            · simp [Sl.Rel, SV.Rel, SC.Rel, den]
            · exact ⟨_, rfl, by simp [SVsRel, SV.Rel, SC.Rel, den]⟩
        | some v =>
          obtain ⟨j, this⟩ := f2 v hml
          rw [hml] at h
          cases h
          refine ⟨if ok then .tuple #[.int .i64 v, .bool true] else .int .i64 v, ?_, ?_⟩
          · unfold Instr.lookup Instr.findKey
            simp [run_underlying h1, run_underlying h2, MapKept.run_getObj_map g1, hck, den, this]
          · cases ok
            · simp [Sl.Rel, SV.Rel, SC.Rel, den]
            · exact ⟨_, rfl, by simp [SVsRel, SV.Rel, SC.Rel, den]⟩
      · cases h
    · cases h
  · cases h

def evInsert (tab : Tab) (lk : Lk) (t : Nat) (m k x : SC) : Option (Nat × Blk) :=
  match m, k, x with
  | .mapv b, .int .i64 (.lit n), .int .i64 (.lit v) =>
    match lk b, intMap tab t with
    | some blk, true =>
      match blk.lay, blk.rw with
      | .mp es, true => match mapLook n es with
        | some _ => none
        | none => some (b, ⟨.mp (es ++ [(n, v)]), blk.A, true⟩)
      | _, _ => none
    | _, _ => none
  | _, _, _ => none

theorem evInsert_sound {P : Program} {tab : Tab} (hT : TabOk P tab) {env : Env} {lk : Lk} {nb t : Nat} {m k x : SC} {r : Nat × Blk} (h : evInsert tab lk t m k x = some r)
    (hlt : m.lt nb = true) {ρ : Rho} {w : World} (hH : HRel env ρ lk w) {u q z : Value} (hu : m.Rel env ρ u) (hq : k.Rel env ρ q) (hz : x.Rel env ρ z) :
    ∃ w', (Instr.mapUpdate t u q z).run P w = .ok () w' ∧ Step env lk nb ρ ρ w w' [r] := by
  unfold evInsert at h
  split at h
  · rename_i b n v
    split at h
    · rename_i blk hb hm
      split at h
      · rename_i es hl hrw
        split at h
        · cases h
        · rename_i hml
          cases h
          obtain ⟨kt, e, h1, h2, h3⟩ := intMap_spec hT hm
          have hblk := hH _ _ hb
          have hrel := hblk.1.2
          rw [hl] at hrel
          obtain ⟨arr, clock, g1, g2⟩ := hrel
          cases hu
          cases hq
          cases hz
          obtain ⟨f1, _⟩ := findNow_ok n arr.toList es 0 g2
          have hf := f1 hml
          have hck : ∀ e' : Bool, (Instr.checkKey e' 10000 kt (.int .i64 n)).run P w = .ok () w := fun e' => by
            unfold Instr.checkKey
            simp [run_underlying h2]
          have hsz : (ρ b).1 < w.heap.size := hblk.2
          refine ⟨{ w with heap := w.heap.setIfInBounds (ρ b).1 (.map (arr.push ⟨.int .i64 n, .int .i64 v, clock⟩) (clock + 1)) }, ?_, ?_⟩
          · unfold Instr.mapUpdate Instr.findKey
            simp [run_underlying h1, run_underlying h2, MapKept.run_getObj_map g1, hck, den, hf, MapKept.run_setObj_map _ g1]
          · constructor
            · exact RhoEq.refl _ _
            · intro i b' hi
              simp only [look_nil, look_cons, Nat.beq_eq] at hi
              split at hi
              · rename_i e'; subst e'; cases hi
                refine ⟨⟨fun j c hc => (by cases hc), ?_⟩, by simpa using hsz⟩
                exact ⟨arr.push ⟨.int .i64 n, .int .i64 v, clock⟩, clock + 1, by simp [hsz], by simp [g2]⟩
              · cases hi
            · intro i b' hi _
              simp only [look_nil, look_cons, Nat.beq_eq] at hi
              split at hi
              · rename_i e'; subst e'; exact ⟨blk, hb, hrw⟩
              · cases hi
            · intro i b' hi hge
              simp only [look_nil, look_cons, Nat.beq_eq] at hi
              simp only [SC.lt, Nat.blt_eq] at hlt
              split at hi
              · omega
              · cases hi
            · intro i j b' c' hi hj hge _ _
              simp only [look_nil, look_cons, Nat.beq_eq] at hi
              simp only [SC.lt, Nat.blt_eq] at hlt
              split at hi
              · omega
              · cases hi
            · simp only [SC.lt, Nat.blt_eq] at hlt
              refine ⟨rfl, rfl, rfl, by simp, fun k' hk' hS => ?_⟩
              have : k' ≠ (ρ b).1 := fun e' => hS ⟨b, ⟨.mp (es ++ [(n, v)]), blk.A, true⟩, by simp [look_cons], hlt, e'.symm⟩
              simp [Ne.symm this]
      · cases h
    · cases h
  · cases h

theorem Step.allocMap {env : Env} {lk : Lk} {nb : Nat} {ρ : Rho} {w : World} :
    Step env lk nb ρ (fun i => if i = nb then (w.heap.size, 0) else ρ i) w (w.alloc (.map #[] 0)) [(nb, ⟨.mp [], .rep 0, true⟩)] := by
  constructor
  · exact fun i hi => if_neg (by omega)
  · intro i b hi
    simp only [look_nil, look_cons, Nat.beq_eq] at hi
    split at hi
    · rename_i e; subst e; cases hi
      exact ⟨⟨fun j c hc => (by cases hc), ⟨#[], 0, (by simpa using (MapKept.heap_alloc w (.map #[] 0)).1), rfl⟩⟩, by simp⟩
    · cases hi
  · intro i b hi hlt'
    simp only [look_nil, look_cons, Nat.beq_eq] at hi
    split at hi
    · omega
    · cases hi
  · intro i b hi _
    simp only [look_nil, look_cons, Nat.beq_eq] at hi
    split at hi
    · rename_i e; simp [e]
    · cases hi
  · intro i j b c hi hj _ _ hij
    simp only [look_nil, look_cons, Nat.beq_eq] at hi hj
    split at hi
    · split at hj
      · omega
      · cases hj
    · cases hi
  · exact Fr.alloc _ _ _

end Go.Sx
