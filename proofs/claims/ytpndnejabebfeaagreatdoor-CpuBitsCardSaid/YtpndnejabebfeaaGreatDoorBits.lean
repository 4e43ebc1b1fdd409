/- Whatever k, the byte and its place, the law of bits answers true and leaves its arguments as they were; no condition but that errors.errorType stands as the program's text lays it, which the card ties to the text. -/
import Derived.Test.YtpndnejabebfeaaGreatDoorRows
import Derived.Test.YtpndnejabebfeaaGreatDoorTie
import Derived.Test.YtpndnejabebfeaaGreatDoorCards
import Derived.Test.YtpndnejabebfeaaGreatDoorConT
import Derived.Test.YtpndnejabebfeaaGreatDoorSxZb
import Derived.Test.YtpndnejabebfeaaGreatDoorSxV
import Derived.WalkKit
import Derived.ProofKit
import Derived.OpenShut
import Derived.LaidMore
import Derived.LaidHandle
import Derived.SevenTiedAt
import Derived.Stop.Joined
set_option maxRecDepth 100000
namespace Go.Proofs.YtpndnejabebfeaaGreatDoor.cpuBits
open Go.ChangeShapes Go.WideShapes Go.ChangeAt Go.RowKit Go.Sx

theorem own : ownKnob Tryz.prog.godebug = none := by kernel_rfl
theorem laidOut : laidOutB Tryz.prog = true := by kernel_rfl

/-- A world that meets the condition: the one that the door leaves. -/
theorem laidWorld_met (os : Os) (args : Array Value) : laidMetH Tryz.prog Rows.cpuBitsRow.laid (((World.doorLaid Tryz.prog 400 os)).forCall (fun _ _ => 0) ⟨#[], args, []⟩).memory :=
  laidMetH_of_parts (laidMet_nil _ _) (by kernel_rfl)

noncomputable def body : Code := Tryz.f9.body.getD .skip
noncomputable def ags : List SV := [.sc (.int .i64 (.v 0)), .sc (.int .u8 (.v 1)), .sc (.int .u8 (.v 2))]
noncomputable def fs : List Fact := [.iv (.v 0) (kmin .i64) (kmax .i64), .iv (.v 1) (kmin .u8) (kmax .u8), .iv (.v 2) (kmin .u8) (kmax .u8)]
noncomputable def pt : Tm := (.b2 (.bit .and .i64) (.v 0) (.lit 7))
theorem part0 : partOk cfg1 400 Tryz.f9 body ags [] 0 3 fs pt 0 = true := by kernel_rfl
theorem part1 : partOk cfg1 400 Tryz.f9 body ags [] 0 3 fs pt 1 = true := by kernel_rfl
theorem part2 : partOk cfg1 400 Tryz.f9 body ags [] 0 3 fs pt 2 = true := by kernel_rfl
theorem part3 : partOk cfg1 400 Tryz.f9 body ags [] 0 3 fs pt 3 = true := by kernel_rfl
theorem part4 : partOk cfg1 400 Tryz.f9 body ags [] 0 3 fs pt 4 = true := by kernel_rfl
theorem part5 : partOk cfg1 400 Tryz.f9 body ags [] 0 3 fs pt 5 = true := by kernel_rfl
theorem part6 : partOk cfg1 400 Tryz.f9 body ags [] 0 3 fs pt 6 = true := by kernel_rfl
theorem part7 : partOk cfg1 400 Tryz.f9 body ags [] 0 3 fs pt 7 = true := by kernel_rfl
theorem ptIn : within fs pt 0 7 = true := by kernel_rfl
theorem parts : ∀ x : Int, 0 ≤ x → x ≤ 7 → partOk cfg1 400 Tryz.f9 body ags [] 0 3 fs pt x = true := by
  intro x h1 h2
  have h : x = 0 ∨ x = 1 ∨ x = 2 ∨ x = 3 ∨ x = 4 ∨ x = 5 ∨ x = 6 ∨ x = 7 := by omega
  rcases h with rfl | rfl | rfl | rfl | rfl | rfl | rfl | rfl
  · exact part0
  · exact part1
  · exact part2
  · exact part3
  · exact part4
  · exact part5
  · exact part6
  · exact part7

theorem walk (a : Int) (b : Int) (c : Int) (ha : kmin .i64 ≤ a ∧ a ≤ kmax .i64) (hb : kmin .u8 ≤ b ∧ b ≤ kmax .u8) (hc : kmin .u8 ≤ c ∧ c ≤ kmax .u8) (w : World) :
    Calls Tryz.prog 9 #[.int .i64 a, .int .u8 b, .int .u8 c] w fun e w' => e = .returned (.bool true) ∧ Below w.heap.size w w' := by
  let env : Env := fun i => match i with
    | 0 => .n a
    | 1 => .n b
    | _ => .n c
  have hs : Sat env fs := by
    intro f hf
    simp only [fs, List.mem_cons, List.not_mem_nil, or_false] at hf
    rcases hf with rfl | rfl | rfl
    · exact ha
    · exact hb
    · exact hc
  have hin := within_sound hs ptIn
  obtain ⟨fs', hs', hpath⟩ := parts_path hs (parts _ hin.1 hin.2)
  exact law_calls cfg1Ok Tryz.func9 (rfl : Tryz.f9.body = some body) hpath (by kernel_rfl) hs' (ρ := fun _ => (0, 0)) (vs := [.int .i64 a, .int .u8 b, .int .u8 c]) ⟨rfl, rfl, rfl, trivial⟩ (fun i b h => by cases h) (fun i b j c h => by cases h)

theorem contract (H : Type) (enc : TypeId × Value → H) (W : World) (base : Nat) (args : Array Value) (ds gs : List (DataW H)) (before : List MemPlace)
    (hval : ∀ (j : Nat) t v, Tryz.f9.params[j]? = some t → args[j]? = some v → Value.okWide Tryz.prog W .any base t v)
    (hW : DataW.Whole enc Tryz.prog Tryz.f9.params.toList Rows.cpuBitsSpec.vars false W args.toList ds gs before) :
    Calls Tryz.prog 9 args W fun e W' => ∃ v, e = .returned v ∧ Rows.cpuBitsSpec.post enc Tryz.prog Tryz.f9 false true false false W args v W' := by
  have hW' := hW
  obtain ⟨p, q, hA0, hV, rfl, hfz, hnd⟩ := hW
  have hA : DataW.TrodAll enc Tryz.prog W 0 (fun _ => true) true Tryz.f9.params.toList args.toList ds p := hA0
  rw [Tryz.params9] at hA hval
  obtain ⟨v0, vs0, d0, ds0, p0, q0, hargs0, rfl, rfl, t0, r0⟩ := trodAll_cons hA
  obtain ⟨v1, vs1, d1, ds1, p1, q1, hargs1, rfl, rfl, t1, r1⟩ := trodAll_cons r0
  obtain ⟨v2, vs2, d2, ds2, p2, q2, hargs2, rfl, rfl, t2, r2⟩ := trodAll_cons r1
  obtain ⟨rfl, rfl, rfl⟩ := trodAll_nil r2
  obtain rfl : args = #[v0, v1, v2] := by cases args; simp_all
  obtain ⟨rfl, rfl⟩ := trodVars_none hV
  obtain ⟨a, rfl, rfl, rfl, w0⟩ := open_int Tryz.underlying3 (hval 0 3 v0 rfl rfl) t0
  obtain ⟨b, rfl, rfl, rfl, w1⟩ := open_int Tryz.underlying5 (hval 1 5 v1 rfl rfl) t1
  obtain ⟨c, rfl, rfl, rfl, w2⟩ := open_int Tryz.underlying5 (hval 2 5 v2 rfl rfl) t2
  refine (walk a b c (wf_rng w0) (wf_rng w1) (wf_rng w2) W).mono fun e W' ⟨he, hb⟩ => ?_
  exact ⟨_, he, post_law laidOut (by kernel_rfl) rfl (tb := 4) (by kernel_rfl) Tryz.underlying4 rfl hW' hb⟩

theorem w1 (os : Os) : World.variablesB Tryz.checked.prog ((World.doorLaid Tryz.prog 400 os).forCall (fun _ _ => 0) ⟨#[], #[.int .i64 0, .int .u8 0, .int .u8 0], []⟩) = true := by kernel_rfl
theorem w2 (os : Os) : List.take ((begin Tryz.checked.prog (fun _ _ => 0) default).world.heap.size - Tryz.checked.prog.globals.size) (List.drop Tryz.checked.prog.globals.size ((World.doorLaid Tryz.prog 400 os).forCall (fun _ _ => 0) ⟨#[], #[.int .i64 0, .int .u8 0, .int .u8 0], []⟩).heap.toList) = List.drop Tryz.checked.prog.globals.size (begin Tryz.checked.prog (fun _ _ => 0) default).world.heap.toList := by kernel_rfl
theorem w3 (os : Os) : Input.okWideB Tryz.checked.prog ((World.doorLaid Tryz.prog 400 os).forCall (fun _ _ => 0) ⟨#[], #[.int .i64 0, .int .u8 0, .int .u8 0], []⟩) 9 ⟨#[], #[.int .i64 0, .int .u8 0, .int .u8 0], []⟩ = true := by kernel_rfl
theorem w4 (os : Os) (H : Type) (enc : TypeId × Value → H) : ChangeSpec.preB enc Tryz.checked.prog Tryz.f9 Rows.cpuBitsSpec [] false ((World.doorLaid Tryz.prog 400 os).forCall (fun _ _ => 0) ⟨#[], #[.int .i64 0, .int .u8 0, .int .u8 0], []⟩).memory #[.int .i64 0, .int .u8 0, .int .u8 0] 8 = true := by kernel_rfl
theorem w5 (os : Os) (H : Type) (enc : TypeId × Value → H) : ChangeSpec.sizedB enc Tryz.checked.prog Tryz.f9 Rows.cpuBitsSpec false ((World.doorLaid Tryz.prog 400 os).forCall (fun _ _ => 0) ⟨#[], #[.int .i64 0, .int .u8 0, .int .u8 0], []⟩).memory #[.int .i64 0, .int .u8 0, .int .u8 0] 8 = true := by kernel_rfl
theorem w6 : Tryz.checked.prog.inits.idxOf? 9 = none := by kernel_rfl

theorem lifted (os : Os) (started : os.Started) (H : Type) (enc : TypeId × Value → H) :
    ReturnsInHanded {} Tryz.checked os 9 .any (fun w args => (Rows.cpuBitsSpec.pre enc Tryz.prog Tryz.f9 [] false w args ∧ laidMetH Tryz.prog Rows.cpuBitsRow.laid w) ∧ sizedMet enc Tryz.prog Tryz.f9 (OpenSpec.ofChange Rows.cpuBitsSpec) false w args)
      (Rows.cpuBitsSpec.post enc Tryz.prog Tryz.f9 false true false false) := by
  refine returnsInHanded_of_change_and (C := Tryz.checked) (X := fun w _ => laidMetH Tryz.prog Rows.cpuBitsRow.laid w) (fun _ _ _ hh h => h.of_heap hh) own started w6 Tryz.func9
    (ChangeSpec.witness_at (enc := enc) (C := Tryz.checked) (os := os) (X := fun w _ => laidMetH Tryz.prog Rows.cpuBitsRow.laid w) false (World.doorLaid Tryz.prog 400 os) #[.int .i64 0, .int .u8 0, .int .u8 0] 8 rfl (w1 os) (w2 os) (w3 os) (w4 os H enc) (w5 os H enc) (laidWorld_met os _)) ?_
  intro W base args ds gs before hval hW _ _ _ _
  exact contract H enc W base args ds gs before hval hW

theorem c1 : Tryz.pinned.checked.prog.funcNamed Rows.cpuBitsRow.func = some 9 := by kernel_rfl
theorem c2 : joinedFacts Tryz.pinned.checked.prog 9 Tryz.f9 Rows.cpuBitsSpec Rows.cpuBitsRow = true := by kernel_rfl
theorem c3 : Func.isInstance Tryz.pinned.checked.prog Tryz.f9 Rows.cpuBitsRow.origin Rows.cpuBitsRow.targs := of_decide_eq_true (by kernel_rfl)
theorem c4 : Func.isWrapper Tryz.pinned.checked.prog Tryz.f9 Rows.cpuBitsRow.wrapper Rows.cpuBitsRow.mainSum := by
  unfold Func.isWrapper; first | (rw [if_pos (by decide +kernel)]; kernel_rfl) | (rw [if_neg (by decide +kernel)]; exact ⟨rfl, rfl⟩)

theorem row : Rows.CpuBitsSaid :=
  OpenClaim.holds_of_wide 9 Tryz.f9 rfl rfl rfl rfl rfl rfl rfl ⟨rfl, rfl, rfl, rfl, rfl⟩ rfl rfl rfl rfl rfl c1 Tryz.func9 c2 c3 c4
    (fun os started H enc _ => lifted os started H enc)

theorem d1 : OpenClaim.wfByText (OpenSpec.ofChange Rows.cpuBitsSpec) Rows.cpuBitsRow = true := by kernel_rfl
theorem d2 : Tryz.pinned.checked.prog.mainIs = some (true, "6032358e0ef5dfc5d6e459a37573bcd12847f7ef33aa0460690be8b4ce60c90f".toList) := by kernel_rfl
theorem d3 : true = Tryz.pinned.checked.prog.looks [] := by kernel_rfl
theorem d4 : false = OpenClaim.goesBy Rows.cpuBitsRow Tryz.pinned.checked.prog := by kernel_rfl

theorem over : Rows.CpuBitsCardSaid :=
  Claim7.holds_tied_plain_at .later [] [.handle] true (true, "6032358e0ef5dfc5d6e459a37573bcd12847f7ef33aa0460690be8b4ce60c90f") true
    row (fun _ h => by cases h) d1 (fun _ h => by cases h) cpuBits_row_tie rfl ⟨rfl, rfl⟩ d2 rfl
    (fun f fn hf hfn => by
      obtain rfl : f = 9 := Option.some.inj (c1.symm.trans hf) |>.symm
      obtain rfl : fn = Tryz.f9 := (Option.some.inj (Tryz.func9.symm.trans hfn)).symm
      exact ⟨d3, fun j t ht => by
        rw [Tryz.params9] at ht
        have hm : t ∈ [3, 5, 5] := by simpa using Array.mem_of_getElem? ht
        have hall : ([3, 5, 5].all fun u => !Tryz.prog.wantsStandIn u) = true := by kernel_rfl
        exact (show Tryz.prog.wantsStandIn t = false by simpa using List.all_eq_true.1 hall t hm)⟩)
    d4

end Go.Proofs.YtpndnejabebfeaaGreatDoor.cpuBits
