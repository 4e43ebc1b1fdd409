/- Whatever the registers, the law 'without a machine there is no step' answers true and leaves its argument as it was; no condition. -/
import Derived.Test.YtpndnejabebfeaaGreatRows
import Derived.Test.YtpndnejabebfeaaGreatTab
import Derived.Test.YtpndnejabebfeaaGreatSxV
import Derived.WalkKit
import Derived.ProofKit
import Derived.OpenShut
set_option maxRecDepth 100000
namespace Go.Proofs.YtpndnejabebfeaaGreat.cpuNobody
open Go.ChangeShapes Go.WideShapes Go.ChangeAt Go.RowKit Go.Sx

theorem own : ownKnob Tryz.prog.godebug = none := by kernel_rfl
theorem laidOut : laidOutB Tryz.prog = true := by kernel_rfl

noncomputable def cfg : Cfg := ⟨tab, funs, []⟩
theorem cfgOk : CfgOk Tryz.prog cfg := ⟨tabOk, FunAll.ok funsOk, fun S h => (by cases h), mixed⟩

def lay : Lay := [(.int .i64, 6)]
noncomputable def body : Code := Tryz.f3.body.getD .skip

theorem tree : (lawTree cfg 60 Tryz.f3 body [.agg lay (.v 0)] [] 0 1 (layFacts (.v 0) 0 lay)).okN = true := by kernel_rfl

theorem walk (v : Value) (b : Nat) (w : World) (hv : Value.okWide Tryz.prog w .any b 23 v) :
    Calls Tryz.prog 3 #[v] w fun e w' => e = .returned (.bool true) ∧ Below w.heap.size w w' := by
  let env : Env := fun _ => argVal v
  have hl : (flatGo Tryz.prog .bool 0 lay [3, 3, 3, 3, 3, 3] && Nat.beq (Tryz.prog.cellsOf 23) (Lay.size lay)) = true := by kernel_rfl
  obtain ⟨h1, h2⟩ := open_flat (env := env) (n := 0) Tryz.underlying23 rfl (by kernel_rfl : Tryz.prog.cellTypes Tryz.prog.depth 23 = some [3, 3, 3, 3, 3, 3]) hl hv rfl (fun _ => (0, 0))
  exact law_calls cfgOk Tryz.func3 (rfl : Tryz.f3.body = some body) (Tree.okN_path env _ tree) (by kernel_rfl) h2 (vs := [v]) ⟨h1, trivial⟩ (fun i b h => by cases h) (fun i b j c h => by cases h)

theorem contract (H : Type) (enc : TypeId × Value → H) (W : World) (base : Nat) (args : Array Value) (ds gs : List (DataW H)) (before : List MemPlace)
    (hval : ∀ (j : Nat) t v, Tryz.f3.params[j]? = some t → args[j]? = some v → Value.okWide Tryz.prog W .any base t v)
    (hW : DataW.Whole enc Tryz.prog Tryz.f3.params.toList Rows.cpuNobodySpec.vars false W args.toList ds gs before) :
    Calls Tryz.prog 3 args W fun e W' => ∃ v, e = .returned v ∧ Rows.cpuNobodySpec.post enc Tryz.prog Tryz.f3 false true false false W args v W' := by
  have hW' := hW
  obtain ⟨p, q, hA0, hV, rfl, hfz, hnd⟩ := hW
  have hA : DataW.TrodAll enc Tryz.prog W 0 (fun _ => true) true Tryz.f3.params.toList args.toList ds p := hA0
  rw [Tryz.params3] at hA hval
  obtain ⟨v0, vs0, d0, ds0, p0, q0, hargs, rfl, rfl, h0, r0⟩ := trodAll_cons hA
  obtain ⟨rfl, rfl, rfl⟩ := trodAll_nil r0
  obtain rfl : args = #[v0] := by cases args; simp_all
  obtain ⟨rfl, rfl⟩ := trodVars_none hV
  refine (walk v0 base W (hval 0 23 v0 rfl rfl)).mono fun e W' ⟨he, hb⟩ => ?_
  exact ⟨_, he, post_law laidOut (by kernel_rfl) rfl (tb := 4) (by kernel_rfl) Tryz.underlying4 rfl hW' hb⟩

theorem lifted (os : Os) (started : os.Started) (H : Type) (enc : TypeId × Value → H) :
    ReturnsInHanded {} Tryz.checked os 3 .any (Rows.cpuNobodySpec.pre6 enc Tryz.prog Tryz.f3 Rows.cpuNobodyRow.domain false) (Rows.cpuNobodySpec.post enc Tryz.prog Tryz.f3 false true false false) := by
  refine returnsInHanded_of_change (C := Tryz.checked) own started (by kernel_rfl) Tryz.func3
    (ChangeSpec.witness6 (enc := enc) (C := Tryz.checked) false ⟨#[], #[.agg #[.int .i64 0, .int .i64 0, .int .i64 0, .int .i64 0, .int .i64 0, .int .i64 0]], []⟩ 8 (by kernel_rfl) (by kernel_rfl) (by kernel_rfl) (by kernel_rfl)) ?_
  intro W base args ds gs before hval hW _ _
  exact contract H enc W base args ds gs before hval hW

theorem over : Rows.CpuNobodySaid :=
  OpenClaim.holds_of_wide 3 Tryz.f3 rfl rfl rfl rfl rfl rfl rfl ⟨rfl, rfl, rfl, rfl, rfl⟩ rfl rfl rfl rfl rfl (by kernel_rfl) Tryz.func3 (by kernel_rfl)
    (of_decide_eq_true (by kernel_rfl)) (by unfold Func.isWrapper; first | (rw [if_pos (by decide +kernel)]; kernel_rfl) | (rw [if_neg (by decide +kernel)]; exact ⟨rfl, rfl⟩))
    (fun os started H enc _ => lifted os started H enc)

end Go.Proofs.YtpndnejabebfeaaGreat.cpuNobody
