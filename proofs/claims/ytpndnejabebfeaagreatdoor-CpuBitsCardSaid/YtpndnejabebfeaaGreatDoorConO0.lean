/- Contracts of opcode.Of, one for each byte. -/
import Derived.Test.YtpndnejabebfeaaGreatDoorConS
set_option maxRecDepth 100000
namespace Go.Proofs.YtpndnejabebfeaaGreatDoor
open Go.Sx

noncomputable def S_of0 : Summ := ⟨152, 0, [(.sc (.int .i64 (.lit 0)))], 0, [], [], fun _ => [], 0, (.sv (.agg [(.fix (.val (.string ⟨#[66, 82, 75]⟩)), 1), (.int .i64, 3)] (.upd (.upd (.upd (.upd (.rep 0) (.lit 0) (.lit 0)) (.lit 1) (.lit 0)) (.lit 2) (.lit 1)) (.lit 3) (.lit 8)))),
  [], []⟩
theorem V_of0 : SummOk Tryz.prog 152 S_of0 := ⟨sum_valid cfg0Ok Tryz.func152 (body := Tryz.f152.body.getD .skip) rfl 600 rfl (by kernel_rfl), ⟨Tryz.call152⟩, rfl⟩
noncomputable def S_of1 : Summ := ⟨152, 0, [(.sc (.int .i64 (.lit 1)))], 0, [], [], fun _ => [], 0, (.sv (.agg [(.fix (.val (.string ⟨#[79, 82, 65]⟩)), 1), (.int .i64, 3)] (.upd (.upd (.upd (.upd (.rep 0) (.lit 0) (.lit 0)) (.lit 1) (.lit 6)) (.lit 2) (.lit 2)) (.lit 3) (.lit 7)))),
  [], []⟩
theorem V_of1 : SummOk Tryz.prog 152 S_of1 := ⟨sum_valid cfg0Ok Tryz.func152 (body := Tryz.f152.body.getD .skip) rfl 600 rfl (by kernel_rfl), ⟨Tryz.call152⟩, rfl⟩
noncomputable def S_of2 : Summ := ⟨152, 0, [(.sc (.int .i64 (.lit 2)))], 0, [], [], fun _ => [], 0, (.sv (.agg [(.fix (.val (.string ⟨#[83, 88, 89]⟩)), 1), (.int .i64, 3)] (.upd (.upd (.upd (.upd (.rep 0) (.lit 0) (.lit 0)) (.lit 1) (.lit 0)) (.lit 2) (.lit 1)) (.lit 3) (.lit 3)))),
  [], []⟩
theorem V_of2 : SummOk Tryz.prog 152 S_of2 := ⟨sum_valid cfg0Ok Tryz.func152 (body := Tryz.f152.body.getD .skip) rfl 600 rfl (by kernel_rfl), ⟨Tryz.call152⟩, rfl⟩
noncomputable def S_of3 : Summ := ⟨152, 0, [(.sc (.int .i64 (.lit 3)))], 0, [], [], fun _ => [], 0, (.sv (.agg [(.fix (.val (.string ⟨#[83, 84, 48]⟩)), 1), (.int .i64, 3)] (.upd (.upd (.upd (.upd (.rep 0) (.lit 0) (.lit 0)) (.lit 1) (.lit 2)) (.lit 2) (.lit 2)) (.lit 3) (.lit 4)))),
  [], []⟩
theorem V_of3 : SummOk Tryz.prog 152 S_of3 := ⟨sum_valid cfg0Ok Tryz.func152 (body := Tryz.f152.body.getD .skip) rfl 600 rfl (by kernel_rfl), ⟨Tryz.call152⟩, rfl⟩
noncomputable def S_of4 : Summ := ⟨152, 0, [(.sc (.int .i64 (.lit 4)))], 0, [], [], fun _ => [], 0, (.sv (.agg [(.fix (.val (.string ⟨#[84, 83, 66]⟩)), 1), (.int .i64, 3)] (.upd (.upd (.upd (.upd (.rep 0) (.lit 0) (.lit 0)) (.lit 1) (.lit 3)) (.lit 2) (.lit 2)) (.lit 3) (.lit 6)))),
  [], []⟩
theorem V_of4 : SummOk Tryz.prog 152 S_of4 := ⟨sum_valid cfg0Ok Tryz.func152 (body := Tryz.f152.body.getD .skip) rfl 600 rfl (by kernel_rfl), ⟨Tryz.call152⟩, rfl⟩
noncomputable def S_of5 : Summ := ⟨152, 0, [(.sc (.int .i64 (.lit 5)))], 0, [], [], fun _ => [], 0, (.sv (.agg [(.fix (.val (.string ⟨#[79, 82, 65]⟩)), 1), (.int .i64, 3)] (.upd (.upd (.upd (.upd (.rep 0) (.lit 0) (.lit 0)) (.lit 1) (.lit 3)) (.lit 2) (.lit 2)) (.lit 3) (.lit 4)))),
  [], []⟩
theorem V_of5 : SummOk Tryz.prog 152 S_of5 := ⟨sum_valid cfg0Ok Tryz.func152 (body := Tryz.f152.body.getD .skip) rfl 600 rfl (by kernel_rfl), ⟨Tryz.call152⟩, rfl⟩
noncomputable def S_of6 : Summ := ⟨152, 0, [(.sc (.int .i64 (.lit 6)))], 0, [], [], fun _ => [], 0, (.sv (.agg [(.fix (.val (.string ⟨#[65, 83, 76]⟩)), 1), (.int .i64, 3)] (.upd (.upd (.upd (.upd (.rep 0) (.lit 0) (.lit 0)) (.lit 1) (.lit 3)) (.lit 2) (.lit 2)) (.lit 3) (.lit 6)))),
  [], []⟩
theorem V_of6 : SummOk Tryz.prog 152 S_of6 := ⟨sum_valid cfg0Ok Tryz.func152 (body := Tryz.f152.body.getD .skip) rfl 600 rfl (by kernel_rfl), ⟨Tryz.call152⟩, rfl⟩
noncomputable def S_of7 : Summ := ⟨152, 0, [(.sc (.int .i64 (.lit 7)))], 0, [], [], fun _ => [], 0, (.sv (.agg [(.fix (.val (.string ⟨#[82, 77, 66, 48]⟩)), 1), (.int .i64, 3)] (.upd (.upd (.upd (.upd (.rep 0) (.lit 0) (.lit 0)) (.lit 1) (.lit 3)) (.lit 2) (.lit 2)) (.lit 3) (.lit 7)))),
  [], []⟩
theorem V_of7 : SummOk Tryz.prog 152 S_of7 := ⟨sum_valid cfg0Ok Tryz.func152 (body := Tryz.f152.body.getD .skip) rfl 600 rfl (by kernel_rfl), ⟨Tryz.call152⟩, rfl⟩
noncomputable def S_of8 : Summ := ⟨152, 0, [(.sc (.int .i64 (.lit 8)))], 0, [], [], fun _ => [], 0, (.sv (.agg [(.fix (.val (.string ⟨#[80, 72, 80]⟩)), 1), (.int .i64, 3)] (.upd (.upd (.upd (.upd (.rep 0) (.lit 0) (.lit 0)) (.lit 1) (.lit 0)) (.lit 2) (.lit 1)) (.lit 3) (.lit 3)))),
  [], []⟩
theorem V_of8 : SummOk Tryz.prog 152 S_of8 := ⟨sum_valid cfg0Ok Tryz.func152 (body := Tryz.f152.body.getD .skip) rfl 600 rfl (by kernel_rfl), ⟨Tryz.call152⟩, rfl⟩
noncomputable def S_of9 : Summ := ⟨152, 0, [(.sc (.int .i64 (.lit 9)))], 0, [], [], fun _ => [], 0, (.sv (.agg [(.fix (.val (.string ⟨#[79, 82, 65]⟩)), 1), (.int .i64, 3)] (.upd (.upd (.upd (.upd (.rep 0) (.lit 0) (.lit 0)) (.lit 1) (.lit 2)) (.lit 2) (.lit 2)) (.lit 3) (.lit 2)))),
  [], []⟩
theorem V_of9 : SummOk Tryz.prog 152 S_of9 := ⟨sum_valid cfg0Ok Tryz.func152 (body := Tryz.f152.body.getD .skip) rfl 600 rfl (by kernel_rfl), ⟨Tryz.call152⟩, rfl⟩
noncomputable def S_of10 : Summ := ⟨152, 0, [(.sc (.int .i64 (.lit 10)))], 0, [], [], fun _ => [], 0, (.sv (.agg [(.fix (.val (.string ⟨#[65, 83, 76]⟩)), 1), (.int .i64, 3)] (.upd (.upd (.upd (.upd (.rep 0) (.lit 0) (.lit 0)) (.lit 1) (.lit 1)) (.lit 2) (.lit 1)) (.lit 3) (.lit 2)))),
  [], []⟩
theorem V_of10 : SummOk Tryz.prog 152 S_of10 := ⟨sum_valid cfg0Ok Tryz.func152 (body := Tryz.f152.body.getD .skip) rfl 600 rfl (by kernel_rfl), ⟨Tryz.call152⟩, rfl⟩
noncomputable def S_of11 : Summ := ⟨152, 0, [(.sc (.int .i64 (.lit 11)))], 0, [], [], fun _ => [], 0, (.sv (.agg [(.fix (.val (.string ⟨#[78, 79, 80]⟩)), 1), (.int .i64, 3)] (.upd (.upd (.upd (.upd (.rep 0) (.lit 0) (.lit 0)) (.lit 1) (.lit 0)) (.lit 2) (.lit 1)) (.lit 3) (.lit 2)))),
  [], []⟩
theorem V_of11 : SummOk Tryz.prog 152 S_of11 := ⟨sum_valid cfg0Ok Tryz.func152 (body := Tryz.f152.body.getD .skip) rfl 600 rfl (by kernel_rfl), ⟨Tryz.call152⟩, rfl⟩
noncomputable def S_of12 : Summ := ⟨152, 0, [(.sc (.int .i64 (.lit 12)))], 0, [], [], fun _ => [], 0, (.sv (.agg [(.fix (.val (.string ⟨#[84, 83, 66]⟩)), 1), (.int .i64, 3)] (.upd (.upd (.upd (.upd (.rep 0) (.lit 0) (.lit 0)) (.lit 1) (.lit 9)) (.lit 2) (.lit 3)) (.lit 3) (.lit 7)))),
  [], []⟩
theorem V_of12 : SummOk Tryz.prog 152 S_of12 := ⟨sum_valid cfg0Ok Tryz.func152 (body := Tryz.f152.body.getD .skip) rfl 600 rfl (by kernel_rfl), ⟨Tryz.call152⟩, rfl⟩
noncomputable def S_of13 : Summ := ⟨152, 0, [(.sc (.int .i64 (.lit 13)))], 0, [], [], fun _ => [], 0, (.sv (.agg [(.fix (.val (.string ⟨#[79, 82, 65]⟩)), 1), (.int .i64, 3)] (.upd (.upd (.upd (.upd (.rep 0) (.lit 0) (.lit 0)) (.lit 1) (.lit 9)) (.lit 2) (.lit 3)) (.lit 3) (.lit 5)))),
  [], []⟩
theorem V_of13 : SummOk Tryz.prog 152 S_of13 := ⟨sum_valid cfg0Ok Tryz.func152 (body := Tryz.f152.body.getD .skip) rfl 600 rfl (by kernel_rfl), ⟨Tryz.call152⟩, rfl⟩
noncomputable def S_of14 : Summ := ⟨152, 0, [(.sc (.int .i64 (.lit 14)))], 0, [], [], fun _ => [], 0, (.sv (.agg [(.fix (.val (.string ⟨#[65, 83, 76]⟩)), 1), (.int .i64, 3)] (.upd (.upd (.upd (.upd (.rep 0) (.lit 0) (.lit 0)) (.lit 1) (.lit 9)) (.lit 2) (.lit 3)) (.lit 3) (.lit 7)))),
  [], []⟩
theorem V_of14 : SummOk Tryz.prog 152 S_of14 := ⟨sum_valid cfg0Ok Tryz.func152 (body := Tryz.f152.body.getD .skip) rfl 600 rfl (by kernel_rfl), ⟨Tryz.call152⟩, rfl⟩
noncomputable def S_of15 : Summ := ⟨152, 0, [(.sc (.int .i64 (.lit 15)))], 0, [], [], fun _ => [], 0, (.sv (.agg [(.fix (.val (.string ⟨#[66, 66, 82, 48]⟩)), 1), (.int .i64, 3)] (.upd (.upd (.upd (.upd (.rep 0) (.lit 0) (.lit 0)) (.lit 1) (.lit 15)) (.lit 2) (.lit 3)) (.lit 3) (.lit 6)))),
  [], []⟩
theorem V_of15 : SummOk Tryz.prog 152 S_of15 := ⟨sum_valid cfg0Ok Tryz.func152 (body := Tryz.f152.body.getD .skip) rfl 600 rfl (by kernel_rfl), ⟨Tryz.call152⟩, rfl⟩
noncomputable def S_of16 : Summ := ⟨152, 0, [(.sc (.int .i64 (.lit 16)))], 0, [], [], fun _ => [], 0, (.sv (.agg [(.fix (.val (.string ⟨#[66, 80, 76]⟩)), 1), (.int .i64, 3)] (.upd (.upd (.upd (.upd (.rep 0) (.lit 0) (.lit 0)) (.lit 1) (.lit 14)) (.lit 2) (.lit 2)) (.lit 3) (.lit 2)))),
  [], []⟩
theorem V_of16 : SummOk Tryz.prog 152 S_of16 := ⟨sum_valid cfg0Ok Tryz.func152 (body := Tryz.f152.body.getD .skip) rfl 600 rfl (by kernel_rfl), ⟨Tryz.call152⟩, rfl⟩
noncomputable def S_of17 : Summ := ⟨152, 0, [(.sc (.int .i64 (.lit 17)))], 0, [], [], fun _ => [], 0, (.sv (.agg [(.fix (.val (.string ⟨#[79, 82, 65]⟩)), 1), (.int .i64, 3)] (.upd (.upd (.upd (.upd (.rep 0) (.lit 0) (.lit 0)) (.lit 1) (.lit 7)) (.lit 2) (.lit 2)) (.lit 3) (.lit 7)))),
  [], []⟩
theorem V_of17 : SummOk Tryz.prog 152 S_of17 := ⟨sum_valid cfg0Ok Tryz.func152 (body := Tryz.f152.body.getD .skip) rfl 600 rfl (by kernel_rfl), ⟨Tryz.call152⟩, rfl⟩
noncomputable def S_of18 : Summ := ⟨152, 0, [(.sc (.int .i64 (.lit 18)))], 0, [], [], fun _ => [], 0, (.sv (.agg [(.fix (.val (.string ⟨#[79, 82, 65]⟩)), 1), (.int .i64, 3)] (.upd (.upd (.upd (.upd (.rep 0) (.lit 0) (.lit 0)) (.lit 1) (.lit 8)) (.lit 2) (.lit 2)) (.lit 3) (.lit 7)))),
  [], []⟩
theorem V_of18 : SummOk Tryz.prog 152 S_of18 := ⟨sum_valid cfg0Ok Tryz.func152 (body := Tryz.f152.body.getD .skip) rfl 600 rfl (by kernel_rfl), ⟨Tryz.call152⟩, rfl⟩
noncomputable def S_of19 : Summ := ⟨152, 0, [(.sc (.int .i64 (.lit 19)))], 0, [], [], fun _ => [], 0, (.sv (.agg [(.fix (.val (.string ⟨#[83, 84, 49]⟩)), 1), (.int .i64, 3)] (.upd (.upd (.upd (.upd (.rep 0) (.lit 0) (.lit 0)) (.lit 1) (.lit 2)) (.lit 2) (.lit 2)) (.lit 3) (.lit 4)))),
  [], []⟩
theorem V_of19 : SummOk Tryz.prog 152 S_of19 := ⟨sum_valid cfg0Ok Tryz.func152 (body := Tryz.f152.body.getD .skip) rfl 600 rfl (by kernel_rfl), ⟨Tryz.call152⟩, rfl⟩
noncomputable def S_of20 : Summ := ⟨152, 0, [(.sc (.int .i64 (.lit 20)))], 0, [], [], fun _ => [], 0, (.sv (.agg [(.fix (.val (.string ⟨#[84, 82, 66]⟩)), 1), (.int .i64, 3)] (.upd (.upd (.upd (.upd (.rep 0) (.lit 0) (.lit 0)) (.lit 1) (.lit 3)) (.lit 2) (.lit 2)) (.lit 3) (.lit 6)))),
  [], []⟩
theorem V_of20 : SummOk Tryz.prog 152 S_of20 := ⟨sum_valid cfg0Ok Tryz.func152 (body := Tryz.f152.body.getD .skip) rfl 600 rfl (by kernel_rfl), ⟨Tryz.call152⟩, rfl⟩
noncomputable def S_of21 : Summ := ⟨152, 0, [(.sc (.int .i64 (.lit 21)))], 0, [], [], fun _ => [], 0, (.sv (.agg [(.fix (.val (.string ⟨#[79, 82, 65]⟩)), 1), (.int .i64, 3)] (.upd (.upd (.upd (.upd (.rep 0) (.lit 0) (.lit 0)) (.lit 1) (.lit 4)) (.lit 2) (.lit 2)) (.lit 3) (.lit 4)))),
  [], []⟩
theorem V_of21 : SummOk Tryz.prog 152 S_of21 := ⟨sum_valid cfg0Ok Tryz.func152 (body := Tryz.f152.body.getD .skip) rfl 600 rfl (by kernel_rfl), ⟨Tryz.call152⟩, rfl⟩
noncomputable def S_of22 : Summ := ⟨152, 0, [(.sc (.int .i64 (.lit 22)))], 0, [], [], fun _ => [], 0, (.sv (.agg [(.fix (.val (.string ⟨#[65, 83, 76]⟩)), 1), (.int .i64, 3)] (.upd (.upd (.upd (.upd (.rep 0) (.lit 0) (.lit 0)) (.lit 1) (.lit 4)) (.lit 2) (.lit 2)) (.lit 3) (.lit 6)))),
  [], []⟩
theorem V_of22 : SummOk Tryz.prog 152 S_of22 := ⟨sum_valid cfg0Ok Tryz.func152 (body := Tryz.f152.body.getD .skip) rfl 600 rfl (by kernel_rfl), ⟨Tryz.call152⟩, rfl⟩
noncomputable def S_of23 : Summ := ⟨152, 0, [(.sc (.int .i64 (.lit 23)))], 0, [], [], fun _ => [], 0, (.sv (.agg [(.fix (.val (.string ⟨#[82, 77, 66, 49]⟩)), 1), (.int .i64, 3)] (.upd (.upd (.upd (.upd (.rep 0) (.lit 0) (.lit 0)) (.lit 1) (.lit 3)) (.lit 2) (.lit 2)) (.lit 3) (.lit 7)))),
  [], []⟩
theorem V_of23 : SummOk Tryz.prog 152 S_of23 := ⟨sum_valid cfg0Ok Tryz.func152 (body := Tryz.f152.body.getD .skip) rfl 600 rfl (by kernel_rfl), ⟨Tryz.call152⟩, rfl⟩
noncomputable def S_of24 : Summ := ⟨152, 0, [(.sc (.int .i64 (.lit 24)))], 0, [], [], fun _ => [], 0, (.sv (.agg [(.fix (.val (.string ⟨#[67, 76, 67]⟩)), 1), (.int .i64, 3)] (.upd (.upd (.upd (.upd (.rep 0) (.lit 0) (.lit 0)) (.lit 1) (.lit 0)) (.lit 2) (.lit 1)) (.lit 3) (.lit 2)))),
  [], []⟩
theorem V_of24 : SummOk Tryz.prog 152 S_of24 := ⟨sum_valid cfg0Ok Tryz.func152 (body := Tryz.f152.body.getD .skip) rfl 600 rfl (by kernel_rfl), ⟨Tryz.call152⟩, rfl⟩
noncomputable def S_of25 : Summ := ⟨152, 0, [(.sc (.int .i64 (.lit 25)))], 0, [], [], fun _ => [], 0, (.sv (.agg [(.fix (.val (.string ⟨#[79, 82, 65]⟩)), 1), (.int .i64, 3)] (.upd (.upd (.upd (.upd (.rep 0) (.lit 0) (.lit 0)) (.lit 1) (.lit 11)) (.lit 2) (.lit 3)) (.lit 3) (.lit 5)))),
  [], []⟩
theorem V_of25 : SummOk Tryz.prog 152 S_of25 := ⟨sum_valid cfg0Ok Tryz.func152 (body := Tryz.f152.body.getD .skip) rfl 600 rfl (by kernel_rfl), ⟨Tryz.call152⟩, rfl⟩
noncomputable def S_of26 : Summ := ⟨152, 0, [(.sc (.int .i64 (.lit 26)))], 0, [], [], fun _ => [], 0, (.sv (.agg [(.fix (.val (.string ⟨#[73, 78, 67]⟩)), 1), (.int .i64, 3)] (.upd (.upd (.upd (.upd (.rep 0) (.lit 0) (.lit 0)) (.lit 1) (.lit 1)) (.lit 2) (.lit 1)) (.lit 3) (.lit 2)))),
  [], []⟩
theorem V_of26 : SummOk Tryz.prog 152 S_of26 := ⟨sum_valid cfg0Ok Tryz.func152 (body := Tryz.f152.body.getD .skip) rfl 600 rfl (by kernel_rfl), ⟨Tryz.call152⟩, rfl⟩
noncomputable def S_of27 : Summ := ⟨152, 0, [(.sc (.int .i64 (.lit 27)))], 0, [], [], fun _ => [], 0, (.sv (.agg [(.fix (.val (.string ⟨#[78, 79, 80]⟩)), 1), (.int .i64, 3)] (.upd (.upd (.upd (.upd (.rep 0) (.lit 0) (.lit 0)) (.lit 1) (.lit 0)) (.lit 2) (.lit 1)) (.lit 3) (.lit 2)))),
  [], []⟩
theorem V_of27 : SummOk Tryz.prog 152 S_of27 := ⟨sum_valid cfg0Ok Tryz.func152 (body := Tryz.f152.body.getD .skip) rfl 600 rfl (by kernel_rfl), ⟨Tryz.call152⟩, rfl⟩
noncomputable def S_of28 : Summ := ⟨152, 0, [(.sc (.int .i64 (.lit 28)))], 0, [], [], fun _ => [], 0, (.sv (.agg [(.fix (.val (.string ⟨#[84, 82, 66]⟩)), 1), (.int .i64, 3)] (.upd (.upd (.upd (.upd (.rep 0) (.lit 0) (.lit 0)) (.lit 1) (.lit 9)) (.lit 2) (.lit 3)) (.lit 3) (.lit 7)))),
  [], []⟩
theorem V_of28 : SummOk Tryz.prog 152 S_of28 := ⟨sum_valid cfg0Ok Tryz.func152 (body := Tryz.f152.body.getD .skip) rfl 600 rfl (by kernel_rfl), ⟨Tryz.call152⟩, rfl⟩
noncomputable def S_of29 : Summ := ⟨152, 0, [(.sc (.int .i64 (.lit 29)))], 0, [], [], fun _ => [], 0, (.sv (.agg [(.fix (.val (.string ⟨#[79, 82, 65]⟩)), 1), (.int .i64, 3)] (.upd (.upd (.upd (.upd (.rep 0) (.lit 0) (.lit 0)) (.lit 1) (.lit 10)) (.lit 2) (.lit 3)) (.lit 3) (.lit 5)))),
  [], []⟩
theorem V_of29 : SummOk Tryz.prog 152 S_of29 := ⟨sum_valid cfg0Ok Tryz.func152 (body := Tryz.f152.body.getD .skip) rfl 600 rfl (by kernel_rfl), ⟨Tryz.call152⟩, rfl⟩
noncomputable def S_of30 : Summ := ⟨152, 0, [(.sc (.int .i64 (.lit 30)))], 0, [], [], fun _ => [], 0, (.sv (.agg [(.fix (.val (.string ⟨#[65, 83, 76]⟩)), 1), (.int .i64, 3)] (.upd (.upd (.upd (.upd (.rep 0) (.lit 0) (.lit 0)) (.lit 1) (.lit 10)) (.lit 2) (.lit 3)) (.lit 3) (.lit 7)))),
  [], []⟩
theorem V_of30 : SummOk Tryz.prog 152 S_of30 := ⟨sum_valid cfg0Ok Tryz.func152 (body := Tryz.f152.body.getD .skip) rfl 600 rfl (by kernel_rfl), ⟨Tryz.call152⟩, rfl⟩
noncomputable def S_of31 : Summ := ⟨152, 0, [(.sc (.int .i64 (.lit 31)))], 0, [], [], fun _ => [], 0, (.sv (.agg [(.fix (.val (.string ⟨#[66, 66, 82, 49]⟩)), 1), (.int .i64, 3)] (.upd (.upd (.upd (.upd (.rep 0) (.lit 0) (.lit 0)) (.lit 1) (.lit 15)) (.lit 2) (.lit 3)) (.lit 3) (.lit 6)))),
  [], []⟩
theorem V_of31 : SummOk Tryz.prog 152 S_of31 := ⟨sum_valid cfg0Ok Tryz.func152 (body := Tryz.f152.body.getD .skip) rfl 600 rfl (by kernel_rfl), ⟨Tryz.call152⟩, rfl⟩
noncomputable def S_of32 : Summ := ⟨152, 0, [(.sc (.int .i64 (.lit 32)))], 0, [], [], fun _ => [], 0, (.sv (.agg [(.fix (.val (.string ⟨#[74, 83, 82]⟩)), 1), (.int .i64, 3)] (.upd (.upd (.upd (.upd (.rep 0) (.lit 0) (.lit 0)) (.lit 1) (.lit 9)) (.lit 2) (.lit 3)) (.lit 3) (.lit 7)))),
  [], []⟩
theorem V_of32 : SummOk Tryz.prog 152 S_of32 := ⟨sum_valid cfg0Ok Tryz.func152 (body := Tryz.f152.body.getD .skip) rfl 600 rfl (by kernel_rfl), ⟨Tryz.call152⟩, rfl⟩
noncomputable def S_of33 : Summ := ⟨152, 0, [(.sc (.int .i64 (.lit 33)))], 0, [], [], fun _ => [], 0, (.sv (.agg [(.fix (.val (.string ⟨#[65, 78, 68]⟩)), 1), (.int .i64, 3)] (.upd (.upd (.upd (.upd (.rep 0) (.lit 0) (.lit 0)) (.lit 1) (.lit 6)) (.lit 2) (.lit 2)) (.lit 3) (.lit 7)))),
  [], []⟩
theorem V_of33 : SummOk Tryz.prog 152 S_of33 := ⟨sum_valid cfg0Ok Tryz.func152 (body := Tryz.f152.body.getD .skip) rfl 600 rfl (by kernel_rfl), ⟨Tryz.call152⟩, rfl⟩
noncomputable def S_of34 : Summ := ⟨152, 0, [(.sc (.int .i64 (.lit 34)))], 0, [], [], fun _ => [], 0, (.sv (.agg [(.fix (.val (.string ⟨#[83, 65, 88]⟩)), 1), (.int .i64, 3)] (.upd (.upd (.upd (.upd (.rep 0) (.lit 0) (.lit 0)) (.lit 1) (.lit 0)) (.lit 2) (.lit 1)) (.lit 3) (.lit 3)))),
  [], []⟩
theorem V_of34 : SummOk Tryz.prog 152 S_of34 := ⟨sum_valid cfg0Ok Tryz.func152 (body := Tryz.f152.body.getD .skip) rfl 600 rfl (by kernel_rfl), ⟨Tryz.call152⟩, rfl⟩
noncomputable def S_of35 : Summ := ⟨152, 0, [(.sc (.int .i64 (.lit 35)))], 0, [], [], fun _ => [], 0, (.sv (.agg [(.fix (.val (.string ⟨#[83, 84, 50]⟩)), 1), (.int .i64, 3)] (.upd (.upd (.upd (.upd (.rep 0) (.lit 0) (.lit 0)) (.lit 1) (.lit 2)) (.lit 2) (.lit 2)) (.lit 3) (.lit 4)))),
  [], []⟩
theorem V_of35 : SummOk Tryz.prog 152 S_of35 := ⟨sum_valid cfg0Ok Tryz.func152 (body := Tryz.f152.body.getD .skip) rfl 600 rfl (by kernel_rfl), ⟨Tryz.call152⟩, rfl⟩
noncomputable def S_of36 : Summ := ⟨152, 0, [(.sc (.int .i64 (.lit 36)))], 0, [], [], fun _ => [], 0, (.sv (.agg [(.fix (.val (.string ⟨#[66, 73, 84]⟩)), 1), (.int .i64, 3)] (.upd (.upd (.upd (.upd (.rep 0) (.lit 0) (.lit 0)) (.lit 1) (.lit 3)) (.lit 2) (.lit 2)) (.lit 3) (.lit 4)))),
  [], []⟩
theorem V_of36 : SummOk Tryz.prog 152 S_of36 := ⟨sum_valid cfg0Ok Tryz.func152 (body := Tryz.f152.body.getD .skip) rfl 600 rfl (by kernel_rfl), ⟨Tryz.call152⟩, rfl⟩
noncomputable def S_of37 : Summ := ⟨152, 0, [(.sc (.int .i64 (.lit 37)))], 0, [], [], fun _ => [], 0, (.sv (.agg [(.fix (.val (.string ⟨#[65, 78, 68]⟩)), 1), (.int .i64, 3)] (.upd (.upd (.upd (.upd (.rep 0) (.lit 0) (.lit 0)) (.lit 1) (.lit 3)) (.lit 2) (.lit 2)) (.lit 3) (.lit 4)))),
  [], []⟩
theorem V_of37 : SummOk Tryz.prog 152 S_of37 := ⟨sum_valid cfg0Ok Tryz.func152 (body := Tryz.f152.body.getD .skip) rfl 600 rfl (by kernel_rfl), ⟨Tryz.call152⟩, rfl⟩
noncomputable def S_of38 : Summ := ⟨152, 0, [(.sc (.int .i64 (.lit 38)))], 0, [], [], fun _ => [], 0, (.sv (.agg [(.fix (.val (.string ⟨#[82, 79, 76]⟩)), 1), (.int .i64, 3)] (.upd (.upd (.upd (.upd (.rep 0) (.lit 0) (.lit 0)) (.lit 1) (.lit 3)) (.lit 2) (.lit 2)) (.lit 3) (.lit 6)))),
  [], []⟩
theorem V_of38 : SummOk Tryz.prog 152 S_of38 := ⟨sum_valid cfg0Ok Tryz.func152 (body := Tryz.f152.body.getD .skip) rfl 600 rfl (by kernel_rfl), ⟨Tryz.call152⟩, rfl⟩
noncomputable def S_of39 : Summ := ⟨152, 0, [(.sc (.int .i64 (.lit 39)))], 0, [], [], fun _ => [], 0, (.sv (.agg [(.fix (.val (.string ⟨#[82, 77, 66, 50]⟩)), 1), (.int .i64, 3)] (.upd (.upd (.upd (.upd (.rep 0) (.lit 0) (.lit 0)) (.lit 1) (.lit 3)) (.lit 2) (.lit 2)) (.lit 3) (.lit 7)))),
  [], []⟩
theorem V_of39 : SummOk Tryz.prog 152 S_of39 := ⟨sum_valid cfg0Ok Tryz.func152 (body := Tryz.f152.body.getD .skip) rfl 600 rfl (by kernel_rfl), ⟨Tryz.call152⟩, rfl⟩
noncomputable def S_of40 : Summ := ⟨152, 0, [(.sc (.int .i64 (.lit 40)))], 0, [], [], fun _ => [], 0, (.sv (.agg [(.fix (.val (.string ⟨#[80, 76, 80]⟩)), 1), (.int .i64, 3)] (.upd (.upd (.upd (.upd (.rep 0) (.lit 0) (.lit 0)) (.lit 1) (.lit 0)) (.lit 2) (.lit 1)) (.lit 3) (.lit 4)))),
  [], []⟩
theorem V_of40 : SummOk Tryz.prog 152 S_of40 := ⟨sum_valid cfg0Ok Tryz.func152 (body := Tryz.f152.body.getD .skip) rfl 600 rfl (by kernel_rfl), ⟨Tryz.call152⟩, rfl⟩
noncomputable def S_of41 : Summ := ⟨152, 0, [(.sc (.int .i64 (.lit 41)))], 0, [], [], fun _ => [], 0, (.sv (.agg [(.fix (.val (.string ⟨#[65, 78, 68]⟩)), 1), (.int .i64, 3)] (.upd (.upd (.upd (.upd (.rep 0) (.lit 0) (.lit 0)) (.lit 1) (.lit 2)) (.lit 2) (.lit 2)) (.lit 3) (.lit 2)))),
  [], []⟩
theorem V_of41 : SummOk Tryz.prog 152 S_of41 := ⟨sum_valid cfg0Ok Tryz.func152 (body := Tryz.f152.body.getD .skip) rfl 600 rfl (by kernel_rfl), ⟨Tryz.call152⟩, rfl⟩
noncomputable def S_of42 : Summ := ⟨152, 0, [(.sc (.int .i64 (.lit 42)))], 0, [], [], fun _ => [], 0, (.sv (.agg [(.fix (.val (.string ⟨#[82, 79, 76]⟩)), 1), (.int .i64, 3)] (.upd (.upd (.upd (.upd (.rep 0) (.lit 0) (.lit 0)) (.lit 1) (.lit 1)) (.lit 2) (.lit 1)) (.lit 3) (.lit 2)))),
  [], []⟩
theorem V_of42 : SummOk Tryz.prog 152 S_of42 := ⟨sum_valid cfg0Ok Tryz.func152 (body := Tryz.f152.body.getD .skip) rfl 600 rfl (by kernel_rfl), ⟨Tryz.call152⟩, rfl⟩
noncomputable def S_of43 : Summ := ⟨152, 0, [(.sc (.int .i64 (.lit 43)))], 0, [], [], fun _ => [], 0, (.sv (.agg [(.fix (.val (.string ⟨#[78, 79, 80]⟩)), 1), (.int .i64, 3)] (.upd (.upd (.upd (.upd (.rep 0) (.lit 0) (.lit 0)) (.lit 1) (.lit 0)) (.lit 2) (.lit 1)) (.lit 3) (.lit 2)))),
  [], []⟩
theorem V_of43 : SummOk Tryz.prog 152 S_of43 := ⟨sum_valid cfg0Ok Tryz.func152 (body := Tryz.f152.body.getD .skip) rfl 600 rfl (by kernel_rfl), ⟨Tryz.call152⟩, rfl⟩
noncomputable def S_of44 : Summ := ⟨152, 0, [(.sc (.int .i64 (.lit 44)))], 0, [], [], fun _ => [], 0, (.sv (.agg [(.fix (.val (.string ⟨#[66, 73, 84]⟩)), 1), (.int .i64, 3)] (.upd (.upd (.upd (.upd (.rep 0) (.lit 0) (.lit 0)) (.lit 1) (.lit 9)) (.lit 2) (.lit 3)) (.lit 3) (.lit 5)))),
  [], []⟩
theorem V_of44 : SummOk Tryz.prog 152 S_of44 := ⟨sum_valid cfg0Ok Tryz.func152 (body := Tryz.f152.body.getD .skip) rfl 600 rfl (by kernel_rfl), ⟨Tryz.call152⟩, rfl⟩
noncomputable def S_of45 : Summ := ⟨152, 0, [(.sc (.int .i64 (.lit 45)))], 0, [], [], fun _ => [], 0, (.sv (.agg [(.fix (.val (.string ⟨#[65, 78, 68]⟩)), 1), (.int .i64, 3)] (.upd (.upd (.upd (.upd (.rep 0) (.lit 0) (.lit 0)) (.lit 1) (.lit 9)) (.lit 2) (.lit 3)) (.lit 3) (.lit 5)))),
  [], []⟩
theorem V_of45 : SummOk Tryz.prog 152 S_of45 := ⟨sum_valid cfg0Ok Tryz.func152 (body := Tryz.f152.body.getD .skip) rfl 600 rfl (by kernel_rfl), ⟨Tryz.call152⟩, rfl⟩
noncomputable def S_of46 : Summ := ⟨152, 0, [(.sc (.int .i64 (.lit 46)))], 0, [], [], fun _ => [], 0, (.sv (.agg [(.fix (.val (.string ⟨#[82, 79, 76]⟩)), 1), (.int .i64, 3)] (.upd (.upd (.upd (.upd (.rep 0) (.lit 0) (.lit 0)) (.lit 1) (.lit 9)) (.lit 2) (.lit 3)) (.lit 3) (.lit 7)))),
  [], []⟩
theorem V_of46 : SummOk Tryz.prog 152 S_of46 := ⟨sum_valid cfg0Ok Tryz.func152 (body := Tryz.f152.body.getD .skip) rfl 600 rfl (by kernel_rfl), ⟨Tryz.call152⟩, rfl⟩
noncomputable def S_of47 : Summ := ⟨152, 0, [(.sc (.int .i64 (.lit 47)))], 0, [], [], fun _ => [], 0, (.sv (.agg [(.fix (.val (.string ⟨#[66, 66, 82, 50]⟩)), 1), (.int .i64, 3)] (.upd (.upd (.upd (.upd (.rep 0) (.lit 0) (.lit 0)) (.lit 1) (.lit 15)) (.lit 2) (.lit 3)) (.lit 3) (.lit 6)))),
  [], []⟩
theorem V_of47 : SummOk Tryz.prog 152 S_of47 := ⟨sum_valid cfg0Ok Tryz.func152 (body := Tryz.f152.body.getD .skip) rfl 600 rfl (by kernel_rfl), ⟨Tryz.call152⟩, rfl⟩
noncomputable def S_of48 : Summ := ⟨152, 0, [(.sc (.int .i64 (.lit 48)))], 0, [], [], fun _ => [], 0, (.sv (.agg [(.fix (.val (.string ⟨#[66, 77, 73]⟩)), 1), (.int .i64, 3)] (.upd (.upd (.upd (.upd (.rep 0) (.lit 0) (.lit 0)) (.lit 1) (.lit 14)) (.lit 2) (.lit 2)) (.lit 3) (.lit 2)))),
  [], []⟩
theorem V_of48 : SummOk Tryz.prog 152 S_of48 := ⟨sum_valid cfg0Ok Tryz.func152 (body := Tryz.f152.body.getD .skip) rfl 600 rfl (by kernel_rfl), ⟨Tryz.call152⟩, rfl⟩
noncomputable def S_of49 : Summ := ⟨152, 0, [(.sc (.int .i64 (.lit 49)))], 0, [], [], fun _ => [], 0, (.sv (.agg [(.fix (.val (.string ⟨#[65, 78, 68]⟩)), 1), (.int .i64, 3)] (.upd (.upd (.upd (.upd (.rep 0) (.lit 0) (.lit 0)) (.lit 1) (.lit 7)) (.lit 2) (.lit 2)) (.lit 3) (.lit 7)))),
  [], []⟩
theorem V_of49 : SummOk Tryz.prog 152 S_of49 := ⟨sum_valid cfg0Ok Tryz.func152 (body := Tryz.f152.body.getD .skip) rfl 600 rfl (by kernel_rfl), ⟨Tryz.call152⟩, rfl⟩
noncomputable def S_of50 : Summ := ⟨152, 0, [(.sc (.int .i64 (.lit 50)))], 0, [], [], fun _ => [], 0, (.sv (.agg [(.fix (.val (.string ⟨#[65, 78, 68]⟩)), 1), (.int .i64, 3)] (.upd (.upd (.upd (.upd (.rep 0) (.lit 0) (.lit 0)) (.lit 1) (.lit 8)) (.lit 2) (.lit 2)) (.lit 3) (.lit 7)))),
  [], []⟩
theorem V_of50 : SummOk Tryz.prog 152 S_of50 := ⟨sum_valid cfg0Ok Tryz.func152 (body := Tryz.f152.body.getD .skip) rfl 600 rfl (by kernel_rfl), ⟨Tryz.call152⟩, rfl⟩
noncomputable def S_of51 : Summ := ⟨152, 0, [(.sc (.int .i64 (.lit 51)))], 0, [], [], fun _ => [], 0, (.sv (.agg [(.fix (.val (.string ⟨#[78, 79, 80]⟩)), 1), (.int .i64, 3)] (.upd (.upd (.upd (.upd (.rep 0) (.lit 0) (.lit 0)) (.lit 1) (.lit 0)) (.lit 2) (.lit 1)) (.lit 3) (.lit 2)))),
  [], []⟩
theorem V_of51 : SummOk Tryz.prog 152 S_of51 := ⟨sum_valid cfg0Ok Tryz.func152 (body := Tryz.f152.body.getD .skip) rfl 600 rfl (by kernel_rfl), ⟨Tryz.call152⟩, rfl⟩
noncomputable def S_of52 : Summ := ⟨152, 0, [(.sc (.int .i64 (.lit 52)))], 0, [], [], fun _ => [], 0, (.sv (.agg [(.fix (.val (.string ⟨#[66, 73, 84]⟩)), 1), (.int .i64, 3)] (.upd (.upd (.upd (.upd (.rep 0) (.lit 0) (.lit 0)) (.lit 1) (.lit 4)) (.lit 2) (.lit 2)) (.lit 3) (.lit 4)))),
  [], []⟩
theorem V_of52 : SummOk Tryz.prog 152 S_of52 := ⟨sum_valid cfg0Ok Tryz.func152 (body := Tryz.f152.body.getD .skip) rfl 600 rfl (by kernel_rfl), ⟨Tryz.call152⟩, rfl⟩
noncomputable def S_of53 : Summ := ⟨152, 0, [(.sc (.int .i64 (.lit 53)))], 0, [], [], fun _ => [], 0, (.sv (.agg [(.fix (.val (.string ⟨#[65, 78, 68]⟩)), 1), (.int .i64, 3)] (.upd (.upd (.upd (.upd (.rep 0) (.lit 0) (.lit 0)) (.lit 1) (.lit 4)) (.lit 2) (.lit 2)) (.lit 3) (.lit 4)))),
  [], []⟩
theorem V_of53 : SummOk Tryz.prog 152 S_of53 := ⟨sum_valid cfg0Ok Tryz.func152 (body := Tryz.f152.body.getD .skip) rfl 600 rfl (by kernel_rfl), ⟨Tryz.call152⟩, rfl⟩
noncomputable def S_of54 : Summ := ⟨152, 0, [(.sc (.int .i64 (.lit 54)))], 0, [], [], fun _ => [], 0, (.sv (.agg [(.fix (.val (.string ⟨#[82, 79, 76]⟩)), 1), (.int .i64, 3)] (.upd (.upd (.upd (.upd (.rep 0) (.lit 0) (.lit 0)) (.lit 1) (.lit 4)) (.lit 2) (.lit 2)) (.lit 3) (.lit 6)))),
  [], []⟩
theorem V_of54 : SummOk Tryz.prog 152 S_of54 := ⟨sum_valid cfg0Ok Tryz.func152 (body := Tryz.f152.body.getD .skip) rfl 600 rfl (by kernel_rfl), ⟨Tryz.call152⟩, rfl⟩
noncomputable def S_of55 : Summ := ⟨152, 0, [(.sc (.int .i64 (.lit 55)))], 0, [], [], fun _ => [], 0, (.sv (.agg [(.fix (.val (.string ⟨#[82, 77, 66, 51]⟩)), 1), (.int .i64, 3)] (.upd (.upd (.upd (.upd (.rep 0) (.lit 0) (.lit 0)) (.lit 1) (.lit 3)) (.lit 2) (.lit 2)) (.lit 3) (.lit 7)))),
  [], []⟩
theorem V_of55 : SummOk Tryz.prog 152 S_of55 := ⟨sum_valid cfg0Ok Tryz.func152 (body := Tryz.f152.body.getD .skip) rfl 600 rfl (by kernel_rfl), ⟨Tryz.call152⟩, rfl⟩
noncomputable def S_of56 : Summ := ⟨152, 0, [(.sc (.int .i64 (.lit 56)))], 0, [], [], fun _ => [], 0, (.sv (.agg [(.fix (.val (.string ⟨#[83, 69, 67]⟩)), 1), (.int .i64, 3)] (.upd (.upd (.upd (.upd (.rep 0) (.lit 0) (.lit 0)) (.lit 1) (.lit 0)) (.lit 2) (.lit 1)) (.lit 3) (.lit 2)))),
  [], []⟩
theorem V_of56 : SummOk Tryz.prog 152 S_of56 := ⟨sum_valid cfg0Ok Tryz.func152 (body := Tryz.f152.body.getD .skip) rfl 600 rfl (by kernel_rfl), ⟨Tryz.call152⟩, rfl⟩
noncomputable def S_of57 : Summ := ⟨152, 0, [(.sc (.int .i64 (.lit 57)))], 0, [], [], fun _ => [], 0, (.sv (.agg [(.fix (.val (.string ⟨#[65, 78, 68]⟩)), 1), (.int .i64, 3)] (.upd (.upd (.upd (.upd (.rep 0) (.lit 0) (.lit 0)) (.lit 1) (.lit 11)) (.lit 2) (.lit 3)) (.lit 3) (.lit 5)))),
  [], []⟩
theorem V_of57 : SummOk Tryz.prog 152 S_of57 := ⟨sum_valid cfg0Ok Tryz.func152 (body := Tryz.f152.body.getD .skip) rfl 600 rfl (by kernel_rfl), ⟨Tryz.call152⟩, rfl⟩
noncomputable def S_of58 : Summ := ⟨152, 0, [(.sc (.int .i64 (.lit 58)))], 0, [], [], fun _ => [], 0, (.sv (.agg [(.fix (.val (.string ⟨#[68, 69, 67]⟩)), 1), (.int .i64, 3)] (.upd (.upd (.upd (.upd (.rep 0) (.lit 0) (.lit 0)) (.lit 1) (.lit 1)) (.lit 2) (.lit 1)) (.lit 3) (.lit 2)))),
  [], []⟩
theorem V_of58 : SummOk Tryz.prog 152 S_of58 := ⟨sum_valid cfg0Ok Tryz.func152 (body := Tryz.f152.body.getD .skip) rfl 600 rfl (by kernel_rfl), ⟨Tryz.call152⟩, rfl⟩
noncomputable def S_of59 : Summ := ⟨152, 0, [(.sc (.int .i64 (.lit 59)))], 0, [], [], fun _ => [], 0, (.sv (.agg [(.fix (.val (.string ⟨#[78, 79, 80]⟩)), 1), (.int .i64, 3)] (.upd (.upd (.upd (.upd (.rep 0) (.lit 0) (.lit 0)) (.lit 1) (.lit 0)) (.lit 2) (.lit 1)) (.lit 3) (.lit 2)))),
  [], []⟩
theorem V_of59 : SummOk Tryz.prog 152 S_of59 := ⟨sum_valid cfg0Ok Tryz.func152 (body := Tryz.f152.body.getD .skip) rfl 600 rfl (by kernel_rfl), ⟨Tryz.call152⟩, rfl⟩
noncomputable def S_of60 : Summ := ⟨152, 0, [(.sc (.int .i64 (.lit 60)))], 0, [], [], fun _ => [], 0, (.sv (.agg [(.fix (.val (.string ⟨#[66, 73, 84]⟩)), 1), (.int .i64, 3)] (.upd (.upd (.upd (.upd (.rep 0) (.lit 0) (.lit 0)) (.lit 1) (.lit 10)) (.lit 2) (.lit 3)) (.lit 3) (.lit 5)))),
  [], []⟩
theorem V_of60 : SummOk Tryz.prog 152 S_of60 := ⟨sum_valid cfg0Ok Tryz.func152 (body := Tryz.f152.body.getD .skip) rfl 600 rfl (by kernel_rfl), ⟨Tryz.call152⟩, rfl⟩
noncomputable def S_of61 : Summ := ⟨152, 0, [(.sc (.int .i64 (.lit 61)))], 0, [], [], fun _ => [], 0, (.sv (.agg [(.fix (.val (.string ⟨#[65, 78, 68]⟩)), 1), (.int .i64, 3)] (.upd (.upd (.upd (.upd (.rep 0) (.lit 0) (.lit 0)) (.lit 1) (.lit 10)) (.lit 2) (.lit 3)) (.lit 3) (.lit 5)))),
  [], []⟩
theorem V_of61 : SummOk Tryz.prog 152 S_of61 := ⟨sum_valid cfg0Ok Tryz.func152 (body := Tryz.f152.body.getD .skip) rfl 600 rfl (by kernel_rfl), ⟨Tryz.call152⟩, rfl⟩
noncomputable def S_of62 : Summ := ⟨152, 0, [(.sc (.int .i64 (.lit 62)))], 0, [], [], fun _ => [], 0, (.sv (.agg [(.fix (.val (.string ⟨#[82, 79, 76]⟩)), 1), (.int .i64, 3)] (.upd (.upd (.upd (.upd (.rep 0) (.lit 0) (.lit 0)) (.lit 1) (.lit 10)) (.lit 2) (.lit 3)) (.lit 3) (.lit 7)))),
  [], []⟩
theorem V_of62 : SummOk Tryz.prog 152 S_of62 := ⟨sum_valid cfg0Ok Tryz.func152 (body := Tryz.f152.body.getD .skip) rfl 600 rfl (by kernel_rfl), ⟨Tryz.call152⟩, rfl⟩
noncomputable def S_of63 : Summ := ⟨152, 0, [(.sc (.int .i64 (.lit 63)))], 0, [], [], fun _ => [], 0, (.sv (.agg [(.fix (.val (.string ⟨#[66, 66, 82, 51]⟩)), 1), (.int .i64, 3)] (.upd (.upd (.upd (.upd (.rep 0) (.lit 0) (.lit 0)) (.lit 1) (.lit 15)) (.lit 2) (.lit 3)) (.lit 3) (.lit 6)))),
  [], []⟩
theorem V_of63 : SummOk Tryz.prog 152 S_of63 := ⟨sum_valid cfg0Ok Tryz.func152 (body := Tryz.f152.body.getD .skip) rfl 600 rfl (by kernel_rfl), ⟨Tryz.call152⟩, rfl⟩

end Go.Proofs.YtpndnejabebfeaaGreatDoor
