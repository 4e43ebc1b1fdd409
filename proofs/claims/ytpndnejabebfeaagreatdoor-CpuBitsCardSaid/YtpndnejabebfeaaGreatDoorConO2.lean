/- Contracts of opcode.Of, one for each byte. -/
import Derived.Test.YtpndnejabebfeaaGreatDoorConS
set_option maxRecDepth 100000
namespace Go.Proofs.YtpndnejabebfeaaGreatDoor
open Go.Sx

noncomputable def S_of128 : Summ := ⟨152, 0, [(.sc (.int .i64 (.lit 128)))], 0, [], [], fun _ => [], 0, (.sv (.agg [(.fix (.val (.string ⟨#[66, 82, 65]⟩)), 1), (.int .i64, 3)] (.upd (.upd (.upd (.upd (.rep 0) (.lit 0) (.lit 0)) (.lit 1) (.lit 14)) (.lit 2) (.lit 2)) (.lit 3) (.lit 4)))),
  [], []⟩
theorem V_of128 : SummOk Tryz.prog 152 S_of128 := ⟨sum_valid cfg0Ok Tryz.func152 (body := Tryz.f152.body.getD .skip) rfl 600 rfl (by kernel_rfl), ⟨Tryz.call152⟩, rfl⟩
noncomputable def S_of129 : Summ := ⟨152, 0, [(.sc (.int .i64 (.lit 129)))], 0, [], [], fun _ => [], 0, (.sv (.agg [(.fix (.val (.string ⟨#[83, 84, 65]⟩)), 1), (.int .i64, 3)] (.upd (.upd (.upd (.upd (.rep 0) (.lit 0) (.lit 0)) (.lit 1) (.lit 6)) (.lit 2) (.lit 2)) (.lit 3) (.lit 7)))),
  [], []⟩
theorem V_of129 : SummOk Tryz.prog 152 S_of129 := ⟨sum_valid cfg0Ok Tryz.func152 (body := Tryz.f152.body.getD .skip) rfl 600 rfl (by kernel_rfl), ⟨Tryz.call152⟩, rfl⟩
noncomputable def S_of130 : Summ := ⟨152, 0, [(.sc (.int .i64 (.lit 130)))], 0, [], [], fun _ => [], 0, (.sv (.agg [(.fix (.val (.string ⟨#[67, 76, 88]⟩)), 1), (.int .i64, 3)] (.upd (.upd (.upd (.upd (.rep 0) (.lit 0) (.lit 0)) (.lit 1) (.lit 0)) (.lit 2) (.lit 1)) (.lit 3) (.lit 2)))),
  [], []⟩
theorem V_of130 : SummOk Tryz.prog 152 S_of130 := ⟨sum_valid cfg0Ok Tryz.func152 (body := Tryz.f152.body.getD .skip) rfl 600 rfl (by kernel_rfl), ⟨Tryz.call152⟩, rfl⟩
noncomputable def S_of131 : Summ := ⟨152, 0, [(.sc (.int .i64 (.lit 131)))], 0, [], [], fun _ => [], 0, (.sv (.agg [(.fix (.val (.string ⟨#[84, 83, 84]⟩)), 1), (.int .i64, 3)] (.upd (.upd (.upd (.upd (.rep 0) (.lit 0) (.lit 0)) (.lit 1) (.lit 17)) (.lit 2) (.lit 3)) (.lit 3) (.lit 7)))),
  [], []⟩
theorem V_of131 : SummOk Tryz.prog 152 S_of131 := ⟨sum_valid cfg0Ok Tryz.func152 (body := Tryz.f152.body.getD .skip) rfl 600 rfl (by kernel_rfl), ⟨Tryz.call152⟩, rfl⟩
noncomputable def S_of132 : Summ := ⟨152, 0, [(.sc (.int .i64 (.lit 132)))], 0, [], [], fun _ => [], 0, (.sv (.agg [(.fix (.val (.string ⟨#[83, 84, 89]⟩)), 1), (.int .i64, 3)] (.upd (.upd (.upd (.upd (.rep 0) (.lit 0) (.lit 0)) (.lit 1) (.lit 3)) (.lit 2) (.lit 2)) (.lit 3) (.lit 4)))),
  [], []⟩
theorem V_of132 : SummOk Tryz.prog 152 S_of132 := ⟨sum_valid cfg0Ok Tryz.func152 (body := Tryz.f152.body.getD .skip) rfl 600 rfl (by kernel_rfl), ⟨Tryz.call152⟩, rfl⟩
noncomputable def S_of133 : Summ := ⟨152, 0, [(.sc (.int .i64 (.lit 133)))], 0, [], [], fun _ => [], 0, (.sv (.agg [(.fix (.val (.string ⟨#[83, 84, 65]⟩)), 1), (.int .i64, 3)] (.upd (.upd (.upd (.upd (.rep 0) (.lit 0) (.lit 0)) (.lit 1) (.lit 3)) (.lit 2) (.lit 2)) (.lit 3) (.lit 4)))),
  [], []⟩
theorem V_of133 : SummOk Tryz.prog 152 S_of133 := ⟨sum_valid cfg0Ok Tryz.func152 (body := Tryz.f152.body.getD .skip) rfl 600 rfl (by kernel_rfl), ⟨Tryz.call152⟩, rfl⟩
noncomputable def S_of134 : Summ := ⟨152, 0, [(.sc (.int .i64 (.lit 134)))], 0, [], [], fun _ => [], 0, (.sv (.agg [(.fix (.val (.string ⟨#[83, 84, 88]⟩)), 1), (.int .i64, 3)] (.upd (.upd (.upd (.upd (.rep 0) (.lit 0) (.lit 0)) (.lit 1) (.lit 3)) (.lit 2) (.lit 2)) (.lit 3) (.lit 4)))),
  [], []⟩
theorem V_of134 : SummOk Tryz.prog 152 S_of134 := ⟨sum_valid cfg0Ok Tryz.func152 (body := Tryz.f152.body.getD .skip) rfl 600 rfl (by kernel_rfl), ⟨Tryz.call152⟩, rfl⟩
noncomputable def S_of135 : Summ := ⟨152, 0, [(.sc (.int .i64 (.lit 135)))], 0, [], [], fun _ => [], 0, (.sv (.agg [(.fix (.val (.string ⟨#[83, 77, 66, 48]⟩)), 1), (.int .i64, 3)] (.upd (.upd (.upd (.upd (.rep 0) (.lit 0) (.lit 0)) (.lit 1) (.lit 3)) (.lit 2) (.lit 2)) (.lit 3) (.lit 7)))),
  [], []⟩
theorem V_of135 : SummOk Tryz.prog 152 S_of135 := ⟨sum_valid cfg0Ok Tryz.func152 (body := Tryz.f152.body.getD .skip) rfl 600 rfl (by kernel_rfl), ⟨Tryz.call152⟩, rfl⟩
noncomputable def S_of136 : Summ := ⟨152, 0, [(.sc (.int .i64 (.lit 136)))], 0, [], [], fun _ => [], 0, (.sv (.agg [(.fix (.val (.string ⟨#[68, 69, 89]⟩)), 1), (.int .i64, 3)] (.upd (.upd (.upd (.upd (.rep 0) (.lit 0) (.lit 0)) (.lit 1) (.lit 0)) (.lit 2) (.lit 1)) (.lit 3) (.lit 2)))),
  [], []⟩
theorem V_of136 : SummOk Tryz.prog 152 S_of136 := ⟨sum_valid cfg0Ok Tryz.func152 (body := Tryz.f152.body.getD .skip) rfl 600 rfl (by kernel_rfl), ⟨Tryz.call152⟩, rfl⟩
noncomputable def S_of137 : Summ := ⟨152, 0, [(.sc (.int .i64 (.lit 137)))], 0, [], [], fun _ => [], 0, (.sv (.agg [(.fix (.val (.string ⟨#[66, 73, 84]⟩)), 1), (.int .i64, 3)] (.upd (.upd (.upd (.upd (.rep 0) (.lit 0) (.lit 0)) (.lit 1) (.lit 2)) (.lit 2) (.lit 2)) (.lit 3) (.lit 2)))),
  [], []⟩
theorem V_of137 : SummOk Tryz.prog 152 S_of137 := ⟨sum_valid cfg0Ok Tryz.func152 (body := Tryz.f152.body.getD .skip) rfl 600 rfl (by kernel_rfl), ⟨Tryz.call152⟩, rfl⟩
noncomputable def S_of138 : Summ := ⟨152, 0, [(.sc (.int .i64 (.lit 138)))], 0, [], [], fun _ => [], 0, (.sv (.agg [(.fix (.val (.string ⟨#[84, 88, 65]⟩)), 1), (.int .i64, 3)] (.upd (.upd (.upd (.upd (.rep 0) (.lit 0) (.lit 0)) (.lit 1) (.lit 0)) (.lit 2) (.lit 1)) (.lit 3) (.lit 2)))),
  [], []⟩
theorem V_of138 : SummOk Tryz.prog 152 S_of138 := ⟨sum_valid cfg0Ok Tryz.func152 (body := Tryz.f152.body.getD .skip) rfl 600 rfl (by kernel_rfl), ⟨Tryz.call152⟩, rfl⟩
noncomputable def S_of139 : Summ := ⟨152, 0, [(.sc (.int .i64 (.lit 139)))], 0, [], [], fun _ => [], 0, (.sv (.agg [(.fix (.val (.string ⟨#[78, 79, 80]⟩)), 1), (.int .i64, 3)] (.upd (.upd (.upd (.upd (.rep 0) (.lit 0) (.lit 0)) (.lit 1) (.lit 0)) (.lit 2) (.lit 1)) (.lit 3) (.lit 2)))),
  [], []⟩
theorem V_of139 : SummOk Tryz.prog 152 S_of139 := ⟨sum_valid cfg0Ok Tryz.func152 (body := Tryz.f152.body.getD .skip) rfl 600 rfl (by kernel_rfl), ⟨Tryz.call152⟩, rfl⟩
noncomputable def S_of140 : Summ := ⟨152, 0, [(.sc (.int .i64 (.lit 140)))], 0, [], [], fun _ => [], 0, (.sv (.agg [(.fix (.val (.string ⟨#[83, 84, 89]⟩)), 1), (.int .i64, 3)] (.upd (.upd (.upd (.upd (.rep 0) (.lit 0) (.lit 0)) (.lit 1) (.lit 9)) (.lit 2) (.lit 3)) (.lit 3) (.lit 5)))),
  [], []⟩
theorem V_of140 : SummOk Tryz.prog 152 S_of140 := ⟨sum_valid cfg0Ok Tryz.func152 (body := Tryz.f152.body.getD .skip) rfl 600 rfl (by kernel_rfl), ⟨Tryz.call152⟩, rfl⟩
noncomputable def S_of141 : Summ := ⟨152, 0, [(.sc (.int .i64 (.lit 141)))], 0, [], [], fun _ => [], 0, (.sv (.agg [(.fix (.val (.string ⟨#[83, 84, 65]⟩)), 1), (.int .i64, 3)] (.upd (.upd (.upd (.upd (.rep 0) (.lit 0) (.lit 0)) (.lit 1) (.lit 9)) (.lit 2) (.lit 3)) (.lit 3) (.lit 5)))),
  [], []⟩
theorem V_of141 : SummOk Tryz.prog 152 S_of141 := ⟨sum_valid cfg0Ok Tryz.func152 (body := Tryz.f152.body.getD .skip) rfl 600 rfl (by kernel_rfl), ⟨Tryz.call152⟩, rfl⟩
noncomputable def S_of142 : Summ := ⟨152, 0, [(.sc (.int .i64 (.lit 142)))], 0, [], [], fun _ => [], 0, (.sv (.agg [(.fix (.val (.string ⟨#[83, 84, 88]⟩)), 1), (.int .i64, 3)] (.upd (.upd (.upd (.upd (.rep 0) (.lit 0) (.lit 0)) (.lit 1) (.lit 9)) (.lit 2) (.lit 3)) (.lit 3) (.lit 5)))),
  [], []⟩
theorem V_of142 : SummOk Tryz.prog 152 S_of142 := ⟨sum_valid cfg0Ok Tryz.func152 (body := Tryz.f152.body.getD .skip) rfl 600 rfl (by kernel_rfl), ⟨Tryz.call152⟩, rfl⟩
noncomputable def S_of143 : Summ := ⟨152, 0, [(.sc (.int .i64 (.lit 143)))], 0, [], [], fun _ => [], 0, (.sv (.agg [(.fix (.val (.string ⟨#[66, 66, 83, 48]⟩)), 1), (.int .i64, 3)] (.upd (.upd (.upd (.upd (.rep 0) (.lit 0) (.lit 0)) (.lit 1) (.lit 15)) (.lit 2) (.lit 3)) (.lit 3) (.lit 6)))),
  [], []⟩
theorem V_of143 : SummOk Tryz.prog 152 S_of143 := ⟨sum_valid cfg0Ok Tryz.func152 (body := Tryz.f152.body.getD .skip) rfl 600 rfl (by kernel_rfl), ⟨Tryz.call152⟩, rfl⟩
noncomputable def S_of144 : Summ := ⟨152, 0, [(.sc (.int .i64 (.lit 144)))], 0, [], [], fun _ => [], 0, (.sv (.agg [(.fix (.val (.string ⟨#[66, 67, 67]⟩)), 1), (.int .i64, 3)] (.upd (.upd (.upd (.upd (.rep 0) (.lit 0) (.lit 0)) (.lit 1) (.lit 14)) (.lit 2) (.lit 2)) (.lit 3) (.lit 2)))),
  [], []⟩
theorem V_of144 : SummOk Tryz.prog 152 S_of144 := ⟨sum_valid cfg0Ok Tryz.func152 (body := Tryz.f152.body.getD .skip) rfl 600 rfl (by kernel_rfl), ⟨Tryz.call152⟩, rfl⟩
noncomputable def S_of145 : Summ := ⟨152, 0, [(.sc (.int .i64 (.lit 145)))], 0, [], [], fun _ => [], 0, (.sv (.agg [(.fix (.val (.string ⟨#[83, 84, 65]⟩)), 1), (.int .i64, 3)] (.upd (.upd (.upd (.upd (.rep 0) (.lit 0) (.lit 0)) (.lit 1) (.lit 7)) (.lit 2) (.lit 2)) (.lit 3) (.lit 7)))),
  [], []⟩
theorem V_of145 : SummOk Tryz.prog 152 S_of145 := ⟨sum_valid cfg0Ok Tryz.func152 (body := Tryz.f152.body.getD .skip) rfl 600 rfl (by kernel_rfl), ⟨Tryz.call152⟩, rfl⟩
noncomputable def S_of146 : Summ := ⟨152, 0, [(.sc (.int .i64 (.lit 146)))], 0, [], [], fun _ => [], 0, (.sv (.agg [(.fix (.val (.string ⟨#[83, 84, 65]⟩)), 1), (.int .i64, 3)] (.upd (.upd (.upd (.upd (.rep 0) (.lit 0) (.lit 0)) (.lit 1) (.lit 8)) (.lit 2) (.lit 2)) (.lit 3) (.lit 7)))),
  [], []⟩
theorem V_of146 : SummOk Tryz.prog 152 S_of146 := ⟨sum_valid cfg0Ok Tryz.func152 (body := Tryz.f152.body.getD .skip) rfl 600 rfl (by kernel_rfl), ⟨Tryz.call152⟩, rfl⟩
noncomputable def S_of147 : Summ := ⟨152, 0, [(.sc (.int .i64 (.lit 147)))], 0, [], [], fun _ => [], 0, (.sv (.agg [(.fix (.val (.string ⟨#[84, 83, 84]⟩)), 1), (.int .i64, 3)] (.upd (.upd (.upd (.upd (.rep 0) (.lit 0) (.lit 0)) (.lit 1) (.lit 19)) (.lit 2) (.lit 4)) (.lit 3) (.lit 8)))),
  [], []⟩
theorem V_of147 : SummOk Tryz.prog 152 S_of147 := ⟨sum_valid cfg0Ok Tryz.func152 (body := Tryz.f152.body.getD .skip) rfl 600 rfl (by kernel_rfl), ⟨Tryz.call152⟩, rfl⟩
noncomputable def S_of148 : Summ := ⟨152, 0, [(.sc (.int .i64 (.lit 148)))], 0, [], [], fun _ => [], 0, (.sv (.agg [(.fix (.val (.string ⟨#[83, 84, 89]⟩)), 1), (.int .i64, 3)] (.upd (.upd (.upd (.upd (.rep 0) (.lit 0) (.lit 0)) (.lit 1) (.lit 4)) (.lit 2) (.lit 2)) (.lit 3) (.lit 4)))),
  [], []⟩
theorem V_of148 : SummOk Tryz.prog 152 S_of148 := ⟨sum_valid cfg0Ok Tryz.func152 (body := Tryz.f152.body.getD .skip) rfl 600 rfl (by kernel_rfl), ⟨Tryz.call152⟩, rfl⟩
noncomputable def S_of149 : Summ := ⟨152, 0, [(.sc (.int .i64 (.lit 149)))], 0, [], [], fun _ => [], 0, (.sv (.agg [(.fix (.val (.string ⟨#[83, 84, 65]⟩)), 1), (.int .i64, 3)] (.upd (.upd (.upd (.upd (.rep 0) (.lit 0) (.lit 0)) (.lit 1) (.lit 4)) (.lit 2) (.lit 2)) (.lit 3) (.lit 4)))),
  [], []⟩
theorem V_of149 : SummOk Tryz.prog 152 S_of149 := ⟨sum_valid cfg0Ok Tryz.func152 (body := Tryz.f152.body.getD .skip) rfl 600 rfl (by kernel_rfl), ⟨Tryz.call152⟩, rfl⟩
noncomputable def S_of150 : Summ := ⟨152, 0, [(.sc (.int .i64 (.lit 150)))], 0, [], [], fun _ => [], 0, (.sv (.agg [(.fix (.val (.string ⟨#[83, 84, 88]⟩)), 1), (.int .i64, 3)] (.upd (.upd (.upd (.upd (.rep 0) (.lit 0) (.lit 0)) (.lit 1) (.lit 5)) (.lit 2) (.lit 2)) (.lit 3) (.lit 4)))),
  [], []⟩
theorem V_of150 : SummOk Tryz.prog 152 S_of150 := ⟨sum_valid cfg0Ok Tryz.func152 (body := Tryz.f152.body.getD .skip) rfl 600 rfl (by kernel_rfl), ⟨Tryz.call152⟩, rfl⟩
noncomputable def S_of151 : Summ := ⟨152, 0, [(.sc (.int .i64 (.lit 151)))], 0, [], [], fun _ => [], 0, (.sv (.agg [(.fix (.val (.string ⟨#[83, 77, 66, 49]⟩)), 1), (.int .i64, 3)] (.upd (.upd (.upd (.upd (.rep 0) (.lit 0) (.lit 0)) (.lit 1) (.lit 3)) (.lit 2) (.lit 2)) (.lit 3) (.lit 7)))),
  [], []⟩
theorem V_of151 : SummOk Tryz.prog 152 S_of151 := ⟨sum_valid cfg0Ok Tryz.func152 (body := Tryz.f152.body.getD .skip) rfl 600 rfl (by kernel_rfl), ⟨Tryz.call152⟩, rfl⟩
noncomputable def S_of152 : Summ := ⟨152, 0, [(.sc (.int .i64 (.lit 152)))], 0, [], [], fun _ => [], 0, (.sv (.agg [(.fix (.val (.string ⟨#[84, 89, 65]⟩)), 1), (.int .i64, 3)] (.upd (.upd (.upd (.upd (.rep 0) (.lit 0) (.lit 0)) (.lit 1) (.lit 0)) (.lit 2) (.lit 1)) (.lit 3) (.lit 2)))),
  [], []⟩
theorem V_of152 : SummOk Tryz.prog 152 S_of152 := ⟨sum_valid cfg0Ok Tryz.func152 (body := Tryz.f152.body.getD .skip) rfl 600 rfl (by kernel_rfl), ⟨Tryz.call152⟩, rfl⟩
noncomputable def S_of153 : Summ := ⟨152, 0, [(.sc (.int .i64 (.lit 153)))], 0, [], [], fun _ => [], 0, (.sv (.agg [(.fix (.val (.string ⟨#[83, 84, 65]⟩)), 1), (.int .i64, 3)] (.upd (.upd (.upd (.upd (.rep 0) (.lit 0) (.lit 0)) (.lit 1) (.lit 11)) (.lit 2) (.lit 3)) (.lit 3) (.lit 5)))),
  [], []⟩
theorem V_of153 : SummOk Tryz.prog 152 S_of153 := ⟨sum_valid cfg0Ok Tryz.func152 (body := Tryz.f152.body.getD .skip) rfl 600 rfl (by kernel_rfl), ⟨Tryz.call152⟩, rfl⟩
noncomputable def S_of154 : Summ := ⟨152, 0, [(.sc (.int .i64 (.lit 154)))], 0, [], [], fun _ => [], 0, (.sv (.agg [(.fix (.val (.string ⟨#[84, 88, 83]⟩)), 1), (.int .i64, 3)] (.upd (.upd (.upd (.upd (.rep 0) (.lit 0) (.lit 0)) (.lit 1) (.lit 0)) (.lit 2) (.lit 1)) (.lit 3) (.lit 2)))),
  [], []⟩
theorem V_of154 : SummOk Tryz.prog 152 S_of154 := ⟨sum_valid cfg0Ok Tryz.func152 (body := Tryz.f152.body.getD .skip) rfl 600 rfl (by kernel_rfl), ⟨Tryz.call152⟩, rfl⟩
noncomputable def S_of155 : Summ := ⟨152, 0, [(.sc (.int .i64 (.lit 155)))], 0, [], [], fun _ => [], 0, (.sv (.agg [(.fix (.val (.string ⟨#[78, 79, 80]⟩)), 1), (.int .i64, 3)] (.upd (.upd (.upd (.upd (.rep 0) (.lit 0) (.lit 0)) (.lit 1) (.lit 0)) (.lit 2) (.lit 1)) (.lit 3) (.lit 2)))),
  [], []⟩
theorem V_of155 : SummOk Tryz.prog 152 S_of155 := ⟨sum_valid cfg0Ok Tryz.func152 (body := Tryz.f152.body.getD .skip) rfl 600 rfl (by kernel_rfl), ⟨Tryz.call152⟩, rfl⟩
noncomputable def S_of156 : Summ := ⟨152, 0, [(.sc (.int .i64 (.lit 156)))], 0, [], [], fun _ => [], 0, (.sv (.agg [(.fix (.val (.string ⟨#[83, 84, 90]⟩)), 1), (.int .i64, 3)] (.upd (.upd (.upd (.upd (.rep 0) (.lit 0) (.lit 0)) (.lit 1) (.lit 9)) (.lit 2) (.lit 3)) (.lit 3) (.lit 5)))),
  [], []⟩
theorem V_of156 : SummOk Tryz.prog 152 S_of156 := ⟨sum_valid cfg0Ok Tryz.func152 (body := Tryz.f152.body.getD .skip) rfl 600 rfl (by kernel_rfl), ⟨Tryz.call152⟩, rfl⟩
noncomputable def S_of157 : Summ := ⟨152, 0, [(.sc (.int .i64 (.lit 157)))], 0, [], [], fun _ => [], 0, (.sv (.agg [(.fix (.val (.string ⟨#[83, 84, 65]⟩)), 1), (.int .i64, 3)] (.upd (.upd (.upd (.upd (.rep 0) (.lit 0) (.lit 0)) (.lit 1) (.lit 10)) (.lit 2) (.lit 3)) (.lit 3) (.lit 5)))),
  [], []⟩
theorem V_of157 : SummOk Tryz.prog 152 S_of157 := ⟨sum_valid cfg0Ok Tryz.func152 (body := Tryz.f152.body.getD .skip) rfl 600 rfl (by kernel_rfl), ⟨Tryz.call152⟩, rfl⟩
noncomputable def S_of158 : Summ := ⟨152, 0, [(.sc (.int .i64 (.lit 158)))], 0, [], [], fun _ => [], 0, (.sv (.agg [(.fix (.val (.string ⟨#[83, 84, 90]⟩)), 1), (.int .i64, 3)] (.upd (.upd (.upd (.upd (.rep 0) (.lit 0) (.lit 0)) (.lit 1) (.lit 10)) (.lit 2) (.lit 3)) (.lit 3) (.lit 5)))),
  [], []⟩
theorem V_of158 : SummOk Tryz.prog 152 S_of158 := ⟨sum_valid cfg0Ok Tryz.func152 (body := Tryz.f152.body.getD .skip) rfl 600 rfl (by kernel_rfl), ⟨Tryz.call152⟩, rfl⟩
noncomputable def S_of159 : Summ := ⟨152, 0, [(.sc (.int .i64 (.lit 159)))], 0, [], [], fun _ => [], 0, (.sv (.agg [(.fix (.val (.string ⟨#[66, 66, 83, 49]⟩)), 1), (.int .i64, 3)] (.upd (.upd (.upd (.upd (.rep 0) (.lit 0) (.lit 0)) (.lit 1) (.lit 15)) (.lit 2) (.lit 3)) (.lit 3) (.lit 6)))),
  [], []⟩
theorem V_of159 : SummOk Tryz.prog 152 S_of159 := ⟨sum_valid cfg0Ok Tryz.func152 (body := Tryz.f152.body.getD .skip) rfl 600 rfl (by kernel_rfl), ⟨Tryz.call152⟩, rfl⟩
noncomputable def S_of160 : Summ := ⟨152, 0, [(.sc (.int .i64 (.lit 160)))], 0, [], [], fun _ => [], 0, (.sv (.agg [(.fix (.val (.string ⟨#[76, 68, 89]⟩)), 1), (.int .i64, 3)] (.upd (.upd (.upd (.upd (.rep 0) (.lit 0) (.lit 0)) (.lit 1) (.lit 2)) (.lit 2) (.lit 2)) (.lit 3) (.lit 2)))),
  [], []⟩
theorem V_of160 : SummOk Tryz.prog 152 S_of160 := ⟨sum_valid cfg0Ok Tryz.func152 (body := Tryz.f152.body.getD .skip) rfl 600 rfl (by kernel_rfl), ⟨Tryz.call152⟩, rfl⟩
noncomputable def S_of161 : Summ := ⟨152, 0, [(.sc (.int .i64 (.lit 161)))], 0, [], [], fun _ => [], 0, (.sv (.agg [(.fix (.val (.string ⟨#[76, 68, 65]⟩)), 1), (.int .i64, 3)] (.upd (.upd (.upd (.upd (.rep 0) (.lit 0) (.lit 0)) (.lit 1) (.lit 6)) (.lit 2) (.lit 2)) (.lit 3) (.lit 7)))),
  [], []⟩
theorem V_of161 : SummOk Tryz.prog 152 S_of161 := ⟨sum_valid cfg0Ok Tryz.func152 (body := Tryz.f152.body.getD .skip) rfl 600 rfl (by kernel_rfl), ⟨Tryz.call152⟩, rfl⟩
noncomputable def S_of162 : Summ := ⟨152, 0, [(.sc (.int .i64 (.lit 162)))], 0, [], [], fun _ => [], 0, (.sv (.agg [(.fix (.val (.string ⟨#[76, 68, 88]⟩)), 1), (.int .i64, 3)] (.upd (.upd (.upd (.upd (.rep 0) (.lit 0) (.lit 0)) (.lit 1) (.lit 2)) (.lit 2) (.lit 2)) (.lit 3) (.lit 2)))),
  [], []⟩
theorem V_of162 : SummOk Tryz.prog 152 S_of162 := ⟨sum_valid cfg0Ok Tryz.func152 (body := Tryz.f152.body.getD .skip) rfl 600 rfl (by kernel_rfl), ⟨Tryz.call152⟩, rfl⟩
noncomputable def S_of163 : Summ := ⟨152, 0, [(.sc (.int .i64 (.lit 163)))], 0, [], [], fun _ => [], 0, (.sv (.agg [(.fix (.val (.string ⟨#[84, 83, 84]⟩)), 1), (.int .i64, 3)] (.upd (.upd (.upd (.upd (.rep 0) (.lit 0) (.lit 0)) (.lit 1) (.lit 18)) (.lit 2) (.lit 3)) (.lit 3) (.lit 7)))),
  [], []⟩
theorem V_of163 : SummOk Tryz.prog 152 S_of163 := ⟨sum_valid cfg0Ok Tryz.func152 (body := Tryz.f152.body.getD .skip) rfl 600 rfl (by kernel_rfl), ⟨Tryz.call152⟩, rfl⟩
noncomputable def S_of164 : Summ := ⟨152, 0, [(.sc (.int .i64 (.lit 164)))], 0, [], [], fun _ => [], 0, (.sv (.agg [(.fix (.val (.string ⟨#[76, 68, 89]⟩)), 1), (.int .i64, 3)] (.upd (.upd (.upd (.upd (.rep 0) (.lit 0) (.lit 0)) (.lit 1) (.lit 3)) (.lit 2) (.lit 2)) (.lit 3) (.lit 4)))),
  [], []⟩
theorem V_of164 : SummOk Tryz.prog 152 S_of164 := ⟨sum_valid cfg0Ok Tryz.func152 (body := Tryz.f152.body.getD .skip) rfl 600 rfl (by kernel_rfl), ⟨Tryz.call152⟩, rfl⟩
noncomputable def S_of165 : Summ := ⟨152, 0, [(.sc (.int .i64 (.lit 165)))], 0, [], [], fun _ => [], 0, (.sv (.agg [(.fix (.val (.string ⟨#[76, 68, 65]⟩)), 1), (.int .i64, 3)] (.upd (.upd (.upd (.upd (.rep 0) (.lit 0) (.lit 0)) (.lit 1) (.lit 3)) (.lit 2) (.lit 2)) (.lit 3) (.lit 4)))),
  [], []⟩
theorem V_of165 : SummOk Tryz.prog 152 S_of165 := ⟨sum_valid cfg0Ok Tryz.func152 (body := Tryz.f152.body.getD .skip) rfl 600 rfl (by kernel_rfl), ⟨Tryz.call152⟩, rfl⟩
noncomputable def S_of166 : Summ := ⟨152, 0, [(.sc (.int .i64 (.lit 166)))], 0, [], [], fun _ => [], 0, (.sv (.agg [(.fix (.val (.string ⟨#[76, 68, 88]⟩)), 1), (.int .i64, 3)] (.upd (.upd (.upd (.upd (.rep 0) (.lit 0) (.lit 0)) (.lit 1) (.lit 3)) (.lit 2) (.lit 2)) (.lit 3) (.lit 4)))),
  [], []⟩
theorem V_of166 : SummOk Tryz.prog 152 S_of166 := ⟨sum_valid cfg0Ok Tryz.func152 (body := Tryz.f152.body.getD .skip) rfl 600 rfl (by kernel_rfl), ⟨Tryz.call152⟩, rfl⟩
noncomputable def S_of167 : Summ := ⟨152, 0, [(.sc (.int .i64 (.lit 167)))], 0, [], [], fun _ => [], 0, (.sv (.agg [(.fix (.val (.string ⟨#[83, 77, 66, 50]⟩)), 1), (.int .i64, 3)] (.upd (.upd (.upd (.upd (.rep 0) (.lit 0) (.lit 0)) (.lit 1) (.lit 3)) (.lit 2) (.lit 2)) (.lit 3) (.lit 7)))),
  [], []⟩
theorem V_of167 : SummOk Tryz.prog 152 S_of167 := ⟨sum_valid cfg0Ok Tryz.func152 (body := Tryz.f152.body.getD .skip) rfl 600 rfl (by kernel_rfl), ⟨Tryz.call152⟩, rfl⟩
noncomputable def S_of168 : Summ := ⟨152, 0, [(.sc (.int .i64 (.lit 168)))], 0, [], [], fun _ => [], 0, (.sv (.agg [(.fix (.val (.string ⟨#[84, 65, 89]⟩)), 1), (.int .i64, 3)] (.upd (.upd (.upd (.upd (.rep 0) (.lit 0) (.lit 0)) (.lit 1) (.lit 0)) (.lit 2) (.lit 1)) (.lit 3) (.lit 2)))),
  [], []⟩
theorem V_of168 : SummOk Tryz.prog 152 S_of168 := ⟨sum_valid cfg0Ok Tryz.func152 (body := Tryz.f152.body.getD .skip) rfl 600 rfl (by kernel_rfl), ⟨Tryz.call152⟩, rfl⟩
noncomputable def S_of169 : Summ := ⟨152, 0, [(.sc (.int .i64 (.lit 169)))], 0, [], [], fun _ => [], 0, (.sv (.agg [(.fix (.val (.string ⟨#[76, 68, 65]⟩)), 1), (.int .i64, 3)] (.upd (.upd (.upd (.upd (.rep 0) (.lit 0) (.lit 0)) (.lit 1) (.lit 2)) (.lit 2) (.lit 2)) (.lit 3) (.lit 2)))),
  [], []⟩
theorem V_of169 : SummOk Tryz.prog 152 S_of169 := ⟨sum_valid cfg0Ok Tryz.func152 (body := Tryz.f152.body.getD .skip) rfl 600 rfl (by kernel_rfl), ⟨Tryz.call152⟩, rfl⟩
noncomputable def S_of170 : Summ := ⟨152, 0, [(.sc (.int .i64 (.lit 170)))], 0, [], [], fun _ => [], 0, (.sv (.agg [(.fix (.val (.string ⟨#[84, 65, 88]⟩)), 1), (.int .i64, 3)] (.upd (.upd (.upd (.upd (.rep 0) (.lit 0) (.lit 0)) (.lit 1) (.lit 0)) (.lit 2) (.lit 1)) (.lit 3) (.lit 2)))),
  [], []⟩
theorem V_of170 : SummOk Tryz.prog 152 S_of170 := ⟨sum_valid cfg0Ok Tryz.func152 (body := Tryz.f152.body.getD .skip) rfl 600 rfl (by kernel_rfl), ⟨Tryz.call152⟩, rfl⟩
noncomputable def S_of171 : Summ := ⟨152, 0, [(.sc (.int .i64 (.lit 171)))], 0, [], [], fun _ => [], 0, (.sv (.agg [(.fix (.val (.string ⟨#[78, 79, 80]⟩)), 1), (.int .i64, 3)] (.upd (.upd (.upd (.upd (.rep 0) (.lit 0) (.lit 0)) (.lit 1) (.lit 0)) (.lit 2) (.lit 1)) (.lit 3) (.lit 2)))),
  [], []⟩
theorem V_of171 : SummOk Tryz.prog 152 S_of171 := ⟨sum_valid cfg0Ok Tryz.func152 (body := Tryz.f152.body.getD .skip) rfl 600 rfl (by kernel_rfl), ⟨Tryz.call152⟩, rfl⟩
noncomputable def S_of172 : Summ := ⟨152, 0, [(.sc (.int .i64 (.lit 172)))], 0, [], [], fun _ => [], 0, (.sv (.agg [(.fix (.val (.string ⟨#[76, 68, 89]⟩)), 1), (.int .i64, 3)] (.upd (.upd (.upd (.upd (.rep 0) (.lit 0) (.lit 0)) (.lit 1) (.lit 9)) (.lit 2) (.lit 3)) (.lit 3) (.lit 5)))),
  [], []⟩
theorem V_of172 : SummOk Tryz.prog 152 S_of172 := ⟨sum_valid cfg0Ok Tryz.func152 (body := Tryz.f152.body.getD .skip) rfl 600 rfl (by kernel_rfl), ⟨Tryz.call152⟩, rfl⟩
noncomputable def S_of173 : Summ := ⟨152, 0, [(.sc (.int .i64 (.lit 173)))], 0, [], [], fun _ => [], 0, (.sv (.agg [(.fix (.val (.string ⟨#[76, 68, 65]⟩)), 1), (.int .i64, 3)] (.upd (.upd (.upd (.upd (.rep 0) (.lit 0) (.lit 0)) (.lit 1) (.lit 9)) (.lit 2) (.lit 3)) (.lit 3) (.lit 5)))),
  [], []⟩
theorem V_of173 : SummOk Tryz.prog 152 S_of173 := ⟨sum_valid cfg0Ok Tryz.func152 (body := Tryz.f152.body.getD .skip) rfl 600 rfl (by kernel_rfl), ⟨Tryz.call152⟩, rfl⟩
noncomputable def S_of174 : Summ := ⟨152, 0, [(.sc (.int .i64 (.lit 174)))], 0, [], [], fun _ => [], 0, (.sv (.agg [(.fix (.val (.string ⟨#[76, 68, 88]⟩)), 1), (.int .i64, 3)] (.upd (.upd (.upd (.upd (.rep 0) (.lit 0) (.lit 0)) (.lit 1) (.lit 9)) (.lit 2) (.lit 3)) (.lit 3) (.lit 5)))),
  [], []⟩
theorem V_of174 : SummOk Tryz.prog 152 S_of174 := ⟨sum_valid cfg0Ok Tryz.func152 (body := Tryz.f152.body.getD .skip) rfl 600 rfl (by kernel_rfl), ⟨Tryz.call152⟩, rfl⟩
noncomputable def S_of175 : Summ := ⟨152, 0, [(.sc (.int .i64 (.lit 175)))], 0, [], [], fun _ => [], 0, (.sv (.agg [(.fix (.val (.string ⟨#[66, 66, 83, 50]⟩)), 1), (.int .i64, 3)] (.upd (.upd (.upd (.upd (.rep 0) (.lit 0) (.lit 0)) (.lit 1) (.lit 15)) (.lit 2) (.lit 3)) (.lit 3) (.lit 6)))),
  [], []⟩
theorem V_of175 : SummOk Tryz.prog 152 S_of175 := ⟨sum_valid cfg0Ok Tryz.func152 (body := Tryz.f152.body.getD .skip) rfl 600 rfl (by kernel_rfl), ⟨Tryz.call152⟩, rfl⟩
noncomputable def S_of176 : Summ := ⟨152, 0, [(.sc (.int .i64 (.lit 176)))], 0, [], [], fun _ => [], 0, (.sv (.agg [(.fix (.val (.string ⟨#[66, 67, 83]⟩)), 1), (.int .i64, 3)] (.upd (.upd (.upd (.upd (.rep 0) (.lit 0) (.lit 0)) (.lit 1) (.lit 14)) (.lit 2) (.lit 2)) (.lit 3) (.lit 2)))),
  [], []⟩
theorem V_of176 : SummOk Tryz.prog 152 S_of176 := ⟨sum_valid cfg0Ok Tryz.func152 (body := Tryz.f152.body.getD .skip) rfl 600 rfl (by kernel_rfl), ⟨Tryz.call152⟩, rfl⟩
noncomputable def S_of177 : Summ := ⟨152, 0, [(.sc (.int .i64 (.lit 177)))], 0, [], [], fun _ => [], 0, (.sv (.agg [(.fix (.val (.string ⟨#[76, 68, 65]⟩)), 1), (.int .i64, 3)] (.upd (.upd (.upd (.upd (.rep 0) (.lit 0) (.lit 0)) (.lit 1) (.lit 7)) (.lit 2) (.lit 2)) (.lit 3) (.lit 7)))),
  [], []⟩
theorem V_of177 : SummOk Tryz.prog 152 S_of177 := ⟨sum_valid cfg0Ok Tryz.func152 (body := Tryz.f152.body.getD .skip) rfl 600 rfl (by kernel_rfl), ⟨Tryz.call152⟩, rfl⟩
noncomputable def S_of178 : Summ := ⟨152, 0, [(.sc (.int .i64 (.lit 178)))], 0, [], [], fun _ => [], 0, (.sv (.agg [(.fix (.val (.string ⟨#[76, 68, 65]⟩)), 1), (.int .i64, 3)] (.upd (.upd (.upd (.upd (.rep 0) (.lit 0) (.lit 0)) (.lit 1) (.lit 8)) (.lit 2) (.lit 2)) (.lit 3) (.lit 7)))),
  [], []⟩
theorem V_of178 : SummOk Tryz.prog 152 S_of178 := ⟨sum_valid cfg0Ok Tryz.func152 (body := Tryz.f152.body.getD .skip) rfl 600 rfl (by kernel_rfl), ⟨Tryz.call152⟩, rfl⟩
noncomputable def S_of179 : Summ := ⟨152, 0, [(.sc (.int .i64 (.lit 179)))], 0, [], [], fun _ => [], 0, (.sv (.agg [(.fix (.val (.string ⟨#[84, 83, 84]⟩)), 1), (.int .i64, 3)] (.upd (.upd (.upd (.upd (.rep 0) (.lit 0) (.lit 0)) (.lit 1) (.lit 20)) (.lit 2) (.lit 4)) (.lit 3) (.lit 8)))),
  [], []⟩
theorem V_of179 : SummOk Tryz.prog 152 S_of179 := ⟨sum_valid cfg0Ok Tryz.func152 (body := Tryz.f152.body.getD .skip) rfl 600 rfl (by kernel_rfl), ⟨Tryz.call152⟩, rfl⟩
noncomputable def S_of180 : Summ := ⟨152, 0, [(.sc (.int .i64 (.lit 180)))], 0, [], [], fun _ => [], 0, (.sv (.agg [(.fix (.val (.string ⟨#[76, 68, 89]⟩)), 1), (.int .i64, 3)] (.upd (.upd (.upd (.upd (.rep 0) (.lit 0) (.lit 0)) (.lit 1) (.lit 4)) (.lit 2) (.lit 2)) (.lit 3) (.lit 4)))),
  [], []⟩
theorem V_of180 : SummOk Tryz.prog 152 S_of180 := ⟨sum_valid cfg0Ok Tryz.func152 (body := Tryz.f152.body.getD .skip) rfl 600 rfl (by kernel_rfl), ⟨Tryz.call152⟩, rfl⟩
noncomputable def S_of181 : Summ := ⟨152, 0, [(.sc (.int .i64 (.lit 181)))], 0, [], [], fun _ => [], 0, (.sv (.agg [(.fix (.val (.string ⟨#[76, 68, 65]⟩)), 1), (.int .i64, 3)] (.upd (.upd (.upd (.upd (.rep 0) (.lit 0) (.lit 0)) (.lit 1) (.lit 4)) (.lit 2) (.lit 2)) (.lit 3) (.lit 4)))),
  [], []⟩
theorem V_of181 : SummOk Tryz.prog 152 S_of181 := ⟨sum_valid cfg0Ok Tryz.func152 (body := Tryz.f152.body.getD .skip) rfl 600 rfl (by kernel_rfl), ⟨Tryz.call152⟩, rfl⟩
noncomputable def S_of182 : Summ := ⟨152, 0, [(.sc (.int .i64 (.lit 182)))], 0, [], [], fun _ => [], 0, (.sv (.agg [(.fix (.val (.string ⟨#[76, 68, 88]⟩)), 1), (.int .i64, 3)] (.upd (.upd (.upd (.upd (.rep 0) (.lit 0) (.lit 0)) (.lit 1) (.lit 5)) (.lit 2) (.lit 2)) (.lit 3) (.lit 4)))),
  [], []⟩
theorem V_of182 : SummOk Tryz.prog 152 S_of182 := ⟨sum_valid cfg0Ok Tryz.func152 (body := Tryz.f152.body.getD .skip) rfl 600 rfl (by kernel_rfl), ⟨Tryz.call152⟩, rfl⟩
noncomputable def S_of183 : Summ := ⟨152, 0, [(.sc (.int .i64 (.lit 183)))], 0, [], [], fun _ => [], 0, (.sv (.agg [(.fix (.val (.string ⟨#[83, 77, 66, 51]⟩)), 1), (.int .i64, 3)] (.upd (.upd (.upd (.upd (.rep 0) (.lit 0) (.lit 0)) (.lit 1) (.lit 3)) (.lit 2) (.lit 2)) (.lit 3) (.lit 7)))),
  [], []⟩
theorem V_of183 : SummOk Tryz.prog 152 S_of183 := ⟨sum_valid cfg0Ok Tryz.func152 (body := Tryz.f152.body.getD .skip) rfl 600 rfl (by kernel_rfl), ⟨Tryz.call152⟩, rfl⟩
noncomputable def S_of184 : Summ := ⟨152, 0, [(.sc (.int .i64 (.lit 184)))], 0, [], [], fun _ => [], 0, (.sv (.agg [(.fix (.val (.string ⟨#[67, 76, 86]⟩)), 1), (.int .i64, 3)] (.upd (.upd (.upd (.upd (.rep 0) (.lit 0) (.lit 0)) (.lit 1) (.lit 0)) (.lit 2) (.lit 1)) (.lit 3) (.lit 2)))),
  [], []⟩
theorem V_of184 : SummOk Tryz.prog 152 S_of184 := ⟨sum_valid cfg0Ok Tryz.func152 (body := Tryz.f152.body.getD .skip) rfl 600 rfl (by kernel_rfl), ⟨Tryz.call152⟩, rfl⟩
noncomputable def S_of185 : Summ := ⟨152, 0, [(.sc (.int .i64 (.lit 185)))], 0, [], [], fun _ => [], 0, (.sv (.agg [(.fix (.val (.string ⟨#[76, 68, 65]⟩)), 1), (.int .i64, 3)] (.upd (.upd (.upd (.upd (.rep 0) (.lit 0) (.lit 0)) (.lit 1) (.lit 11)) (.lit 2) (.lit 3)) (.lit 3) (.lit 5)))),
  [], []⟩
theorem V_of185 : SummOk Tryz.prog 152 S_of185 := ⟨sum_valid cfg0Ok Tryz.func152 (body := Tryz.f152.body.getD .skip) rfl 600 rfl (by kernel_rfl), ⟨Tryz.call152⟩, rfl⟩
noncomputable def S_of186 : Summ := ⟨152, 0, [(.sc (.int .i64 (.lit 186)))], 0, [], [], fun _ => [], 0, (.sv (.agg [(.fix (.val (.string ⟨#[84, 83, 88]⟩)), 1), (.int .i64, 3)] (.upd (.upd (.upd (.upd (.rep 0) (.lit 0) (.lit 0)) (.lit 1) (.lit 0)) (.lit 2) (.lit 1)) (.lit 3) (.lit 2)))),
  [], []⟩
theorem V_of186 : SummOk Tryz.prog 152 S_of186 := ⟨sum_valid cfg0Ok Tryz.func152 (body := Tryz.f152.body.getD .skip) rfl 600 rfl (by kernel_rfl), ⟨Tryz.call152⟩, rfl⟩
noncomputable def S_of187 : Summ := ⟨152, 0, [(.sc (.int .i64 (.lit 187)))], 0, [], [], fun _ => [], 0, (.sv (.agg [(.fix (.val (.string ⟨#[78, 79, 80]⟩)), 1), (.int .i64, 3)] (.upd (.upd (.upd (.upd (.rep 0) (.lit 0) (.lit 0)) (.lit 1) (.lit 0)) (.lit 2) (.lit 1)) (.lit 3) (.lit 2)))),
  [], []⟩
theorem V_of187 : SummOk Tryz.prog 152 S_of187 := ⟨sum_valid cfg0Ok Tryz.func152 (body := Tryz.f152.body.getD .skip) rfl 600 rfl (by kernel_rfl), ⟨Tryz.call152⟩, rfl⟩
noncomputable def S_of188 : Summ := ⟨152, 0, [(.sc (.int .i64 (.lit 188)))], 0, [], [], fun _ => [], 0, (.sv (.agg [(.fix (.val (.string ⟨#[76, 68, 89]⟩)), 1), (.int .i64, 3)] (.upd (.upd (.upd (.upd (.rep 0) (.lit 0) (.lit 0)) (.lit 1) (.lit 10)) (.lit 2) (.lit 3)) (.lit 3) (.lit 5)))),
  [], []⟩
theorem V_of188 : SummOk Tryz.prog 152 S_of188 := ⟨sum_valid cfg0Ok Tryz.func152 (body := Tryz.f152.body.getD .skip) rfl 600 rfl (by kernel_rfl), ⟨Tryz.call152⟩, rfl⟩
noncomputable def S_of189 : Summ := ⟨152, 0, [(.sc (.int .i64 (.lit 189)))], 0, [], [], fun _ => [], 0, (.sv (.agg [(.fix (.val (.string ⟨#[76, 68, 65]⟩)), 1), (.int .i64, 3)] (.upd (.upd (.upd (.upd (.rep 0) (.lit 0) (.lit 0)) (.lit 1) (.lit 10)) (.lit 2) (.lit 3)) (.lit 3) (.lit 5)))),
  [], []⟩
theorem V_of189 : SummOk Tryz.prog 152 S_of189 := ⟨sum_valid cfg0Ok Tryz.func152 (body := Tryz.f152.body.getD .skip) rfl 600 rfl (by kernel_rfl), ⟨Tryz.call152⟩, rfl⟩
noncomputable def S_of190 : Summ := ⟨152, 0, [(.sc (.int .i64 (.lit 190)))], 0, [], [], fun _ => [], 0, (.sv (.agg [(.fix (.val (.string ⟨#[76, 68, 88]⟩)), 1), (.int .i64, 3)] (.upd (.upd (.upd (.upd (.rep 0) (.lit 0) (.lit 0)) (.lit 1) (.lit 11)) (.lit 2) (.lit 3)) (.lit 3) (.lit 5)))),
  [], []⟩
theorem V_of190 : SummOk Tryz.prog 152 S_of190 := ⟨sum_valid cfg0Ok Tryz.func152 (body := Tryz.f152.body.getD .skip) rfl 600 rfl (by kernel_rfl), ⟨Tryz.call152⟩, rfl⟩
noncomputable def S_of191 : Summ := ⟨152, 0, [(.sc (.int .i64 (.lit 191)))], 0, [], [], fun _ => [], 0, (.sv (.agg [(.fix (.val (.string ⟨#[66, 66, 83, 51]⟩)), 1), (.int .i64, 3)] (.upd (.upd (.upd (.upd (.rep 0) (.lit 0) (.lit 0)) (.lit 1) (.lit 15)) (.lit 2) (.lit 3)) (.lit 3) (.lit 6)))),
  [], []⟩
theorem V_of191 : SummOk Tryz.prog 152 S_of191 := ⟨sum_valid cfg0Ok Tryz.func152 (body := Tryz.f152.body.getD .skip) rfl 600 rfl (by kernel_rfl), ⟨Tryz.call152⟩, rfl⟩

end Go.Proofs.YtpndnejabebfeaaGreatDoor
