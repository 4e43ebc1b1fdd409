/- Contracts of opcode.Of, one for each byte. -/
import Derived.Test.YtpndnejabebfeaaGreatDoorConS
set_option maxRecDepth 100000
namespace Go.Proofs.YtpndnejabebfeaaGreatDoor
open Go.Sx

noncomputable def S_of64 : Summ := ⟨152, 0, [(.sc (.int .i64 (.lit 64)))], 0, [], [], fun _ => [], 0, (.sv (.agg [(.fix (.val (.string ⟨#[82, 84, 73]⟩)), 1), (.int .i64, 3)] (.upd (.upd (.upd (.upd (.rep 0) (.lit 0) (.lit 0)) (.lit 1) (.lit 0)) (.lit 2) (.lit 1)) (.lit 3) (.lit 7)))),
  [], []⟩
theorem V_of64 : SummOk Tryz.prog 152 S_of64 := ⟨sum_valid cfg0Ok Tryz.func152 (body := Tryz.f152.body.getD .skip) rfl 600 rfl (by kernel_rfl), ⟨Tryz.call152⟩, rfl⟩
noncomputable def S_of65 : Summ := ⟨152, 0, [(.sc (.int .i64 (.lit 65)))], 0, [], [], fun _ => [], 0, (.sv (.agg [(.fix (.val (.string ⟨#[69, 79, 82]⟩)), 1), (.int .i64, 3)] (.upd (.upd (.upd (.upd (.rep 0) (.lit 0) (.lit 0)) (.lit 1) (.lit 6)) (.lit 2) (.lit 2)) (.lit 3) (.lit 7)))),
  [], []⟩
theorem V_of65 : SummOk Tryz.prog 152 S_of65 := ⟨sum_valid cfg0Ok Tryz.func152 (body := Tryz.f152.body.getD .skip) rfl 600 rfl (by kernel_rfl), ⟨Tryz.call152⟩, rfl⟩
noncomputable def S_of66 : Summ := ⟨152, 0, [(.sc (.int .i64 (.lit 66)))], 0, [], [], fun _ => [], 0, (.sv (.agg [(.fix (.val (.string ⟨#[83, 65, 89]⟩)), 1), (.int .i64, 3)] (.upd (.upd (.upd (.upd (.rep 0) (.lit 0) (.lit 0)) (.lit 1) (.lit 0)) (.lit 2) (.lit 1)) (.lit 3) (.lit 3)))),
  [], []⟩
theorem V_of66 : SummOk Tryz.prog 152 S_of66 := ⟨sum_valid cfg0Ok Tryz.func152 (body := Tryz.f152.body.getD .skip) rfl 600 rfl (by kernel_rfl), ⟨Tryz.call152⟩, rfl⟩
noncomputable def S_of67 : Summ := ⟨152, 0, [(.sc (.int .i64 (.lit 67)))], 0, [], [], fun _ => [], 0, (.sv (.agg [(.fix (.val (.string ⟨#[84, 77, 65]⟩)), 1), (.int .i64, 3)] (.upd (.upd (.upd (.upd (.rep 0) (.lit 0) (.lit 0)) (.lit 1) (.lit 2)) (.lit 2) (.lit 2)) (.lit 3) (.lit 4)))),
  [], []⟩
theorem V_of67 : SummOk Tryz.prog 152 S_of67 := ⟨sum_valid cfg0Ok Tryz.func152 (body := Tryz.f152.body.getD .skip) rfl 600 rfl (by kernel_rfl), ⟨Tryz.call152⟩, rfl⟩
noncomputable def S_of68 : Summ := ⟨152, 0, [(.sc (.int .i64 (.lit 68)))], 0, [], [], fun _ => [], 0, (.sv (.agg [(.fix (.val (.string ⟨#[66, 83, 82]⟩)), 1), (.int .i64, 3)] (.upd (.upd (.upd (.upd (.rep 0) (.lit 0) (.lit 0)) (.lit 1) (.lit 14)) (.lit 2) (.lit 2)) (.lit 3) (.lit 8)))),
  [], []⟩
theorem V_of68 : SummOk Tryz.prog 152 S_of68 := ⟨sum_valid cfg0Ok Tryz.func152 (body := Tryz.f152.body.getD .skip) rfl 600 rfl (by kernel_rfl), ⟨Tryz.call152⟩, rfl⟩
noncomputable def S_of69 : Summ := ⟨152, 0, [(.sc (.int .i64 (.lit 69)))], 0, [], [], fun _ => [], 0, (.sv (.agg [(.fix (.val (.string ⟨#[69, 79, 82]⟩)), 1), (.int .i64, 3)] (.upd (.upd (.upd (.upd (.rep 0) (.lit 0) (.lit 0)) (.lit 1) (.lit 3)) (.lit 2) (.lit 2)) (.lit 3) (.lit 4)))),
  [], []⟩
theorem V_of69 : SummOk Tryz.prog 152 S_of69 := ⟨sum_valid cfg0Ok Tryz.func152 (body := Tryz.f152.body.getD .skip) rfl 600 rfl (by kernel_rfl), ⟨Tryz.call152⟩, rfl⟩
noncomputable def S_of70 : Summ := ⟨152, 0, [(.sc (.int .i64 (.lit 70)))], 0, [], [], fun _ => [], 0, (.sv (.agg [(.fix (.val (.string ⟨#[76, 83, 82]⟩)), 1), (.int .i64, 3)] (.upd (.upd (.upd (.upd (.rep 0) (.lit 0) (.lit 0)) (.lit 1) (.lit 3)) (.lit 2) (.lit 2)) (.lit 3) (.lit 6)))),
  [], []⟩
theorem V_of70 : SummOk Tryz.prog 152 S_of70 := ⟨sum_valid cfg0Ok Tryz.func152 (body := Tryz.f152.body.getD .skip) rfl 600 rfl (by kernel_rfl), ⟨Tryz.call152⟩, rfl⟩
noncomputable def S_of71 : Summ := ⟨152, 0, [(.sc (.int .i64 (.lit 71)))], 0, [], [], fun _ => [], 0, (.sv (.agg [(.fix (.val (.string ⟨#[82, 77, 66, 52]⟩)), 1), (.int .i64, 3)] (.upd (.upd (.upd (.upd (.rep 0) (.lit 0) (.lit 0)) (.lit 1) (.lit 3)) (.lit 2) (.lit 2)) (.lit 3) (.lit 7)))),
  [], []⟩
theorem V_of71 : SummOk Tryz.prog 152 S_of71 := ⟨sum_valid cfg0Ok Tryz.func152 (body := Tryz.f152.body.getD .skip) rfl 600 rfl (by kernel_rfl), ⟨Tryz.call152⟩, rfl⟩
noncomputable def S_of72 : Summ := ⟨152, 0, [(.sc (.int .i64 (.lit 72)))], 0, [], [], fun _ => [], 0, (.sv (.agg [(.fix (.val (.string ⟨#[80, 72, 65]⟩)), 1), (.int .i64, 3)] (.upd (.upd (.upd (.upd (.rep 0) (.lit 0) (.lit 0)) (.lit 1) (.lit 0)) (.lit 2) (.lit 1)) (.lit 3) (.lit 3)))),
  [], []⟩
theorem V_of72 : SummOk Tryz.prog 152 S_of72 := ⟨sum_valid cfg0Ok Tryz.func152 (body := Tryz.f152.body.getD .skip) rfl 600 rfl (by kernel_rfl), ⟨Tryz.call152⟩, rfl⟩
noncomputable def S_of73 : Summ := ⟨152, 0, [(.sc (.int .i64 (.lit 73)))], 0, [], [], fun _ => [], 0, (.sv (.agg [(.fix (.val (.string ⟨#[69, 79, 82]⟩)), 1), (.int .i64, 3)] (.upd (.upd (.upd (.upd (.rep 0) (.lit 0) (.lit 0)) (.lit 1) (.lit 2)) (.lit 2) (.lit 2)) (.lit 3) (.lit 2)))),
  [], []⟩
theorem V_of73 : SummOk Tryz.prog 152 S_of73 := ⟨sum_valid cfg0Ok Tryz.func152 (body := Tryz.f152.body.getD .skip) rfl 600 rfl (by kernel_rfl), ⟨Tryz.call152⟩, rfl⟩
noncomputable def S_of74 : Summ := ⟨152, 0, [(.sc (.int .i64 (.lit 74)))], 0, [], [], fun _ => [], 0, (.sv (.agg [(.fix (.val (.string ⟨#[76, 83, 82]⟩)), 1), (.int .i64, 3)] (.upd (.upd (.upd (.upd (.rep 0) (.lit 0) (.lit 0)) (.lit 1) (.lit 1)) (.lit 2) (.lit 1)) (.lit 3) (.lit 2)))),
  [], []⟩
theorem V_of74 : SummOk Tryz.prog 152 S_of74 := ⟨sum_valid cfg0Ok Tryz.func152 (body := Tryz.f152.body.getD .skip) rfl 600 rfl (by kernel_rfl), ⟨Tryz.call152⟩, rfl⟩
noncomputable def S_of75 : Summ := ⟨152, 0, [(.sc (.int .i64 (.lit 75)))], 0, [], [], fun _ => [], 0, (.sv (.agg [(.fix (.val (.string ⟨#[78, 79, 80]⟩)), 1), (.int .i64, 3)] (.upd (.upd (.upd (.upd (.rep 0) (.lit 0) (.lit 0)) (.lit 1) (.lit 0)) (.lit 2) (.lit 1)) (.lit 3) (.lit 2)))),
  [], []⟩
theorem V_of75 : SummOk Tryz.prog 152 S_of75 := ⟨sum_valid cfg0Ok Tryz.func152 (body := Tryz.f152.body.getD .skip) rfl 600 rfl (by kernel_rfl), ⟨Tryz.call152⟩, rfl⟩
noncomputable def S_of76 : Summ := ⟨152, 0, [(.sc (.int .i64 (.lit 76)))], 0, [], [], fun _ => [], 0, (.sv (.agg [(.fix (.val (.string ⟨#[74, 77, 80]⟩)), 1), (.int .i64, 3)] (.upd (.upd (.upd (.upd (.rep 0) (.lit 0) (.lit 0)) (.lit 1) (.lit 9)) (.lit 2) (.lit 3)) (.lit 3) (.lit 4)))),
  [], []⟩
theorem V_of76 : SummOk Tryz.prog 152 S_of76 := ⟨sum_valid cfg0Ok Tryz.func152 (body := Tryz.f152.body.getD .skip) rfl 600 rfl (by kernel_rfl), ⟨Tryz.call152⟩, rfl⟩
noncomputable def S_of77 : Summ := ⟨152, 0, [(.sc (.int .i64 (.lit 77)))], 0, [], [], fun _ => [], 0, (.sv (.agg [(.fix (.val (.string ⟨#[69, 79, 82]⟩)), 1), (.int .i64, 3)] (.upd (.upd (.upd (.upd (.rep 0) (.lit 0) (.lit 0)) (.lit 1) (.lit 9)) (.lit 2) (.lit 3)) (.lit 3) (.lit 5)))),
  [], []⟩
theorem V_of77 : SummOk Tryz.prog 152 S_of77 := ⟨sum_valid cfg0Ok Tryz.func152 (body := Tryz.f152.body.getD .skip) rfl 600 rfl (by kernel_rfl), ⟨Tryz.call152⟩, rfl⟩
noncomputable def S_of78 : Summ := ⟨152, 0, [(.sc (.int .i64 (.lit 78)))], 0, [], [], fun _ => [], 0, (.sv (.agg [(.fix (.val (.string ⟨#[76, 83, 82]⟩)), 1), (.int .i64, 3)] (.upd (.upd (.upd (.upd (.rep 0) (.lit 0) (.lit 0)) (.lit 1) (.lit 9)) (.lit 2) (.lit 3)) (.lit 3) (.lit 7)))),
  [], []⟩
theorem V_of78 : SummOk Tryz.prog 152 S_of78 := ⟨sum_valid cfg0Ok Tryz.func152 (body := Tryz.f152.body.getD .skip) rfl 600 rfl (by kernel_rfl), ⟨Tryz.call152⟩, rfl⟩
noncomputable def S_of79 : Summ := ⟨152, 0, [(.sc (.int .i64 (.lit 79)))], 0, [], [], fun _ => [], 0, (.sv (.agg [(.fix (.val (.string ⟨#[66, 66, 82, 52]⟩)), 1), (.int .i64, 3)] (.upd (.upd (.upd (.upd (.rep 0) (.lit 0) (.lit 0)) (.lit 1) (.lit 15)) (.lit 2) (.lit 3)) (.lit 3) (.lit 6)))),
  [], []⟩
theorem V_of79 : SummOk Tryz.prog 152 S_of79 := ⟨sum_valid cfg0Ok Tryz.func152 (body := Tryz.f152.body.getD .skip) rfl 600 rfl (by kernel_rfl), ⟨Tryz.call152⟩, rfl⟩
noncomputable def S_of80 : Summ := ⟨152, 0, [(.sc (.int .i64 (.lit 80)))], 0, [], [], fun _ => [], 0, (.sv (.agg [(.fix (.val (.string ⟨#[66, 86, 67]⟩)), 1), (.int .i64, 3)] (.upd (.upd (.upd (.upd (.rep 0) (.lit 0) (.lit 0)) (.lit 1) (.lit 14)) (.lit 2) (.lit 2)) (.lit 3) (.lit 2)))),
  [], []⟩
theorem V_of80 : SummOk Tryz.prog 152 S_of80 := ⟨sum_valid cfg0Ok Tryz.func152 (body := Tryz.f152.body.getD .skip) rfl 600 rfl (by kernel_rfl), ⟨Tryz.call152⟩, rfl⟩
noncomputable def S_of81 : Summ := ⟨152, 0, [(.sc (.int .i64 (.lit 81)))], 0, [], [], fun _ => [], 0, (.sv (.agg [(.fix (.val (.string ⟨#[69, 79, 82]⟩)), 1), (.int .i64, 3)] (.upd (.upd (.upd (.upd (.rep 0) (.lit 0) (.lit 0)) (.lit 1) (.lit 7)) (.lit 2) (.lit 2)) (.lit 3) (.lit 7)))),
  [], []⟩
theorem V_of81 : SummOk Tryz.prog 152 S_of81 := ⟨sum_valid cfg0Ok Tryz.func152 (body := Tryz.f152.body.getD .skip) rfl 600 rfl (by kernel_rfl), ⟨Tryz.call152⟩, rfl⟩
noncomputable def S_of82 : Summ := ⟨152, 0, [(.sc (.int .i64 (.lit 82)))], 0, [], [], fun _ => [], 0, (.sv (.agg [(.fix (.val (.string ⟨#[69, 79, 82]⟩)), 1), (.int .i64, 3)] (.upd (.upd (.upd (.upd (.rep 0) (.lit 0) (.lit 0)) (.lit 1) (.lit 8)) (.lit 2) (.lit 2)) (.lit 3) (.lit 7)))),
  [], []⟩
theorem V_of82 : SummOk Tryz.prog 152 S_of82 := ⟨sum_valid cfg0Ok Tryz.func152 (body := Tryz.f152.body.getD .skip) rfl 600 rfl (by kernel_rfl), ⟨Tryz.call152⟩, rfl⟩
noncomputable def S_of83 : Summ := ⟨152, 0, [(.sc (.int .i64 (.lit 83)))], 0, [], [], fun _ => [], 0, (.sv (.agg [(.fix (.val (.string ⟨#[84, 65, 77]⟩)), 1), (.int .i64, 3)] (.upd (.upd (.upd (.upd (.rep 0) (.lit 0) (.lit 0)) (.lit 1) (.lit 2)) (.lit 2) (.lit 2)) (.lit 3) (.lit 5)))),
  [], []⟩
theorem V_of83 : SummOk Tryz.prog 152 S_of83 := ⟨sum_valid cfg0Ok Tryz.func152 (body := Tryz.f152.body.getD .skip) rfl 600 rfl (by kernel_rfl), ⟨Tryz.call152⟩, rfl⟩
noncomputable def S_of84 : Summ := ⟨152, 0, [(.sc (.int .i64 (.lit 84)))], 0, [], [], fun _ => [], 0, (.sv (.agg [(.fix (.val (.string ⟨#[67, 83, 76]⟩)), 1), (.int .i64, 3)] (.upd (.upd (.upd (.upd (.rep 0) (.lit 0) (.lit 0)) (.lit 1) (.lit 0)) (.lit 2) (.lit 1)) (.lit 3) (.lit 3)))),
  [], []⟩
theorem V_of84 : SummOk Tryz.prog 152 S_of84 := ⟨sum_valid cfg0Ok Tryz.func152 (body := Tryz.f152.body.getD .skip) rfl 600 rfl (by kernel_rfl), ⟨Tryz.call152⟩, rfl⟩
noncomputable def S_of85 : Summ := ⟨152, 0, [(.sc (.int .i64 (.lit 85)))], 0, [], [], fun _ => [], 0, (.sv (.agg [(.fix (.val (.string ⟨#[69, 79, 82]⟩)), 1), (.int .i64, 3)] (.upd (.upd (.upd (.upd (.rep 0) (.lit 0) (.lit 0)) (.lit 1) (.lit 4)) (.lit 2) (.lit 2)) (.lit 3) (.lit 4)))),
  [], []⟩
theorem V_of85 : SummOk Tryz.prog 152 S_of85 := ⟨sum_valid cfg0Ok Tryz.func152 (body := Tryz.f152.body.getD .skip) rfl 600 rfl (by kernel_rfl), ⟨Tryz.call152⟩, rfl⟩
noncomputable def S_of86 : Summ := ⟨152, 0, [(.sc (.int .i64 (.lit 86)))], 0, [], [], fun _ => [], 0, (.sv (.agg [(.fix (.val (.string ⟨#[76, 83, 82]⟩)), 1), (.int .i64, 3)] (.upd (.upd (.upd (.upd (.rep 0) (.lit 0) (.lit 0)) (.lit 1) (.lit 4)) (.lit 2) (.lit 2)) (.lit 3) (.lit 6)))),
  [], []⟩
theorem V_of86 : SummOk Tryz.prog 152 S_of86 := ⟨sum_valid cfg0Ok Tryz.func152 (body := Tryz.f152.body.getD .skip) rfl 600 rfl (by kernel_rfl), ⟨Tryz.call152⟩, rfl⟩
noncomputable def S_of87 : Summ := ⟨152, 0, [(.sc (.int .i64 (.lit 87)))], 0, [], [], fun _ => [], 0, (.sv (.agg [(.fix (.val (.string ⟨#[82, 77, 66, 53]⟩)), 1), (.int .i64, 3)] (.upd (.upd (.upd (.upd (.rep 0) (.lit 0) (.lit 0)) (.lit 1) (.lit 3)) (.lit 2) (.lit 2)) (.lit 3) (.lit 7)))),
  [], []⟩
theorem V_of87 : SummOk Tryz.prog 152 S_of87 := ⟨sum_valid cfg0Ok Tryz.func152 (body := Tryz.f152.body.getD .skip) rfl 600 rfl (by kernel_rfl), ⟨Tryz.call152⟩, rfl⟩
noncomputable def S_of88 : Summ := ⟨152, 0, [(.sc (.int .i64 (.lit 88)))], 0, [], [], fun _ => [], 0, (.sv (.agg [(.fix (.val (.string ⟨#[67, 76, 73]⟩)), 1), (.int .i64, 3)] (.upd (.upd (.upd (.upd (.rep 0) (.lit 0) (.lit 0)) (.lit 1) (.lit 0)) (.lit 2) (.lit 1)) (.lit 3) (.lit 2)))),
  [], []⟩
theorem V_of88 : SummOk Tryz.prog 152 S_of88 := ⟨sum_valid cfg0Ok Tryz.func152 (body := Tryz.f152.body.getD .skip) rfl 600 rfl (by kernel_rfl), ⟨Tryz.call152⟩, rfl⟩
noncomputable def S_of89 : Summ := ⟨152, 0, [(.sc (.int .i64 (.lit 89)))], 0, [], [], fun _ => [], 0, (.sv (.agg [(.fix (.val (.string ⟨#[69, 79, 82]⟩)), 1), (.int .i64, 3)] (.upd (.upd (.upd (.upd (.rep 0) (.lit 0) (.lit 0)) (.lit 1) (.lit 11)) (.lit 2) (.lit 3)) (.lit 3) (.lit 5)))),
  [], []⟩
theorem V_of89 : SummOk Tryz.prog 152 S_of89 := ⟨sum_valid cfg0Ok Tryz.func152 (body := Tryz.f152.body.getD .skip) rfl 600 rfl (by kernel_rfl), ⟨Tryz.call152⟩, rfl⟩
noncomputable def S_of90 : Summ := ⟨152, 0, [(.sc (.int .i64 (.lit 90)))], 0, [], [], fun _ => [], 0, (.sv (.agg [(.fix (.val (.string ⟨#[80, 72, 89]⟩)), 1), (.int .i64, 3)] (.upd (.upd (.upd (.upd (.rep 0) (.lit 0) (.lit 0)) (.lit 1) (.lit 0)) (.lit 2) (.lit 1)) (.lit 3) (.lit 3)))),
  [], []⟩
theorem V_of90 : SummOk Tryz.prog 152 S_of90 := ⟨sum_valid cfg0Ok Tryz.func152 (body := Tryz.f152.body.getD .skip) rfl 600 rfl (by kernel_rfl), ⟨Tryz.call152⟩, rfl⟩
noncomputable def S_of91 : Summ := ⟨152, 0, [(.sc (.int .i64 (.lit 91)))], 0, [], [], fun _ => [], 0, (.sv (.agg [(.fix (.val (.string ⟨#[78, 79, 80]⟩)), 1), (.int .i64, 3)] (.upd (.upd (.upd (.upd (.rep 0) (.lit 0) (.lit 0)) (.lit 1) (.lit 0)) (.lit 2) (.lit 1)) (.lit 3) (.lit 2)))),
  [], []⟩
theorem V_of91 : SummOk Tryz.prog 152 S_of91 := ⟨sum_valid cfg0Ok Tryz.func152 (body := Tryz.f152.body.getD .skip) rfl 600 rfl (by kernel_rfl), ⟨Tryz.call152⟩, rfl⟩
noncomputable def S_of92 : Summ := ⟨152, 0, [(.sc (.int .i64 (.lit 92)))], 0, [], [], fun _ => [], 0, (.sv (.agg [(.fix (.val (.string ⟨#[78, 79, 80]⟩)), 1), (.int .i64, 3)] (.upd (.upd (.upd (.upd (.rep 0) (.lit 0) (.lit 0)) (.lit 1) (.lit 0)) (.lit 2) (.lit 1)) (.lit 3) (.lit 2)))),
  [], []⟩
theorem V_of92 : SummOk Tryz.prog 152 S_of92 := ⟨sum_valid cfg0Ok Tryz.func152 (body := Tryz.f152.body.getD .skip) rfl 600 rfl (by kernel_rfl), ⟨Tryz.call152⟩, rfl⟩
noncomputable def S_of93 : Summ := ⟨152, 0, [(.sc (.int .i64 (.lit 93)))], 0, [], [], fun _ => [], 0, (.sv (.agg [(.fix (.val (.string ⟨#[69, 79, 82]⟩)), 1), (.int .i64, 3)] (.upd (.upd (.upd (.upd (.rep 0) (.lit 0) (.lit 0)) (.lit 1) (.lit 10)) (.lit 2) (.lit 3)) (.lit 3) (.lit 5)))),
  [], []⟩
theorem V_of93 : SummOk Tryz.prog 152 S_of93 := ⟨sum_valid cfg0Ok Tryz.func152 (body := Tryz.f152.body.getD .skip) rfl 600 rfl (by kernel_rfl), ⟨Tryz.call152⟩, rfl⟩
noncomputable def S_of94 : Summ := ⟨152, 0, [(.sc (.int .i64 (.lit 94)))], 0, [], [], fun _ => [], 0, (.sv (.agg [(.fix (.val (.string ⟨#[76, 83, 82]⟩)), 1), (.int .i64, 3)] (.upd (.upd (.upd (.upd (.rep 0) (.lit 0) (.lit 0)) (.lit 1) (.lit 10)) (.lit 2) (.lit 3)) (.lit 3) (.lit 7)))),
  [], []⟩
theorem V_of94 : SummOk Tryz.prog 152 S_of94 := ⟨sum_valid cfg0Ok Tryz.func152 (body := Tryz.f152.body.getD .skip) rfl 600 rfl (by kernel_rfl), ⟨Tryz.call152⟩, rfl⟩
noncomputable def S_of95 : Summ := ⟨152, 0, [(.sc (.int .i64 (.lit 95)))], 0, [], [], fun _ => [], 0, (.sv (.agg [(.fix (.val (.string ⟨#[66, 66, 82, 53]⟩)), 1), (.int .i64, 3)] (.upd (.upd (.upd (.upd (.rep 0) (.lit 0) (.lit 0)) (.lit 1) (.lit 15)) (.lit 2) (.lit 3)) (.lit 3) (.lit 6)))),
  [], []⟩
theorem V_of95 : SummOk Tryz.prog 152 S_of95 := ⟨sum_valid cfg0Ok Tryz.func152 (body := Tryz.f152.body.getD .skip) rfl 600 rfl (by kernel_rfl), ⟨Tryz.call152⟩, rfl⟩
noncomputable def S_of96 : Summ := ⟨152, 0, [(.sc (.int .i64 (.lit 96)))], 0, [], [], fun _ => [], 0, (.sv (.agg [(.fix (.val (.string ⟨#[82, 84, 83]⟩)), 1), (.int .i64, 3)] (.upd (.upd (.upd (.upd (.rep 0) (.lit 0) (.lit 0)) (.lit 1) (.lit 0)) (.lit 2) (.lit 1)) (.lit 3) (.lit 7)))),
  [], []⟩
theorem V_of96 : SummOk Tryz.prog 152 S_of96 := ⟨sum_valid cfg0Ok Tryz.func152 (body := Tryz.f152.body.getD .skip) rfl 600 rfl (by kernel_rfl), ⟨Tryz.call152⟩, rfl⟩
noncomputable def S_of97 : Summ := ⟨152, 0, [(.sc (.int .i64 (.lit 97)))], 0, [], [], fun _ => [], 0, (.sv (.agg [(.fix (.val (.string ⟨#[65, 68, 67]⟩)), 1), (.int .i64, 3)] (.upd (.upd (.upd (.upd (.rep 0) (.lit 0) (.lit 0)) (.lit 1) (.lit 6)) (.lit 2) (.lit 2)) (.lit 3) (.lit 7)))),
  [], []⟩
theorem V_of97 : SummOk Tryz.prog 152 S_of97 := ⟨sum_valid cfg0Ok Tryz.func152 (body := Tryz.f152.body.getD .skip) rfl 600 rfl (by kernel_rfl), ⟨Tryz.call152⟩, rfl⟩
noncomputable def S_of98 : Summ := ⟨152, 0, [(.sc (.int .i64 (.lit 98)))], 0, [], [], fun _ => [], 0, (.sv (.agg [(.fix (.val (.string ⟨#[67, 76, 65]⟩)), 1), (.int .i64, 3)] (.upd (.upd (.upd (.upd (.rep 0) (.lit 0) (.lit 0)) (.lit 1) (.lit 0)) (.lit 2) (.lit 1)) (.lit 3) (.lit 2)))),
  [], []⟩
theorem V_of98 : SummOk Tryz.prog 152 S_of98 := ⟨sum_valid cfg0Ok Tryz.func152 (body := Tryz.f152.body.getD .skip) rfl 600 rfl (by kernel_rfl), ⟨Tryz.call152⟩, rfl⟩
noncomputable def S_of99 : Summ := ⟨152, 0, [(.sc (.int .i64 (.lit 99)))], 0, [], [], fun _ => [], 0, (.sv (.agg [(.fix (.val (.string ⟨#[78, 79, 80]⟩)), 1), (.int .i64, 3)] (.upd (.upd (.upd (.upd (.rep 0) (.lit 0) (.lit 0)) (.lit 1) (.lit 0)) (.lit 2) (.lit 1)) (.lit 3) (.lit 2)))),
  [], []⟩
theorem V_of99 : SummOk Tryz.prog 152 S_of99 := ⟨sum_valid cfg0Ok Tryz.func152 (body := Tryz.f152.body.getD .skip) rfl 600 rfl (by kernel_rfl), ⟨Tryz.call152⟩, rfl⟩
noncomputable def S_of100 : Summ := ⟨152, 0, [(.sc (.int .i64 (.lit 100)))], 0, [], [], fun _ => [], 0, (.sv (.agg [(.fix (.val (.string ⟨#[83, 84, 90]⟩)), 1), (.int .i64, 3)] (.upd (.upd (.upd (.upd (.rep 0) (.lit 0) (.lit 0)) (.lit 1) (.lit 3)) (.lit 2) (.lit 2)) (.lit 3) (.lit 4)))),
  [], []⟩
theorem V_of100 : SummOk Tryz.prog 152 S_of100 := ⟨sum_valid cfg0Ok Tryz.func152 (body := Tryz.f152.body.getD .skip) rfl 600 rfl (by kernel_rfl), ⟨Tryz.call152⟩, rfl⟩
noncomputable def S_of101 : Summ := ⟨152, 0, [(.sc (.int .i64 (.lit 101)))], 0, [], [], fun _ => [], 0, (.sv (.agg [(.fix (.val (.string ⟨#[65, 68, 67]⟩)), 1), (.int .i64, 3)] (.upd (.upd (.upd (.upd (.rep 0) (.lit 0) (.lit 0)) (.lit 1) (.lit 3)) (.lit 2) (.lit 2)) (.lit 3) (.lit 4)))),
  [], []⟩
theorem V_of101 : SummOk Tryz.prog 152 S_of101 := ⟨sum_valid cfg0Ok Tryz.func152 (body := Tryz.f152.body.getD .skip) rfl 600 rfl (by kernel_rfl), ⟨Tryz.call152⟩, rfl⟩
noncomputable def S_of102 : Summ := ⟨152, 0, [(.sc (.int .i64 (.lit 102)))], 0, [], [], fun _ => [], 0, (.sv (.agg [(.fix (.val (.string ⟨#[82, 79, 82]⟩)), 1), (.int .i64, 3)] (.upd (.upd (.upd (.upd (.rep 0) (.lit 0) (.lit 0)) (.lit 1) (.lit 3)) (.lit 2) (.lit 2)) (.lit 3) (.lit 6)))),
  [], []⟩
theorem V_of102 : SummOk Tryz.prog 152 S_of102 := ⟨sum_valid cfg0Ok Tryz.func152 (body := Tryz.f152.body.getD .skip) rfl 600 rfl (by kernel_rfl), ⟨Tryz.call152⟩, rfl⟩
noncomputable def S_of103 : Summ := ⟨152, 0, [(.sc (.int .i64 (.lit 103)))], 0, [], [], fun _ => [], 0, (.sv (.agg [(.fix (.val (.string ⟨#[82, 77, 66, 54]⟩)), 1), (.int .i64, 3)] (.upd (.upd (.upd (.upd (.rep 0) (.lit 0) (.lit 0)) (.lit 1) (.lit 3)) (.lit 2) (.lit 2)) (.lit 3) (.lit 7)))),
  [], []⟩
theorem V_of103 : SummOk Tryz.prog 152 S_of103 := ⟨sum_valid cfg0Ok Tryz.func152 (body := Tryz.f152.body.getD .skip) rfl 600 rfl (by kernel_rfl), ⟨Tryz.call152⟩, rfl⟩
noncomputable def S_of104 : Summ := ⟨152, 0, [(.sc (.int .i64 (.lit 104)))], 0, [], [], fun _ => [], 0, (.sv (.agg [(.fix (.val (.string ⟨#[80, 76, 65]⟩)), 1), (.int .i64, 3)] (.upd (.upd (.upd (.upd (.rep 0) (.lit 0) (.lit 0)) (.lit 1) (.lit 0)) (.lit 2) (.lit 1)) (.lit 3) (.lit 4)))),
  [], []⟩
theorem V_of104 : SummOk Tryz.prog 152 S_of104 := ⟨sum_valid cfg0Ok Tryz.func152 (body := Tryz.f152.body.getD .skip) rfl 600 rfl (by kernel_rfl), ⟨Tryz.call152⟩, rfl⟩
noncomputable def S_of105 : Summ := ⟨152, 0, [(.sc (.int .i64 (.lit 105)))], 0, [], [], fun _ => [], 0, (.sv (.agg [(.fix (.val (.string ⟨#[65, 68, 67]⟩)), 1), (.int .i64, 3)] (.upd (.upd (.upd (.upd (.rep 0) (.lit 0) (.lit 0)) (.lit 1) (.lit 2)) (.lit 2) (.lit 2)) (.lit 3) (.lit 2)))),
  [], []⟩
theorem V_of105 : SummOk Tryz.prog 152 S_of105 := ⟨sum_valid cfg0Ok Tryz.func152 (body := Tryz.f152.body.getD .skip) rfl 600 rfl (by kernel_rfl), ⟨Tryz.call152⟩, rfl⟩
noncomputable def S_of106 : Summ := ⟨152, 0, [(.sc (.int .i64 (.lit 106)))], 0, [], [], fun _ => [], 0, (.sv (.agg [(.fix (.val (.string ⟨#[82, 79, 82]⟩)), 1), (.int .i64, 3)] (.upd (.upd (.upd (.upd (.rep 0) (.lit 0) (.lit 0)) (.lit 1) (.lit 1)) (.lit 2) (.lit 1)) (.lit 3) (.lit 2)))),
  [], []⟩
theorem V_of106 : SummOk Tryz.prog 152 S_of106 := ⟨sum_valid cfg0Ok Tryz.func152 (body := Tryz.f152.body.getD .skip) rfl 600 rfl (by kernel_rfl), ⟨Tryz.call152⟩, rfl⟩
noncomputable def S_of107 : Summ := ⟨152, 0, [(.sc (.int .i64 (.lit 107)))], 0, [], [], fun _ => [], 0, (.sv (.agg [(.fix (.val (.string ⟨#[78, 79, 80]⟩)), 1), (.int .i64, 3)] (.upd (.upd (.upd (.upd (.rep 0) (.lit 0) (.lit 0)) (.lit 1) (.lit 0)) (.lit 2) (.lit 1)) (.lit 3) (.lit 2)))),
  [], []⟩
theorem V_of107 : SummOk Tryz.prog 152 S_of107 := ⟨sum_valid cfg0Ok Tryz.func152 (body := Tryz.f152.body.getD .skip) rfl 600 rfl (by kernel_rfl), ⟨Tryz.call152⟩, rfl⟩
noncomputable def S_of108 : Summ := ⟨152, 0, [(.sc (.int .i64 (.lit 108)))], 0, [], [], fun _ => [], 0, (.sv (.agg [(.fix (.val (.string ⟨#[74, 77, 80]⟩)), 1), (.int .i64, 3)] (.upd (.upd (.upd (.upd (.rep 0) (.lit 0) (.lit 0)) (.lit 1) (.lit 12)) (.lit 2) (.lit 3)) (.lit 3) (.lit 7)))),
  [], []⟩
theorem V_of108 : SummOk Tryz.prog 152 S_of108 := ⟨sum_valid cfg0Ok Tryz.func152 (body := Tryz.f152.body.getD .skip) rfl 600 rfl (by kernel_rfl), ⟨Tryz.call152⟩, rfl⟩
noncomputable def S_of109 : Summ := ⟨152, 0, [(.sc (.int .i64 (.lit 109)))], 0, [], [], fun _ => [], 0, (.sv (.agg [(.fix (.val (.string ⟨#[65, 68, 67]⟩)), 1), (.int .i64, 3)] (.upd (.upd (.upd (.upd (.rep 0) (.lit 0) (.lit 0)) (.lit 1) (.lit 9)) (.lit 2) (.lit 3)) (.lit 3) (.lit 5)))),
  [], []⟩
theorem V_of109 : SummOk Tryz.prog 152 S_of109 := ⟨sum_valid cfg0Ok Tryz.func152 (body := Tryz.f152.body.getD .skip) rfl 600 rfl (by kernel_rfl), ⟨Tryz.call152⟩, rfl⟩
noncomputable def S_of110 : Summ := ⟨152, 0, [(.sc (.int .i64 (.lit 110)))], 0, [], [], fun _ => [], 0, (.sv (.agg [(.fix (.val (.string ⟨#[82, 79, 82]⟩)), 1), (.int .i64, 3)] (.upd (.upd (.upd (.upd (.rep 0) (.lit 0) (.lit 0)) (.lit 1) (.lit 9)) (.lit 2) (.lit 3)) (.lit 3) (.lit 7)))),
  [], []⟩
theorem V_of110 : SummOk Tryz.prog 152 S_of110 := ⟨sum_valid cfg0Ok Tryz.func152 (body := Tryz.f152.body.getD .skip) rfl 600 rfl (by kernel_rfl), ⟨Tryz.call152⟩, rfl⟩
noncomputable def S_of111 : Summ := ⟨152, 0, [(.sc (.int .i64 (.lit 111)))], 0, [], [], fun _ => [], 0, (.sv (.agg [(.fix (.val (.string ⟨#[66, 66, 82, 54]⟩)), 1), (.int .i64, 3)] (.upd (.upd (.upd (.upd (.rep 0) (.lit 0) (.lit 0)) (.lit 1) (.lit 15)) (.lit 2) (.lit 3)) (.lit 3) (.lit 6)))),
  [], []⟩
theorem V_of111 : SummOk Tryz.prog 152 S_of111 := ⟨sum_valid cfg0Ok Tryz.func152 (body := Tryz.f152.body.getD .skip) rfl 600 rfl (by kernel_rfl), ⟨Tryz.call152⟩, rfl⟩
noncomputable def S_of112 : Summ := ⟨152, 0, [(.sc (.int .i64 (.lit 112)))], 0, [], [], fun _ => [], 0, (.sv (.agg [(.fix (.val (.string ⟨#[66, 86, 83]⟩)), 1), (.int .i64, 3)] (.upd (.upd (.upd (.upd (.rep 0) (.lit 0) (.lit 0)) (.lit 1) (.lit 14)) (.lit 2) (.lit 2)) (.lit 3) (.lit 2)))),
  [], []⟩
theorem V_of112 : SummOk Tryz.prog 152 S_of112 := ⟨sum_valid cfg0Ok Tryz.func152 (body := Tryz.f152.body.getD .skip) rfl 600 rfl (by kernel_rfl), ⟨Tryz.call152⟩, rfl⟩
noncomputable def S_of113 : Summ := ⟨152, 0, [(.sc (.int .i64 (.lit 113)))], 0, [], [], fun _ => [], 0, (.sv (.agg [(.fix (.val (.string ⟨#[65, 68, 67]⟩)), 1), (.int .i64, 3)] (.upd (.upd (.upd (.upd (.rep 0) (.lit 0) (.lit 0)) (.lit 1) (.lit 7)) (.lit 2) (.lit 2)) (.lit 3) (.lit 7)))),
  [], []⟩
theorem V_of113 : SummOk Tryz.prog 152 S_of113 := ⟨sum_valid cfg0Ok Tryz.func152 (body := Tryz.f152.body.getD .skip) rfl 600 rfl (by kernel_rfl), ⟨Tryz.call152⟩, rfl⟩
noncomputable def S_of114 : Summ := ⟨152, 0, [(.sc (.int .i64 (.lit 114)))], 0, [], [], fun _ => [], 0, (.sv (.agg [(.fix (.val (.string ⟨#[65, 68, 67]⟩)), 1), (.int .i64, 3)] (.upd (.upd (.upd (.upd (.rep 0) (.lit 0) (.lit 0)) (.lit 1) (.lit 8)) (.lit 2) (.lit 2)) (.lit 3) (.lit 7)))),
  [], []⟩
theorem V_of114 : SummOk Tryz.prog 152 S_of114 := ⟨sum_valid cfg0Ok Tryz.func152 (body := Tryz.f152.body.getD .skip) rfl 600 rfl (by kernel_rfl), ⟨Tryz.call152⟩, rfl⟩
noncomputable def S_of115 : Summ := ⟨152, 0, [(.sc (.int .i64 (.lit 115)))], 0, [], [], fun _ => [], 0, (.sv (.agg [(.fix (.val (.string ⟨#[84, 73, 73]⟩)), 1), (.int .i64, 3)] (.upd (.upd (.upd (.upd (.rep 0) (.lit 0) (.lit 0)) (.lit 1) (.lit 16)) (.lit 2) (.lit 7)) (.lit 3) (.lit 17)))),
  [], []⟩
theorem V_of115 : SummOk Tryz.prog 152 S_of115 := ⟨sum_valid cfg0Ok Tryz.func152 (body := Tryz.f152.body.getD .skip) rfl 600 rfl (by kernel_rfl), ⟨Tryz.call152⟩, rfl⟩
noncomputable def S_of116 : Summ := ⟨152, 0, [(.sc (.int .i64 (.lit 116)))], 0, [], [], fun _ => [], 0, (.sv (.agg [(.fix (.val (.string ⟨#[83, 84, 90]⟩)), 1), (.int .i64, 3)] (.upd (.upd (.upd (.upd (.rep 0) (.lit 0) (.lit 0)) (.lit 1) (.lit 4)) (.lit 2) (.lit 2)) (.lit 3) (.lit 4)))),
  [], []⟩
theorem V_of116 : SummOk Tryz.prog 152 S_of116 := ⟨sum_valid cfg0Ok Tryz.func152 (body := Tryz.f152.body.getD .skip) rfl 600 rfl (by kernel_rfl), ⟨Tryz.call152⟩, rfl⟩
noncomputable def S_of117 : Summ := ⟨152, 0, [(.sc (.int .i64 (.lit 117)))], 0, [], [], fun _ => [], 0, (.sv (.agg [(.fix (.val (.string ⟨#[65, 68, 67]⟩)), 1), (.int .i64, 3)] (.upd (.upd (.upd (.upd (.rep 0) (.lit 0) (.lit 0)) (.lit 1) (.lit 4)) (.lit 2) (.lit 2)) (.lit 3) (.lit 4)))),
  [], []⟩
theorem V_of117 : SummOk Tryz.prog 152 S_of117 := ⟨sum_valid cfg0Ok Tryz.func152 (body := Tryz.f152.body.getD .skip) rfl 600 rfl (by kernel_rfl), ⟨Tryz.call152⟩, rfl⟩
noncomputable def S_of118 : Summ := ⟨152, 0, [(.sc (.int .i64 (.lit 118)))], 0, [], [], fun _ => [], 0, (.sv (.agg [(.fix (.val (.string ⟨#[82, 79, 82]⟩)), 1), (.int .i64, 3)] (.upd (.upd (.upd (.upd (.rep 0) (.lit 0) (.lit 0)) (.lit 1) (.lit 4)) (.lit 2) (.lit 2)) (.lit 3) (.lit 6)))),
  [], []⟩
theorem V_of118 : SummOk Tryz.prog 152 S_of118 := ⟨sum_valid cfg0Ok Tryz.func152 (body := Tryz.f152.body.getD .skip) rfl 600 rfl (by kernel_rfl), ⟨Tryz.call152⟩, rfl⟩
noncomputable def S_of119 : Summ := ⟨152, 0, [(.sc (.int .i64 (.lit 119)))], 0, [], [], fun _ => [], 0, (.sv (.agg [(.fix (.val (.string ⟨#[82, 77, 66, 55]⟩)), 1), (.int .i64, 3)] (.upd (.upd (.upd (.upd (.rep 0) (.lit 0) (.lit 0)) (.lit 1) (.lit 3)) (.lit 2) (.lit 2)) (.lit 3) (.lit 7)))),
  [], []⟩
theorem V_of119 : SummOk Tryz.prog 152 S_of119 := ⟨sum_valid cfg0Ok Tryz.func152 (body := Tryz.f152.body.getD .skip) rfl 600 rfl (by kernel_rfl), ⟨Tryz.call152⟩, rfl⟩
noncomputable def S_of120 : Summ := ⟨152, 0, [(.sc (.int .i64 (.lit 120)))], 0, [], [], fun _ => [], 0, (.sv (.agg [(.fix (.val (.string ⟨#[83, 69, 73]⟩)), 1), (.int .i64, 3)] (.upd (.upd (.upd (.upd (.rep 0) (.lit 0) (.lit 0)) (.lit 1) (.lit 0)) (.lit 2) (.lit 1)) (.lit 3) (.lit 2)))),
  [], []⟩
theorem V_of120 : SummOk Tryz.prog 152 S_of120 := ⟨sum_valid cfg0Ok Tryz.func152 (body := Tryz.f152.body.getD .skip) rfl 600 rfl (by kernel_rfl), ⟨Tryz.call152⟩, rfl⟩
noncomputable def S_of121 : Summ := ⟨152, 0, [(.sc (.int .i64 (.lit 121)))], 0, [], [], fun _ => [], 0, (.sv (.agg [(.fix (.val (.string ⟨#[65, 68, 67]⟩)), 1), (.int .i64, 3)] (.upd (.upd (.upd (.upd (.rep 0) (.lit 0) (.lit 0)) (.lit 1) (.lit 11)) (.lit 2) (.lit 3)) (.lit 3) (.lit 5)))),
  [], []⟩
theorem V_of121 : SummOk Tryz.prog 152 S_of121 := ⟨sum_valid cfg0Ok Tryz.func152 (body := Tryz.f152.body.getD .skip) rfl 600 rfl (by kernel_rfl), ⟨Tryz.call152⟩, rfl⟩
noncomputable def S_of122 : Summ := ⟨152, 0, [(.sc (.int .i64 (.lit 122)))], 0, [], [], fun _ => [], 0, (.sv (.agg [(.fix (.val (.string ⟨#[80, 76, 89]⟩)), 1), (.int .i64, 3)] (.upd (.upd (.upd (.upd (.rep 0) (.lit 0) (.lit 0)) (.lit 1) (.lit 0)) (.lit 2) (.lit 1)) (.lit 3) (.lit 4)))),
  [], []⟩
theorem V_of122 : SummOk Tryz.prog 152 S_of122 := ⟨sum_valid cfg0Ok Tryz.func152 (body := Tryz.f152.body.getD .skip) rfl 600 rfl (by kernel_rfl), ⟨Tryz.call152⟩, rfl⟩
noncomputable def S_of123 : Summ := ⟨152, 0, [(.sc (.int .i64 (.lit 123)))], 0, [], [], fun _ => [], 0, (.sv (.agg [(.fix (.val (.string ⟨#[78, 79, 80]⟩)), 1), (.int .i64, 3)] (.upd (.upd (.upd (.upd (.rep 0) (.lit 0) (.lit 0)) (.lit 1) (.lit 0)) (.lit 2) (.lit 1)) (.lit 3) (.lit 2)))),
  [], []⟩
theorem V_of123 : SummOk Tryz.prog 152 S_of123 := ⟨sum_valid cfg0Ok Tryz.func152 (body := Tryz.f152.body.getD .skip) rfl 600 rfl (by kernel_rfl), ⟨Tryz.call152⟩, rfl⟩
noncomputable def S_of124 : Summ := ⟨152, 0, [(.sc (.int .i64 (.lit 124)))], 0, [], [], fun _ => [], 0, (.sv (.agg [(.fix (.val (.string ⟨#[74, 77, 80]⟩)), 1), (.int .i64, 3)] (.upd (.upd (.upd (.upd (.rep 0) (.lit 0) (.lit 0)) (.lit 1) (.lit 13)) (.lit 2) (.lit 3)) (.lit 3) (.lit 7)))),
  [], []⟩
theorem V_of124 : SummOk Tryz.prog 152 S_of124 := ⟨sum_valid cfg0Ok Tryz.func152 (body := Tryz.f152.body.getD .skip) rfl 600 rfl (by kernel_rfl), ⟨Tryz.call152⟩, rfl⟩
noncomputable def S_of125 : Summ := ⟨152, 0, [(.sc (.int .i64 (.lit 125)))], 0, [], [], fun _ => [], 0, (.sv (.agg [(.fix (.val (.string ⟨#[65, 68, 67]⟩)), 1), (.int .i64, 3)] (.upd (.upd (.upd (.upd (.rep 0) (.lit 0) (.lit 0)) (.lit 1) (.lit 10)) (.lit 2) (.lit 3)) (.lit 3) (.lit 5)))),
  [], []⟩
theorem V_of125 : SummOk Tryz.prog 152 S_of125 := ⟨sum_valid cfg0Ok Tryz.func152 (body := Tryz.f152.body.getD .skip) rfl 600 rfl (by kernel_rfl), ⟨Tryz.call152⟩, rfl⟩
noncomputable def S_of126 : Summ := ⟨152, 0, [(.sc (.int .i64 (.lit 126)))], 0, [], [], fun _ => [], 0, (.sv (.agg [(.fix (.val (.string ⟨#[82, 79, 82]⟩)), 1), (.int .i64, 3)] (.upd (.upd (.upd (.upd (.rep 0) (.lit 0) (.lit 0)) (.lit 1) (.lit 10)) (.lit 2) (.lit 3)) (.lit 3) (.lit 7)))),
  [], []⟩
theorem V_of126 : SummOk Tryz.prog 152 S_of126 := ⟨sum_valid cfg0Ok Tryz.func152 (body := Tryz.f152.body.getD .skip) rfl 600 rfl (by kernel_rfl), ⟨Tryz.call152⟩, rfl⟩
noncomputable def S_of127 : Summ := ⟨152, 0, [(.sc (.int .i64 (.lit 127)))], 0, [], [], fun _ => [], 0, (.sv (.agg [(.fix (.val (.string ⟨#[66, 66, 82, 55]⟩)), 1), (.int .i64, 3)] (.upd (.upd (.upd (.upd (.rep 0) (.lit 0) (.lit 0)) (.lit 1) (.lit 15)) (.lit 2) (.lit 3)) (.lit 3) (.lit 6)))),
  [], []⟩
theorem V_of127 : SummOk Tryz.prog 152 S_of127 := ⟨sum_valid cfg0Ok Tryz.func152 (body := Tryz.f152.body.getD .skip) rfl 600 rfl (by kernel_rfl), ⟨Tryz.call152⟩, rfl⟩

end Go.Proofs.YtpndnejabebfeaaGreatDoor
