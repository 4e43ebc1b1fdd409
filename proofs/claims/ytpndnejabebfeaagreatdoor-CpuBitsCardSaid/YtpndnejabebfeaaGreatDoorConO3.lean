/- Contracts of opcode.Of, one for each byte. -/
import Derived.Test.YtpndnejabebfeaaGreatDoorConS
set_option maxRecDepth 100000
namespace Go.Proofs.YtpndnejabebfeaaGreatDoor
open Go.Sx

noncomputable def S_of192 : Summ := ⟨152, 0, [(.sc (.int .i64 (.lit 192)))], 0, [], [], fun _ => [], 0, (.sv (.agg [(.fix (.val (.string ⟨#[67, 80, 89]⟩)), 1), (.int .i64, 3)] (.upd (.upd (.upd (.upd (.rep 0) (.lit 0) (.lit 0)) (.lit 1) (.lit 2)) (.lit 2) (.lit 2)) (.lit 3) (.lit 2)))),
  [], []⟩
theorem V_of192 : SummOk Tryz.prog 152 S_of192 := ⟨sum_valid cfg0Ok Tryz.func152 (body := Tryz.f152.body.getD .skip) rfl 600 rfl (by kernel_rfl), ⟨Tryz.call152⟩, rfl⟩
noncomputable def S_of193 : Summ := ⟨152, 0, [(.sc (.int .i64 (.lit 193)))], 0, [], [], fun _ => [], 0, (.sv (.agg [(.fix (.val (.string ⟨#[67, 77, 80]⟩)), 1), (.int .i64, 3)] (.upd (.upd (.upd (.upd (.rep 0) (.lit 0) (.lit 0)) (.lit 1) (.lit 6)) (.lit 2) (.lit 2)) (.lit 3) (.lit 7)))),
  [], []⟩
theorem V_of193 : SummOk Tryz.prog 152 S_of193 := ⟨sum_valid cfg0Ok Tryz.func152 (body := Tryz.f152.body.getD .skip) rfl 600 rfl (by kernel_rfl), ⟨Tryz.call152⟩, rfl⟩
noncomputable def S_of194 : Summ := ⟨152, 0, [(.sc (.int .i64 (.lit 194)))], 0, [], [], fun _ => [], 0, (.sv (.agg [(.fix (.val (.string ⟨#[67, 76, 89]⟩)), 1), (.int .i64, 3)] (.upd (.upd (.upd (.upd (.rep 0) (.lit 0) (.lit 0)) (.lit 1) (.lit 0)) (.lit 2) (.lit 1)) (.lit 3) (.lit 2)))),
  [], []⟩
theorem V_of194 : SummOk Tryz.prog 152 S_of194 := ⟨sum_valid cfg0Ok Tryz.func152 (body := Tryz.f152.body.getD .skip) rfl 600 rfl (by kernel_rfl), ⟨Tryz.call152⟩, rfl⟩
noncomputable def S_of195 : Summ := ⟨152, 0, [(.sc (.int .i64 (.lit 195)))], 0, [], [], fun _ => [], 0, (.sv (.agg [(.fix (.val (.string ⟨#[84, 68, 68]⟩)), 1), (.int .i64, 3)] (.upd (.upd (.upd (.upd (.rep 0) (.lit 0) (.lit 0)) (.lit 1) (.lit 16)) (.lit 2) (.lit 7)) (.lit 3) (.lit 17)))),
  [], []⟩
theorem V_of195 : SummOk Tryz.prog 152 S_of195 := ⟨sum_valid cfg0Ok Tryz.func152 (body := Tryz.f152.body.getD .skip) rfl 600 rfl (by kernel_rfl), ⟨Tryz.call152⟩, rfl⟩
noncomputable def S_of196 : Summ := ⟨152, 0, [(.sc (.int .i64 (.lit 196)))], 0, [], [], fun _ => [], 0, (.sv (.agg [(.fix (.val (.string ⟨#[67, 80, 89]⟩)), 1), (.int .i64, 3)] (.upd (.upd (.upd (.upd (.rep 0) (.lit 0) (.lit 0)) (.lit 1) (.lit 3)) (.lit 2) (.lit 2)) (.lit 3) (.lit 4)))),
  [], []⟩
theorem V_of196 : SummOk Tryz.prog 152 S_of196 := ⟨sum_valid cfg0Ok Tryz.func152 (body := Tryz.f152.body.getD .skip) rfl 600 rfl (by kernel_rfl), ⟨Tryz.call152⟩, rfl⟩
noncomputable def S_of197 : Summ := ⟨152, 0, [(.sc (.int .i64 (.lit 197)))], 0, [], [], fun _ => [], 0, (.sv (.agg [(.fix (.val (.string ⟨#[67, 77, 80]⟩)), 1), (.int .i64, 3)] (.upd (.upd (.upd (.upd (.rep 0) (.lit 0) (.lit 0)) (.lit 1) (.lit 3)) (.lit 2) (.lit 2)) (.lit 3) (.lit 4)))),
  [], []⟩
theorem V_of197 : SummOk Tryz.prog 152 S_of197 := ⟨sum_valid cfg0Ok Tryz.func152 (body := Tryz.f152.body.getD .skip) rfl 600 rfl (by kernel_rfl), ⟨Tryz.call152⟩, rfl⟩
noncomputable def S_of198 : Summ := ⟨152, 0, [(.sc (.int .i64 (.lit 198)))], 0, [], [], fun _ => [], 0, (.sv (.agg [(.fix (.val (.string ⟨#[68, 69, 67]⟩)), 1), (.int .i64, 3)] (.upd (.upd (.upd (.upd (.rep 0) (.lit 0) (.lit 0)) (.lit 1) (.lit 3)) (.lit 2) (.lit 2)) (.lit 3) (.lit 6)))),
  [], []⟩
theorem V_of198 : SummOk Tryz.prog 152 S_of198 := ⟨sum_valid cfg0Ok Tryz.func152 (body := Tryz.f152.body.getD .skip) rfl 600 rfl (by kernel_rfl), ⟨Tryz.call152⟩, rfl⟩
noncomputable def S_of199 : Summ := ⟨152, 0, [(.sc (.int .i64 (.lit 199)))], 0, [], [], fun _ => [], 0, (.sv (.agg [(.fix (.val (.string ⟨#[83, 77, 66, 52]⟩)), 1), (.int .i64, 3)] (.upd (.upd (.upd (.upd (.rep 0) (.lit 0) (.lit 0)) (.lit 1) (.lit 3)) (.lit 2) (.lit 2)) (.lit 3) (.lit 7)))),
  [], []⟩
theorem V_of199 : SummOk Tryz.prog 152 S_of199 := ⟨sum_valid cfg0Ok Tryz.func152 (body := Tryz.f152.body.getD .skip) rfl 600 rfl (by kernel_rfl), ⟨Tryz.call152⟩, rfl⟩
noncomputable def S_of200 : Summ := ⟨152, 0, [(.sc (.int .i64 (.lit 200)))], 0, [], [], fun _ => [], 0, (.sv (.agg [(.fix (.val (.string ⟨#[73, 78, 89]⟩)), 1), (.int .i64, 3)] (.upd (.upd (.upd (.upd (.rep 0) (.lit 0) (.lit 0)) (.lit 1) (.lit 0)) (.lit 2) (.lit 1)) (.lit 3) (.lit 2)))),
  [], []⟩
theorem V_of200 : SummOk Tryz.prog 152 S_of200 := ⟨sum_valid cfg0Ok Tryz.func152 (body := Tryz.f152.body.getD .skip) rfl 600 rfl (by kernel_rfl), ⟨Tryz.call152⟩, rfl⟩
noncomputable def S_of201 : Summ := ⟨152, 0, [(.sc (.int .i64 (.lit 201)))], 0, [], [], fun _ => [], 0, (.sv (.agg [(.fix (.val (.string ⟨#[67, 77, 80]⟩)), 1), (.int .i64, 3)] (.upd (.upd (.upd (.upd (.rep 0) (.lit 0) (.lit 0)) (.lit 1) (.lit 2)) (.lit 2) (.lit 2)) (.lit 3) (.lit 2)))),
  [], []⟩
theorem V_of201 : SummOk Tryz.prog 152 S_of201 := ⟨sum_valid cfg0Ok Tryz.func152 (body := Tryz.f152.body.getD .skip) rfl 600 rfl (by kernel_rfl), ⟨Tryz.call152⟩, rfl⟩
noncomputable def S_of202 : Summ := ⟨152, 0, [(.sc (.int .i64 (.lit 202)))], 0, [], [], fun _ => [], 0, (.sv (.agg [(.fix (.val (.string ⟨#[68, 69, 88]⟩)), 1), (.int .i64, 3)] (.upd (.upd (.upd (.upd (.rep 0) (.lit 0) (.lit 0)) (.lit 1) (.lit 0)) (.lit 2) (.lit 1)) (.lit 3) (.lit 2)))),
  [], []⟩
theorem V_of202 : SummOk Tryz.prog 152 S_of202 := ⟨sum_valid cfg0Ok Tryz.func152 (body := Tryz.f152.body.getD .skip) rfl 600 rfl (by kernel_rfl), ⟨Tryz.call152⟩, rfl⟩
noncomputable def S_of203 : Summ := ⟨152, 0, [(.sc (.int .i64 (.lit 203)))], 0, [], [], fun _ => [], 0, (.sv (.agg [(.fix (.val (.string ⟨#[78, 79, 80]⟩)), 1), (.int .i64, 3)] (.upd (.upd (.upd (.upd (.rep 0) (.lit 0) (.lit 0)) (.lit 1) (.lit 0)) (.lit 2) (.lit 1)) (.lit 3) (.lit 2)))),
  [], []⟩
theorem V_of203 : SummOk Tryz.prog 152 S_of203 := ⟨sum_valid cfg0Ok Tryz.func152 (body := Tryz.f152.body.getD .skip) rfl 600 rfl (by kernel_rfl), ⟨Tryz.call152⟩, rfl⟩
noncomputable def S_of204 : Summ := ⟨152, 0, [(.sc (.int .i64 (.lit 204)))], 0, [], [], fun _ => [], 0, (.sv (.agg [(.fix (.val (.string ⟨#[67, 80, 89]⟩)), 1), (.int .i64, 3)] (.upd (.upd (.upd (.upd (.rep 0) (.lit 0) (.lit 0)) (.lit 1) (.lit 9)) (.lit 2) (.lit 3)) (.lit 3) (.lit 5)))),
  [], []⟩
theorem V_of204 : SummOk Tryz.prog 152 S_of204 := ⟨sum_valid cfg0Ok Tryz.func152 (body := Tryz.f152.body.getD .skip) rfl 600 rfl (by kernel_rfl), ⟨Tryz.call152⟩, rfl⟩
noncomputable def S_of205 : Summ := ⟨152, 0, [(.sc (.int .i64 (.lit 205)))], 0, [], [], fun _ => [], 0, (.sv (.agg [(.fix (.val (.string ⟨#[67, 77, 80]⟩)), 1), (.int .i64, 3)] (.upd (.upd (.upd (.upd (.rep 0) (.lit 0) (.lit 0)) (.lit 1) (.lit 9)) (.lit 2) (.lit 3)) (.lit 3) (.lit 5)))),
  [], []⟩
theorem V_of205 : SummOk Tryz.prog 152 S_of205 := ⟨sum_valid cfg0Ok Tryz.func152 (body := Tryz.f152.body.getD .skip) rfl 600 rfl (by kernel_rfl), ⟨Tryz.call152⟩, rfl⟩
noncomputable def S_of206 : Summ := ⟨152, 0, [(.sc (.int .i64 (.lit 206)))], 0, [], [], fun _ => [], 0, (.sv (.agg [(.fix (.val (.string ⟨#[68, 69, 67]⟩)), 1), (.int .i64, 3)] (.upd (.upd (.upd (.upd (.rep 0) (.lit 0) (.lit 0)) (.lit 1) (.lit 9)) (.lit 2) (.lit 3)) (.lit 3) (.lit 7)))),
  [], []⟩
theorem V_of206 : SummOk Tryz.prog 152 S_of206 := ⟨sum_valid cfg0Ok Tryz.func152 (body := Tryz.f152.body.getD .skip) rfl 600 rfl (by kernel_rfl), ⟨Tryz.call152⟩, rfl⟩
noncomputable def S_of207 : Summ := ⟨152, 0, [(.sc (.int .i64 (.lit 207)))], 0, [], [], fun _ => [], 0, (.sv (.agg [(.fix (.val (.string ⟨#[66, 66, 83, 52]⟩)), 1), (.int .i64, 3)] (.upd (.upd (.upd (.upd (.rep 0) (.lit 0) (.lit 0)) (.lit 1) (.lit 15)) (.lit 2) (.lit 3)) (.lit 3) (.lit 6)))),
  [], []⟩
theorem V_of207 : SummOk Tryz.prog 152 S_of207 := ⟨sum_valid cfg0Ok Tryz.func152 (body := Tryz.f152.body.getD .skip) rfl 600 rfl (by kernel_rfl), ⟨Tryz.call152⟩, rfl⟩
noncomputable def S_of208 : Summ := ⟨152, 0, [(.sc (.int .i64 (.lit 208)))], 0, [], [], fun _ => [], 0, (.sv (.agg [(.fix (.val (.string ⟨#[66, 78, 69]⟩)), 1), (.int .i64, 3)] (.upd (.upd (.upd (.upd (.rep 0) (.lit 0) (.lit 0)) (.lit 1) (.lit 14)) (.lit 2) (.lit 2)) (.lit 3) (.lit 2)))),
  [], []⟩
theorem V_of208 : SummOk Tryz.prog 152 S_of208 := ⟨sum_valid cfg0Ok Tryz.func152 (body := Tryz.f152.body.getD .skip) rfl 600 rfl (by kernel_rfl), ⟨Tryz.call152⟩, rfl⟩
noncomputable def S_of209 : Summ := ⟨152, 0, [(.sc (.int .i64 (.lit 209)))], 0, [], [], fun _ => [], 0, (.sv (.agg [(.fix (.val (.string ⟨#[67, 77, 80]⟩)), 1), (.int .i64, 3)] (.upd (.upd (.upd (.upd (.rep 0) (.lit 0) (.lit 0)) (.lit 1) (.lit 7)) (.lit 2) (.lit 2)) (.lit 3) (.lit 7)))),
  [], []⟩
theorem V_of209 : SummOk Tryz.prog 152 S_of209 := ⟨sum_valid cfg0Ok Tryz.func152 (body := Tryz.f152.body.getD .skip) rfl 600 rfl (by kernel_rfl), ⟨Tryz.call152⟩, rfl⟩
noncomputable def S_of210 : Summ := ⟨152, 0, [(.sc (.int .i64 (.lit 210)))], 0, [], [], fun _ => [], 0, (.sv (.agg [(.fix (.val (.string ⟨#[67, 77, 80]⟩)), 1), (.int .i64, 3)] (.upd (.upd (.upd (.upd (.rep 0) (.lit 0) (.lit 0)) (.lit 1) (.lit 8)) (.lit 2) (.lit 2)) (.lit 3) (.lit 7)))),
  [], []⟩
theorem V_of210 : SummOk Tryz.prog 152 S_of210 := ⟨sum_valid cfg0Ok Tryz.func152 (body := Tryz.f152.body.getD .skip) rfl 600 rfl (by kernel_rfl), ⟨Tryz.call152⟩, rfl⟩
noncomputable def S_of211 : Summ := ⟨152, 0, [(.sc (.int .i64 (.lit 211)))], 0, [], [], fun _ => [], 0, (.sv (.agg [(.fix (.val (.string ⟨#[84, 73, 78]⟩)), 1), (.int .i64, 3)] (.upd (.upd (.upd (.upd (.rep 0) (.lit 0) (.lit 0)) (.lit 1) (.lit 16)) (.lit 2) (.lit 7)) (.lit 3) (.lit 17)))),
  [], []⟩
theorem V_of211 : SummOk Tryz.prog 152 S_of211 := ⟨sum_valid cfg0Ok Tryz.func152 (body := Tryz.f152.body.getD .skip) rfl 600 rfl (by kernel_rfl), ⟨Tryz.call152⟩, rfl⟩
noncomputable def S_of212 : Summ := ⟨152, 0, [(.sc (.int .i64 (.lit 212)))], 0, [], [], fun _ => [], 0, (.sv (.agg [(.fix (.val (.string ⟨#[67, 83, 72]⟩)), 1), (.int .i64, 3)] (.upd (.upd (.upd (.upd (.rep 0) (.lit 0) (.lit 0)) (.lit 1) (.lit 0)) (.lit 2) (.lit 1)) (.lit 3) (.lit 3)))),
  [], []⟩
theorem V_of212 : SummOk Tryz.prog 152 S_of212 := ⟨sum_valid cfg0Ok Tryz.func152 (body := Tryz.f152.body.getD .skip) rfl 600 rfl (by kernel_rfl), ⟨Tryz.call152⟩, rfl⟩
noncomputable def S_of213 : Summ := ⟨152, 0, [(.sc (.int .i64 (.lit 213)))], 0, [], [], fun _ => [], 0, (.sv (.agg [(.fix (.val (.string ⟨#[67, 77, 80]⟩)), 1), (.int .i64, 3)] (.upd (.upd (.upd (.upd (.rep 0) (.lit 0) (.lit 0)) (.lit 1) (.lit 4)) (.lit 2) (.lit 2)) (.lit 3) (.lit 4)))),
  [], []⟩
theorem V_of213 : SummOk Tryz.prog 152 S_of213 := ⟨sum_valid cfg0Ok Tryz.func152 (body := Tryz.f152.body.getD .skip) rfl 600 rfl (by kernel_rfl), ⟨Tryz.call152⟩, rfl⟩
noncomputable def S_of214 : Summ := ⟨152, 0, [(.sc (.int .i64 (.lit 214)))], 0, [], [], fun _ => [], 0, (.sv (.agg [(.fix (.val (.string ⟨#[68, 69, 67]⟩)), 1), (.int .i64, 3)] (.upd (.upd (.upd (.upd (.rep 0) (.lit 0) (.lit 0)) (.lit 1) (.lit 4)) (.lit 2) (.lit 2)) (.lit 3) (.lit 6)))),
  [], []⟩
theorem V_of214 : SummOk Tryz.prog 152 S_of214 := ⟨sum_valid cfg0Ok Tryz.func152 (body := Tryz.f152.body.getD .skip) rfl 600 rfl (by kernel_rfl), ⟨Tryz.call152⟩, rfl⟩
noncomputable def S_of215 : Summ := ⟨152, 0, [(.sc (.int .i64 (.lit 215)))], 0, [], [], fun _ => [], 0, (.sv (.agg [(.fix (.val (.string ⟨#[83, 77, 66, 53]⟩)), 1), (.int .i64, 3)] (.upd (.upd (.upd (.upd (.rep 0) (.lit 0) (.lit 0)) (.lit 1) (.lit 3)) (.lit 2) (.lit 2)) (.lit 3) (.lit 7)))),
  [], []⟩
theorem V_of215 : SummOk Tryz.prog 152 S_of215 := ⟨sum_valid cfg0Ok Tryz.func152 (body := Tryz.f152.body.getD .skip) rfl 600 rfl (by kernel_rfl), ⟨Tryz.call152⟩, rfl⟩
noncomputable def S_of216 : Summ := ⟨152, 0, [(.sc (.int .i64 (.lit 216)))], 0, [], [], fun _ => [], 0, (.sv (.agg [(.fix (.val (.string ⟨#[67, 76, 68]⟩)), 1), (.int .i64, 3)] (.upd (.upd (.upd (.upd (.rep 0) (.lit 0) (.lit 0)) (.lit 1) (.lit 0)) (.lit 2) (.lit 1)) (.lit 3) (.lit 2)))),
  [], []⟩
theorem V_of216 : SummOk Tryz.prog 152 S_of216 := ⟨sum_valid cfg0Ok Tryz.func152 (body := Tryz.f152.body.getD .skip) rfl 600 rfl (by kernel_rfl), ⟨Tryz.call152⟩, rfl⟩
noncomputable def S_of217 : Summ := ⟨152, 0, [(.sc (.int .i64 (.lit 217)))], 0, [], [], fun _ => [], 0, (.sv (.agg [(.fix (.val (.string ⟨#[67, 77, 80]⟩)), 1), (.int .i64, 3)] (.upd (.upd (.upd (.upd (.rep 0) (.lit 0) (.lit 0)) (.lit 1) (.lit 11)) (.lit 2) (.lit 3)) (.lit 3) (.lit 5)))),
  [], []⟩
theorem V_of217 : SummOk Tryz.prog 152 S_of217 := ⟨sum_valid cfg0Ok Tryz.func152 (body := Tryz.f152.body.getD .skip) rfl 600 rfl (by kernel_rfl), ⟨Tryz.call152⟩, rfl⟩
noncomputable def S_of218 : Summ := ⟨152, 0, [(.sc (.int .i64 (.lit 218)))], 0, [], [], fun _ => [], 0, (.sv (.agg [(.fix (.val (.string ⟨#[80, 72, 88]⟩)), 1), (.int .i64, 3)] (.upd (.upd (.upd (.upd (.rep 0) (.lit 0) (.lit 0)) (.lit 1) (.lit 0)) (.lit 2) (.lit 1)) (.lit 3) (.lit 3)))),
  [], []⟩
theorem V_of218 : SummOk Tryz.prog 152 S_of218 := ⟨sum_valid cfg0Ok Tryz.func152 (body := Tryz.f152.body.getD .skip) rfl 600 rfl (by kernel_rfl), ⟨Tryz.call152⟩, rfl⟩
noncomputable def S_of219 : Summ := ⟨152, 0, [(.sc (.int .i64 (.lit 219)))], 0, [], [], fun _ => [], 0, (.sv (.agg [(.fix (.val (.string ⟨#[78, 79, 80]⟩)), 1), (.int .i64, 3)] (.upd (.upd (.upd (.upd (.rep 0) (.lit 0) (.lit 0)) (.lit 1) (.lit 0)) (.lit 2) (.lit 1)) (.lit 3) (.lit 2)))),
  [], []⟩
theorem V_of219 : SummOk Tryz.prog 152 S_of219 := ⟨sum_valid cfg0Ok Tryz.func152 (body := Tryz.f152.body.getD .skip) rfl 600 rfl (by kernel_rfl), ⟨Tryz.call152⟩, rfl⟩
noncomputable def S_of220 : Summ := ⟨152, 0, [(.sc (.int .i64 (.lit 220)))], 0, [], [], fun _ => [], 0, (.sv (.agg [(.fix (.val (.string ⟨#[78, 79, 80]⟩)), 1), (.int .i64, 3)] (.upd (.upd (.upd (.upd (.rep 0) (.lit 0) (.lit 0)) (.lit 1) (.lit 0)) (.lit 2) (.lit 1)) (.lit 3) (.lit 2)))),
  [], []⟩
theorem V_of220 : SummOk Tryz.prog 152 S_of220 := ⟨sum_valid cfg0Ok Tryz.func152 (body := Tryz.f152.body.getD .skip) rfl 600 rfl (by kernel_rfl), ⟨Tryz.call152⟩, rfl⟩
noncomputable def S_of221 : Summ := ⟨152, 0, [(.sc (.int .i64 (.lit 221)))], 0, [], [], fun _ => [], 0, (.sv (.agg [(.fix (.val (.string ⟨#[67, 77, 80]⟩)), 1), (.int .i64, 3)] (.upd (.upd (.upd (.upd (.rep 0) (.lit 0) (.lit 0)) (.lit 1) (.lit 10)) (.lit 2) (.lit 3)) (.lit 3) (.lit 5)))),
  [], []⟩
theorem V_of221 : SummOk Tryz.prog 152 S_of221 := ⟨sum_valid cfg0Ok Tryz.func152 (body := Tryz.f152.body.getD .skip) rfl 600 rfl (by kernel_rfl), ⟨Tryz.call152⟩, rfl⟩
noncomputable def S_of222 : Summ := ⟨152, 0, [(.sc (.int .i64 (.lit 222)))], 0, [], [], fun _ => [], 0, (.sv (.agg [(.fix (.val (.string ⟨#[68, 69, 67]⟩)), 1), (.int .i64, 3)] (.upd (.upd (.upd (.upd (.rep 0) (.lit 0) (.lit 0)) (.lit 1) (.lit 10)) (.lit 2) (.lit 3)) (.lit 3) (.lit 7)))),
  [], []⟩
theorem V_of222 : SummOk Tryz.prog 152 S_of222 := ⟨sum_valid cfg0Ok Tryz.func152 (body := Tryz.f152.body.getD .skip) rfl 600 rfl (by kernel_rfl), ⟨Tryz.call152⟩, rfl⟩
noncomputable def S_of223 : Summ := ⟨152, 0, [(.sc (.int .i64 (.lit 223)))], 0, [], [], fun _ => [], 0, (.sv (.agg [(.fix (.val (.string ⟨#[66, 66, 83, 53]⟩)), 1), (.int .i64, 3)] (.upd (.upd (.upd (.upd (.rep 0) (.lit 0) (.lit 0)) (.lit 1) (.lit 15)) (.lit 2) (.lit 3)) (.lit 3) (.lit 6)))),
  [], []⟩
theorem V_of223 : SummOk Tryz.prog 152 S_of223 := ⟨sum_valid cfg0Ok Tryz.func152 (body := Tryz.f152.body.getD .skip) rfl 600 rfl (by kernel_rfl), ⟨Tryz.call152⟩, rfl⟩
noncomputable def S_of224 : Summ := ⟨152, 0, [(.sc (.int .i64 (.lit 224)))], 0, [], [], fun _ => [], 0, (.sv (.agg [(.fix (.val (.string ⟨#[67, 80, 88]⟩)), 1), (.int .i64, 3)] (.upd (.upd (.upd (.upd (.rep 0) (.lit 0) (.lit 0)) (.lit 1) (.lit 2)) (.lit 2) (.lit 2)) (.lit 3) (.lit 2)))),
  [], []⟩
theorem V_of224 : SummOk Tryz.prog 152 S_of224 := ⟨sum_valid cfg0Ok Tryz.func152 (body := Tryz.f152.body.getD .skip) rfl 600 rfl (by kernel_rfl), ⟨Tryz.call152⟩, rfl⟩
noncomputable def S_of225 : Summ := ⟨152, 0, [(.sc (.int .i64 (.lit 225)))], 0, [], [], fun _ => [], 0, (.sv (.agg [(.fix (.val (.string ⟨#[83, 66, 67]⟩)), 1), (.int .i64, 3)] (.upd (.upd (.upd (.upd (.rep 0) (.lit 0) (.lit 0)) (.lit 1) (.lit 6)) (.lit 2) (.lit 2)) (.lit 3) (.lit 7)))),
  [], []⟩
theorem V_of225 : SummOk Tryz.prog 152 S_of225 := ⟨sum_valid cfg0Ok Tryz.func152 (body := Tryz.f152.body.getD .skip) rfl 600 rfl (by kernel_rfl), ⟨Tryz.call152⟩, rfl⟩
noncomputable def S_of226 : Summ := ⟨152, 0, [(.sc (.int .i64 (.lit 226)))], 0, [], [], fun _ => [], 0, (.sv (.agg [(.fix (.val (.string ⟨#[78, 79, 80]⟩)), 1), (.int .i64, 3)] (.upd (.upd (.upd (.upd (.rep 0) (.lit 0) (.lit 0)) (.lit 1) (.lit 0)) (.lit 2) (.lit 1)) (.lit 3) (.lit 2)))),
  [], []⟩
theorem V_of226 : SummOk Tryz.prog 152 S_of226 := ⟨sum_valid cfg0Ok Tryz.func152 (body := Tryz.f152.body.getD .skip) rfl 600 rfl (by kernel_rfl), ⟨Tryz.call152⟩, rfl⟩
noncomputable def S_of227 : Summ := ⟨152, 0, [(.sc (.int .i64 (.lit 227)))], 0, [], [], fun _ => [], 0, (.sv (.agg [(.fix (.val (.string ⟨#[84, 73, 65]⟩)), 1), (.int .i64, 3)] (.upd (.upd (.upd (.upd (.rep 0) (.lit 0) (.lit 0)) (.lit 1) (.lit 16)) (.lit 2) (.lit 7)) (.lit 3) (.lit 17)))),
  [], []⟩
theorem V_of227 : SummOk Tryz.prog 152 S_of227 := ⟨sum_valid cfg0Ok Tryz.func152 (body := Tryz.f152.body.getD .skip) rfl 600 rfl (by kernel_rfl), ⟨Tryz.call152⟩, rfl⟩
noncomputable def S_of228 : Summ := ⟨152, 0, [(.sc (.int .i64 (.lit 228)))], 0, [], [], fun _ => [], 0, (.sv (.agg [(.fix (.val (.string ⟨#[67, 80, 88]⟩)), 1), (.int .i64, 3)] (.upd (.upd (.upd (.upd (.rep 0) (.lit 0) (.lit 0)) (.lit 1) (.lit 3)) (.lit 2) (.lit 2)) (.lit 3) (.lit 4)))),
  [], []⟩
theorem V_of228 : SummOk Tryz.prog 152 S_of228 := ⟨sum_valid cfg0Ok Tryz.func152 (body := Tryz.f152.body.getD .skip) rfl 600 rfl (by kernel_rfl), ⟨Tryz.call152⟩, rfl⟩
noncomputable def S_of229 : Summ := ⟨152, 0, [(.sc (.int .i64 (.lit 229)))], 0, [], [], fun _ => [], 0, (.sv (.agg [(.fix (.val (.string ⟨#[83, 66, 67]⟩)), 1), (.int .i64, 3)] (.upd (.upd (.upd (.upd (.rep 0) (.lit 0) (.lit 0)) (.lit 1) (.lit 3)) (.lit 2) (.lit 2)) (.lit 3) (.lit 4)))),
  [], []⟩
theorem V_of229 : SummOk Tryz.prog 152 S_of229 := ⟨sum_valid cfg0Ok Tryz.func152 (body := Tryz.f152.body.getD .skip) rfl 600 rfl (by kernel_rfl), ⟨Tryz.call152⟩, rfl⟩
noncomputable def S_of230 : Summ := ⟨152, 0, [(.sc (.int .i64 (.lit 230)))], 0, [], [], fun _ => [], 0, (.sv (.agg [(.fix (.val (.string ⟨#[73, 78, 67]⟩)), 1), (.int .i64, 3)] (.upd (.upd (.upd (.upd (.rep 0) (.lit 0) (.lit 0)) (.lit 1) (.lit 3)) (.lit 2) (.lit 2)) (.lit 3) (.lit 6)))),
  [], []⟩
theorem V_of230 : SummOk Tryz.prog 152 S_of230 := ⟨sum_valid cfg0Ok Tryz.func152 (body := Tryz.f152.body.getD .skip) rfl 600 rfl (by kernel_rfl), ⟨Tryz.call152⟩, rfl⟩
noncomputable def S_of231 : Summ := ⟨152, 0, [(.sc (.int .i64 (.lit 231)))], 0, [], [], fun _ => [], 0, (.sv (.agg [(.fix (.val (.string ⟨#[83, 77, 66, 54]⟩)), 1), (.int .i64, 3)] (.upd (.upd (.upd (.upd (.rep 0) (.lit 0) (.lit 0)) (.lit 1) (.lit 3)) (.lit 2) (.lit 2)) (.lit 3) (.lit 7)))),
  [], []⟩
theorem V_of231 : SummOk Tryz.prog 152 S_of231 := ⟨sum_valid cfg0Ok Tryz.func152 (body := Tryz.f152.body.getD .skip) rfl 600 rfl (by kernel_rfl), ⟨Tryz.call152⟩, rfl⟩
noncomputable def S_of232 : Summ := ⟨152, 0, [(.sc (.int .i64 (.lit 232)))], 0, [], [], fun _ => [], 0, (.sv (.agg [(.fix (.val (.string ⟨#[73, 78, 88]⟩)), 1), (.int .i64, 3)] (.upd (.upd (.upd (.upd (.rep 0) (.lit 0) (.lit 0)) (.lit 1) (.lit 0)) (.lit 2) (.lit 1)) (.lit 3) (.lit 2)))),
  [], []⟩
theorem V_of232 : SummOk Tryz.prog 152 S_of232 := ⟨sum_valid cfg0Ok Tryz.func152 (body := Tryz.f152.body.getD .skip) rfl 600 rfl (by kernel_rfl), ⟨Tryz.call152⟩, rfl⟩
noncomputable def S_of233 : Summ := ⟨152, 0, [(.sc (.int .i64 (.lit 233)))], 0, [], [], fun _ => [], 0, (.sv (.agg [(.fix (.val (.string ⟨#[83, 66, 67]⟩)), 1), (.int .i64, 3)] (.upd (.upd (.upd (.upd (.rep 0) (.lit 0) (.lit 0)) (.lit 1) (.lit 2)) (.lit 2) (.lit 2)) (.lit 3) (.lit 2)))),
  [], []⟩
theorem V_of233 : SummOk Tryz.prog 152 S_of233 := ⟨sum_valid cfg0Ok Tryz.func152 (body := Tryz.f152.body.getD .skip) rfl 600 rfl (by kernel_rfl), ⟨Tryz.call152⟩, rfl⟩
noncomputable def S_of234 : Summ := ⟨152, 0, [(.sc (.int .i64 (.lit 234)))], 0, [], [], fun _ => [], 0, (.sv (.agg [(.fix (.val (.string ⟨#[78, 79, 80]⟩)), 1), (.int .i64, 3)] (.upd (.upd (.upd (.upd (.rep 0) (.lit 0) (.lit 0)) (.lit 1) (.lit 0)) (.lit 2) (.lit 1)) (.lit 3) (.lit 2)))),
  [], []⟩
theorem V_of234 : SummOk Tryz.prog 152 S_of234 := ⟨sum_valid cfg0Ok Tryz.func152 (body := Tryz.f152.body.getD .skip) rfl 600 rfl (by kernel_rfl), ⟨Tryz.call152⟩, rfl⟩
noncomputable def S_of235 : Summ := ⟨152, 0, [(.sc (.int .i64 (.lit 235)))], 0, [], [], fun _ => [], 0, (.sv (.agg [(.fix (.val (.string ⟨#[78, 79, 80]⟩)), 1), (.int .i64, 3)] (.upd (.upd (.upd (.upd (.rep 0) (.lit 0) (.lit 0)) (.lit 1) (.lit 0)) (.lit 2) (.lit 1)) (.lit 3) (.lit 2)))),
  [], []⟩
theorem V_of235 : SummOk Tryz.prog 152 S_of235 := ⟨sum_valid cfg0Ok Tryz.func152 (body := Tryz.f152.body.getD .skip) rfl 600 rfl (by kernel_rfl), ⟨Tryz.call152⟩, rfl⟩
noncomputable def S_of236 : Summ := ⟨152, 0, [(.sc (.int .i64 (.lit 236)))], 0, [], [], fun _ => [], 0, (.sv (.agg [(.fix (.val (.string ⟨#[67, 80, 88]⟩)), 1), (.int .i64, 3)] (.upd (.upd (.upd (.upd (.rep 0) (.lit 0) (.lit 0)) (.lit 1) (.lit 9)) (.lit 2) (.lit 3)) (.lit 3) (.lit 5)))),
  [], []⟩
theorem V_of236 : SummOk Tryz.prog 152 S_of236 := ⟨sum_valid cfg0Ok Tryz.func152 (body := Tryz.f152.body.getD .skip) rfl 600 rfl (by kernel_rfl), ⟨Tryz.call152⟩, rfl⟩
noncomputable def S_of237 : Summ := ⟨152, 0, [(.sc (.int .i64 (.lit 237)))], 0, [], [], fun _ => [], 0, (.sv (.agg [(.fix (.val (.string ⟨#[83, 66, 67]⟩)), 1), (.int .i64, 3)] (.upd (.upd (.upd (.upd (.rep 0) (.lit 0) (.lit 0)) (.lit 1) (.lit 9)) (.lit 2) (.lit 3)) (.lit 3) (.lit 5)))),
  [], []⟩
theorem V_of237 : SummOk Tryz.prog 152 S_of237 := ⟨sum_valid cfg0Ok Tryz.func152 (body := Tryz.f152.body.getD .skip) rfl 600 rfl (by kernel_rfl), ⟨Tryz.call152⟩, rfl⟩
noncomputable def S_of238 : Summ := ⟨152, 0, [(.sc (.int .i64 (.lit 238)))], 0, [], [], fun _ => [], 0, (.sv (.agg [(.fix (.val (.string ⟨#[73, 78, 67]⟩)), 1), (.int .i64, 3)] (.upd (.upd (.upd (.upd (.rep 0) (.lit 0) (.lit 0)) (.lit 1) (.lit 9)) (.lit 2) (.lit 3)) (.lit 3) (.lit 7)))),
  [], []⟩
theorem V_of238 : SummOk Tryz.prog 152 S_of238 := ⟨sum_valid cfg0Ok Tryz.func152 (body := Tryz.f152.body.getD .skip) rfl 600 rfl (by kernel_rfl), ⟨Tryz.call152⟩, rfl⟩
noncomputable def S_of239 : Summ := ⟨152, 0, [(.sc (.int .i64 (.lit 239)))], 0, [], [], fun _ => [], 0, (.sv (.agg [(.fix (.val (.string ⟨#[66, 66, 83, 54]⟩)), 1), (.int .i64, 3)] (.upd (.upd (.upd (.upd (.rep 0) (.lit 0) (.lit 0)) (.lit 1) (.lit 15)) (.lit 2) (.lit 3)) (.lit 3) (.lit 6)))),
  [], []⟩
theorem V_of239 : SummOk Tryz.prog 152 S_of239 := ⟨sum_valid cfg0Ok Tryz.func152 (body := Tryz.f152.body.getD .skip) rfl 600 rfl (by kernel_rfl), ⟨Tryz.call152⟩, rfl⟩
noncomputable def S_of240 : Summ := ⟨152, 0, [(.sc (.int .i64 (.lit 240)))], 0, [], [], fun _ => [], 0, (.sv (.agg [(.fix (.val (.string ⟨#[66, 69, 81]⟩)), 1), (.int .i64, 3)] (.upd (.upd (.upd (.upd (.rep 0) (.lit 0) (.lit 0)) (.lit 1) (.lit 14)) (.lit 2) (.lit 2)) (.lit 3) (.lit 2)))),
  [], []⟩
theorem V_of240 : SummOk Tryz.prog 152 S_of240 := ⟨sum_valid cfg0Ok Tryz.func152 (body := Tryz.f152.body.getD .skip) rfl 600 rfl (by kernel_rfl), ⟨Tryz.call152⟩, rfl⟩
noncomputable def S_of241 : Summ := ⟨152, 0, [(.sc (.int .i64 (.lit 241)))], 0, [], [], fun _ => [], 0, (.sv (.agg [(.fix (.val (.string ⟨#[83, 66, 67]⟩)), 1), (.int .i64, 3)] (.upd (.upd (.upd (.upd (.rep 0) (.lit 0) (.lit 0)) (.lit 1) (.lit 7)) (.lit 2) (.lit 2)) (.lit 3) (.lit 7)))),
  [], []⟩
theorem V_of241 : SummOk Tryz.prog 152 S_of241 := ⟨sum_valid cfg0Ok Tryz.func152 (body := Tryz.f152.body.getD .skip) rfl 600 rfl (by kernel_rfl), ⟨Tryz.call152⟩, rfl⟩
noncomputable def S_of242 : Summ := ⟨152, 0, [(.sc (.int .i64 (.lit 242)))], 0, [], [], fun _ => [], 0, (.sv (.agg [(.fix (.val (.string ⟨#[83, 66, 67]⟩)), 1), (.int .i64, 3)] (.upd (.upd (.upd (.upd (.rep 0) (.lit 0) (.lit 0)) (.lit 1) (.lit 8)) (.lit 2) (.lit 2)) (.lit 3) (.lit 7)))),
  [], []⟩
theorem V_of242 : SummOk Tryz.prog 152 S_of242 := ⟨sum_valid cfg0Ok Tryz.func152 (body := Tryz.f152.body.getD .skip) rfl 600 rfl (by kernel_rfl), ⟨Tryz.call152⟩, rfl⟩
noncomputable def S_of243 : Summ := ⟨152, 0, [(.sc (.int .i64 (.lit 243)))], 0, [], [], fun _ => [], 0, (.sv (.agg [(.fix (.val (.string ⟨#[84, 65, 73]⟩)), 1), (.int .i64, 3)] (.upd (.upd (.upd (.upd (.rep 0) (.lit 0) (.lit 0)) (.lit 1) (.lit 16)) (.lit 2) (.lit 7)) (.lit 3) (.lit 17)))),
  [], []⟩
theorem V_of243 : SummOk Tryz.prog 152 S_of243 := ⟨sum_valid cfg0Ok Tryz.func152 (body := Tryz.f152.body.getD .skip) rfl 600 rfl (by kernel_rfl), ⟨Tryz.call152⟩, rfl⟩
noncomputable def S_of244 : Summ := ⟨152, 0, [(.sc (.int .i64 (.lit 244)))], 0, [], [], fun _ => [], 0, (.sv (.agg [(.fix (.val (.string ⟨#[83, 69, 84]⟩)), 1), (.int .i64, 3)] (.upd (.upd (.upd (.upd (.rep 0) (.lit 0) (.lit 0)) (.lit 1) (.lit 0)) (.lit 2) (.lit 1)) (.lit 3) (.lit 2)))),
  [], []⟩
theorem V_of244 : SummOk Tryz.prog 152 S_of244 := ⟨sum_valid cfg0Ok Tryz.func152 (body := Tryz.f152.body.getD .skip) rfl 600 rfl (by kernel_rfl), ⟨Tryz.call152⟩, rfl⟩
noncomputable def S_of245 : Summ := ⟨152, 0, [(.sc (.int .i64 (.lit 245)))], 0, [], [], fun _ => [], 0, (.sv (.agg [(.fix (.val (.string ⟨#[83, 66, 67]⟩)), 1), (.int .i64, 3)] (.upd (.upd (.upd (.upd (.rep 0) (.lit 0) (.lit 0)) (.lit 1) (.lit 4)) (.lit 2) (.lit 2)) (.lit 3) (.lit 4)))),
  [], []⟩
theorem V_of245 : SummOk Tryz.prog 152 S_of245 := ⟨sum_valid cfg0Ok Tryz.func152 (body := Tryz.f152.body.getD .skip) rfl 600 rfl (by kernel_rfl), ⟨Tryz.call152⟩, rfl⟩
noncomputable def S_of246 : Summ := ⟨152, 0, [(.sc (.int .i64 (.lit 246)))], 0, [], [], fun _ => [], 0, (.sv (.agg [(.fix (.val (.string ⟨#[73, 78, 67]⟩)), 1), (.int .i64, 3)] (.upd (.upd (.upd (.upd (.rep 0) (.lit 0) (.lit 0)) (.lit 1) (.lit 4)) (.lit 2) (.lit 2)) (.lit 3) (.lit 6)))),
  [], []⟩
theorem V_of246 : SummOk Tryz.prog 152 S_of246 := ⟨sum_valid cfg0Ok Tryz.func152 (body := Tryz.f152.body.getD .skip) rfl 600 rfl (by kernel_rfl), ⟨Tryz.call152⟩, rfl⟩
noncomputable def S_of247 : Summ := ⟨152, 0, [(.sc (.int .i64 (.lit 247)))], 0, [], [], fun _ => [], 0, (.sv (.agg [(.fix (.val (.string ⟨#[83, 77, 66, 55]⟩)), 1), (.int .i64, 3)] (.upd (.upd (.upd (.upd (.rep 0) (.lit 0) (.lit 0)) (.lit 1) (.lit 3)) (.lit 2) (.lit 2)) (.lit 3) (.lit 7)))),
  [], []⟩
theorem V_of247 : SummOk Tryz.prog 152 S_of247 := ⟨sum_valid cfg0Ok Tryz.func152 (body := Tryz.f152.body.getD .skip) rfl 600 rfl (by kernel_rfl), ⟨Tryz.call152⟩, rfl⟩
noncomputable def S_of248 : Summ := ⟨152, 0, [(.sc (.int .i64 (.lit 248)))], 0, [], [], fun _ => [], 0, (.sv (.agg [(.fix (.val (.string ⟨#[83, 69, 68]⟩)), 1), (.int .i64, 3)] (.upd (.upd (.upd (.upd (.rep 0) (.lit 0) (.lit 0)) (.lit 1) (.lit 0)) (.lit 2) (.lit 1)) (.lit 3) (.lit 2)))),
  [], []⟩
theorem V_of248 : SummOk Tryz.prog 152 S_of248 := ⟨sum_valid cfg0Ok Tryz.func152 (body := Tryz.f152.body.getD .skip) rfl 600 rfl (by kernel_rfl), ⟨Tryz.call152⟩, rfl⟩
noncomputable def S_of249 : Summ := ⟨152, 0, [(.sc (.int .i64 (.lit 249)))], 0, [], [], fun _ => [], 0, (.sv (.agg [(.fix (.val (.string ⟨#[83, 66, 67]⟩)), 1), (.int .i64, 3)] (.upd (.upd (.upd (.upd (.rep 0) (.lit 0) (.lit 0)) (.lit 1) (.lit 11)) (.lit 2) (.lit 3)) (.lit 3) (.lit 5)))),
  [], []⟩
theorem V_of249 : SummOk Tryz.prog 152 S_of249 := ⟨sum_valid cfg0Ok Tryz.func152 (body := Tryz.f152.body.getD .skip) rfl 600 rfl (by kernel_rfl), ⟨Tryz.call152⟩, rfl⟩
noncomputable def S_of250 : Summ := ⟨152, 0, [(.sc (.int .i64 (.lit 250)))], 0, [], [], fun _ => [], 0, (.sv (.agg [(.fix (.val (.string ⟨#[80, 76, 88]⟩)), 1), (.int .i64, 3)] (.upd (.upd (.upd (.upd (.rep 0) (.lit 0) (.lit 0)) (.lit 1) (.lit 0)) (.lit 2) (.lit 1)) (.lit 3) (.lit 4)))),
  [], []⟩
theorem V_of250 : SummOk Tryz.prog 152 S_of250 := ⟨sum_valid cfg0Ok Tryz.func152 (body := Tryz.f152.body.getD .skip) rfl 600 rfl (by kernel_rfl), ⟨Tryz.call152⟩, rfl⟩
noncomputable def S_of251 : Summ := ⟨152, 0, [(.sc (.int .i64 (.lit 251)))], 0, [], [], fun _ => [], 0, (.sv (.agg [(.fix (.val (.string ⟨#[78, 79, 80]⟩)), 1), (.int .i64, 3)] (.upd (.upd (.upd (.upd (.rep 0) (.lit 0) (.lit 0)) (.lit 1) (.lit 0)) (.lit 2) (.lit 1)) (.lit 3) (.lit 2)))),
  [], []⟩
theorem V_of251 : SummOk Tryz.prog 152 S_of251 := ⟨sum_valid cfg0Ok Tryz.func152 (body := Tryz.f152.body.getD .skip) rfl 600 rfl (by kernel_rfl), ⟨Tryz.call152⟩, rfl⟩
noncomputable def S_of252 : Summ := ⟨152, 0, [(.sc (.int .i64 (.lit 252)))], 0, [], [], fun _ => [], 0, (.sv (.agg [(.fix (.val (.string ⟨#[78, 79, 80]⟩)), 1), (.int .i64, 3)] (.upd (.upd (.upd (.upd (.rep 0) (.lit 0) (.lit 0)) (.lit 1) (.lit 0)) (.lit 2) (.lit 1)) (.lit 3) (.lit 2)))),
  [], []⟩
theorem V_of252 : SummOk Tryz.prog 152 S_of252 := ⟨sum_valid cfg0Ok Tryz.func152 (body := Tryz.f152.body.getD .skip) rfl 600 rfl (by kernel_rfl), ⟨Tryz.call152⟩, rfl⟩
noncomputable def S_of253 : Summ := ⟨152, 0, [(.sc (.int .i64 (.lit 253)))], 0, [], [], fun _ => [], 0, (.sv (.agg [(.fix (.val (.string ⟨#[83, 66, 67]⟩)), 1), (.int .i64, 3)] (.upd (.upd (.upd (.upd (.rep 0) (.lit 0) (.lit 0)) (.lit 1) (.lit 10)) (.lit 2) (.lit 3)) (.lit 3) (.lit 5)))),
  [], []⟩
theorem V_of253 : SummOk Tryz.prog 152 S_of253 := ⟨sum_valid cfg0Ok Tryz.func152 (body := Tryz.f152.body.getD .skip) rfl 600 rfl (by kernel_rfl), ⟨Tryz.call152⟩, rfl⟩
noncomputable def S_of254 : Summ := ⟨152, 0, [(.sc (.int .i64 (.lit 254)))], 0, [], [], fun _ => [], 0, (.sv (.agg [(.fix (.val (.string ⟨#[73, 78, 67]⟩)), 1), (.int .i64, 3)] (.upd (.upd (.upd (.upd (.rep 0) (.lit 0) (.lit 0)) (.lit 1) (.lit 10)) (.lit 2) (.lit 3)) (.lit 3) (.lit 7)))),
  [], []⟩
theorem V_of254 : SummOk Tryz.prog 152 S_of254 := ⟨sum_valid cfg0Ok Tryz.func152 (body := Tryz.f152.body.getD .skip) rfl 600 rfl (by kernel_rfl), ⟨Tryz.call152⟩, rfl⟩
noncomputable def S_of255 : Summ := ⟨152, 0, [(.sc (.int .i64 (.lit 255)))], 0, [], [], fun _ => [], 0, (.sv (.agg [(.fix (.val (.string ⟨#[66, 66, 83, 55]⟩)), 1), (.int .i64, 3)] (.upd (.upd (.upd (.upd (.rep 0) (.lit 0) (.lit 0)) (.lit 1) (.lit 15)) (.lit 2) (.lit 3)) (.lit 3) (.lit 6)))),
  [], []⟩
theorem V_of255 : SummOk Tryz.prog 152 S_of255 := ⟨sum_valid cfg0Ok Tryz.func152 (body := Tryz.f152.body.getD .skip) rfl 600 rfl (by kernel_rfl), ⟨Tryz.call152⟩, rfl⟩

end Go.Proofs.YtpndnejabebfeaaGreatDoor
