/- The contract of a fresh machine. -/
import Derived.Test.YtpndnejabebfeaaGreatDoorConS
set_option maxRecDepth 100000
namespace Go.Proofs.YtpndnejabebfeaaGreatDoor
open Go.Sx

noncomputable def S_made : Summ := ⟨15, 1, [(.sc (.int .i64 (.lit 1))), (.sc (.val (.slice none 0 0))), (.agg [(.int .i64, 5)] (.v 0))], 0, [], [], fun _ => [], 0, (.tup [(.sc (.ptr 19 (.lit 0))), (.sc (.ptr 23 (.lit 0)))]),
  [(23, ⟨(.fixed [(.int .i64, 2), (.fix (.slice 2 (.lit 0) (.lit 16384) (some (.lit 16384))), 1), (.fix (.slice 20 (.lit 0) (.lit 8192) (some (.lit 8192))), 1), (.int .i64, 29), (.fix (.ptr 22 (.lit 0)), 1), (.int .i64, 257), (.bool, 2), (.int .i64, 760), (.bool, 1), (.int .i64, 3), (.bool, 3), (.int .i64, 2), (.bool, 1), (.int .i64, 1), (.bool, 1), (.int .i64, 1), (.bool, 1), (.int .i64, 1), (.bool, 1), (.int .i64, 1), (.bool, 1), (.int .i64, 1)]), (.upd (.upd (.upd (.upd (.upd (.upd (.upd (.upd (.upd (.upd (.upd (.upd (.upd (.upd (.upd (.upd (.upd (.upd (.upd (.upd (.upd (.upd (.rep 0) (.lit 0) (.lit 2)) (.lit 2) (.lit 0)) (.lit 3) (.lit 0)) (.lit 5) (.lit 248)) (.lit 33) (.lit 0)) (.lit 849) (.lit 1)) (.lit 889) (.lit 1)) (.lit 929) (.lit 1)) (.lit 969) (.lit 1)) (.lit 1009) (.lit 1)) (.lit 1049) (.lit 1)) (.lit 1061) (.get (.v 0) (.lit 0))) (.lit 1062) (.lit 0)) (.lit 1063) (.get (.v 0) (.lit 1))) (.lit 1064) (.lit 0)) (.lit 1065) (.get (.v 0) (.lit 2))) (.lit 1066) (.lit 1)) (.lit 1067) (.get (.v 0) (.lit 3))) (.lit 1068) (.lit 0)) (.lit 1069) (.get (.v 0) (.lit 4))) (.lit 1070) (.lit 0)) (.lit 1071) (.lit 255)), true⟩),
    (22, ⟨(.fixed [(.fix (.slice 21 (.lit 0) (.lit 32768) (some (.lit 32768))), 1), (.int .i64, 5)]), (.upd (.upd (.rep 0) (.lit 0) (.lit 0)) (.lit 3) (.lit 1)), true⟩),
    (21, ⟨(.fixed [(.int .i64, 32768)]), (.rep 0), true⟩),
    (20, ⟨(.fixed [(.int .i64, 8192)]), (.rep 0), true⟩),
    (19, ⟨(.fixed [(.int .i64, 21), (.fix (.ptr 15 (.lit 0)), 1), (.int .i64, 257), (.bool, 2), (.fix (.ptr 12 (.lit 0)), 1), (.int .i64, 1), (.int .u8, 8192), (.int .i64, 768), (.bool, 1), (.int .i64, 3), (.bool, 3), (.int .i64, 2), (.bool, 1), (.int .i64, 1), (.bool, 1), (.int .i64, 1), (.bool, 1), (.int .i64, 1), (.bool, 1), (.int .i64, 1), (.bool, 1), (.int .i64, 2)]), (.upd (.upd (.upd (.upd (.upd (.upd (.upd (.upd (.upd (.upd (.upd (.spl (.upd (.upd (.upd (.upd (.upd (.upd (.upd (.upd (.upd (.spl (.rep 0) (.lit 0) 281 (.upd (.spl (.rep 0) (.lit 0) 21 (.rep 0)) (.lit 21) (.lit 0))) (.lit 281) (.lit 0)) (.lit 8475) (.lit 0)) (.lit 8476) (.lit 248)) (.lit 8477) (.lit 0)) (.lit 8478) (.lit 0)) (.lit 8479) (.lit 0)) (.lit 8480) (.lit 0)) (.lit 8481) (.lit 0)) (.lit 8482) (.lit 0)) (.lit 8997) 244 (.upd (.upd (.upd (.upd (.upd (.upd (.rep 0) (.lit 42) (.lit 1)) (.lit 82) (.lit 1)) (.lit 122) (.lit 1)) (.lit 162) (.lit 1)) (.lit 202) (.lit 1)) (.lit 242) (.lit 1))) (.lit 9251) (.get (.v 0) (.lit 0))) (.lit 9252) (.lit 0)) (.lit 9253) (.get (.v 0) (.lit 1))) (.lit 9254) (.lit 0)) (.lit 9255) (.get (.v 0) (.lit 2))) (.lit 9256) (.lit 1)) (.lit 9257) (.get (.v 0) (.lit 3))) (.lit 9258) (.lit 0)) (.lit 9259) (.get (.v 0) (.lit 4))) (.lit 9260) (.lit 0)) (.lit 9261) (.lit 255)), true⟩),
    (15, ⟨(.fixed [(.fix (.slice 14 (.lit 0) (.lit 32768) (some (.lit 32768))), 1), (.int .i64, 5)]), (.upd (.upd (.rep 0) (.lit 0) (.lit 0)) (.lit 3) (.lit 1)), true⟩),
    (14, ⟨(.fixed [(.int .i64, 32768)]), (.rep 0), true⟩),
    (12, ⟨(.fixed [(.fix (.slice 11 (.lit 0) (.lit 16384) none), 1), (.int .i64, 1)]), (.upd (.upd (.rep 0) (.lit 0) (.lit 0)) (.lit 1) (.lit 0)), true⟩),
    (11, ⟨(.dyn (.fix .junk) (.lit 16384)), (.rep 0), true⟩),
    (2, ⟨(.fixed [(.fix .junk, 16384)]), (.rep 0), true⟩)], []⟩
theorem V_made : SummOk Tryz.prog 15 S_made := ⟨sum_valid cfg0Ok Tryz.func15 (body := Tryz.f15.body.getD .skip) rfl 700 rfl (by kernel_rfl), ⟨Tryz.call15⟩, rfl⟩

end Go.Proofs.YtpndnejabebfeaaGreatDoor
