/- The types and functions of the program, as the reckoning wants them, each shown to stand in the program so. -/
import Derived.Test.YtpndnejabebfeaaGreatProg
import Derived.KernelRfl
import Derived.Test.YtpndnejabebfeaaGreatSxU
set_option maxRecDepth 100000
namespace Go.Proofs.YtpndnejabebfeaaGreat
open Go.Sx

noncomputable def tab : Tab := [
  (0, ⟨Tryz.t0.desc, 1, 0, none, false⟩),
  (1, ⟨Tryz.t1.desc, 1, 8, some [(.fix (.val .nilFunc), 1)], false⟩),
  (2, ⟨Tryz.t2.desc, 1, 8, some [(.int .i64, 1)], false⟩),
  (3, ⟨Tryz.t3.desc, 1, 8, some [(.int .i64, 1)], false⟩),
  (4, ⟨Tryz.t4.desc, 1, 1, some [(.bool, 1)], false⟩),
  (5, ⟨Tryz.t5.desc, 1, 1, some [(.int .u8, 1)], false⟩),
  (6, ⟨Tryz.t5.desc, 1, 1, some [(.int .u8, 1)], false⟩),
  (7, ⟨Tryz.t7.desc, 4, 24, some [(.int .i64, 2), (.bool, 1), (.int .u8, 1)], true⟩),
  (8, ⟨Tryz.t7.desc, 4, 24, some [(.int .i64, 2), (.bool, 1), (.int .u8, 1)], true⟩),
  (9, ⟨Tryz.t9.desc, 1, 16, some [(.fix (.val (.string ByteArray.empty)), 1)], false⟩),
  (10, ⟨Tryz.t9.desc, 1, 16, some [(.fix (.val (.string ByteArray.empty)), 1)], false⟩),
  (11, ⟨Tryz.t9.desc, 1, 16, some [(.fix (.val (.string ByteArray.empty)), 1)], false⟩),
  (12, ⟨Tryz.t12.desc, 1, 8, some [(.int .u64, 1)], false⟩),
  (13, ⟨Tryz.t13.desc, 2, 24, some [(.fix (.val (.string ByteArray.empty)), 1), (.int .u64, 1)], false⟩),
  (14, ⟨Tryz.t13.desc, 2, 24, some [(.fix (.val (.string ByteArray.empty)), 1), (.int .u64, 1)], false⟩),
  (15, ⟨Tryz.t15.desc, 1, 8, some [(.fix (.val (.pointer none)), 1)], false⟩),
  (16, ⟨Tryz.t16.desc, 1, 8, some [(.fix (.val (.pointer none)), 1)], false⟩),
  (17, ⟨Tryz.t17.desc, 1, 8, some [(.fix (.val (.pointer none)), 1)], false⟩),
  (18, ⟨Tryz.t18.desc, 1, 8, some [(.fix (.val (.pointer none)), 1)], false⟩),
  (19, ⟨Tryz.t18.desc, 1, 8, some [(.fix (.val (.pointer none)), 1)], false⟩),
  (20, ⟨Tryz.t20.desc, 1, 16, some [(.fix (.val .nilIface), 1)], false⟩),
  (21, ⟨Tryz.t21.desc, 1, 4, some [(.int .i32, 1)], false⟩),
  (22, ⟨Tryz.t22.desc, 6, 48, some [(.int .i64, 6)], true⟩),
  (23, ⟨Tryz.t22.desc, 6, 48, some [(.int .i64, 6)], true⟩),
  (24, ⟨Tryz.t24.desc, 1, 8, some [(.fix (.val (.pointer none)), 1)], false⟩),
  (25, ⟨Tryz.t25.desc, 20, 160, some [(.int .i64, 20)], false⟩),
  (26, ⟨Tryz.t26.desc, 21, 168, some [(.int .i64, 21)], true⟩),
  (27, ⟨Tryz.t26.desc, 21, 168, some [(.int .i64, 21)], true⟩),
  (28, ⟨Tryz.t28.desc, 1, 8, some [(.fix (.val (.pointer none)), 1)], false⟩),
  (29, ⟨Tryz.t29.desc, 256, 2048, some [(.int .i64, 256)], false⟩),
  (30, ⟨Tryz.t30.desc, 281, 2240, some [(.int .i64, 21), (.fix (.val (.pointer none)), 1), (.int .i64, 257), (.bool, 2)], true⟩),
  (31, ⟨Tryz.t30.desc, 281, 2240, some [(.int .i64, 21), (.fix (.val (.pointer none)), 1), (.int .i64, 257), (.bool, 2)], true⟩),
  (32, ⟨Tryz.t32.desc, 1, 8, some [(.fix (.val (.pointer none)), 1)], false⟩),
  (33, ⟨Tryz.t33.desc, 8192, 8192, some [(.int .u8, 8192)], false⟩),
  (34, ⟨Tryz.t34.desc, 8, 64, some [(.int .i64, 8)], false⟩),
  (35, ⟨Tryz.t34.desc, 8, 64, some [(.int .i64, 8)], false⟩),
  (36, ⟨Tryz.t36.desc, 512, 4096, some [(.int .i64, 512)], false⟩),
  (37, ⟨Tryz.t37.desc, 514, 4112, some [(.int .i64, 514)], true⟩),
  (38, ⟨Tryz.t37.desc, 514, 4112, some [(.int .i64, 514)], true⟩),
  (39, ⟨Tryz.t39.desc, 32, 256, some [(.int .i64, 32)], false⟩),
  (40, ⟨Tryz.t40.desc, 40, 320, some [(.int .i64, 40)], true⟩),
  (41, ⟨Tryz.t40.desc, 40, 320, some [(.int .i64, 40)], true⟩),
  (42, ⟨Tryz.t42.desc, 240, 1920, some [(.int .i64, 240)], false⟩),
  (43, ⟨Tryz.t43.desc, 244, 1952, some [(.int .i64, 244)], true⟩),
  (44, ⟨Tryz.t43.desc, 244, 1952, some [(.int .i64, 244)], true⟩),
  (45, ⟨Tryz.t45.desc, 4, 32, some [(.int .i64, 2), (.bool, 1), (.int .i64, 1)], true⟩),
  (46, ⟨Tryz.t45.desc, 4, 32, some [(.int .i64, 2), (.bool, 1), (.int .i64, 1)], true⟩),
  (47, ⟨Tryz.t47.desc, 2, 16, some [(.int .i64, 2)], true⟩),
  (48, ⟨Tryz.t47.desc, 2, 16, some [(.int .i64, 2)], true⟩),
  (49, ⟨Tryz.t49.desc, 4, 16, some [(.bool, 3), (.int .i64, 1)], true⟩),
  (50, ⟨Tryz.t49.desc, 4, 16, some [(.bool, 3), (.int .i64, 1)], true⟩),
  (51, ⟨Tryz.t51.desc, 2, 16, some [(.int .i64, 1), (.bool, 1)], true⟩),
  (52, ⟨Tryz.t51.desc, 2, 16, some [(.int .i64, 1), (.bool, 1)], true⟩),
  (53, ⟨Tryz.t53.desc, 10, 80, some [(.int .i64, 1), (.bool, 1), (.int .i64, 1), (.bool, 1), (.int .i64, 1), (.bool, 1), (.int .i64, 1), (.bool, 1), (.int .i64, 1), (.bool, 1)], false⟩),
  (54, ⟨Tryz.t54.desc, 9263, 16736, some [(.int .i64, 21), (.fix (.val (.pointer none)), 1), (.int .i64, 257), (.bool, 2), (.fix (.val (.pointer none)), 1), (.int .i64, 1), (.int .u8, 8192), (.int .i64, 768), (.bool, 1), (.int .i64, 3), (.bool, 3), (.int .i64, 2), (.bool, 1), (.int .i64, 1), (.bool, 1), (.int .i64, 1), (.bool, 1), (.int .i64, 1), (.bool, 1), (.int .i64, 1), (.bool, 1), (.int .i64, 2)], true⟩),
  (55, ⟨Tryz.t54.desc, 9263, 16736, some [(.int .i64, 21), (.fix (.val (.pointer none)), 1), (.int .i64, 257), (.bool, 2), (.fix (.val (.pointer none)), 1), (.int .i64, 1), (.int .u8, 8192), (.int .i64, 768), (.bool, 1), (.int .i64, 3), (.bool, 3), (.int .i64, 2), (.bool, 1), (.int .i64, 1), (.bool, 1), (.int .i64, 1), (.bool, 1), (.int .i64, 1), (.bool, 1), (.int .i64, 1), (.bool, 1), (.int .i64, 2)], true⟩),
  (56, ⟨Tryz.t56.desc, 1, 24, some [(.fix (.val (.slice none 0 0)), 1)], false⟩),
  (57, ⟨Tryz.t57.desc, 8, 64, some [(.int .i64, 6), (.bool, 1), (.int .i64, 1)], true⟩),
  (58, ⟨Tryz.t57.desc, 8, 64, some [(.int .i64, 6), (.bool, 1), (.int .i64, 1)], true⟩),
  (59, ⟨Tryz.t59.desc, 1, 0, none, false⟩),
  (60, ⟨Tryz.t60.desc, 1, 8, some [(.fix (.val .nilFunc), 1)], false⟩),
  (61, ⟨Tryz.t61.desc, 1, 8, some [(.fix (.val .nilFunc), 1)], false⟩),
  (62, ⟨Tryz.t62.desc, 1, 8, some [(.fix (.val .nilFunc), 1)], false⟩),
  (63, ⟨Tryz.t63.desc, 1, 8, some [(.fix (.val .nilFunc), 1)], false⟩),
  (64, ⟨Tryz.t64.desc, 1, 8, some [(.fix (.val .nilFunc), 1)], false⟩),
  (65, ⟨Tryz.t65.desc, 1, 8, some [(.fix (.val (.pointer none)), 1)], false⟩),
  (66, ⟨Tryz.t66.desc, 4, 40, some [(.fix (.val (.string ByteArray.empty)), 1), (.int .i64, 3)], true⟩),
  (67, ⟨Tryz.t66.desc, 4, 40, some [(.fix (.val (.string ByteArray.empty)), 1), (.int .i64, 3)], true⟩),
  (68, ⟨Tryz.t68.desc, 7, 56, some [(.int .i64, 7)], false⟩),
  (69, ⟨Tryz.t69.desc, 17, 136, some [(.fix (.val (.string ByteArray.empty)), 1), (.int .i64, 14), (.bool, 2)], true⟩),
  (70, ⟨Tryz.t69.desc, 17, 136, some [(.fix (.val (.string ByteArray.empty)), 1), (.int .i64, 14), (.bool, 2)], true⟩),
  (71, ⟨Tryz.t71.desc, 27, 216, some [(.int .i64, 6), (.bool, 1), (.int .i64, 1), (.fix (.val (.pointer none)), 1), (.int .i64, 1), (.fix (.val (.string ByteArray.empty)), 1), (.int .i64, 14), (.bool, 2)], true⟩),
  (72, ⟨Tryz.t71.desc, 27, 216, some [(.int .i64, 6), (.bool, 1), (.int .i64, 1), (.fix (.val (.pointer none)), 1), (.int .i64, 1), (.fix (.val (.string ByteArray.empty)), 1), (.int .i64, 14), (.bool, 2)], true⟩),
  (73, ⟨Tryz.t73.desc, 1, 8, some [(.fix (.val .nilFunc), 1)], false⟩),
  (74, ⟨Tryz.t74.desc, 1, 0, none, false⟩),
  (75, ⟨Tryz.t75.desc, 1, 8, some [(.fix (.val .nilFunc), 1)], false⟩),
  (76, ⟨Tryz.t76.desc, 1, 8, some [(.fix (.val .nilFunc), 1)], false⟩),
  (77, ⟨Tryz.t77.desc, 1, 8, some [(.fix (.val .nilFunc), 1)], false⟩),
  (78, ⟨Tryz.t78.desc, 1, 8, some [(.fix (.val .nilFunc), 1)], false⟩),
  (79, ⟨Tryz.t79.desc, 1, 8, some [(.fix (.val .nilFunc), 1)], false⟩),
  (80, ⟨Tryz.t80.desc, 1, 8, some [(.fix (.val .nilFunc), 1)], false⟩),
  (81, ⟨Tryz.t81.desc, 1, 8, some [(.fix (.val .nilFunc), 1)], false⟩),
  (82, ⟨Tryz.t82.desc, 1, 8, some [(.fix (.val .nilFunc), 1)], false⟩),
  (83, ⟨Tryz.t83.desc, 1, 0, none, false⟩),
  (84, ⟨Tryz.t84.desc, 1, 8, some [(.fix (.val .nilFunc), 1)], false⟩),
  (85, ⟨Tryz.t85.desc, 1, 8, some [(.fix (.val .nilFunc), 1)], false⟩),
  (86, ⟨Tryz.t86.desc, 1, 8, some [(.fix (.val .nilFunc), 1)], false⟩),
  (87, ⟨Tryz.t87.desc, 1, 8, some [(.fix (.val .nilFunc), 1)], false⟩),
  (88, ⟨Tryz.t88.desc, 2, 16, some [(.int .i64, 2)], true⟩),
  (89, ⟨Tryz.t88.desc, 2, 16, some [(.int .i64, 2)], true⟩),
  (90, ⟨Tryz.t90.desc, 6, 48, some [(.int .i64, 6)], false⟩),
  (91, ⟨Tryz.t91.desc, 1, 8, some [(.fix (.val .nilFunc), 1)], false⟩),
  (92, ⟨Tryz.t92.desc, 1, 0, none, false⟩),
  (93, ⟨Tryz.t93.desc, 1, 8, some [(.fix (.val .nilFunc), 1)], false⟩),
  (94, ⟨Tryz.t94.desc, 1, 8, some [(.fix (.val (.pointer none)), 1)], false⟩),
  (95, ⟨Tryz.t95.desc, 1, 8, some [(.fix (.val .nilFunc), 1)], false⟩),
  (96, ⟨Tryz.t96.desc, 1, 0, none, false⟩),
  (97, ⟨Tryz.t97.desc, 1, 8, some [(.fix (.val .nilFunc), 1)], false⟩),
  (98, ⟨Tryz.t98.desc, 1, 8, some [(.fix (.val .nilFunc), 1)], false⟩),
  (99, ⟨Tryz.t99.desc, 1, 8, some [(.fix (.val .nilFunc), 1)], false⟩),
  (100, ⟨Tryz.t100.desc, 2, 16, some [(.int .i64, 2)], false⟩),
  (101, ⟨Tryz.t101.desc, 1, 8, some [(.fix (.val .nilFunc), 1)], false⟩),
  (102, ⟨Tryz.t102.desc, 1, 8, some [(.fix (.val .nilFunc), 1)], false⟩),
  (103, ⟨Tryz.t103.desc, 1, 8, some [(.fix (.val (.pointer none)), 1)], false⟩),
  (104, ⟨Tryz.t104.desc, 1, 8, some [(.fix (.val .nilFunc), 1)], false⟩),
  (105, ⟨Tryz.t105.desc, 1, 8, some [(.fix (.val .nilFunc), 1)], false⟩),
  (106, ⟨Tryz.t106.desc, 1, 8, some [(.fix (.val .nilFunc), 1)], false⟩),
  (107, ⟨Tryz.t107.desc, 1, 8, some [(.fix (.val .nilFunc), 1)], false⟩),
  (108, ⟨Tryz.t108.desc, 1, 8, some [(.fix (.val .nilFunc), 1)], false⟩),
  (109, ⟨Tryz.t109.desc, 1, 8, some [(.int .u64, 1)], false⟩),
  (110, ⟨Tryz.t110.desc, 3, 32, some [(.fix (.val (.string ByteArray.empty)), 1), (.int .i64, 2)], true⟩),
  (111, ⟨Tryz.t110.desc, 3, 32, some [(.fix (.val (.string ByteArray.empty)), 1), (.int .i64, 2)], true⟩),
  (112, ⟨Tryz.t112.desc, 48, 512, some [(.fix (.val (.string ByteArray.empty)), 1), (.int .i64, 2), (.fix (.val (.string ByteArray.empty)), 1), (.int .i64, 2), (.fix (.val (.string ByteArray.empty)), 1), (.int .i64, 2), (.fix (.val (.string ByteArray.empty)), 1), (.int .i64, 2), (.fix (.val (.string ByteArray.empty)), 1), (.int .i64, 2), (.fix (.val (.string ByteArray.empty)), 1), (.int .i64, 2), (.fix (.val (.string ByteArray.empty)), 1), (.int .i64, 2), (.fix (.val (.string ByteArray.empty)), 1), (.int .i64, 2), (.fix (.val (.string ByteArray.empty)), 1), (.int .i64, 2), (.fix (.val (.string ByteArray.empty)), 1), (.int .i64, 2), (.fix (.val (.string ByteArray.empty)), 1), (.int .i64, 2), (.fix (.val (.string ByteArray.empty)), 1), (.int .i64, 2), (.fix (.val (.string ByteArray.empty)), 1), (.int .i64, 2), (.fix (.val (.string ByteArray.empty)), 1), (.int .i64, 2), (.fix (.val (.string ByteArray.empty)), 1), (.int .i64, 2), (.fix (.val (.string ByteArray.empty)), 1), (.int .i64, 2)], false⟩),
  (113, ⟨Tryz.t113.desc, 1, 8, some [(.fix (.val .nilFunc), 1)], false⟩),
  (114, ⟨Tryz.t114.desc, 1, 8, some [(.fix (.val (.map none)), 1)], false⟩),
  (115, ⟨Tryz.t115.desc, 1, 8, some [(.fix (.val .nilFunc), 1)], false⟩),
  (116, ⟨Tryz.t116.desc, 1, 8, some [(.fix (.val .nilFunc), 1)], false⟩),
  (117, ⟨Tryz.t117.desc, 1, 8, some [(.fix (.val .nilFunc), 1)], false⟩),
  (118, ⟨Tryz.t118.desc, 1, 8, some [(.fix (.val .nilFunc), 1)], false⟩),
  (119, ⟨Tryz.t119.desc, 1, 8, some [(.fix (.val .nilFunc), 1)], false⟩),
  (120, ⟨Tryz.t120.desc, 1, 8, some [(.fix (.val .nilFunc), 1)], false⟩),
  (121, ⟨Tryz.t121.desc, 1, 8, some [(.fix (.val .nilFunc), 1)], false⟩),
  (122, ⟨Tryz.t122.desc, 3, 24, some [(.int .i64, 3)], true⟩),
  (123, ⟨Tryz.t122.desc, 3, 24, some [(.int .i64, 3)], true⟩),
  (124, ⟨Tryz.t124.desc, 1, 8, some [(.fix (.val .nilFunc), 1)], false⟩),
  (125, ⟨Tryz.t125.desc, 1, 8, some [(.fix (.val .nilFunc), 1)], false⟩),
  (126, ⟨Tryz.t126.desc, 1, 8, some [(.fix (.val .nilFunc), 1)], false⟩),
  (127, ⟨Tryz.t127.desc, 1, 8, some [(.fix (.val .nilFunc), 1)], false⟩),
  (128, ⟨Tryz.t128.desc, 1, 8, some [(.fix (.val .nilFunc), 1)], false⟩),
  (129, ⟨Tryz.t129.desc, 1, 8, some [(.fix (.val .nilFunc), 1)], false⟩),
  (130, ⟨Tryz.t130.desc, 1, 8, some [(.fix (.val .nilFunc), 1)], false⟩),
  (131, ⟨Tryz.t131.desc, 1, 8, some [(.fix (.val .nilFunc), 1)], false⟩),
  (132, ⟨Tryz.t132.desc, 1, 8, some [(.fix (.val .nilFunc), 1)], false⟩),
  (133, ⟨Tryz.t133.desc, 1, 8, some [(.fix (.val .nilFunc), 1)], false⟩),
  (134, ⟨Tryz.t134.desc, 1, 8, some [(.fix (.val .nilFunc), 1)], false⟩),
  (135, ⟨Tryz.t135.desc, 1, 24, some [(.fix (.val (.slice none 0 0)), 1)], false⟩),
  (136, ⟨Tryz.t136.desc, 1, 8, some [(.fix (.val .nilFunc), 1)], false⟩),
  (137, ⟨Tryz.t137.desc, 1, 1, some [(.int .i8, 1)], false⟩),
  (138, ⟨Tryz.t138.desc, 1, 24, some [(.fix (.val (.slice none 0 0)), 1)], false⟩),
  (139, ⟨Tryz.t139.desc, 2, 32, some [(.fix (.val (.slice none 0 0)), 1), (.int .i64, 1)], true⟩),
  (140, ⟨Tryz.t139.desc, 2, 32, some [(.fix (.val (.slice none 0 0)), 1), (.int .i64, 1)], true⟩),
  (141, ⟨Tryz.t141.desc, 1, 0, none, false⟩),
  (142, ⟨Tryz.t142.desc, 1, 8, some [(.fix (.val .nilFunc), 1)], false⟩),
  (143, ⟨Tryz.t143.desc, 1, 8, some [(.fix (.val .nilFunc), 1)], false⟩),
  (144, ⟨Tryz.t144.desc, 1, 8, some [(.fix (.val .nilFunc), 1)], false⟩),
  (145, ⟨Tryz.t145.desc, 1, 8, some [(.fix (.val .nilFunc), 1)], false⟩),
  (146, ⟨Tryz.t146.desc, 5, 80, some [(.fix (.val (.string ByteArray.empty)), 5)], false⟩),
  (147, ⟨Tryz.t147.desc, 1, 8, some [(.fix (.val .nilFunc), 1)], false⟩),
  (148, ⟨Tryz.t148.desc, 1, 8, some [(.fix (.val .nilFunc), 1)], false⟩),
  (149, ⟨Tryz.t149.desc, 1, 24, some [(.fix (.val (.slice none 0 0)), 1)], false⟩),
  (150, ⟨Tryz.t150.desc, 5, 40, some [(.int .i64, 5)], false⟩),
  (151, ⟨Tryz.t151.desc, 1, 8, some [(.fix (.val .nilFunc), 1)], false⟩),
  (152, ⟨Tryz.t152.desc, 1, 24, some [(.fix (.val (.slice none 0 0)), 1)], false⟩),
  (153, ⟨Tryz.t153.desc, 1, 8, some [(.fix (.val .nilFunc), 1)], false⟩),
  (154, ⟨Tryz.t154.desc, 3, 24, some [(.int .i64, 3)], true⟩),
  (155, ⟨Tryz.t154.desc, 3, 24, some [(.int .i64, 3)], true⟩),
  (156, ⟨Tryz.t156.desc, 1, 0, none, false⟩),
  (157, ⟨Tryz.t157.desc, 1, 8, some [(.fix (.val .nilFunc), 1)], false⟩),
  (158, ⟨Tryz.t158.desc, 1, 8, some [(.fix (.val .nilFunc), 1)], false⟩),
  (159, ⟨Tryz.t159.desc, 1, 8, some [(.fix (.val .nilFunc), 1)], false⟩),
  (160, ⟨Tryz.t160.desc, 1, 8, some [(.fix (.val .nilFunc), 1)], false⟩),
  (161, ⟨Tryz.t161.desc, 2, 16, some [(.int .i64, 2)], true⟩),
  (162, ⟨Tryz.t161.desc, 2, 16, some [(.int .i64, 2)], true⟩),
  (163, ⟨Tryz.t163.desc, 22, 176, some [(.int .i64, 22)], false⟩),
  (164, ⟨Tryz.t164.desc, 1, 8, some [(.fix (.val .nilFunc), 1)], false⟩),
  (165, ⟨Tryz.t165.desc, 1, 8, some [(.fix (.val .nilFunc), 1)], false⟩),
  (166, ⟨Tryz.t166.desc, 6, 64, some [(.fix (.val (.slice none 0 0)), 1), (.int .i64, 5)], true⟩),
  (167, ⟨Tryz.t166.desc, 6, 64, some [(.fix (.val (.slice none 0 0)), 1), (.int .i64, 5)], true⟩),
  (168, ⟨Tryz.t168.desc, 1, 8, some [(.fix (.val (.pointer none)), 1)], false⟩),
  (169, ⟨Tryz.t169.desc, 1, 8, some [(.fix (.val .nilFunc), 1)], false⟩),
  (170, ⟨Tryz.t170.desc, 1, 8, some [(.fix (.val .nilFunc), 1)], false⟩),
  (171, ⟨Tryz.t171.desc, 1, 8, some [(.fix (.val .nilFunc), 1)], false⟩),
  (172, ⟨Tryz.t172.desc, 1, 8, some [(.fix (.val .nilFunc), 1)], false⟩),
  (173, ⟨Tryz.t173.desc, 1, 24, some [(.fix (.val (.slice none 0 0)), 1)], false⟩),
  (174, ⟨Tryz.t174.desc, 1, 8, some [(.fix (.val .nilFunc), 1)], false⟩),
  (175, ⟨Tryz.t175.desc, 1, 8, some [(.fix (.val (.pointer none)), 1)], false⟩),
  (176, ⟨Tryz.t176.desc, 1, 8, some [(.fix (.val .nilFunc), 1)], false⟩),
  (177, ⟨Tryz.t177.desc, 1, 8, some [(.fix (.val .nilFunc), 1)], false⟩),
  (178, ⟨Tryz.t178.desc, 1, 8, some [(.fix (.val .nilFunc), 1)], false⟩),
  (179, ⟨Tryz.t179.desc, 4, 40, some [(.fix (.val (.pointer none)), 3), (.fix (.val (.string ByteArray.empty)), 1)], false⟩),
  (180, ⟨Tryz.t179.desc, 4, 40, some [(.fix (.val (.pointer none)), 3), (.fix (.val (.string ByteArray.empty)), 1)], false⟩),
  (181, ⟨Tryz.t181.desc, 0, 0, some [], false⟩),
  (182, ⟨Tryz.t182.desc, 0, 0, some [], false⟩),
  (183, ⟨Tryz.t182.desc, 0, 0, some [], false⟩),
  (184, ⟨Tryz.t184.desc, 1, 4, some [(.int .u32, 1)], false⟩),
  (185, ⟨Tryz.t5.desc, 1, 1, some [(.int .u8, 1)], false⟩),
  (186, ⟨Tryz.t5.desc, 1, 1, some [(.int .u8, 1)], false⟩),
  (187, ⟨Tryz.t187.desc, 1, 8, some [(.fix (.val .nilFunc), 1)], false⟩),
  (188, ⟨Tryz.t188.desc, 1, 8, some [(.fix (.val (.pointer none)), 1)], false⟩),
  (189, ⟨Tryz.t21.desc, 1, 4, some [(.int .i32, 1)], false⟩),
  (190, ⟨Tryz.t21.desc, 1, 4, some [(.int .i32, 1)], false⟩),
  (191, ⟨Tryz.t191.desc, 11, 48, some [(.int .u64, 2), (.int .u32, 1), (.int .u8, 4), (.fix (.val .nilFunc), 1), (.fix (.val (.pointer none)), 1), (.int .i32, 2)], false⟩),
  (192, ⟨Tryz.t191.desc, 11, 48, some [(.int .u64, 2), (.int .u32, 1), (.int .u8, 4), (.fix (.val .nilFunc), 1), (.fix (.val (.pointer none)), 1), (.int .i32, 2)], false⟩),
  (193, ⟨Tryz.t193.desc, 1, 8, some [(.fix (.val (.pointer none)), 1)], false⟩)]

theorem tab0 : TIOk Tryz.prog 0 ⟨Tryz.t0.desc, 1, 0, none, false⟩ := tiOk Tryz.underlying0 (i := Tryz.t0) rfl (by kernel_rfl) (fun h => (by cases h))
theorem tab1 : TIOk Tryz.prog 1 ⟨Tryz.t1.desc, 1, 8, some [(.fix (.val .nilFunc), 1)], false⟩ := tiOk Tryz.underlying1 (i := Tryz.t1) rfl (by kernel_rfl) (fun h => (by cases h))
theorem tab2 : TIOk Tryz.prog 2 ⟨Tryz.t2.desc, 1, 8, some [(.int .i64, 1)], false⟩ := tiOk Tryz.underlying2 (i := Tryz.t2) rfl (by kernel_rfl) (fun h => (by cases h))
theorem tab3 : TIOk Tryz.prog 3 ⟨Tryz.t3.desc, 1, 8, some [(.int .i64, 1)], false⟩ := tiOk Tryz.underlying3 (i := Tryz.t3) rfl (by kernel_rfl) (fun h => (by cases h))
theorem tab4 : TIOk Tryz.prog 4 ⟨Tryz.t4.desc, 1, 1, some [(.bool, 1)], false⟩ := tiOk Tryz.underlying4 (i := Tryz.t4) rfl (by kernel_rfl) (fun h => (by cases h))
theorem tab5 : TIOk Tryz.prog 5 ⟨Tryz.t5.desc, 1, 1, some [(.int .u8, 1)], false⟩ := tiOk Tryz.underlying5 (i := Tryz.t5) rfl (by kernel_rfl) (fun h => (by cases h))
theorem tab6 : TIOk Tryz.prog 6 ⟨Tryz.t5.desc, 1, 1, some [(.int .u8, 1)], false⟩ := tiOk Tryz.underlying6 (i := Tryz.t6) rfl (by kernel_rfl) (fun h => (by cases h))
theorem tab7 : TIOk Tryz.prog 7 ⟨Tryz.t7.desc, 4, 24, some [(.int .i64, 2), (.bool, 1), (.int .u8, 1)], true⟩ := tiOk Tryz.underlying7 (i := Tryz.t7) rfl (by kernel_rfl) (fun _ => ⟨Tryz.stoodInHeld7, Tryz.eqGuardType7⟩)
theorem tab8 : TIOk Tryz.prog 8 ⟨Tryz.t7.desc, 4, 24, some [(.int .i64, 2), (.bool, 1), (.int .u8, 1)], true⟩ := tiOk Tryz.underlying8 (i := Tryz.t8) rfl (by kernel_rfl) (fun _ => ⟨Tryz.stoodInHeld8, Tryz.eqGuardType8⟩)
theorem tab9 : TIOk Tryz.prog 9 ⟨Tryz.t9.desc, 1, 16, some [(.fix (.val (.string ByteArray.empty)), 1)], false⟩ := tiOk Tryz.underlying9 (i := Tryz.t9) rfl (by kernel_rfl) (fun h => (by cases h))
theorem tab10 : TIOk Tryz.prog 10 ⟨Tryz.t9.desc, 1, 16, some [(.fix (.val (.string ByteArray.empty)), 1)], false⟩ := tiOk Tryz.underlying10 (i := Tryz.t10) rfl (by kernel_rfl) (fun h => (by cases h))
theorem tab11 : TIOk Tryz.prog 11 ⟨Tryz.t9.desc, 1, 16, some [(.fix (.val (.string ByteArray.empty)), 1)], false⟩ := tiOk Tryz.underlying11 (i := Tryz.t11) rfl (by kernel_rfl) (fun h => (by cases h))
theorem tab12 : TIOk Tryz.prog 12 ⟨Tryz.t12.desc, 1, 8, some [(.int .u64, 1)], false⟩ := tiOk Tryz.underlying12 (i := Tryz.t12) rfl (by kernel_rfl) (fun h => (by cases h))
theorem tab13 : TIOk Tryz.prog 13 ⟨Tryz.t13.desc, 2, 24, some [(.fix (.val (.string ByteArray.empty)), 1), (.int .u64, 1)], false⟩ := tiOk Tryz.underlying13 (i := Tryz.t13) rfl (by kernel_rfl) (fun h => (by cases h))
theorem tab14 : TIOk Tryz.prog 14 ⟨Tryz.t13.desc, 2, 24, some [(.fix (.val (.string ByteArray.empty)), 1), (.int .u64, 1)], false⟩ := tiOk Tryz.underlying14 (i := Tryz.t14) rfl (by kernel_rfl) (fun h => (by cases h))
theorem tab15 : TIOk Tryz.prog 15 ⟨Tryz.t15.desc, 1, 8, some [(.fix (.val (.pointer none)), 1)], false⟩ := tiOk Tryz.underlying15 (i := Tryz.t15) rfl (by kernel_rfl) (fun h => (by cases h))
theorem tab16 : TIOk Tryz.prog 16 ⟨Tryz.t16.desc, 1, 8, some [(.fix (.val (.pointer none)), 1)], false⟩ := tiOk Tryz.underlying16 (i := Tryz.t16) rfl (by kernel_rfl) (fun h => (by cases h))
theorem tab17 : TIOk Tryz.prog 17 ⟨Tryz.t17.desc, 1, 8, some [(.fix (.val (.pointer none)), 1)], false⟩ := tiOk Tryz.underlying17 (i := Tryz.t17) rfl (by kernel_rfl) (fun h => (by cases h))
theorem tab18 : TIOk Tryz.prog 18 ⟨Tryz.t18.desc, 1, 8, some [(.fix (.val (.pointer none)), 1)], false⟩ := tiOk Tryz.underlying18 (i := Tryz.t18) rfl (by kernel_rfl) (fun h => (by cases h))
theorem tab19 : TIOk Tryz.prog 19 ⟨Tryz.t18.desc, 1, 8, some [(.fix (.val (.pointer none)), 1)], false⟩ := tiOk Tryz.underlying19 (i := Tryz.t19) rfl (by kernel_rfl) (fun h => (by cases h))
theorem tab20 : TIOk Tryz.prog 20 ⟨Tryz.t20.desc, 1, 16, some [(.fix (.val .nilIface), 1)], false⟩ := tiOk Tryz.underlying20 (i := Tryz.t20) rfl (by kernel_rfl) (fun h => (by cases h))
theorem tab21 : TIOk Tryz.prog 21 ⟨Tryz.t21.desc, 1, 4, some [(.int .i32, 1)], false⟩ := tiOk Tryz.underlying21 (i := Tryz.t21) rfl (by kernel_rfl) (fun h => (by cases h))
theorem tab22 : TIOk Tryz.prog 22 ⟨Tryz.t22.desc, 6, 48, some [(.int .i64, 6)], true⟩ := tiOk Tryz.underlying22 (i := Tryz.t22) rfl (by kernel_rfl) (fun _ => ⟨Tryz.stoodInHeld22, Tryz.eqGuardType22⟩)
theorem tab23 : TIOk Tryz.prog 23 ⟨Tryz.t22.desc, 6, 48, some [(.int .i64, 6)], true⟩ := tiOk Tryz.underlying23 (i := Tryz.t23) rfl (by kernel_rfl) (fun _ => ⟨Tryz.stoodInHeld23, Tryz.eqGuardType23⟩)
theorem tab24 : TIOk Tryz.prog 24 ⟨Tryz.t24.desc, 1, 8, some [(.fix (.val (.pointer none)), 1)], false⟩ := tiOk Tryz.underlying24 (i := Tryz.t24) rfl (by kernel_rfl) (fun h => (by cases h))
theorem tab25 : TIOk Tryz.prog 25 ⟨Tryz.t25.desc, 20, 160, some [(.int .i64, 20)], false⟩ := tiOk Tryz.underlying25 (i := Tryz.t25) rfl (by kernel_rfl) (fun h => (by cases h))
theorem tab26 : TIOk Tryz.prog 26 ⟨Tryz.t26.desc, 21, 168, some [(.int .i64, 21)], true⟩ := tiOk Tryz.underlying26 (i := Tryz.t26) rfl (by kernel_rfl) (fun _ => ⟨Tryz.stoodInHeld26, Tryz.eqGuardType26⟩)
theorem tab27 : TIOk Tryz.prog 27 ⟨Tryz.t26.desc, 21, 168, some [(.int .i64, 21)], true⟩ := tiOk Tryz.underlying27 (i := Tryz.t27) rfl (by kernel_rfl) (fun _ => ⟨Tryz.stoodInHeld27, Tryz.eqGuardType27⟩)
theorem tab28 : TIOk Tryz.prog 28 ⟨Tryz.t28.desc, 1, 8, some [(.fix (.val (.pointer none)), 1)], false⟩ := tiOk Tryz.underlying28 (i := Tryz.t28) rfl (by kernel_rfl) (fun h => (by cases h))
theorem tab29 : TIOk Tryz.prog 29 ⟨Tryz.t29.desc, 256, 2048, some [(.int .i64, 256)], false⟩ := tiOk Tryz.underlying29 (i := Tryz.t29) rfl (by kernel_rfl) (fun h => (by cases h))
theorem tab30 : TIOk Tryz.prog 30 ⟨Tryz.t30.desc, 281, 2240, some [(.int .i64, 21), (.fix (.val (.pointer none)), 1), (.int .i64, 257), (.bool, 2)], true⟩ := tiOk Tryz.underlying30 (i := Tryz.t30) rfl (by kernel_rfl) (fun _ => ⟨Tryz.stoodInHeld30, Tryz.eqGuardType30⟩)
theorem tab31 : TIOk Tryz.prog 31 ⟨Tryz.t30.desc, 281, 2240, some [(.int .i64, 21), (.fix (.val (.pointer none)), 1), (.int .i64, 257), (.bool, 2)], true⟩ := tiOk Tryz.underlying31 (i := Tryz.t31) rfl (by kernel_rfl) (fun _ => ⟨Tryz.stoodInHeld31, Tryz.eqGuardType31⟩)
theorem tab32 : TIOk Tryz.prog 32 ⟨Tryz.t32.desc, 1, 8, some [(.fix (.val (.pointer none)), 1)], false⟩ := tiOk Tryz.underlying32 (i := Tryz.t32) rfl (by kernel_rfl) (fun h => (by cases h))
theorem tab33 : TIOk Tryz.prog 33 ⟨Tryz.t33.desc, 8192, 8192, some [(.int .u8, 8192)], false⟩ := tiOk Tryz.underlying33 (i := Tryz.t33) rfl (by kernel_rfl) (fun h => (by cases h))
theorem tab34 : TIOk Tryz.prog 34 ⟨Tryz.t34.desc, 8, 64, some [(.int .i64, 8)], false⟩ := tiOk Tryz.underlying34 (i := Tryz.t34) rfl (by kernel_rfl) (fun h => (by cases h))
theorem tab35 : TIOk Tryz.prog 35 ⟨Tryz.t34.desc, 8, 64, some [(.int .i64, 8)], false⟩ := tiOk Tryz.underlying35 (i := Tryz.t35) rfl (by kernel_rfl) (fun h => (by cases h))
theorem tab36 : TIOk Tryz.prog 36 ⟨Tryz.t36.desc, 512, 4096, some [(.int .i64, 512)], false⟩ := tiOk Tryz.underlying36 (i := Tryz.t36) rfl (by kernel_rfl) (fun h => (by cases h))
theorem tab37 : TIOk Tryz.prog 37 ⟨Tryz.t37.desc, 514, 4112, some [(.int .i64, 514)], true⟩ := tiOk Tryz.underlying37 (i := Tryz.t37) rfl (by kernel_rfl) (fun _ => ⟨Tryz.stoodInHeld37, Tryz.eqGuardType37⟩)
theorem tab38 : TIOk Tryz.prog 38 ⟨Tryz.t37.desc, 514, 4112, some [(.int .i64, 514)], true⟩ := tiOk Tryz.underlying38 (i := Tryz.t38) rfl (by kernel_rfl) (fun _ => ⟨Tryz.stoodInHeld38, Tryz.eqGuardType38⟩)
theorem tab39 : TIOk Tryz.prog 39 ⟨Tryz.t39.desc, 32, 256, some [(.int .i64, 32)], false⟩ := tiOk Tryz.underlying39 (i := Tryz.t39) rfl (by kernel_rfl) (fun h => (by cases h))
theorem tab40 : TIOk Tryz.prog 40 ⟨Tryz.t40.desc, 40, 320, some [(.int .i64, 40)], true⟩ := tiOk Tryz.underlying40 (i := Tryz.t40) rfl (by kernel_rfl) (fun _ => ⟨Tryz.stoodInHeld40, Tryz.eqGuardType40⟩)
theorem tab41 : TIOk Tryz.prog 41 ⟨Tryz.t40.desc, 40, 320, some [(.int .i64, 40)], true⟩ := tiOk Tryz.underlying41 (i := Tryz.t41) rfl (by kernel_rfl) (fun _ => ⟨Tryz.stoodInHeld41, Tryz.eqGuardType41⟩)
theorem tab42 : TIOk Tryz.prog 42 ⟨Tryz.t42.desc, 240, 1920, some [(.int .i64, 240)], false⟩ := tiOk Tryz.underlying42 (i := Tryz.t42) rfl (by kernel_rfl) (fun h => (by cases h))
theorem tab43 : TIOk Tryz.prog 43 ⟨Tryz.t43.desc, 244, 1952, some [(.int .i64, 244)], true⟩ := tiOk Tryz.underlying43 (i := Tryz.t43) rfl (by kernel_rfl) (fun _ => ⟨Tryz.stoodInHeld43, Tryz.eqGuardType43⟩)
theorem tab44 : TIOk Tryz.prog 44 ⟨Tryz.t43.desc, 244, 1952, some [(.int .i64, 244)], true⟩ := tiOk Tryz.underlying44 (i := Tryz.t44) rfl (by kernel_rfl) (fun _ => ⟨Tryz.stoodInHeld44, Tryz.eqGuardType44⟩)
theorem tab45 : TIOk Tryz.prog 45 ⟨Tryz.t45.desc, 4, 32, some [(.int .i64, 2), (.bool, 1), (.int .i64, 1)], true⟩ := tiOk Tryz.underlying45 (i := Tryz.t45) rfl (by kernel_rfl) (fun _ => ⟨Tryz.stoodInHeld45, Tryz.eqGuardType45⟩)
theorem tab46 : TIOk Tryz.prog 46 ⟨Tryz.t45.desc, 4, 32, some [(.int .i64, 2), (.bool, 1), (.int .i64, 1)], true⟩ := tiOk Tryz.underlying46 (i := Tryz.t46) rfl (by kernel_rfl) (fun _ => ⟨Tryz.stoodInHeld46, Tryz.eqGuardType46⟩)
theorem tab47 : TIOk Tryz.prog 47 ⟨Tryz.t47.desc, 2, 16, some [(.int .i64, 2)], true⟩ := tiOk Tryz.underlying47 (i := Tryz.t47) rfl (by kernel_rfl) (fun _ => ⟨Tryz.stoodInHeld47, Tryz.eqGuardType47⟩)
theorem tab48 : TIOk Tryz.prog 48 ⟨Tryz.t47.desc, 2, 16, some [(.int .i64, 2)], true⟩ := tiOk Tryz.underlying48 (i := Tryz.t48) rfl (by kernel_rfl) (fun _ => ⟨Tryz.stoodInHeld48, Tryz.eqGuardType48⟩)
theorem tab49 : TIOk Tryz.prog 49 ⟨Tryz.t49.desc, 4, 16, some [(.bool, 3), (.int .i64, 1)], true⟩ := tiOk Tryz.underlying49 (i := Tryz.t49) rfl (by kernel_rfl) (fun _ => ⟨Tryz.stoodInHeld49, Tryz.eqGuardType49⟩)
theorem tab50 : TIOk Tryz.prog 50 ⟨Tryz.t49.desc, 4, 16, some [(.bool, 3), (.int .i64, 1)], true⟩ := tiOk Tryz.underlying50 (i := Tryz.t50) rfl (by kernel_rfl) (fun _ => ⟨Tryz.stoodInHeld50, Tryz.eqGuardType50⟩)
theorem tab51 : TIOk Tryz.prog 51 ⟨Tryz.t51.desc, 2, 16, some [(.int .i64, 1), (.bool, 1)], true⟩ := tiOk Tryz.underlying51 (i := Tryz.t51) rfl (by kernel_rfl) (fun _ => ⟨Tryz.stoodInHeld51, Tryz.eqGuardType51⟩)
theorem tab52 : TIOk Tryz.prog 52 ⟨Tryz.t51.desc, 2, 16, some [(.int .i64, 1), (.bool, 1)], true⟩ := tiOk Tryz.underlying52 (i := Tryz.t52) rfl (by kernel_rfl) (fun _ => ⟨Tryz.stoodInHeld52, Tryz.eqGuardType52⟩)
theorem tab53 : TIOk Tryz.prog 53 ⟨Tryz.t53.desc, 10, 80, some [(.int .i64, 1), (.bool, 1), (.int .i64, 1), (.bool, 1), (.int .i64, 1), (.bool, 1), (.int .i64, 1), (.bool, 1), (.int .i64, 1), (.bool, 1)], false⟩ := tiOk Tryz.underlying53 (i := Tryz.t53) rfl (by kernel_rfl) (fun h => (by cases h))
theorem tab54 : TIOk Tryz.prog 54 ⟨Tryz.t54.desc, 9263, 16736, some [(.int .i64, 21), (.fix (.val (.pointer none)), 1), (.int .i64, 257), (.bool, 2), (.fix (.val (.pointer none)), 1), (.int .i64, 1), (.int .u8, 8192), (.int .i64, 768), (.bool, 1), (.int .i64, 3), (.bool, 3), (.int .i64, 2), (.bool, 1), (.int .i64, 1), (.bool, 1), (.int .i64, 1), (.bool, 1), (.int .i64, 1), (.bool, 1), (.int .i64, 1), (.bool, 1), (.int .i64, 2)], true⟩ := tiOk Tryz.underlying54 (i := Tryz.t54) rfl (by kernel_rfl) (fun _ => ⟨Tryz.stoodInHeld54, Tryz.eqGuardType54⟩)
theorem tab55 : TIOk Tryz.prog 55 ⟨Tryz.t54.desc, 9263, 16736, some [(.int .i64, 21), (.fix (.val (.pointer none)), 1), (.int .i64, 257), (.bool, 2), (.fix (.val (.pointer none)), 1), (.int .i64, 1), (.int .u8, 8192), (.int .i64, 768), (.bool, 1), (.int .i64, 3), (.bool, 3), (.int .i64, 2), (.bool, 1), (.int .i64, 1), (.bool, 1), (.int .i64, 1), (.bool, 1), (.int .i64, 1), (.bool, 1), (.int .i64, 1), (.bool, 1), (.int .i64, 2)], true⟩ := tiOk Tryz.underlying55 (i := Tryz.t55) rfl (by kernel_rfl) (fun _ => ⟨Tryz.stoodInHeld55, Tryz.eqGuardType55⟩)
theorem tab56 : TIOk Tryz.prog 56 ⟨Tryz.t56.desc, 1, 24, some [(.fix (.val (.slice none 0 0)), 1)], false⟩ := tiOk Tryz.underlying56 (i := Tryz.t56) rfl (by kernel_rfl) (fun h => (by cases h))
theorem tab57 : TIOk Tryz.prog 57 ⟨Tryz.t57.desc, 8, 64, some [(.int .i64, 6), (.bool, 1), (.int .i64, 1)], true⟩ := tiOk Tryz.underlying57 (i := Tryz.t57) rfl (by kernel_rfl) (fun _ => ⟨Tryz.stoodInHeld57, Tryz.eqGuardType57⟩)
theorem tab58 : TIOk Tryz.prog 58 ⟨Tryz.t57.desc, 8, 64, some [(.int .i64, 6), (.bool, 1), (.int .i64, 1)], true⟩ := tiOk Tryz.underlying58 (i := Tryz.t58) rfl (by kernel_rfl) (fun _ => ⟨Tryz.stoodInHeld58, Tryz.eqGuardType58⟩)
theorem tab59 : TIOk Tryz.prog 59 ⟨Tryz.t59.desc, 1, 0, none, false⟩ := tiOk Tryz.underlying59 (i := Tryz.t59) rfl (by kernel_rfl) (fun h => (by cases h))
theorem tab60 : TIOk Tryz.prog 60 ⟨Tryz.t60.desc, 1, 8, some [(.fix (.val .nilFunc), 1)], false⟩ := tiOk Tryz.underlying60 (i := Tryz.t60) rfl (by kernel_rfl) (fun h => (by cases h))
theorem tab61 : TIOk Tryz.prog 61 ⟨Tryz.t61.desc, 1, 8, some [(.fix (.val .nilFunc), 1)], false⟩ := tiOk Tryz.underlying61 (i := Tryz.t61) rfl (by kernel_rfl) (fun h => (by cases h))
theorem tab62 : TIOk Tryz.prog 62 ⟨Tryz.t62.desc, 1, 8, some [(.fix (.val .nilFunc), 1)], false⟩ := tiOk Tryz.underlying62 (i := Tryz.t62) rfl (by kernel_rfl) (fun h => (by cases h))
theorem tab63 : TIOk Tryz.prog 63 ⟨Tryz.t63.desc, 1, 8, some [(.fix (.val .nilFunc), 1)], false⟩ := tiOk Tryz.underlying63 (i := Tryz.t63) rfl (by kernel_rfl) (fun h => (by cases h))
theorem tab64 : TIOk Tryz.prog 64 ⟨Tryz.t64.desc, 1, 8, some [(.fix (.val .nilFunc), 1)], false⟩ := tiOk Tryz.underlying64 (i := Tryz.t64) rfl (by kernel_rfl) (fun h => (by cases h))
theorem tab65 : TIOk Tryz.prog 65 ⟨Tryz.t65.desc, 1, 8, some [(.fix (.val (.pointer none)), 1)], false⟩ := tiOk Tryz.underlying65 (i := Tryz.t65) rfl (by kernel_rfl) (fun h => (by cases h))
theorem tab66 : TIOk Tryz.prog 66 ⟨Tryz.t66.desc, 4, 40, some [(.fix (.val (.string ByteArray.empty)), 1), (.int .i64, 3)], true⟩ := tiOk Tryz.underlying66 (i := Tryz.t66) rfl (by kernel_rfl) (fun _ => ⟨Tryz.stoodInHeld66, Tryz.eqGuardType66⟩)
theorem tab67 : TIOk Tryz.prog 67 ⟨Tryz.t66.desc, 4, 40, some [(.fix (.val (.string ByteArray.empty)), 1), (.int .i64, 3)], true⟩ := tiOk Tryz.underlying67 (i := Tryz.t67) rfl (by kernel_rfl) (fun _ => ⟨Tryz.stoodInHeld67, Tryz.eqGuardType67⟩)
theorem tab68 : TIOk Tryz.prog 68 ⟨Tryz.t68.desc, 7, 56, some [(.int .i64, 7)], false⟩ := tiOk Tryz.underlying68 (i := Tryz.t68) rfl (by kernel_rfl) (fun h => (by cases h))
theorem tab69 : TIOk Tryz.prog 69 ⟨Tryz.t69.desc, 17, 136, some [(.fix (.val (.string ByteArray.empty)), 1), (.int .i64, 14), (.bool, 2)], true⟩ := tiOk Tryz.underlying69 (i := Tryz.t69) rfl (by kernel_rfl) (fun _ => ⟨Tryz.stoodInHeld69, Tryz.eqGuardType69⟩)
theorem tab70 : TIOk Tryz.prog 70 ⟨Tryz.t69.desc, 17, 136, some [(.fix (.val (.string ByteArray.empty)), 1), (.int .i64, 14), (.bool, 2)], true⟩ := tiOk Tryz.underlying70 (i := Tryz.t70) rfl (by kernel_rfl) (fun _ => ⟨Tryz.stoodInHeld70, Tryz.eqGuardType70⟩)
theorem tab71 : TIOk Tryz.prog 71 ⟨Tryz.t71.desc, 27, 216, some [(.int .i64, 6), (.bool, 1), (.int .i64, 1), (.fix (.val (.pointer none)), 1), (.int .i64, 1), (.fix (.val (.string ByteArray.empty)), 1), (.int .i64, 14), (.bool, 2)], true⟩ := tiOk Tryz.underlying71 (i := Tryz.t71) rfl (by kernel_rfl) (fun _ => ⟨Tryz.stoodInHeld71, Tryz.eqGuardType71⟩)
theorem tab72 : TIOk Tryz.prog 72 ⟨Tryz.t71.desc, 27, 216, some [(.int .i64, 6), (.bool, 1), (.int .i64, 1), (.fix (.val (.pointer none)), 1), (.int .i64, 1), (.fix (.val (.string ByteArray.empty)), 1), (.int .i64, 14), (.bool, 2)], true⟩ := tiOk Tryz.underlying72 (i := Tryz.t72) rfl (by kernel_rfl) (fun _ => ⟨Tryz.stoodInHeld72, Tryz.eqGuardType72⟩)
theorem tab73 : TIOk Tryz.prog 73 ⟨Tryz.t73.desc, 1, 8, some [(.fix (.val .nilFunc), 1)], false⟩ := tiOk Tryz.underlying73 (i := Tryz.t73) rfl (by kernel_rfl) (fun h => (by cases h))
theorem tab74 : TIOk Tryz.prog 74 ⟨Tryz.t74.desc, 1, 0, none, false⟩ := tiOk Tryz.underlying74 (i := Tryz.t74) rfl (by kernel_rfl) (fun h => (by cases h))
theorem tab75 : TIOk Tryz.prog 75 ⟨Tryz.t75.desc, 1, 8, some [(.fix (.val .nilFunc), 1)], false⟩ := tiOk Tryz.underlying75 (i := Tryz.t75) rfl (by kernel_rfl) (fun h => (by cases h))
theorem tab76 : TIOk Tryz.prog 76 ⟨Tryz.t76.desc, 1, 8, some [(.fix (.val .nilFunc), 1)], false⟩ := tiOk Tryz.underlying76 (i := Tryz.t76) rfl (by kernel_rfl) (fun h => (by cases h))
theorem tab77 : TIOk Tryz.prog 77 ⟨Tryz.t77.desc, 1, 8, some [(.fix (.val .nilFunc), 1)], false⟩ := tiOk Tryz.underlying77 (i := Tryz.t77) rfl (by kernel_rfl) (fun h => (by cases h))
theorem tab78 : TIOk Tryz.prog 78 ⟨Tryz.t78.desc, 1, 8, some [(.fix (.val .nilFunc), 1)], false⟩ := tiOk Tryz.underlying78 (i := Tryz.t78) rfl (by kernel_rfl) (fun h => (by cases h))
theorem tab79 : TIOk Tryz.prog 79 ⟨Tryz.t79.desc, 1, 8, some [(.fix (.val .nilFunc), 1)], false⟩ := tiOk Tryz.underlying79 (i := Tryz.t79) rfl (by kernel_rfl) (fun h => (by cases h))
theorem tab80 : TIOk Tryz.prog 80 ⟨Tryz.t80.desc, 1, 8, some [(.fix (.val .nilFunc), 1)], false⟩ := tiOk Tryz.underlying80 (i := Tryz.t80) rfl (by kernel_rfl) (fun h => (by cases h))
theorem tab81 : TIOk Tryz.prog 81 ⟨Tryz.t81.desc, 1, 8, some [(.fix (.val .nilFunc), 1)], false⟩ := tiOk Tryz.underlying81 (i := Tryz.t81) rfl (by kernel_rfl) (fun h => (by cases h))
theorem tab82 : TIOk Tryz.prog 82 ⟨Tryz.t82.desc, 1, 8, some [(.fix (.val .nilFunc), 1)], false⟩ := tiOk Tryz.underlying82 (i := Tryz.t82) rfl (by kernel_rfl) (fun h => (by cases h))
theorem tab83 : TIOk Tryz.prog 83 ⟨Tryz.t83.desc, 1, 0, none, false⟩ := tiOk Tryz.underlying83 (i := Tryz.t83) rfl (by kernel_rfl) (fun h => (by cases h))
theorem tab84 : TIOk Tryz.prog 84 ⟨Tryz.t84.desc, 1, 8, some [(.fix (.val .nilFunc), 1)], false⟩ := tiOk Tryz.underlying84 (i := Tryz.t84) rfl (by kernel_rfl) (fun h => (by cases h))
theorem tab85 : TIOk Tryz.prog 85 ⟨Tryz.t85.desc, 1, 8, some [(.fix (.val .nilFunc), 1)], false⟩ := tiOk Tryz.underlying85 (i := Tryz.t85) rfl (by kernel_rfl) (fun h => (by cases h))
theorem tab86 : TIOk Tryz.prog 86 ⟨Tryz.t86.desc, 1, 8, some [(.fix (.val .nilFunc), 1)], false⟩ := tiOk Tryz.underlying86 (i := Tryz.t86) rfl (by kernel_rfl) (fun h => (by cases h))
theorem tab87 : TIOk Tryz.prog 87 ⟨Tryz.t87.desc, 1, 8, some [(.fix (.val .nilFunc), 1)], false⟩ := tiOk Tryz.underlying87 (i := Tryz.t87) rfl (by kernel_rfl) (fun h => (by cases h))
theorem tab88 : TIOk Tryz.prog 88 ⟨Tryz.t88.desc, 2, 16, some [(.int .i64, 2)], true⟩ := tiOk Tryz.underlying88 (i := Tryz.t88) rfl (by kernel_rfl) (fun _ => ⟨Tryz.stoodInHeld88, Tryz.eqGuardType88⟩)
theorem tab89 : TIOk Tryz.prog 89 ⟨Tryz.t88.desc, 2, 16, some [(.int .i64, 2)], true⟩ := tiOk Tryz.underlying89 (i := Tryz.t89) rfl (by kernel_rfl) (fun _ => ⟨Tryz.stoodInHeld89, Tryz.eqGuardType89⟩)
theorem tab90 : TIOk Tryz.prog 90 ⟨Tryz.t90.desc, 6, 48, some [(.int .i64, 6)], false⟩ := tiOk Tryz.underlying90 (i := Tryz.t90) rfl (by kernel_rfl) (fun h => (by cases h))
theorem tab91 : TIOk Tryz.prog 91 ⟨Tryz.t91.desc, 1, 8, some [(.fix (.val .nilFunc), 1)], false⟩ := tiOk Tryz.underlying91 (i := Tryz.t91) rfl (by kernel_rfl) (fun h => (by cases h))
theorem tab92 : TIOk Tryz.prog 92 ⟨Tryz.t92.desc, 1, 0, none, false⟩ := tiOk Tryz.underlying92 (i := Tryz.t92) rfl (by kernel_rfl) (fun h => (by cases h))
theorem tab93 : TIOk Tryz.prog 93 ⟨Tryz.t93.desc, 1, 8, some [(.fix (.val .nilFunc), 1)], false⟩ := tiOk Tryz.underlying93 (i := Tryz.t93) rfl (by kernel_rfl) (fun h => (by cases h))
theorem tab94 : TIOk Tryz.prog 94 ⟨Tryz.t94.desc, 1, 8, some [(.fix (.val (.pointer none)), 1)], false⟩ := tiOk Tryz.underlying94 (i := Tryz.t94) rfl (by kernel_rfl) (fun h => (by cases h))
theorem tab95 : TIOk Tryz.prog 95 ⟨Tryz.t95.desc, 1, 8, some [(.fix (.val .nilFunc), 1)], false⟩ := tiOk Tryz.underlying95 (i := Tryz.t95) rfl (by kernel_rfl) (fun h => (by cases h))
theorem tab96 : TIOk Tryz.prog 96 ⟨Tryz.t96.desc, 1, 0, none, false⟩ := tiOk Tryz.underlying96 (i := Tryz.t96) rfl (by kernel_rfl) (fun h => (by cases h))
theorem tab97 : TIOk Tryz.prog 97 ⟨Tryz.t97.desc, 1, 8, some [(.fix (.val .nilFunc), 1)], false⟩ := tiOk Tryz.underlying97 (i := Tryz.t97) rfl (by kernel_rfl) (fun h => (by cases h))
theorem tab98 : TIOk Tryz.prog 98 ⟨Tryz.t98.desc, 1, 8, some [(.fix (.val .nilFunc), 1)], false⟩ := tiOk Tryz.underlying98 (i := Tryz.t98) rfl (by kernel_rfl) (fun h => (by cases h))
theorem tab99 : TIOk Tryz.prog 99 ⟨Tryz.t99.desc, 1, 8, some [(.fix (.val .nilFunc), 1)], false⟩ := tiOk Tryz.underlying99 (i := Tryz.t99) rfl (by kernel_rfl) (fun h => (by cases h))
theorem tab100 : TIOk Tryz.prog 100 ⟨Tryz.t100.desc, 2, 16, some [(.int .i64, 2)], false⟩ := tiOk Tryz.underlying100 (i := Tryz.t100) rfl (by kernel_rfl) (fun h => (by cases h))
theorem tab101 : TIOk Tryz.prog 101 ⟨Tryz.t101.desc, 1, 8, some [(.fix (.val .nilFunc), 1)], false⟩ := tiOk Tryz.underlying101 (i := Tryz.t101) rfl (by kernel_rfl) (fun h => (by cases h))
theorem tab102 : TIOk Tryz.prog 102 ⟨Tryz.t102.desc, 1, 8, some [(.fix (.val .nilFunc), 1)], false⟩ := tiOk Tryz.underlying102 (i := Tryz.t102) rfl (by kernel_rfl) (fun h => (by cases h))
theorem tab103 : TIOk Tryz.prog 103 ⟨Tryz.t103.desc, 1, 8, some [(.fix (.val (.pointer none)), 1)], false⟩ := tiOk Tryz.underlying103 (i := Tryz.t103) rfl (by kernel_rfl) (fun h => (by cases h))
theorem tab104 : TIOk Tryz.prog 104 ⟨Tryz.t104.desc, 1, 8, some [(.fix (.val .nilFunc), 1)], false⟩ := tiOk Tryz.underlying104 (i := Tryz.t104) rfl (by kernel_rfl) (fun h => (by cases h))
theorem tab105 : TIOk Tryz.prog 105 ⟨Tryz.t105.desc, 1, 8, some [(.fix (.val .nilFunc), 1)], false⟩ := tiOk Tryz.underlying105 (i := Tryz.t105) rfl (by kernel_rfl) (fun h => (by cases h))
theorem tab106 : TIOk Tryz.prog 106 ⟨Tryz.t106.desc, 1, 8, some [(.fix (.val .nilFunc), 1)], false⟩ := tiOk Tryz.underlying106 (i := Tryz.t106) rfl (by kernel_rfl) (fun h => (by cases h))
theorem tab107 : TIOk Tryz.prog 107 ⟨Tryz.t107.desc, 1, 8, some [(.fix (.val .nilFunc), 1)], false⟩ := tiOk Tryz.underlying107 (i := Tryz.t107) rfl (by kernel_rfl) (fun h => (by cases h))
theorem tab108 : TIOk Tryz.prog 108 ⟨Tryz.t108.desc, 1, 8, some [(.fix (.val .nilFunc), 1)], false⟩ := tiOk Tryz.underlying108 (i := Tryz.t108) rfl (by kernel_rfl) (fun h => (by cases h))
theorem tab109 : TIOk Tryz.prog 109 ⟨Tryz.t109.desc, 1, 8, some [(.int .u64, 1)], false⟩ := tiOk Tryz.underlying109 (i := Tryz.t109) rfl (by kernel_rfl) (fun h => (by cases h))
theorem tab110 : TIOk Tryz.prog 110 ⟨Tryz.t110.desc, 3, 32, some [(.fix (.val (.string ByteArray.empty)), 1), (.int .i64, 2)], true⟩ := tiOk Tryz.underlying110 (i := Tryz.t110) rfl (by kernel_rfl) (fun _ => ⟨Tryz.stoodInHeld110, Tryz.eqGuardType110⟩)
theorem tab111 : TIOk Tryz.prog 111 ⟨Tryz.t110.desc, 3, 32, some [(.fix (.val (.string ByteArray.empty)), 1), (.int .i64, 2)], true⟩ := tiOk Tryz.underlying111 (i := Tryz.t111) rfl (by kernel_rfl) (fun _ => ⟨Tryz.stoodInHeld111, Tryz.eqGuardType111⟩)
theorem tab112 : TIOk Tryz.prog 112 ⟨Tryz.t112.desc, 48, 512, some [(.fix (.val (.string ByteArray.empty)), 1), (.int .i64, 2), (.fix (.val (.string ByteArray.empty)), 1), (.int .i64, 2), (.fix (.val (.string ByteArray.empty)), 1), (.int .i64, 2), (.fix (.val (.string ByteArray.empty)), 1), (.int .i64, 2), (.fix (.val (.string ByteArray.empty)), 1), (.int .i64, 2), (.fix (.val (.string ByteArray.empty)), 1), (.int .i64, 2), (.fix (.val (.string ByteArray.empty)), 1), (.int .i64, 2), (.fix (.val (.string ByteArray.empty)), 1), (.int .i64, 2), (.fix (.val (.string ByteArray.empty)), 1), (.int .i64, 2), (.fix (.val (.string ByteArray.empty)), 1), (.int .i64, 2), (.fix (.val (.string ByteArray.empty)), 1), (.int .i64, 2), (.fix (.val (.string ByteArray.empty)), 1), (.int .i64, 2), (.fix (.val (.string ByteArray.empty)), 1), (.int .i64, 2), (.fix (.val (.string ByteArray.empty)), 1), (.int .i64, 2), (.fix (.val (.string ByteArray.empty)), 1), (.int .i64, 2), (.fix (.val (.string ByteArray.empty)), 1), (.int .i64, 2)], false⟩ := tiOk Tryz.underlying112 (i := Tryz.t112) rfl (by kernel_rfl) (fun h => (by cases h))
theorem tab113 : TIOk Tryz.prog 113 ⟨Tryz.t113.desc, 1, 8, some [(.fix (.val .nilFunc), 1)], false⟩ := tiOk Tryz.underlying113 (i := Tryz.t113) rfl (by kernel_rfl) (fun h => (by cases h))
theorem tab114 : TIOk Tryz.prog 114 ⟨Tryz.t114.desc, 1, 8, some [(.fix (.val (.map none)), 1)], false⟩ := tiOk Tryz.underlying114 (i := Tryz.t114) rfl (by kernel_rfl) (fun h => (by cases h))
theorem tab115 : TIOk Tryz.prog 115 ⟨Tryz.t115.desc, 1, 8, some [(.fix (.val .nilFunc), 1)], false⟩ := tiOk Tryz.underlying115 (i := Tryz.t115) rfl (by kernel_rfl) (fun h => (by cases h))
theorem tab116 : TIOk Tryz.prog 116 ⟨Tryz.t116.desc, 1, 8, some [(.fix (.val .nilFunc), 1)], false⟩ := tiOk Tryz.underlying116 (i := Tryz.t116) rfl (by kernel_rfl) (fun h => (by cases h))
theorem tab117 : TIOk Tryz.prog 117 ⟨Tryz.t117.desc, 1, 8, some [(.fix (.val .nilFunc), 1)], false⟩ := tiOk Tryz.underlying117 (i := Tryz.t117) rfl (by kernel_rfl) (fun h => (by cases h))
theorem tab118 : TIOk Tryz.prog 118 ⟨Tryz.t118.desc, 1, 8, some [(.fix (.val .nilFunc), 1)], false⟩ := tiOk Tryz.underlying118 (i := Tryz.t118) rfl (by kernel_rfl) (fun h => (by cases h))
theorem tab119 : TIOk Tryz.prog 119 ⟨Tryz.t119.desc, 1, 8, some [(.fix (.val .nilFunc), 1)], false⟩ := tiOk Tryz.underlying119 (i := Tryz.t119) rfl (by kernel_rfl) (fun h => (by cases h))
theorem tab120 : TIOk Tryz.prog 120 ⟨Tryz.t120.desc, 1, 8, some [(.fix (.val .nilFunc), 1)], false⟩ := tiOk Tryz.underlying120 (i := Tryz.t120) rfl (by kernel_rfl) (fun h => (by cases h))
theorem tab121 : TIOk Tryz.prog 121 ⟨Tryz.t121.desc, 1, 8, some [(.fix (.val .nilFunc), 1)], false⟩ := tiOk Tryz.underlying121 (i := Tryz.t121) rfl (by kernel_rfl) (fun h => (by cases h))
theorem tab122 : TIOk Tryz.prog 122 ⟨Tryz.t122.desc, 3, 24, some [(.int .i64, 3)], true⟩ := tiOk Tryz.underlying122 (i := Tryz.t122) rfl (by kernel_rfl) (fun _ => ⟨Tryz.stoodInHeld122, Tryz.eqGuardType122⟩)
theorem tab123 : TIOk Tryz.prog 123 ⟨Tryz.t122.desc, 3, 24, some [(.int .i64, 3)], true⟩ := tiOk Tryz.underlying123 (i := Tryz.t123) rfl (by kernel_rfl) (fun _ => ⟨Tryz.stoodInHeld123, Tryz.eqGuardType123⟩)
theorem tab124 : TIOk Tryz.prog 124 ⟨Tryz.t124.desc, 1, 8, some [(.fix (.val .nilFunc), 1)], false⟩ := tiOk Tryz.underlying124 (i := Tryz.t124) rfl (by kernel_rfl) (fun h => (by cases h))
theorem tab125 : TIOk Tryz.prog 125 ⟨Tryz.t125.desc, 1, 8, some [(.fix (.val .nilFunc), 1)], false⟩ := tiOk Tryz.underlying125 (i := Tryz.t125) rfl (by kernel_rfl) (fun h => (by cases h))
theorem tab126 : TIOk Tryz.prog 126 ⟨Tryz.t126.desc, 1, 8, some [(.fix (.val .nilFunc), 1)], false⟩ := tiOk Tryz.underlying126 (i := Tryz.t126) rfl (by kernel_rfl) (fun h => (by cases h))
theorem tab127 : TIOk Tryz.prog 127 ⟨Tryz.t127.desc, 1, 8, some [(.fix (.val .nilFunc), 1)], false⟩ := tiOk Tryz.underlying127 (i := Tryz.t127) rfl (by kernel_rfl) (fun h => (by cases h))
theorem tab128 : TIOk Tryz.prog 128 ⟨Tryz.t128.desc, 1, 8, some [(.fix (.val .nilFunc), 1)], false⟩ := tiOk Tryz.underlying128 (i := Tryz.t128) rfl (by kernel_rfl) (fun h => (by cases h))
theorem tab129 : TIOk Tryz.prog 129 ⟨Tryz.t129.desc, 1, 8, some [(.fix (.val .nilFunc), 1)], false⟩ := tiOk Tryz.underlying129 (i := Tryz.t129) rfl (by kernel_rfl) (fun h => (by cases h))
theorem tab130 : TIOk Tryz.prog 130 ⟨Tryz.t130.desc, 1, 8, some [(.fix (.val .nilFunc), 1)], false⟩ := tiOk Tryz.underlying130 (i := Tryz.t130) rfl (by kernel_rfl) (fun h => (by cases h))
theorem tab131 : TIOk Tryz.prog 131 ⟨Tryz.t131.desc, 1, 8, some [(.fix (.val .nilFunc), 1)], false⟩ := tiOk Tryz.underlying131 (i := Tryz.t131) rfl (by kernel_rfl) (fun h => (by cases h))
theorem tab132 : TIOk Tryz.prog 132 ⟨Tryz.t132.desc, 1, 8, some [(.fix (.val .nilFunc), 1)], false⟩ := tiOk Tryz.underlying132 (i := Tryz.t132) rfl (by kernel_rfl) (fun h => (by cases h))
theorem tab133 : TIOk Tryz.prog 133 ⟨Tryz.t133.desc, 1, 8, some [(.fix (.val .nilFunc), 1)], false⟩ := tiOk Tryz.underlying133 (i := Tryz.t133) rfl (by kernel_rfl) (fun h => (by cases h))
theorem tab134 : TIOk Tryz.prog 134 ⟨Tryz.t134.desc, 1, 8, some [(.fix (.val .nilFunc), 1)], false⟩ := tiOk Tryz.underlying134 (i := Tryz.t134) rfl (by kernel_rfl) (fun h => (by cases h))
theorem tab135 : TIOk Tryz.prog 135 ⟨Tryz.t135.desc, 1, 24, some [(.fix (.val (.slice none 0 0)), 1)], false⟩ := tiOk Tryz.underlying135 (i := Tryz.t135) rfl (by kernel_rfl) (fun h => (by cases h))
theorem tab136 : TIOk Tryz.prog 136 ⟨Tryz.t136.desc, 1, 8, some [(.fix (.val .nilFunc), 1)], false⟩ := tiOk Tryz.underlying136 (i := Tryz.t136) rfl (by kernel_rfl) (fun h => (by cases h))
theorem tab137 : TIOk Tryz.prog 137 ⟨Tryz.t137.desc, 1, 1, some [(.int .i8, 1)], false⟩ := tiOk Tryz.underlying137 (i := Tryz.t137) rfl (by kernel_rfl) (fun h => (by cases h))
theorem tab138 : TIOk Tryz.prog 138 ⟨Tryz.t138.desc, 1, 24, some [(.fix (.val (.slice none 0 0)), 1)], false⟩ := tiOk Tryz.underlying138 (i := Tryz.t138) rfl (by kernel_rfl) (fun h => (by cases h))
theorem tab139 : TIOk Tryz.prog 139 ⟨Tryz.t139.desc, 2, 32, some [(.fix (.val (.slice none 0 0)), 1), (.int .i64, 1)], true⟩ := tiOk Tryz.underlying139 (i := Tryz.t139) rfl (by kernel_rfl) (fun _ => ⟨Tryz.stoodInHeld139, Tryz.eqGuardType139⟩)
theorem tab140 : TIOk Tryz.prog 140 ⟨Tryz.t139.desc, 2, 32, some [(.fix (.val (.slice none 0 0)), 1), (.int .i64, 1)], true⟩ := tiOk Tryz.underlying140 (i := Tryz.t140) rfl (by kernel_rfl) (fun _ => ⟨Tryz.stoodInHeld140, Tryz.eqGuardType140⟩)
theorem tab141 : TIOk Tryz.prog 141 ⟨Tryz.t141.desc, 1, 0, none, false⟩ := tiOk Tryz.underlying141 (i := Tryz.t141) rfl (by kernel_rfl) (fun h => (by cases h))
theorem tab142 : TIOk Tryz.prog 142 ⟨Tryz.t142.desc, 1, 8, some [(.fix (.val .nilFunc), 1)], false⟩ := tiOk Tryz.underlying142 (i := Tryz.t142) rfl (by kernel_rfl) (fun h => (by cases h))
theorem tab143 : TIOk Tryz.prog 143 ⟨Tryz.t143.desc, 1, 8, some [(.fix (.val .nilFunc), 1)], false⟩ := tiOk Tryz.underlying143 (i := Tryz.t143) rfl (by kernel_rfl) (fun h => (by cases h))
theorem tab144 : TIOk Tryz.prog 144 ⟨Tryz.t144.desc, 1, 8, some [(.fix (.val .nilFunc), 1)], false⟩ := tiOk Tryz.underlying144 (i := Tryz.t144) rfl (by kernel_rfl) (fun h => (by cases h))
theorem tab145 : TIOk Tryz.prog 145 ⟨Tryz.t145.desc, 1, 8, some [(.fix (.val .nilFunc), 1)], false⟩ := tiOk Tryz.underlying145 (i := Tryz.t145) rfl (by kernel_rfl) (fun h => (by cases h))
theorem tab146 : TIOk Tryz.prog 146 ⟨Tryz.t146.desc, 5, 80, some [(.fix (.val (.string ByteArray.empty)), 5)], false⟩ := tiOk Tryz.underlying146 (i := Tryz.t146) rfl (by kernel_rfl) (fun h => (by cases h))
theorem tab147 : TIOk Tryz.prog 147 ⟨Tryz.t147.desc, 1, 8, some [(.fix (.val .nilFunc), 1)], false⟩ := tiOk Tryz.underlying147 (i := Tryz.t147) rfl (by kernel_rfl) (fun h => (by cases h))
theorem tab148 : TIOk Tryz.prog 148 ⟨Tryz.t148.desc, 1, 8, some [(.fix (.val .nilFunc), 1)], false⟩ := tiOk Tryz.underlying148 (i := Tryz.t148) rfl (by kernel_rfl) (fun h => (by cases h))
theorem tab149 : TIOk Tryz.prog 149 ⟨Tryz.t149.desc, 1, 24, some [(.fix (.val (.slice none 0 0)), 1)], false⟩ := tiOk Tryz.underlying149 (i := Tryz.t149) rfl (by kernel_rfl) (fun h => (by cases h))
theorem tab150 : TIOk Tryz.prog 150 ⟨Tryz.t150.desc, 5, 40, some [(.int .i64, 5)], false⟩ := tiOk Tryz.underlying150 (i := Tryz.t150) rfl (by kernel_rfl) (fun h => (by cases h))
theorem tab151 : TIOk Tryz.prog 151 ⟨Tryz.t151.desc, 1, 8, some [(.fix (.val .nilFunc), 1)], false⟩ := tiOk Tryz.underlying151 (i := Tryz.t151) rfl (by kernel_rfl) (fun h => (by cases h))
theorem tab152 : TIOk Tryz.prog 152 ⟨Tryz.t152.desc, 1, 24, some [(.fix (.val (.slice none 0 0)), 1)], false⟩ := tiOk Tryz.underlying152 (i := Tryz.t152) rfl (by kernel_rfl) (fun h => (by cases h))
theorem tab153 : TIOk Tryz.prog 153 ⟨Tryz.t153.desc, 1, 8, some [(.fix (.val .nilFunc), 1)], false⟩ := tiOk Tryz.underlying153 (i := Tryz.t153) rfl (by kernel_rfl) (fun h => (by cases h))
theorem tab154 : TIOk Tryz.prog 154 ⟨Tryz.t154.desc, 3, 24, some [(.int .i64, 3)], true⟩ := tiOk Tryz.underlying154 (i := Tryz.t154) rfl (by kernel_rfl) (fun _ => ⟨Tryz.stoodInHeld154, Tryz.eqGuardType154⟩)
theorem tab155 : TIOk Tryz.prog 155 ⟨Tryz.t154.desc, 3, 24, some [(.int .i64, 3)], true⟩ := tiOk Tryz.underlying155 (i := Tryz.t155) rfl (by kernel_rfl) (fun _ => ⟨Tryz.stoodInHeld155, Tryz.eqGuardType155⟩)
theorem tab156 : TIOk Tryz.prog 156 ⟨Tryz.t156.desc, 1, 0, none, false⟩ := tiOk Tryz.underlying156 (i := Tryz.t156) rfl (by kernel_rfl) (fun h => (by cases h))
theorem tab157 : TIOk Tryz.prog 157 ⟨Tryz.t157.desc, 1, 8, some [(.fix (.val .nilFunc), 1)], false⟩ := tiOk Tryz.underlying157 (i := Tryz.t157) rfl (by kernel_rfl) (fun h => (by cases h))
theorem tab158 : TIOk Tryz.prog 158 ⟨Tryz.t158.desc, 1, 8, some [(.fix (.val .nilFunc), 1)], false⟩ := tiOk Tryz.underlying158 (i := Tryz.t158) rfl (by kernel_rfl) (fun h => (by cases h))
theorem tab159 : TIOk Tryz.prog 159 ⟨Tryz.t159.desc, 1, 8, some [(.fix (.val .nilFunc), 1)], false⟩ := tiOk Tryz.underlying159 (i := Tryz.t159) rfl (by kernel_rfl) (fun h => (by cases h))
theorem tab160 : TIOk Tryz.prog 160 ⟨Tryz.t160.desc, 1, 8, some [(.fix (.val .nilFunc), 1)], false⟩ := tiOk Tryz.underlying160 (i := Tryz.t160) rfl (by kernel_rfl) (fun h => (by cases h))
theorem tab161 : TIOk Tryz.prog 161 ⟨Tryz.t161.desc, 2, 16, some [(.int .i64, 2)], true⟩ := tiOk Tryz.underlying161 (i := Tryz.t161) rfl (by kernel_rfl) (fun _ => ⟨Tryz.stoodInHeld161, Tryz.eqGuardType161⟩)
theorem tab162 : TIOk Tryz.prog 162 ⟨Tryz.t161.desc, 2, 16, some [(.int .i64, 2)], true⟩ := tiOk Tryz.underlying162 (i := Tryz.t162) rfl (by kernel_rfl) (fun _ => ⟨Tryz.stoodInHeld162, Tryz.eqGuardType162⟩)
theorem tab163 : TIOk Tryz.prog 163 ⟨Tryz.t163.desc, 22, 176, some [(.int .i64, 22)], false⟩ := tiOk Tryz.underlying163 (i := Tryz.t163) rfl (by kernel_rfl) (fun h => (by cases h))
theorem tab164 : TIOk Tryz.prog 164 ⟨Tryz.t164.desc, 1, 8, some [(.fix (.val .nilFunc), 1)], false⟩ := tiOk Tryz.underlying164 (i := Tryz.t164) rfl (by kernel_rfl) (fun h => (by cases h))
theorem tab165 : TIOk Tryz.prog 165 ⟨Tryz.t165.desc, 1, 8, some [(.fix (.val .nilFunc), 1)], false⟩ := tiOk Tryz.underlying165 (i := Tryz.t165) rfl (by kernel_rfl) (fun h => (by cases h))
theorem tab166 : TIOk Tryz.prog 166 ⟨Tryz.t166.desc, 6, 64, some [(.fix (.val (.slice none 0 0)), 1), (.int .i64, 5)], true⟩ := tiOk Tryz.underlying166 (i := Tryz.t166) rfl (by kernel_rfl) (fun _ => ⟨Tryz.stoodInHeld166, Tryz.eqGuardType166⟩)
theorem tab167 : TIOk Tryz.prog 167 ⟨Tryz.t166.desc, 6, 64, some [(.fix (.val (.slice none 0 0)), 1), (.int .i64, 5)], true⟩ := tiOk Tryz.underlying167 (i := Tryz.t167) rfl (by kernel_rfl) (fun _ => ⟨Tryz.stoodInHeld167, Tryz.eqGuardType167⟩)
theorem tab168 : TIOk Tryz.prog 168 ⟨Tryz.t168.desc, 1, 8, some [(.fix (.val (.pointer none)), 1)], false⟩ := tiOk Tryz.underlying168 (i := Tryz.t168) rfl (by kernel_rfl) (fun h => (by cases h))
theorem tab169 : TIOk Tryz.prog 169 ⟨Tryz.t169.desc, 1, 8, some [(.fix (.val .nilFunc), 1)], false⟩ := tiOk Tryz.underlying169 (i := Tryz.t169) rfl (by kernel_rfl) (fun h => (by cases h))
theorem tab170 : TIOk Tryz.prog 170 ⟨Tryz.t170.desc, 1, 8, some [(.fix (.val .nilFunc), 1)], false⟩ := tiOk Tryz.underlying170 (i := Tryz.t170) rfl (by kernel_rfl) (fun h => (by cases h))
theorem tab171 : TIOk Tryz.prog 171 ⟨Tryz.t171.desc, 1, 8, some [(.fix (.val .nilFunc), 1)], false⟩ := tiOk Tryz.underlying171 (i := Tryz.t171) rfl (by kernel_rfl) (fun h => (by cases h))
theorem tab172 : TIOk Tryz.prog 172 ⟨Tryz.t172.desc, 1, 8, some [(.fix (.val .nilFunc), 1)], false⟩ := tiOk Tryz.underlying172 (i := Tryz.t172) rfl (by kernel_rfl) (fun h => (by cases h))
theorem tab173 : TIOk Tryz.prog 173 ⟨Tryz.t173.desc, 1, 24, some [(.fix (.val (.slice none 0 0)), 1)], false⟩ := tiOk Tryz.underlying173 (i := Tryz.t173) rfl (by kernel_rfl) (fun h => (by cases h))
theorem tab174 : TIOk Tryz.prog 174 ⟨Tryz.t174.desc, 1, 8, some [(.fix (.val .nilFunc), 1)], false⟩ := tiOk Tryz.underlying174 (i := Tryz.t174) rfl (by kernel_rfl) (fun h => (by cases h))
theorem tab175 : TIOk Tryz.prog 175 ⟨Tryz.t175.desc, 1, 8, some [(.fix (.val (.pointer none)), 1)], false⟩ := tiOk Tryz.underlying175 (i := Tryz.t175) rfl (by kernel_rfl) (fun h => (by cases h))
theorem tab176 : TIOk Tryz.prog 176 ⟨Tryz.t176.desc, 1, 8, some [(.fix (.val .nilFunc), 1)], false⟩ := tiOk Tryz.underlying176 (i := Tryz.t176) rfl (by kernel_rfl) (fun h => (by cases h))
theorem tab177 : TIOk Tryz.prog 177 ⟨Tryz.t177.desc, 1, 8, some [(.fix (.val .nilFunc), 1)], false⟩ := tiOk Tryz.underlying177 (i := Tryz.t177) rfl (by kernel_rfl) (fun h => (by cases h))
theorem tab178 : TIOk Tryz.prog 178 ⟨Tryz.t178.desc, 1, 8, some [(.fix (.val .nilFunc), 1)], false⟩ := tiOk Tryz.underlying178 (i := Tryz.t178) rfl (by kernel_rfl) (fun h => (by cases h))
theorem tab179 : TIOk Tryz.prog 179 ⟨Tryz.t179.desc, 4, 40, some [(.fix (.val (.pointer none)), 3), (.fix (.val (.string ByteArray.empty)), 1)], false⟩ := tiOk Tryz.underlying179 (i := Tryz.t179) rfl (by kernel_rfl) (fun h => (by cases h))
theorem tab180 : TIOk Tryz.prog 180 ⟨Tryz.t179.desc, 4, 40, some [(.fix (.val (.pointer none)), 3), (.fix (.val (.string ByteArray.empty)), 1)], false⟩ := tiOk Tryz.underlying180 (i := Tryz.t180) rfl (by kernel_rfl) (fun h => (by cases h))
theorem tab181 : TIOk Tryz.prog 181 ⟨Tryz.t181.desc, 0, 0, some [], false⟩ := tiOk Tryz.underlying181 (i := Tryz.t181) rfl (by kernel_rfl) (fun h => (by cases h))
theorem tab182 : TIOk Tryz.prog 182 ⟨Tryz.t182.desc, 0, 0, some [], false⟩ := tiOk Tryz.underlying182 (i := Tryz.t182) rfl (by kernel_rfl) (fun h => (by cases h))
theorem tab183 : TIOk Tryz.prog 183 ⟨Tryz.t182.desc, 0, 0, some [], false⟩ := tiOk Tryz.underlying183 (i := Tryz.t183) rfl (by kernel_rfl) (fun h => (by cases h))
theorem tab184 : TIOk Tryz.prog 184 ⟨Tryz.t184.desc, 1, 4, some [(.int .u32, 1)], false⟩ := tiOk Tryz.underlying184 (i := Tryz.t184) rfl (by kernel_rfl) (fun h => (by cases h))
theorem tab185 : TIOk Tryz.prog 185 ⟨Tryz.t5.desc, 1, 1, some [(.int .u8, 1)], false⟩ := tiOk Tryz.underlying185 (i := Tryz.t185) rfl (by kernel_rfl) (fun h => (by cases h))
theorem tab186 : TIOk Tryz.prog 186 ⟨Tryz.t5.desc, 1, 1, some [(.int .u8, 1)], false⟩ := tiOk Tryz.underlying186 (i := Tryz.t186) rfl (by kernel_rfl) (fun h => (by cases h))
theorem tab187 : TIOk Tryz.prog 187 ⟨Tryz.t187.desc, 1, 8, some [(.fix (.val .nilFunc), 1)], false⟩ := tiOk Tryz.underlying187 (i := Tryz.t187) rfl (by kernel_rfl) (fun h => (by cases h))
theorem tab188 : TIOk Tryz.prog 188 ⟨Tryz.t188.desc, 1, 8, some [(.fix (.val (.pointer none)), 1)], false⟩ := tiOk Tryz.underlying188 (i := Tryz.t188) rfl (by kernel_rfl) (fun h => (by cases h))
theorem tab189 : TIOk Tryz.prog 189 ⟨Tryz.t21.desc, 1, 4, some [(.int .i32, 1)], false⟩ := tiOk Tryz.underlying189 (i := Tryz.t189) rfl (by kernel_rfl) (fun h => (by cases h))
theorem tab190 : TIOk Tryz.prog 190 ⟨Tryz.t21.desc, 1, 4, some [(.int .i32, 1)], false⟩ := tiOk Tryz.underlying190 (i := Tryz.t190) rfl (by kernel_rfl) (fun h => (by cases h))
theorem tab191 : TIOk Tryz.prog 191 ⟨Tryz.t191.desc, 11, 48, some [(.int .u64, 2), (.int .u32, 1), (.int .u8, 4), (.fix (.val .nilFunc), 1), (.fix (.val (.pointer none)), 1), (.int .i32, 2)], false⟩ := tiOk Tryz.underlying191 (i := Tryz.t191) rfl (by kernel_rfl) (fun h => (by cases h))
theorem tab192 : TIOk Tryz.prog 192 ⟨Tryz.t191.desc, 11, 48, some [(.int .u64, 2), (.int .u32, 1), (.int .u8, 4), (.fix (.val .nilFunc), 1), (.fix (.val (.pointer none)), 1), (.int .i32, 2)], false⟩ := tiOk Tryz.underlying192 (i := Tryz.t192) rfl (by kernel_rfl) (fun h => (by cases h))
theorem tab193 : TIOk Tryz.prog 193 ⟨Tryz.t193.desc, 1, 8, some [(.fix (.val (.pointer none)), 1)], false⟩ := tiOk Tryz.underlying193 (i := Tryz.t193) rfl (by kernel_rfl) (fun h => (by cases h))
theorem tabOk : TabOk Tryz.prog tab := TabAll.ok ⟨tab0, tab1, tab2, tab3, tab4, tab5, tab6, tab7, tab8, tab9, tab10, tab11, tab12, tab13, tab14, tab15, tab16, tab17, tab18, tab19, tab20, tab21, tab22, tab23, tab24, tab25, tab26, tab27, tab28, tab29, tab30, tab31, tab32, tab33, tab34, tab35, tab36, tab37, tab38, tab39, tab40, tab41, tab42, tab43, tab44, tab45, tab46, tab47, tab48, tab49, tab50, tab51, tab52, tab53, tab54, tab55, tab56, tab57, tab58, tab59, tab60, tab61, tab62, tab63, tab64, tab65, tab66, tab67, tab68, tab69, tab70, tab71, tab72, tab73, tab74, tab75, tab76, tab77, tab78, tab79, tab80, tab81, tab82, tab83, tab84, tab85, tab86, tab87, tab88, tab89, tab90, tab91, tab92, tab93, tab94, tab95, tab96, tab97, tab98, tab99, tab100, tab101, tab102, tab103, tab104, tab105, tab106, tab107, tab108, tab109, tab110, tab111, tab112, tab113, tab114, tab115, tab116, tab117, tab118, tab119, tab120, tab121, tab122, tab123, tab124, tab125, tab126, tab127, tab128, tab129, tab130, tab131, tab132, tab133, tab134, tab135, tab136, tab137, tab138, tab139, tab140, tab141, tab142, tab143, tab144, tab145, tab146, tab147, tab148, tab149, tab150, tab151, tab152, tab153, tab154, tab155, tab156, tab157, tab158, tab159, tab160, tab161, tab162, tab163, tab164, tab165, tab166, tab167, tab168, tab169, tab170, tab171, tab172, tab173, tab174, tab175, tab176, tab177, tab178, tab179, tab180, tab181, tab182, tab183, tab184, tab185, tab186, tab187, tab188, tab189, tab190, tab191, tab192, tab193, trivial⟩

noncomputable def funs : List (Nat × Func) := [
  (2, Tryz.f2),
  (3, Tryz.f3),
  (4, Tryz.f4),
  (5, Tryz.f5),
  (6, Tryz.f6),
  (7, Tryz.f7),
  (8, Tryz.f8),
  (9, Tryz.f9),
  (10, Tryz.f10),
  (11, Tryz.f11),
  (12, Tryz.f12),
  (13, Tryz.f13),
  (14, Tryz.f14),
  (15, Tryz.f15),
  (16, Tryz.f16),
  (17, Tryz.f17),
  (18, Tryz.f18),
  (19, Tryz.f19),
  (20, Tryz.f20),
  (21, Tryz.f21),
  (22, Tryz.f22),
  (23, Tryz.f23),
  (24, Tryz.f24),
  (25, Tryz.f25),
  (26, Tryz.f26),
  (27, Tryz.f27),
  (28, Tryz.f28),
  (29, Tryz.f29),
  (30, Tryz.f30),
  (31, Tryz.f31),
  (32, Tryz.f32),
  (33, Tryz.f33),
  (34, Tryz.f34),
  (35, Tryz.f35),
  (36, Tryz.f36),
  (37, Tryz.f37),
  (38, Tryz.f38),
  (39, Tryz.f39),
  (40, Tryz.f40),
  (41, Tryz.f41),
  (42, Tryz.f42),
  (43, Tryz.f43),
  (44, Tryz.f44),
  (45, Tryz.f45),
  (46, Tryz.f46),
  (47, Tryz.f47),
  (48, Tryz.f48),
  (49, Tryz.f49),
  (50, Tryz.f50),
  (51, Tryz.f51),
  (52, Tryz.f52),
  (53, Tryz.f53),
  (54, Tryz.f54),
  (55, Tryz.f55),
  (56, Tryz.f56),
  (57, Tryz.f57),
  (58, Tryz.f58),
  (59, Tryz.f59),
  (60, Tryz.f60),
  (61, Tryz.f61),
  (62, Tryz.f62),
  (63, Tryz.f63),
  (64, Tryz.f64),
  (65, Tryz.f65),
  (66, Tryz.f66),
  (67, Tryz.f67),
  (68, Tryz.f68),
  (69, Tryz.f69),
  (70, Tryz.f70),
  (71, Tryz.f71),
  (72, Tryz.f72),
  (73, Tryz.f73),
  (74, Tryz.f74),
  (75, Tryz.f75),
  (76, Tryz.f76),
  (77, Tryz.f77),
  (78, Tryz.f78),
  (79, Tryz.f79),
  (80, Tryz.f80),
  (81, Tryz.f81),
  (82, Tryz.f82),
  (83, Tryz.f83),
  (84, Tryz.f84),
  (85, Tryz.f85),
  (86, Tryz.f86),
  (87, Tryz.f87),
  (88, Tryz.f88),
  (89, Tryz.f89),
  (90, Tryz.f90),
  (91, Tryz.f91),
  (92, Tryz.f92),
  (93, Tryz.f93),
  (94, Tryz.f94),
  (95, Tryz.f95),
  (96, Tryz.f96),
  (97, Tryz.f97),
  (98, Tryz.f98),
  (99, Tryz.f99),
  (100, Tryz.f100),
  (101, Tryz.f101),
  (102, Tryz.f102),
  (103, Tryz.f103),
  (104, Tryz.f104),
  (105, Tryz.f105),
  (106, Tryz.f106),
  (107, Tryz.f107),
  (108, Tryz.f108),
  (109, Tryz.f109),
  (110, Tryz.f110),
  (111, Tryz.f111),
  (112, Tryz.f112),
  (113, Tryz.f113),
  (114, Tryz.f114),
  (115, Tryz.f115),
  (116, Tryz.f116),
  (117, Tryz.f117),
  (118, Tryz.f118),
  (119, Tryz.f119),
  (120, Tryz.f120),
  (121, Tryz.f121),
  (122, Tryz.f122),
  (123, Tryz.f123),
  (124, Tryz.f124),
  (125, Tryz.f125),
  (126, Tryz.f126),
  (127, Tryz.f127),
  (128, Tryz.f128),
  (129, Tryz.f129),
  (130, Tryz.f130),
  (131, Tryz.f131),
  (132, Tryz.f132),
  (133, Tryz.f133),
  (134, Tryz.f134),
  (135, Tryz.f135),
  (136, Tryz.f136),
  (137, Tryz.f137),
  (138, Tryz.f138),
  (139, Tryz.f139),
  (140, Tryz.f140),
  (141, Tryz.f141),
  (142, Tryz.f142),
  (143, Tryz.f143),
  (144, Tryz.f144),
  (145, Tryz.f145),
  (146, Tryz.f146),
  (147, Tryz.f147),
  (148, Tryz.f148),
  (149, Tryz.f149)]

theorem funsOk : FunAll Tryz.prog funs := ⟨⟨Tryz.func2, ⟨Tryz.call2⟩⟩, ⟨Tryz.func3, ⟨Tryz.call3⟩⟩, ⟨Tryz.func4, ⟨Tryz.call4⟩⟩, ⟨Tryz.func5, ⟨Tryz.call5⟩⟩, ⟨Tryz.func6, ⟨Tryz.call6⟩⟩, ⟨Tryz.func7, ⟨Tryz.call7⟩⟩, ⟨Tryz.func8, ⟨Tryz.call8⟩⟩, ⟨Tryz.func9, ⟨Tryz.call9⟩⟩, ⟨Tryz.func10, ⟨Tryz.call10⟩⟩, ⟨Tryz.func11, ⟨Tryz.call11⟩⟩, ⟨Tryz.func12, ⟨Tryz.call12⟩⟩, ⟨Tryz.func13, ⟨Tryz.call13⟩⟩, ⟨Tryz.func14, ⟨Tryz.call14⟩⟩, ⟨Tryz.func15, ⟨Tryz.call15⟩⟩, ⟨Tryz.func16, ⟨Tryz.call16⟩⟩, ⟨Tryz.func17, ⟨Tryz.call17⟩⟩, ⟨Tryz.func18, ⟨Tryz.call18⟩⟩, ⟨Tryz.func19, ⟨Tryz.call19⟩⟩, ⟨Tryz.func20, ⟨Tryz.call20⟩⟩, ⟨Tryz.func21, ⟨Tryz.call21⟩⟩, ⟨Tryz.func22, ⟨Tryz.call22⟩⟩, ⟨Tryz.func23, ⟨Tryz.call23⟩⟩, ⟨Tryz.func24, ⟨Tryz.call24⟩⟩, ⟨Tryz.func25, ⟨Tryz.call25⟩⟩, ⟨Tryz.func26, ⟨Tryz.call26⟩⟩, ⟨Tryz.func27, ⟨Tryz.call27⟩⟩, ⟨Tryz.func28, ⟨Tryz.call28⟩⟩, ⟨Tryz.func29, ⟨Tryz.call29⟩⟩, ⟨Tryz.func30, ⟨Tryz.call30⟩⟩, ⟨Tryz.func31, ⟨Tryz.call31⟩⟩, ⟨Tryz.func32, ⟨Tryz.call32⟩⟩, ⟨Tryz.func33, ⟨Tryz.call33⟩⟩, ⟨Tryz.func34, ⟨Tryz.call34⟩⟩, ⟨Tryz.func35, ⟨Tryz.call35⟩⟩, ⟨Tryz.func36, ⟨Tryz.call36⟩⟩, ⟨Tryz.func37, ⟨Tryz.call37⟩⟩, ⟨Tryz.func38, ⟨Tryz.call38⟩⟩, ⟨Tryz.func39, ⟨Tryz.call39⟩⟩, ⟨Tryz.func40, ⟨Tryz.call40⟩⟩, ⟨Tryz.func41, ⟨Tryz.call41⟩⟩, ⟨Tryz.func42, ⟨Tryz.call42⟩⟩, ⟨Tryz.func43, ⟨Tryz.call43⟩⟩, ⟨Tryz.func44, ⟨Tryz.call44⟩⟩, ⟨Tryz.func45, ⟨Tryz.call45⟩⟩, ⟨Tryz.func46, ⟨Tryz.call46⟩⟩, ⟨Tryz.func47, ⟨Tryz.call47⟩⟩, ⟨Tryz.func48, ⟨Tryz.call48⟩⟩, ⟨Tryz.func49, ⟨Tryz.call49⟩⟩, ⟨Tryz.func50, ⟨Tryz.call50⟩⟩, ⟨Tryz.func51, ⟨Tryz.call51⟩⟩, ⟨Tryz.func52, ⟨Tryz.call52⟩⟩, ⟨Tryz.func53, ⟨Tryz.call53⟩⟩, ⟨Tryz.func54, ⟨Tryz.call54⟩⟩, ⟨Tryz.func55, ⟨Tryz.call55⟩⟩, ⟨Tryz.func56, ⟨Tryz.call56⟩⟩, ⟨Tryz.func57, ⟨Tryz.call57⟩⟩, ⟨Tryz.func58, ⟨Tryz.call58⟩⟩, ⟨Tryz.func59, ⟨Tryz.call59⟩⟩, ⟨Tryz.func60, ⟨Tryz.call60⟩⟩, ⟨Tryz.func61, ⟨Tryz.call61⟩⟩, ⟨Tryz.func62, ⟨Tryz.call62⟩⟩, ⟨Tryz.func63, ⟨Tryz.call63⟩⟩, ⟨Tryz.func64, ⟨Tryz.call64⟩⟩, ⟨Tryz.func65, ⟨Tryz.call65⟩⟩, ⟨Tryz.func66, ⟨Tryz.call66⟩⟩, ⟨Tryz.func67, ⟨Tryz.call67⟩⟩, ⟨Tryz.func68, ⟨Tryz.call68⟩⟩, ⟨Tryz.func69, ⟨Tryz.call69⟩⟩, ⟨Tryz.func70, ⟨Tryz.call70⟩⟩, ⟨Tryz.func71, ⟨Tryz.call71⟩⟩, ⟨Tryz.func72, ⟨Tryz.call72⟩⟩, ⟨Tryz.func73, ⟨Tryz.call73⟩⟩, ⟨Tryz.func74, ⟨Tryz.call74⟩⟩, ⟨Tryz.func75, ⟨Tryz.call75⟩⟩, ⟨Tryz.func76, ⟨Tryz.call76⟩⟩, ⟨Tryz.func77, ⟨Tryz.call77⟩⟩, ⟨Tryz.func78, ⟨Tryz.call78⟩⟩, ⟨Tryz.func79, ⟨Tryz.call79⟩⟩, ⟨Tryz.func80, ⟨Tryz.call80⟩⟩, ⟨Tryz.func81, ⟨Tryz.call81⟩⟩, ⟨Tryz.func82, ⟨Tryz.call82⟩⟩, ⟨Tryz.func83, ⟨Tryz.call83⟩⟩, ⟨Tryz.func84, ⟨Tryz.call84⟩⟩, ⟨Tryz.func85, ⟨Tryz.call85⟩⟩, ⟨Tryz.func86, ⟨Tryz.call86⟩⟩, ⟨Tryz.func87, ⟨Tryz.call87⟩⟩, ⟨Tryz.func88, ⟨Tryz.call88⟩⟩, ⟨Tryz.func89, ⟨Tryz.call89⟩⟩, ⟨Tryz.func90, ⟨Tryz.call90⟩⟩, ⟨Tryz.func91, ⟨Tryz.call91⟩⟩, ⟨Tryz.func92, ⟨Tryz.call92⟩⟩, ⟨Tryz.func93, ⟨Tryz.call93⟩⟩, ⟨Tryz.func94, ⟨Tryz.call94⟩⟩, ⟨Tryz.func95, ⟨Tryz.call95⟩⟩, ⟨Tryz.func96, ⟨Tryz.call96⟩⟩, ⟨Tryz.func97, ⟨Tryz.call97⟩⟩, ⟨Tryz.func98, ⟨Tryz.call98⟩⟩, ⟨Tryz.func99, ⟨Tryz.call99⟩⟩, ⟨Tryz.func100, ⟨Tryz.call100⟩⟩, ⟨Tryz.func101, ⟨Tryz.call101⟩⟩, ⟨Tryz.func102, ⟨Tryz.call102⟩⟩, ⟨Tryz.func103, ⟨Tryz.call103⟩⟩, ⟨Tryz.func104, ⟨Tryz.call104⟩⟩, ⟨Tryz.func105, ⟨Tryz.call105⟩⟩, ⟨Tryz.func106, ⟨Tryz.call106⟩⟩, ⟨Tryz.func107, ⟨Tryz.call107⟩⟩, ⟨Tryz.func108, ⟨Tryz.call108⟩⟩, ⟨Tryz.func109, ⟨Tryz.call109⟩⟩, ⟨Tryz.func110, ⟨Tryz.call110⟩⟩, ⟨Tryz.func111, ⟨Tryz.call111⟩⟩, ⟨Tryz.func112, ⟨Tryz.call112⟩⟩, ⟨Tryz.func113, ⟨Tryz.call113⟩⟩, ⟨Tryz.func114, ⟨Tryz.call114⟩⟩, ⟨Tryz.func115, ⟨Tryz.call115⟩⟩, ⟨Tryz.func116, ⟨Tryz.call116⟩⟩, ⟨Tryz.func117, ⟨Tryz.call117⟩⟩, ⟨Tryz.func118, ⟨Tryz.call118⟩⟩, ⟨Tryz.func119, ⟨Tryz.call119⟩⟩, ⟨Tryz.func120, ⟨Tryz.call120⟩⟩, ⟨Tryz.func121, ⟨Tryz.call121⟩⟩, ⟨Tryz.func122, ⟨Tryz.call122⟩⟩, ⟨Tryz.func123, ⟨Tryz.call123⟩⟩, ⟨Tryz.func124, ⟨Tryz.call124⟩⟩, ⟨Tryz.func125, ⟨Tryz.call125⟩⟩, ⟨Tryz.func126, ⟨Tryz.call126⟩⟩, ⟨Tryz.func127, ⟨Tryz.call127⟩⟩, ⟨Tryz.func128, ⟨Tryz.call128⟩⟩, ⟨Tryz.func129, ⟨Tryz.call129⟩⟩, ⟨Tryz.func130, ⟨Tryz.call130⟩⟩, ⟨Tryz.func131, ⟨Tryz.call131⟩⟩, ⟨Tryz.func132, ⟨Tryz.call132⟩⟩, ⟨Tryz.func133, ⟨Tryz.call133⟩⟩, ⟨Tryz.func134, ⟨Tryz.call134⟩⟩, ⟨Tryz.func135, ⟨Tryz.call135⟩⟩, ⟨Tryz.func136, ⟨Tryz.call136⟩⟩, ⟨Tryz.func137, ⟨Tryz.call137⟩⟩, ⟨Tryz.func138, ⟨Tryz.call138⟩⟩, ⟨Tryz.func139, ⟨Tryz.call139⟩⟩, ⟨Tryz.func140, ⟨Tryz.call140⟩⟩, ⟨Tryz.func141, ⟨Tryz.call141⟩⟩, ⟨Tryz.func142, ⟨Tryz.call142⟩⟩, ⟨Tryz.func143, ⟨Tryz.call143⟩⟩, ⟨Tryz.func144, ⟨Tryz.call144⟩⟩, ⟨Tryz.func145, ⟨Tryz.call145⟩⟩, ⟨Tryz.func146, ⟨Tryz.call146⟩⟩, ⟨Tryz.func147, ⟨Tryz.call147⟩⟩, ⟨Tryz.func148, ⟨Tryz.call148⟩⟩, ⟨Tryz.func149, ⟨Tryz.call149⟩⟩, trivial⟩

theorem mixed : Tryz.prog.follows .mixedOrders = true := by kernel_rfl

end Go.Proofs.YtpndnejabebfeaaGreat
