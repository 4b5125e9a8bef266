/- Functions of the program, as den reads them. -/
import Derived.Test.YtajdklfckcgifaaGreatA
namespace Den
open Go Go.Proofs
set_option maxRecDepth 1000000

/-- ticketline/ticketlinelaw27.DescendLayouts: the round 0 -/
@[reducible] noncomputable def B3x0 : AC := (.seq
 (.seq
 (.ops 25 [⟨some 190, none, .mv (.t 20), []⟩,
 ⟨some 191, none, .mv (.t 18), []⟩,
 ⟨some 192, none, .len .slice (.t 191), []⟩,
 ⟨some 193, none, .bin .lss (.t 190) (.t 192), []⟩])
 (.cond (.t 193)
 .skip
 (.exit 0)))
 (.seq
 (.block 1
 (.seq
 (.ops 27 [⟨some 196, none, .mv (.t 18), []⟩,
 ⟨some 197, none, .mv (.t 20), []⟩,
 ⟨some 198, none, .ixa none 1 (.t 196) (.t 197), []⟩,
 ⟨some 199, none, .ld 1 false (.t 198), []⟩,
 ⟨some 200, none, .bin .neq (.t 199) (.c (.int .u64 0)), []⟩])
 (.cond (.t 200)
 (.seq
 (.ops 28 [⟨some 4, none, .mv (.c (.bool false)), []⟩])
 .ret)
 .skip)))
 (.ops 26 [⟨some 194, none, .mv (.t 20), []⟩,
 ⟨some 195, none, .bin .add (.t 194) (.c (.int .i64 1)), []⟩,
 ⟨some 20, none, .mv (.t 195), []⟩])))

/-- ticketline/ticketlinelaw27.DescendLayouts -/
noncomputable def F3 : AFn := ⟨240, [.tmp 4], (.seq
 (.ops 0 [⟨some 2, none, .box 2 (.t 0) false, []⟩,
 ⟨some 4, none, .mv (.c (.bool false)), []⟩])
 (.seq
 (.seq
 (.ops 1 [⟨some 21, none, .ld 2 true (.t 2), []⟩,
 ⟨some 22, none, .call 5 [.t 21], []⟩,
 ⟨some 23, none, .un .not (.t 22), []⟩])
 (.cond (.t 23)
 (.seq
 (.ops 2 [⟨some 25, none, .ld 2 true (.t 2), []⟩,
 ⟨some 26, none, .call 6 [.t 25], []⟩,
 ⟨some 24, none, .mv (.t 26), []⟩,
 ⟨some 27, none, .ext (.t 24) 0, []⟩,
 ⟨some 28, none, .ext (.t 24) 1, []⟩,
 ⟨some 5, none, .mv (.t 27), []⟩,
 ⟨some 6, none, .mv (.t 28), []⟩])
 (.seq
 (.ops 3 [⟨some 30, none, .ld 2 true (.t 2), []⟩,
 ⟨some 31, none, .call 7 [.t 30], []⟩,
 ⟨some 29, none, .mv (.t 31), []⟩,
 ⟨some 32, none, .ext (.t 29) 0, []⟩,
 ⟨some 33, none, .ext (.t 29) 1, []⟩,
 ⟨some 7, none, .mv (.t 32), []⟩,
 ⟨some 8, none, .mv (.t 33), []⟩])
 (.seq
 (.ops 4 [⟨some 34, none, .ld 2 true (.t 2), []⟩,
 ⟨some 35, none, .call 8 [.t 34, .c (.int .i64 0), .c (.int .i64 2)], []⟩,
 ⟨some 36, none, .mv (.t 35), []⟩,
 ⟨some 37, some (36, true), .ld 2 true (.t 2), []⟩,
 ⟨some 38, some (36, true), .mv (.t 1), []⟩,
 ⟨some 39, some (36, true), .call 9 [.t 37, .t 38, .c (.int .i64 0), .c (.int .i64 2)], []⟩,
 ⟨some 40, none, .pick (.t 36) (.t 39) (.c (.bool false)), []⟩,
 ⟨some 41, none, .mv (.t 40), []⟩,
 ⟨some 42, some (41, true), .mv (.t 5), []⟩,
 ⟨some 43, some (41, true), .eqn .ptr false (.t 42), []⟩,
 ⟨some 44, none, .pick (.t 41) (.t 43) (.c (.bool false)), []⟩,
 ⟨some 45, none, .mv (.t 44), []⟩,
 ⟨some 46, some (45, true), .mv (.t 7), []⟩,
 ⟨some 47, some (45, true), .eqn .ptr false (.t 46), []⟩,
 ⟨some 48, none, .pick (.t 45) (.t 47) (.c (.bool false)), []⟩,
 ⟨some 49, none, .mv (.t 48), []⟩,
 ⟨some 50, some (49, true), .mv (.t 6), []⟩,
 ⟨some 51, some (49, true), .bin .eql (.t 50) (.c (.int .i64 2)), []⟩,
 ⟨some 52, none, .pick (.t 49) (.t 51) (.c (.bool false)), []⟩,
 ⟨some 53, none, .mv (.t 52), []⟩,
 ⟨some 54, some (53, true), .mv (.t 8), []⟩,
 ⟨some 55, some (53, true), .bin .eql (.t 54) (.c (.int .i64 2)), []⟩,
 ⟨some 56, none, .pick (.t 53) (.t 55) (.c (.bool false)), []⟩,
 ⟨some 57, none, .mv (.t 56), []⟩,
 ⟨some 58, some (57, true), .call 10 [], []⟩,
 ⟨some 59, none, .pick (.t 57) (.t 58) (.c (.bool false)), []⟩,
 ⟨some 4, none, .mv (.t 59), []⟩])
 .ret)))
 .skip))
 (.seq
 (.seq
 (.ops 5 [⟨some 60, none, .mv (.t 1), []⟩,
 ⟨some 61, none, .bin .lss (.t 60) (.c (.int .i64 0)), []⟩,
 ⟨some 62, none, .mv (.t 61), []⟩,
 ⟨some 63, some (62, false), .mv (.t 1), []⟩,
 ⟨some 64, some (62, false), .fld 0 (.t 2), []⟩,
 ⟨some 65, some (62, false), .ld 1 false (.t 64), []⟩,
 ⟨some 66, some (62, false), .bin .gtr (.t 63) (.t 65), []⟩,
 ⟨some 67, none, .pick (.t 62) (.c (.bool true)) (.t 66), []⟩])
 (.cond (.t 67)
 (.seq
 (.ops 6 [⟨some 68, none, .ld 2 true (.t 2), []⟩,
 ⟨some 69, none, .mv (.t 1), []⟩,
 ⟨some 70, none, .call 9 [.t 68, .t 69, .c (.int .i64 0), .c (.int .i64 3)], []⟩,
 ⟨some 71, none, .un .not (.t 70), []⟩])
 (.cond (.t 71)
 (.seq
 (.ops 7 [⟨some 4, none, .mv (.c (.bool false)), []⟩])
 .ret)
 .skip))
 (.seq
 (.ops 8 [⟨some 72, none, .ld 2 true (.t 2), []⟩,
 ⟨some 73, none, .mv (.t 1), []⟩,
 ⟨some 74, none, .mv (.t 1), []⟩,
 ⟨some 75, none, .call 11 [.t 74], [(72, .ld 2 true (.t 2))]⟩,
 ⟨some 76, none, .call 9 [.t 72, .t 73, .t 75, .c (.int .i64 0)], []⟩,
 ⟨some 77, none, .un .not (.t 76), []⟩])
 (.cond (.t 77)
 (.seq
 (.ops 9 [⟨some 4, none, .mv (.c (.bool false)), []⟩])
 .ret)
 .skip))))
 (.seq
 (.ops 10 [⟨some 79, none, .ld 2 true (.t 2), []⟩,
 ⟨some 80, none, .call 6 [.t 79], []⟩,
 ⟨some 78, none, .mv (.t 80), []⟩,
 ⟨some 81, none, .ext (.t 78) 0, []⟩,
 ⟨some 82, none, .ext (.t 78) 1, []⟩,
 ⟨some 9, none, .mv (.t 81), []⟩,
 ⟨some 10, none, .mv (.t 82), []⟩])
 (.seq
 (.seq
 (.ops 11 [⟨some 83, none, .ld 2 true (.t 2), []⟩,
 ⟨some 84, none, .ld 2 true (.t 2), []⟩,
 ⟨some 85, none, .call 12 [.t 84], [(83, .ld 2 true (.t 2))]⟩,
 ⟨some 86, none, .call 8 [.t 83, .t 85, .c (.int .i64 0)], []⟩,
 ⟨some 87, none, .un .not (.t 86), []⟩,
 ⟨some 88, none, .mv (.t 87), []⟩,
 ⟨some 89, some (88, false), .mv (.t 9), []⟩,
 ⟨some 90, some (88, false), .eqn .ptr false (.t 89), []⟩,
 ⟨some 91, none, .pick (.t 88) (.c (.bool true)) (.t 90), []⟩,
 ⟨some 92, none, .mv (.t 91), []⟩,
 ⟨some 93, some (92, false), .mv (.t 10), []⟩,
 ⟨some 94, some (92, false), .bin .neq (.t 93) (.c (.int .i64 0)), []⟩,
 ⟨some 95, none, .pick (.t 92) (.c (.bool true)) (.t 94), []⟩,
 ⟨some 96, none, .mv (.t 95), []⟩,
 ⟨some 97, some (96, false), .mv (.t 9), []⟩,
 ⟨some 99, some (96, false), .fld 0 (.t 2), []⟩,
 ⟨some 100, some (96, false), .ld 1 false (.t 99), []⟩,
 ⟨some 101, some (96, false), .bin .mul (.c (.int .i64 128)) (.t 100), []⟩,
 ⟨some 102, some (96, false), .bin .add (.c (.int .i64 16)) (.t 101), []⟩,
 ⟨some 98, some (96, false), .call 13 [.t 97], [(100, .ld 1 false (.t 99))]⟩,
 ⟨some 103, some (96, false), .bin .neq (.t 98) (.t 102), []⟩,
 ⟨some 104, none, .pick (.t 96) (.c (.bool true)) (.t 103), []⟩,
 ⟨some 105, none, .mv (.t 104), []⟩,
 ⟨some 106, some (105, false), .mv (.t 9), []⟩,
 ⟨some 108, some (105, false), .fld 1 (.t 2), []⟩,
 ⟨some 109, some (105, false), .ld 1 false (.t 108), []⟩,
 ⟨some 107, some (105, false), .call 14 [.t 106], [(109, .ld 1 false (.t 108))]⟩,
 ⟨some 110, some (105, false), .bin .neq (.t 107) (.t 109), []⟩,
 ⟨some 111, none, .pick (.t 105) (.c (.bool true)) (.t 110), []⟩,
 ⟨some 112, none, .mv (.t 111), []⟩,
 ⟨some 113, some (112, false), .mv (.t 9), []⟩,
 ⟨some 115, some (112, false), .fld 1 (.t 2), []⟩,
 ⟨some 116, some (112, false), .ld 1 false (.t 115), []⟩,
 ⟨some 117, some (112, false), .bin .mul (.c (.int .i64 6)) (.t 116), []⟩,
 ⟨some 114, some (112, false), .call 15 [.t 113], [(116, .ld 1 false (.t 115))]⟩,
 ⟨some 118, some (112, false), .bin .neq (.t 114) (.t 117), []⟩,
 ⟨some 119, none, .pick (.t 112) (.c (.bool true)) (.t 118), []⟩])
 (.cond (.t 119)
 (.seq
 (.ops 12 [⟨some 4, none, .mv (.c (.bool false)), []⟩])
 .ret)
 .skip))
 (.seq
 (.seq
 (.ops 13 [⟨some 120, none, .fld 0 (.t 2), []⟩,
 ⟨some 121, none, .ld 1 false (.t 120), []⟩,
 ⟨some 122, none, .bin .gtr (.t 121) (.c (.int .i64 20)), []⟩])
 (.cond (.t 122)
 (.seq
 (.ops 14 [⟨some 123, none, .call 10 [], []⟩,
 ⟨some 4, none, .mv (.t 123), []⟩])
 .ret)
 .skip))
 (.seq
 (.ops 15 [⟨some 125, none, .ld 2 true (.t 2), []⟩,
 ⟨some 126, none, .call 7 [.t 125], []⟩,
 ⟨some 124, none, .mv (.t 126), []⟩,
 ⟨some 127, none, .ext (.t 124) 0, []⟩,
 ⟨some 128, none, .ext (.t 124) 1, []⟩,
 ⟨some 11, none, .mv (.t 127), []⟩,
 ⟨some 10, none, .mv (.t 128), []⟩])
 (.seq
 (.seq
 (.ops 16 [⟨some 129, none, .mv (.t 11), []⟩,
 ⟨some 130, none, .eqn .ptr false (.t 129), []⟩,
 ⟨some 131, none, .mv (.t 130), []⟩,
 ⟨some 132, some (131, false), .mv (.t 10), []⟩,
 ⟨some 133, some (131, false), .bin .neq (.t 132) (.c (.int .i64 0)), []⟩,
 ⟨some 134, none, .pick (.t 131) (.c (.bool true)) (.t 133), []⟩,
 ⟨some 135, none, .mv (.t 134), []⟩,
 ⟨some 136, some (135, false), .mv (.t 11), []⟩,
 ⟨some 138, some (135, false), .ld 2 true (.t 2), []⟩,
 ⟨some 137, some (135, false), .call 16 [.t 136], [(138, .ld 2 true (.t 2))]⟩,
 ⟨some 139, some (135, false), .call 12 [.t 138], []⟩,
 ⟨some 140, some (135, false), .bin .neq (.t 137) (.t 139), []⟩,
 ⟨some 141, none, .pick (.t 135) (.c (.bool true)) (.t 140), []⟩])
 (.cond (.t 141)
 (.seq
 (.ops 17 [⟨some 4, none, .mv (.c (.bool false)), []⟩])
 .ret)
 .skip))
 (.seq
 (.ops 18 [⟨some 143, none, .mv (.t 11), []⟩,
 ⟨some 144, none, .call 17 [.t 143], []⟩,
 ⟨some 142, none, .mv (.t 144), []⟩,
 ⟨some 145, none, .ext (.t 142) 0, []⟩,
 ⟨some 146, none, .ext (.t 142) 1, []⟩,
 ⟨some 12, none, .mv (.t 145), []⟩,
 ⟨some 10, none, .mv (.t 146), []⟩])
 (.seq
 (.seq
 (.ops 19 [⟨some 147, none, .mv (.t 12), []⟩,
 ⟨some 148, none, .eqn .ptr false (.t 147), []⟩,
 ⟨some 149, none, .mv (.t 148), []⟩,
 ⟨some 150, some (149, false), .mv (.t 10), []⟩,
 ⟨some 151, some (149, false), .bin .neq (.t 150) (.c (.int .i64 0)), []⟩,
 ⟨some 152, none, .pick (.t 149) (.c (.bool true)) (.t 151), []⟩,
 ⟨some 153, none, .mv (.t 152), []⟩,
 ⟨some 154, some (153, false), .mv (.t 12), []⟩,
 ⟨some 155, some (153, false), .call 18 [.t 154], []⟩,
 ⟨some 156, some (153, false), .bin .lss (.t 155) (.c (.int .i64 1)), []⟩,
 ⟨some 157, none, .pick (.t 153) (.c (.bool true)) (.t 156), []⟩,
 ⟨some 158, none, .mv (.t 157), []⟩,
 ⟨some 159, some (158, false), .mv (.t 12), []⟩,
 ⟨some 161, some (158, false), .fld 0 (.t 2), []⟩,
 ⟨some 162, some (158, false), .ld 1 false (.t 161), []⟩,
 ⟨some 160, some (158, false), .call 18 [.t 159], [(162, .ld 1 false (.t 161))]⟩,
 ⟨some 163, some (158, false), .bin .gtr (.t 160) (.t 162), []⟩,
 ⟨some 164, none, .pick (.t 158) (.c (.bool true)) (.t 163), []⟩])
 (.cond (.t 164)
 (.seq
 (.ops 20 [⟨some 4, none, .mv (.c (.bool false)), []⟩])
 .ret)
 .skip))
 (.seq
 (.ops 21 [⟨some 166, none, .mv (.t 12), []⟩,
 ⟨some 167, none, .call 19 [.t 166], []⟩,
 ⟨some 165, none, .mv (.t 167), []⟩,
 ⟨some 168, none, .ext (.t 165) 0, []⟩,
 ⟨some 169, none, .ext (.t 165) 1, []⟩,
 ⟨some 170, none, .ext (.t 165) 2, []⟩,
 ⟨some 171, none, .ext (.t 165) 3, []⟩,
 ⟨some 13, none, .mv (.t 168), []⟩,
 ⟨some 14, none, .mv (.t 169), []⟩,
 ⟨some 15, none, .mv (.t 170), []⟩,
 ⟨some 16, none, .mv (.t 171), []⟩])
 (.seq
 (.ops 22 [⟨some 173, none, .mv (.t 12), []⟩,
 ⟨some 174, none, .mv (.t 12), []⟩,
 ⟨some 175, none, .call 18 [.t 174], []⟩,
 ⟨some 176, none, .call 20 [.t 173, .t 175], []⟩,
 ⟨some 172, none, .mv (.t 176), []⟩,
 ⟨some 177, none, .ext (.t 172) 0, []⟩,
 ⟨some 178, none, .ext (.t 172) 1, []⟩,
 ⟨some 17, none, .alloc (List.replicate 128 (.int .u64 0)) false, []⟩,
 ⟨none, none, .st 128 (.t 17) (.t 177), []⟩,
 ⟨some 10, none, .mv (.t 178), []⟩])
 (.seq
 (.ops 23 [⟨some 180, none, .mv (.t 11), []⟩,
 ⟨some 181, none, .fld 0 (.t 2), []⟩,
 ⟨some 182, none, .ld 1 false (.t 181), []⟩,
 ⟨some 183, none, .bin .mul (.c (.int .i64 128)) (.t 182), []⟩,
 ⟨some 184, none, .bin .add (.c (.int .i64 16)) (.t 183), []⟩,
 ⟨some 185, none, .mv (.t 11), []⟩,
 ⟨some 186, none, .call 16 [.t 185], [(182, .ld 1 false (.t 181))]⟩,
 ⟨some 187, none, .call 21 [.t 180, .t 184, .t 186], []⟩,
 ⟨some 179, none, .mv (.t 187), []⟩,
 ⟨some 188, none, .ext (.t 179) 0, []⟩,
 ⟨some 189, none, .ext (.t 179) 1, []⟩,
 ⟨some 18, none, .mv (.t 188), []⟩,
 ⟨some 19, none, .mv (.t 189), []⟩])
 (.seq
 (.seq
 (.ops 24 [⟨some 20, none, .mv (.c (.int .i64 0)), []⟩])
 (.block 0
 (.loop [] B3x0)))
 (.seq
 (.ops 29 [⟨some 201, none, .mv (.t 13), []⟩,
 ⟨some 202, none, .fld 0 (.t 2), []⟩,
 ⟨some 203, none, .ld 1 false (.t 202), []⟩,
 ⟨some 204, none, .bin .eql (.t 201) (.t 203), []⟩,
 ⟨some 205, none, .mv (.t 204), []⟩,
 ⟨some 206, some (205, true), .mv (.t 14), []⟩,
 ⟨some 207, some (205, true), .mv (.t 13), []⟩,
 ⟨some 208, some (205, true), .bin .sub (.t 207) (.c (.int .i64 1)), []⟩,
 ⟨some 209, some (205, true), .bin .eql (.t 206) (.t 208), []⟩,
 ⟨some 210, none, .pick (.t 205) (.t 209) (.c (.bool false)), []⟩,
 ⟨some 211, none, .mv (.t 210), []⟩,
 ⟨some 212, some (211, true), .mv (.t 15), []⟩,
 ⟨some 213, some (211, true), .bin .eql (.t 212) (.c (.int .i64 1)), []⟩,
 ⟨some 214, none, .pick (.t 211) (.t 213) (.c (.bool false)), []⟩,
 ⟨some 215, none, .mv (.t 214), []⟩,
 ⟨some 216, some (215, true), .mv (.t 16), []⟩,
 ⟨some 217, some (215, true), .bin .eql (.t 216) (.c (.int .i64 0)), []⟩,
 ⟨some 218, none, .pick (.t 215) (.t 217) (.c (.bool false)), []⟩,
 ⟨some 219, none, .mv (.t 218), []⟩,
 ⟨some 220, some (219, true), .mv (.t 10), []⟩,
 ⟨some 221, some (219, true), .bin .eql (.t 220) (.c (.int .i64 0)), []⟩,
 ⟨some 222, none, .pick (.t 219) (.t 221) (.c (.bool false)), []⟩,
 ⟨some 223, none, .mv (.t 222), []⟩,
 ⟨some 224, some (223, true), .mv (.t 19), []⟩,
 ⟨some 225, some (223, true), .bin .eql (.t 224) (.c (.int .i64 0)), []⟩,
 ⟨some 226, none, .pick (.t 223) (.t 225) (.c (.bool false)), []⟩,
 ⟨some 227, none, .mv (.t 226), []⟩,
 ⟨some 228, some (227, true), .ld 128 true (.t 17), []⟩,
 ⟨some 229, some (227, true), .call 22 [.t 228], []⟩,
 ⟨some 230, some (227, true), .bin .eql (.t 229) (.c (.int .i64 0)), []⟩,
 ⟨some 231, none, .pick (.t 227) (.t 230) (.c (.bool false)), []⟩,
 ⟨some 232, none, .mv (.t 231), []⟩,
 ⟨some 233, some (232, true), .ld 128 true (.t 17), []⟩,
 ⟨some 234, some (232, true), .call 23 [.t 233], []⟩,
 ⟨some 235, some (232, true), .bin .eql (.t 234) (.c (.int .i64 0)), []⟩,
 ⟨some 236, none, .pick (.t 232) (.t 235) (.c (.bool false)), []⟩,
 ⟨some 237, none, .mv (.t 236), []⟩,
 ⟨some 238, some (237, true), .call 10 [], []⟩,
 ⟨some 239, none, .pick (.t 237) (.t 238) (.c (.bool false)), []⟩,
 ⟨some 4, none, .mv (.t 239), []⟩])
 .ret)))))))))))))))⟩
theorem F3_code : cfgA.code 3 = some F3 := by kernel_rfl

/-- ticketline/ticketlineref27.Allowed -/
noncomputable def F5 : AFn := ⟨21, [.tmp 2], (.seq
 (.ops 0 [⟨some 1, none, .box 2 (.t 0) false, []⟩,
 ⟨some 2, none, .mv (.c (.bool false)), []⟩])
 (.seq
 (.ops 1 [⟨some 3, none, .fld 0 (.t 1), []⟩,
 ⟨some 4, none, .ld 1 false (.t 3), []⟩,
 ⟨some 5, none, .bin .geq (.t 4) (.c (.int .i64 1)), []⟩,
 ⟨some 6, none, .mv (.t 5), []⟩,
 ⟨some 7, some (6, true), .fld 0 (.t 1), []⟩,
 ⟨some 8, some (6, true), .ld 1 false (.t 7), []⟩,
 ⟨some 9, some (6, true), .bin .leq (.t 8) (.c (.int .i64 511)), []⟩,
 ⟨some 10, none, .pick (.t 6) (.t 9) (.c (.bool false)), []⟩,
 ⟨some 11, none, .mv (.t 10), []⟩,
 ⟨some 12, some (11, true), .fld 1 (.t 1), []⟩,
 ⟨some 13, some (11, true), .ld 1 false (.t 12), []⟩,
 ⟨some 14, some (11, true), .bin .geq (.t 13) (.c (.int .i64 1)), []⟩,
 ⟨some 15, none, .pick (.t 11) (.t 14) (.c (.bool false)), []⟩,
 ⟨some 16, none, .mv (.t 15), []⟩,
 ⟨some 17, some (16, true), .fld 1 (.t 1), []⟩,
 ⟨some 18, some (16, true), .ld 1 false (.t 17), []⟩,
 ⟨some 19, some (16, true), .bin .leq (.t 18) (.c (.int .i64 17)), []⟩,
 ⟨some 20, none, .pick (.t 16) (.t 19) (.c (.bool false)), []⟩,
 ⟨some 2, none, .mv (.t 20), []⟩])
 .ret))⟩
theorem F5_code : cfgA.code 5 = some F5 := by kernel_rfl

/-- ticketline/descend.Nodes -/
noncomputable def F6 : AFn := ⟨14, [.tmp 2, .tmp 3], (.seq
 (.ops 0 [⟨some 1, none, .box 2 (.t 0) false, []⟩,
 ⟨some 2, none, .mv (.c (.nilp)), []⟩,
 ⟨some 3, none, .mv (.c (.int .i64 0)), []⟩])
 (.seq
 (.seq
 (.ops 1 [⟨some 4, none, .ld 2 true (.t 1), []⟩,
 ⟨some 5, none, .call 38 [.t 4], []⟩,
 ⟨some 6, none, .un .not (.t 5), []⟩])
 (.cond (.t 6)
 (.seq
 (.ops 2 [⟨some 2, none, .mv (.c (.nilp)), []⟩,
 ⟨some 3, none, .mv (.c (.int .i64 2)), []⟩])
 .ret)
 .skip))
 (.seq
 (.ops 3 [⟨some 7, none, .ld 2 true (.t 1), []⟩,
 ⟨some 9, none, .fld 1 (.t 1), []⟩,
 ⟨some 10, none, .ld 1 false (.t 9), []⟩,
 ⟨some 8, none, .call 40 [.t 7], [(10, .ld 1 false (.t 9))]⟩,
 ⟨some 11, none, .call 39 [.t 8, .t 10], []⟩,
 ⟨some 12, none, .ext (.t 11) 0, []⟩,
 ⟨some 13, none, .ext (.t 11) 1, []⟩,
 ⟨some 2, none, .mv (.t 12), []⟩,
 ⟨some 3, none, .mv (.t 13), []⟩])
 .ret)))⟩
theorem F6_code : cfgA.code 6 = some F6 := by kernel_rfl

/-- ticketline/descend.Format -/
noncomputable def F7 : AFn := ⟨61, [.tmp 2, .tmp 3], (.seq
 (.ops 0 [⟨some 1, none, .box 2 (.t 0) false, []⟩,
 ⟨some 2, none, .mv (.c (.nilp)), []⟩,
 ⟨some 3, none, .mv (.c (.int .i64 0)), []⟩])
 (.seq
 (.ops 1 [⟨some 12, none, .ld 2 true (.t 1), []⟩,
 ⟨some 13, none, .call 41 [.t 12], []⟩,
 ⟨some 11, none, .mv (.t 13), []⟩,
 ⟨some 14, none, .ext (.t 11) 0, []⟩,
 ⟨some 15, none, .ext (.t 11) 1, []⟩,
 ⟨some 4, none, .mv (.t 14), []⟩,
 ⟨some 5, none, .mv (.t 15), []⟩])
 (.seq
 (.seq
 (.ops 2 [⟨some 16, none, .mv (.t 5), []⟩,
 ⟨some 17, none, .bin .neq (.t 16) (.c (.int .i64 0)), []⟩])
 (.cond (.t 17)
 (.seq
 (.ops 3 [⟨some 18, none, .mv (.t 5), []⟩,
 ⟨some 2, none, .mv (.c (.nilp)), []⟩,
 ⟨some 3, none, .mv (.t 18), []⟩])
 .ret)
 .skip))
 (.seq
 (.ops 4 [⟨some 20, none, .mv (.t 4), []⟩,
 ⟨some 21, none, .call 42 [.t 20], []⟩,
 ⟨some 19, none, .mv (.t 21), []⟩,
 ⟨some 22, none, .ext (.t 19) 0, []⟩,
 ⟨some 23, none, .ext (.t 19) 1, []⟩,
 ⟨some 6, none, .mv (.t 22), []⟩,
 ⟨some 5, none, .mv (.t 23), []⟩])
 (.seq
 (.seq
 (.ops 5 [⟨some 24, none, .mv (.t 5), []⟩,
 ⟨some 25, none, .bin .neq (.t 24) (.c (.int .i64 0)), []⟩])
 (.cond (.t 25)
 (.seq
 (.ops 6 [⟨some 26, none, .mv (.t 5), []⟩,
 ⟨some 2, none, .mv (.c (.nilp)), []⟩,
 ⟨some 3, none, .mv (.t 26), []⟩])
 .ret)
 .skip))
 (.seq
 (.ops 7 [⟨some 28, none, .mv (.t 6), []⟩,
 ⟨some 29, none, .fld 0 (.t 1), []⟩,
 ⟨some 30, none, .ld 1 false (.t 29), []⟩,
 ⟨some 31, none, .call 43 [.t 28, .t 30], []⟩,
 ⟨some 27, none, .mv (.t 31), []⟩,
 ⟨some 32, none, .ext (.t 27) 0, []⟩,
 ⟨some 33, none, .ext (.t 27) 1, []⟩,
 ⟨some 7, none, .mv (.t 32), []⟩,
 ⟨some 5, none, .mv (.t 33), []⟩])
 (.seq
 (.seq
 (.ops 8 [⟨some 34, none, .mv (.t 5), []⟩,
 ⟨some 35, none, .bin .neq (.t 34) (.c (.int .i64 0)), []⟩])
 (.cond (.t 35)
 (.seq
 (.ops 9 [⟨some 36, none, .mv (.t 5), []⟩,
 ⟨some 2, none, .mv (.c (.nilp)), []⟩,
 ⟨some 3, none, .mv (.t 36), []⟩])
 .ret)
 .skip))
 (.seq
 (.ops 10 [⟨some 38, none, .call 25 [.c (.int .i64 0), .c (.str []), .c (.str [])], []⟩,
 ⟨some 37, none, .mv (.t 38), []⟩,
 ⟨some 39, none, .ext (.t 37) 0, []⟩,
 ⟨some 40, none, .ext (.t 37) 1, []⟩,
 ⟨some 8, none, .alloc (List.replicate 128 (.int .u64 0)) false, []⟩,
 ⟨none, none, .st 128 (.t 8) (.t 39), []⟩,
 ⟨some 5, none, .mv (.t 40), []⟩])
 (.seq
 (.seq
 (.ops 11 [⟨some 41, none, .mv (.t 5), []⟩,
 ⟨some 42, none, .bin .neq (.t 41) (.c (.int .i64 0)), []⟩])
 (.cond (.t 42)
 (.seq
 (.ops 12 [⟨some 43, none, .mv (.t 5), []⟩,
 ⟨some 2, none, .mv (.c (.nilp)), []⟩,
 ⟨some 3, none, .mv (.t 43), []⟩])
 .ret)
 .skip))
 (.seq
 (.ops 13 [⟨some 45, none, .mv (.t 7), []⟩,
 ⟨some 46, none, .ld 128 true (.t 8), []⟩,
 ⟨some 47, none, .call 27 [.t 45, .t 46], []⟩,
 ⟨some 44, none, .mv (.t 47), []⟩,
 ⟨some 48, none, .ext (.t 44) 0, []⟩,
 ⟨some 49, none, .ext (.t 44) 1, []⟩,
 ⟨some 9, none, .mv (.t 48), []⟩,
 ⟨some 5, none, .mv (.t 49), []⟩])
 (.seq
 (.seq
 (.ops 14 [⟨some 50, none, .mv (.t 5), []⟩,
 ⟨some 51, none, .bin .neq (.t 50) (.c (.int .i64 0)), []⟩])
 (.cond (.t 51)
 (.seq
 (.ops 15 [⟨some 52, none, .mv (.t 5), []⟩,
 ⟨some 2, none, .mv (.c (.nilp)), []⟩,
 ⟨some 3, none, .mv (.t 52), []⟩])
 .ret)
 .skip))
 (.seq
 (.seq
 (.ops 16 [⟨some 53, none, .mv (.t 7), []⟩,
 ⟨some 54, none, .mv (.t 9), []⟩,
 ⟨some 55, none, .call 44 [.t 53, .t 54], []⟩,
 ⟨some 10, none, .mv (.t 55), []⟩])
 (.seq
 (.ops 17 [⟨some 56, none, .mv (.t 10), []⟩,
 ⟨some 57, none, .bin .neq (.t 56) (.c (.int .i64 0)), []⟩])
 (.cond (.t 57)
 (.seq
 (.ops 18 [⟨some 58, none, .mv (.t 10), []⟩,
 ⟨some 2, none, .mv (.c (.nilp)), []⟩,
 ⟨some 3, none, .mv (.t 58), []⟩])
 .ret)
 .skip)))
 (.seq
 (.ops 19 [⟨some 59, none, .mv (.t 7), []⟩,
 ⟨some 60, none, .call 35 [.t 59], []⟩,
 ⟨some 2, none, .mv (.t 60), []⟩,
 ⟨some 3, none, .mv (.c (.int .i64 0)), []⟩])
 .ret)))))))))))))⟩
theorem F7_code : cfgA.code 7 = some F7 := by kernel_rfl

/-- ticketline/ticketlinelaw27.word -/
noncomputable def F8 : AFn := ⟨22, [.tmp 6], (.seq
 (.ops 0 [⟨some 3, none, .box 2 (.t 0) false, []⟩,
 ⟨some 6, none, .mv (.c (.bool false)), []⟩])
 (.seq
 (.ops 1 [⟨some 10, none, .ld 2 true (.t 3), []⟩,
 ⟨some 11, none, .call 41 [.t 10], []⟩,
 ⟨some 9, none, .mv (.t 11), []⟩,
 ⟨some 12, none, .ext (.t 9) 0, []⟩,
 ⟨some 13, none, .ext (.t 9) 1, []⟩,
 ⟨some 7, none, .mv (.t 12), []⟩,
 ⟨some 8, none, .mv (.t 13), []⟩])
 (.seq
 (.ops 2 [⟨some 14, none, .mv (.t 7), []⟩,
 ⟨some 15, none, .mv (.t 1), []⟩,
 ⟨some 16, none, .bin .eql (.t 14) (.t 15), []⟩,
 ⟨some 17, none, .mv (.t 16), []⟩,
 ⟨some 18, some (17, true), .mv (.t 8), []⟩,
 ⟨some 19, some (17, true), .mv (.t 2), []⟩,
 ⟨some 20, some (17, true), .bin .eql (.t 18) (.t 19), []⟩,
 ⟨some 21, none, .pick (.t 17) (.t 20) (.c (.bool false)), []⟩,
 ⟨some 6, none, .mv (.t 21), []⟩])
 .ret)))⟩
theorem F8_code : cfgA.code 8 = some F8 := by kernel_rfl

/-- ticketline/ticketlinelaw27.at -/
noncomputable def F9 : AFn := ⟨60, [.tmp 8], (.seq
 (.ops 0 [⟨some 4, none, .box 2 (.t 0) false, []⟩,
 ⟨some 8, none, .mv (.c (.bool false)), []⟩])
 (.seq
 (.ops 1 [⟨some 14, none, .ld 2 true (.t 4), []⟩,
 ⟨some 15, none, .mv (.t 1), []⟩,
 ⟨some 16, none, .call 45 [.t 14, .t 15], []⟩,
 ⟨some 13, none, .mv (.t 16), []⟩,
 ⟨some 17, none, .ext (.t 13) 0, []⟩,
 ⟨some 18, none, .ext (.t 13) 1, []⟩,
 ⟨some 9, none, .mv (.t 17), []⟩,
 ⟨some 10, none, .mv (.t 18), []⟩])
 (.seq
 (.ops 2 [⟨some 20, none, .ld 2 true (.t 4), []⟩,
 ⟨some 21, none, .mv (.t 1), []⟩,
 ⟨some 22, none, .call 46 [.t 20, .t 21], []⟩,
 ⟨some 19, none, .mv (.t 22), []⟩,
 ⟨some 23, none, .ext (.t 19) 0, []⟩,
 ⟨some 24, none, .ext (.t 19) 1, []⟩,
 ⟨some 11, none, .mv (.t 23), []⟩,
 ⟨some 12, none, .mv (.t 24), []⟩])
 (.seq
 (.seq
 (.ops 3 [⟨some 25, none, .mv (.t 3), []⟩,
 ⟨some 26, none, .bin .neq (.t 25) (.c (.int .i64 0)), []⟩])
 (.cond (.t 26)
 (.seq
 (.ops 4 [⟨some 27, none, .mv (.t 9), []⟩,
 ⟨some 28, none, .bin .eql (.t 27) (.c (.int .i64 0)), []⟩,
 ⟨some 29, none, .mv (.t 28), []⟩,
 ⟨some 30, some (29, true), .mv (.t 11), []⟩,
 ⟨some 31, some (29, true), .bin .eql (.t 30) (.c (.int .i64 0)), []⟩,
 ⟨some 32, none, .pick (.t 29) (.t 31) (.c (.bool false)), []⟩,
 ⟨some 33, none, .mv (.t 32), []⟩,
 ⟨some 34, some (33, true), .mv (.t 10), []⟩,
 ⟨some 35, some (33, true), .mv (.t 3), []⟩,
 ⟨some 36, some (33, true), .bin .eql (.t 34) (.t 35), []⟩,
 ⟨some 37, none, .pick (.t 33) (.t 36) (.c (.bool false)), []⟩,
 ⟨some 38, none, .mv (.t 37), []⟩,
 ⟨some 39, some (38, true), .mv (.t 12), []⟩,
 ⟨some 40, some (38, true), .mv (.t 3), []⟩,
 ⟨some 41, some (38, true), .bin .eql (.t 39) (.t 40), []⟩,
 ⟨some 42, none, .pick (.t 38) (.t 41) (.c (.bool false)), []⟩,
 ⟨some 8, none, .mv (.t 42), []⟩])
 .ret)
 .skip))
 (.seq
 (.ops 5 [⟨some 43, none, .mv (.t 9), []⟩,
 ⟨some 44, none, .mv (.t 2), []⟩,
 ⟨some 45, none, .bin .eql (.t 43) (.t 44), []⟩,
 ⟨some 46, none, .mv (.t 45), []⟩,
 ⟨some 47, some (46, true), .mv (.t 11), []⟩,
 ⟨some 48, some (46, true), .mv (.t 2), []⟩,
 ⟨some 49, some (46, true), .bin .add (.t 48) (.c (.int .i64 3)), []⟩,
 ⟨some 50, some (46, true), .bin .eql (.t 47) (.t 49), []⟩,
 ⟨some 51, none, .pick (.t 46) (.t 50) (.c (.bool false)), []⟩,
 ⟨some 52, none, .mv (.t 51), []⟩,
 ⟨some 53, some (52, true), .mv (.t 10), []⟩,
 ⟨some 54, some (52, true), .bin .eql (.t 53) (.c (.int .i64 0)), []⟩,
 ⟨some 55, none, .pick (.t 52) (.t 54) (.c (.bool false)), []⟩,
 ⟨some 56, none, .mv (.t 55), []⟩,
 ⟨some 57, some (56, true), .mv (.t 12), []⟩,
 ⟨some 58, some (56, true), .bin .eql (.t 57) (.c (.int .i64 0)), []⟩,
 ⟨some 59, none, .pick (.t 56) (.t 58) (.c (.bool false)), []⟩,
 ⟨some 8, none, .mv (.t 59), []⟩])
 .ret)))))⟩
theorem F9_code : cfgA.code 9 = some F9 := by kernel_rfl

/-- ticketline/ticketlinelaw27.known -/
noncomputable def F10 : AFn := ⟨194, [.tmp 0], (.seq
 (.ops 0 [⟨some 0, none, .mv (.c (.bool false)), []⟩])
 (.seq
 (.ops 1 [⟨some 15, none, .call 47 [], []⟩,
 ⟨some 1, none, .alloc [.int .i64 0, .int .i64 0] false, []⟩,
 ⟨none, none, .st 2 (.t 1) (.t 15), []⟩])
 (.seq
 (.seq
 (.ops 2 [⟨some 16, none, .ld 2 true (.t 1), []⟩,
 ⟨some 17, none, .call 8 [.t 16, .c (.int .i64 412), .c (.int .i64 0)], []⟩,
 ⟨some 18, none, .un .not (.t 17), []⟩,
 ⟨some 19, none, .mv (.t 18), []⟩,
 ⟨some 20, some (19, false), .build [.int .i64 0, .int .i64 0] [(1, 1, (.c (.int .i64 1)))], []⟩,
 ⟨some 21, some (19, false), .call 8 [.t 20, .c (.int .i64 0), .c (.int .i64 2)], []⟩,
 ⟨some 22, some (19, false), .un .not (.t 21), []⟩,
 ⟨some 23, none, .pick (.t 19) (.c (.bool true)) (.t 22), []⟩,
 ⟨some 24, none, .mv (.t 23), []⟩,
 ⟨some 25, some (24, false), .ld 2 true (.t 1), []⟩,
 ⟨some 26, some (24, false), .call 9 [.t 25, .c (.int .i64 0), .c (.int .i64 8), .c (.int .i64 0)], []⟩,
 ⟨some 27, some (24, false), .un .not (.t 26), []⟩,
 ⟨some 28, none, .pick (.t 24) (.c (.bool true)) (.t 27), []⟩,
 ⟨some 29, none, .mv (.t 28), []⟩,
 ⟨some 30, some (29, false), .ld 2 true (.t 1), []⟩,
 ⟨some 31, some (29, false), .call 9 [.t 30, .c (.int .i64 2), .c (.int .i64 144), .c (.int .i64 0)], []⟩,
 ⟨some 32, some (29, false), .un .not (.t 31), []⟩,
 ⟨some 33, none, .pick (.t 29) (.c (.bool true)) (.t 32), []⟩,
 ⟨some 34, none, .mv (.t 33), []⟩,
 ⟨some 35, some (34, false), .ld 2 true (.t 1), []⟩,
 ⟨some 36, some (34, false), .call 9 [.t 35, .c (.int .i64 4), .c (.int .i64 0), .c (.int .i64 3)], []⟩,
 ⟨some 37, some (34, false), .un .not (.t 36), []⟩,
 ⟨some 38, none, .pick (.t 34) (.c (.bool true)) (.t 37), []⟩])
 (.cond (.t 38)
 (.seq
 (.ops 3 [⟨some 0, none, .mv (.c (.bool false)), []⟩])
 .ret)
 .skip))
 (.seq
 (.ops 4 [⟨some 40, none, .ld 2 true (.t 1), []⟩,
 ⟨some 41, none, .call 7 [.t 40], []⟩,
 ⟨some 39, none, .mv (.t 41), []⟩,
 ⟨some 42, none, .ext (.t 39) 0, []⟩,
 ⟨some 43, none, .ext (.t 39) 1, []⟩,
 ⟨some 2, none, .mv (.t 42), []⟩,
 ⟨some 3, none, .mv (.t 43), []⟩])
 (.seq
 (.ops 5 [⟨some 45, none, .ld 2 true (.t 1), []⟩,
 ⟨some 46, none, .call 48 [.t 45, .c (.str [97]), .c (.int .i64 0)], []⟩,
 ⟨some 44, none, .mv (.t 46), []⟩,
 ⟨some 47, none, .ext (.t 44) 0, []⟩,
 ⟨some 48, none, .ext (.t 44) 1, []⟩,
 ⟨some 4, none, .mv (.t 47), []⟩,
 ⟨some 5, none, .mv (.t 48), []⟩])
 (.seq
 (.ops 6 [⟨some 50, none, .ld 2 true (.t 1), []⟩,
 ⟨some 51, none, .call 49 [.t 50, .c (.str []), .c (.str []), .c (.int .i64 5), .c (.int .i64 0)], []⟩,
 ⟨some 49, none, .mv (.t 51), []⟩,
 ⟨some 52, none, .ext (.t 49) 0, []⟩,
 ⟨some 53, none, .ext (.t 49) 1, []⟩,
 ⟨some 6, none, .mv (.t 52), []⟩,
 ⟨some 7, none, .mv (.t 53), []⟩])
 (.seq
 (.seq
 (.ops 7 [⟨some 54, none, .mv (.t 2), []⟩,
 ⟨some 55, none, .eqn .ptr false (.t 54), []⟩,
 ⟨some 56, none, .mv (.t 55), []⟩,
 ⟨some 57, some (56, false), .mv (.t 4), []⟩,
 ⟨some 58, some (56, false), .eqn .ptr false (.t 57), []⟩,
 ⟨some 59, none, .pick (.t 56) (.c (.bool true)) (.t 58), []⟩,
 ⟨some 60, none, .mv (.t 59), []⟩,
 ⟨some 61, some (60, false), .mv (.t 6), []⟩,
 ⟨some 62, some (60, false), .eqn .ptr false (.t 61), []⟩,
 ⟨some 63, none, .pick (.t 60) (.c (.bool true)) (.t 62), []⟩,
 ⟨some 64, none, .mv (.t 63), []⟩,
 ⟨some 65, some (64, false), .mv (.t 3), []⟩,
 ⟨some 66, some (64, false), .bin .neq (.t 65) (.c (.int .i64 0)), []⟩,
 ⟨some 67, none, .pick (.t 64) (.c (.bool true)) (.t 66), []⟩,
 ⟨some 68, none, .mv (.t 67), []⟩,
 ⟨some 69, some (68, false), .mv (.t 5), []⟩,
 ⟨some 70, some (68, false), .bin .neq (.t 69) (.c (.int .i64 0)), []⟩,
 ⟨some 71, none, .pick (.t 68) (.c (.bool true)) (.t 70), []⟩,
 ⟨some 72, none, .mv (.t 71), []⟩,
 ⟨some 73, some (72, false), .mv (.t 7), []⟩,
 ⟨some 74, some (72, false), .bin .neq (.t 73) (.c (.int .i64 0)), []⟩,
 ⟨some 75, none, .pick (.t 72) (.c (.bool true)) (.t 74), []⟩])
 (.cond (.t 75)
 (.seq
 (.ops 8 [⟨some 0, none, .mv (.c (.bool false)), []⟩])
 .ret)
 .skip))
 (.seq
 (.ops 9 [⟨some 77, none, .mv (.t 4), []⟩,
 ⟨some 78, none, .mki 79 (.t 77), []⟩,
 ⟨some 79, none, .mv (.t 2), []⟩,
 ⟨some 80, none, .call 50 [.t 78, .t 79, .c (.int .i64 500)], []⟩,
 ⟨some 76, none, .mv (.t 80), []⟩,
 ⟨some 81, none, .ext (.t 76) 0, []⟩,
 ⟨some 82, none, .ext (.t 76) 1, []⟩,
 ⟨some 8, none, .mv (.t 81), []⟩,
 ⟨some 9, none, .mv (.t 82), []⟩])
 (.seq
 (.ops 10 [⟨some 84, none, .mv (.t 6), []⟩,
 ⟨some 85, none, .mki 82 (.t 84), []⟩,
 ⟨some 86, none, .mv (.t 2), []⟩,
 ⟨some 87, none, .call 50 [.t 85, .t 86, .c (.int .i64 500)], []⟩,
 ⟨some 83, none, .mv (.t 87), []⟩,
 ⟨some 88, none, .ext (.t 83) 0, []⟩,
 ⟨some 89, none, .ext (.t 83) 1, []⟩,
 ⟨some 10, none, .mv (.t 88), []⟩,
 ⟨some 11, none, .mv (.t 89), []⟩])
 (.seq
 (.seq
 (.ops 11 [⟨some 90, none, .mv (.t 8), []⟩,
 ⟨some 91, none, .un .not (.t 90), []⟩,
 ⟨some 92, none, .mv (.t 91), []⟩,
 ⟨some 93, some (92, false), .mv (.t 10), []⟩,
 ⟨some 94, some (92, false), .un .not (.t 93), []⟩,
 ⟨some 95, none, .pick (.t 92) (.c (.bool true)) (.t 94), []⟩,
 ⟨some 96, none, .mv (.t 95), []⟩,
 ⟨some 97, some (96, false), .mv (.t 9), []⟩,
 ⟨some 98, none, .pick (.t 96) (.c (.bool true)) (.t 97), []⟩,
 ⟨some 99, none, .mv (.t 98), []⟩,
 ⟨some 100, some (99, false), .mv (.t 11), []⟩,
 ⟨some 101, none, .pick (.t 99) (.c (.bool true)) (.t 100), []⟩,
 ⟨some 102, none, .mv (.t 101), []⟩,
 ⟨some 103, some (102, false), .mv (.t 4), []⟩,
 ⟨some 104, some (102, false), .call 51 [.t 103], []⟩,
 ⟨some 105, some (102, false), .bin .neq (.t 104) (.c (.int .u64 1)), []⟩,
 ⟨some 106, none, .pick (.t 102) (.c (.bool true)) (.t 105), []⟩,
 ⟨some 107, none, .mv (.t 106), []⟩,
 ⟨some 108, some (107, false), .mv (.t 4), []⟩,
 ⟨some 109, some (107, false), .call 52 [.t 108], []⟩,
 ⟨some 110, some (107, false), .fdv 0 1 false (.t 109), []⟩,
 ⟨some 111, some (107, false), .bin .neq (.t 110) (.c (.int .i64 1)), []⟩,
 ⟨some 112, none, .pick (.t 107) (.c (.bool true)) (.t 111), []⟩,
 ⟨some 113, none, .mv (.t 112), []⟩,
 ⟨some 114, some (113, false), .mv (.t 4), []⟩,
 ⟨some 115, some (113, false), .call 52 [.t 114], []⟩,
 ⟨some 116, some (113, false), .fdv 129 1 false (.t 115), []⟩,
 ⟨some 117, some (113, false), .bin .neq (.t 116) (.c (.int .u64 0)), []⟩,
 ⟨some 118, none, .pick (.t 113) (.c (.bool true)) (.t 117), []⟩,
 ⟨some 119, none, .mv (.t 118), []⟩,
 ⟨some 120, some (119, false), .mv (.t 4), []⟩,
 ⟨some 121, some (119, false), .call 52 [.t 120], []⟩,
 ⟨some 122, some (119, false), .fdv 1 128 true (.t 121), []⟩,
 ⟨some 123, some (119, false), .call 23 [.t 122], []⟩,
 ⟨some 124, some (119, false), .bin .neq (.t 123) (.c (.int .i64 0)), []⟩,
 ⟨some 125, none, .pick (.t 119) (.c (.bool true)) (.t 124), []⟩,
 ⟨some 126, none, .mv (.t 125), []⟩,
 ⟨some 127, some (126, false), .mv (.t 6), []⟩,
 ⟨some 128, some (126, false), .call 53 [.t 127], []⟩,
 ⟨some 129, some (126, false), .bin .neq (.t 128) (.c (.int .u64 1)), []⟩,
 ⟨some 130, none, .pick (.t 126) (.c (.bool true)) (.t 129), []⟩,
 ⟨some 131, none, .mv (.t 130), []⟩,
 ⟨some 132, some (131, false), .mv (.t 6), []⟩,
 ⟨some 133, some (131, false), .call 54 [.t 132], []⟩,
 ⟨some 134, some (131, false), .len .slice (.t 133), []⟩,
 ⟨some 135, some (131, false), .bin .neq (.t 134) (.c (.int .i64 0)), []⟩,
 ⟨some 136, none, .pick (.t 131) (.c (.bool true)) (.t 135), []⟩])
 (.cond (.t 136)
 (.seq
 (.ops 12 [⟨some 0, none, .mv (.c (.bool false)), []⟩])
 .ret)
 .skip))
 (.seq
 (.ops 13 [⟨some 138, none, .ld 2 true (.t 1), []⟩,
 ⟨some 139, none, .call 48 [.t 138, .c (.str []), .c (.int .i64 0)], []⟩,
 ⟨some 137, none, .mv (.t 139), []⟩,
 ⟨some 140, none, .ext (.t 137) 0, []⟩,
 ⟨some 141, none, .ext (.t 137) 1, []⟩,
 ⟨some 12, none, .mv (.t 140), []⟩,
 ⟨some 3, none, .mv (.t 141), []⟩])
 (.seq
 (.ops 14 [⟨some 143, none, .ld 2 true (.t 1), []⟩,
 ⟨some 144, none, .call 49 [.t 143, .c (.str [97]), .c (.str [98]), .c (.int .i64 33), .c (.int .i64 0)], []⟩,
 ⟨some 142, none, .mv (.t 144), []⟩,
 ⟨some 145, none, .ext (.t 142) 0, []⟩,
 ⟨some 146, none, .ext (.t 142) 1, []⟩,
 ⟨some 13, none, .mv (.t 145), []⟩,
 ⟨some 5, none, .mv (.t 146), []⟩])
 (.seq
 (.seq
 (.ops 15 [⟨some 147, none, .mv (.t 12), []⟩,
 ⟨some 148, none, .eqn .ptr true (.t 147), []⟩,
 ⟨some 149, none, .mv (.t 148), []⟩,
 ⟨some 150, some (149, false), .mv (.t 13), []⟩,
 ⟨some 151, some (149, false), .eqn .ptr true (.t 150), []⟩,
 ⟨some 152, none, .pick (.t 149) (.c (.bool true)) (.t 151), []⟩,
 ⟨some 153, none, .mv (.t 152), []⟩,
 ⟨some 154, some (153, false), .mv (.t 3), []⟩,
 ⟨some 155, some (153, false), .bin .neq (.t 154) (.c (.int .i64 2)), []⟩,
 ⟨some 156, none, .pick (.t 153) (.c (.bool true)) (.t 155), []⟩,
 ⟨some 157, none, .mv (.t 156), []⟩,
 ⟨some 158, some (157, false), .mv (.t 5), []⟩,
 ⟨some 159, some (157, false), .bin .neq (.t 158) (.c (.int .i64 2)), []⟩,
 ⟨some 160, none, .pick (.t 157) (.c (.bool true)) (.t 159), []⟩,
 ⟨some 161, none, .mv (.t 160), []⟩,
 ⟨some 162, some (161, false), .mv (.t 2), []⟩,
 ⟨some 163, some (161, false), .call 55 [.t 162, .c (.int .i64 19), .c (.int .u64 1)], []⟩,
 ⟨some 164, some (161, false), .bin .neq (.t 163) (.c (.int .i64 0)), []⟩,
 ⟨some 165, none, .pick (.t 161) (.c (.bool true)) (.t 164), []⟩])
 (.cond (.t 165)
 (.seq
 (.ops 16 [⟨some 0, none, .mv (.c (.bool false)), []⟩])
 .ret)
 .skip))
 (.seq
 (.ops 17 [⟨some 167, none, .ld 2 true (.t 1), []⟩,
 ⟨some 168, none, .call 48 [.t 167, .c (.str [97]), .c (.int .i64 0)], []⟩,
 ⟨some 166, none, .mv (.t 168), []⟩,
 ⟨some 169, none, .ext (.t 166) 0, []⟩,
 ⟨some 170, none, .ext (.t 166) 1, []⟩,
 ⟨some 14, none, .mv (.t 169), []⟩,
 ⟨some 3, none, .mv (.t 170), []⟩])
 (.seq
 (.seq
 (.ops 18 [⟨some 171, none, .mv (.t 14), []⟩,
 ⟨some 172, none, .eqn .ptr false (.t 171), []⟩,
 ⟨some 173, none, .mv (.t 172), []⟩,
 ⟨some 174, some (173, false), .mv (.t 3), []⟩,
 ⟨some 175, some (173, false), .bin .neq (.t 174) (.c (.int .i64 0)), []⟩,
 ⟨some 176, none, .pick (.t 173) (.c (.bool true)) (.t 175), []⟩])
 (.cond (.t 176)
 (.seq
 (.ops 19 [⟨some 0, none, .mv (.c (.bool false)), []⟩])
 .ret)
 .skip))
 (.seq
 (.ops 20 [⟨some 178, none, .mv (.t 14), []⟩,
 ⟨some 179, none, .mki 79 (.t 178), []⟩,
 ⟨some 180, none, .mv (.t 2), []⟩,
 ⟨some 181, none, .call 50 [.t 179, .t 180, .c (.int .i64 50)], []⟩,
 ⟨some 177, none, .mv (.t 181), []⟩,
 ⟨some 182, none, .ext (.t 177) 0, []⟩,
 ⟨some 183, none, .ext (.t 177) 1, []⟩,
 ⟨some 8, none, .mv (.t 182), []⟩,
 ⟨some 9, none, .mv (.t 183), []⟩])
 (.seq
 (.ops 21 [⟨some 184, none, .mv (.t 8), []⟩,
 ⟨some 185, none, .un .not (.t 184), []⟩,
 ⟨some 186, none, .mv (.t 185), []⟩,
 ⟨some 187, some (186, true), .mv (.t 9), []⟩,
 ⟨some 188, none, .pick (.t 186) (.t 187) (.c (.bool false)), []⟩,
 ⟨some 189, none, .mv (.t 188), []⟩,
 ⟨some 190, some (189, true), .mv (.t 2), []⟩,
 ⟨some 191, some (189, true), .call 16 [.t 190], []⟩,
 ⟨some 192, some (189, true), .bin .eql (.t 191) (.c (.int .i64 412)), []⟩,
 ⟨some 193, none, .pick (.t 189) (.t 192) (.c (.bool false)), []⟩,
 ⟨some 0, none, .mv (.t 193), []⟩])
 .ret)))))))))))))))))⟩
theorem F10_code : cfgA.code 10 = some F10 := by kernel_rfl

/-- ticketline/ticketlineref27.At -/
noncomputable def F11 : AFn := ⟨9, [.tmp 2], (.seq
 (.ops 0 [⟨some 2, none, .mv (.c (.int .i64 0)), []⟩])
 (.seq
 (.seq
 (.ops 1 [⟨some 3, none, .mv (.t 0), []⟩,
 ⟨some 4, none, .bin .eql (.t 3) (.c (.int .i64 0)), []⟩])
 (.cond (.t 4)
 (.seq
 (.ops 2 [⟨some 2, none, .mv (.c (.int .i64 8)), []⟩])
 .ret)
 .skip))
 (.seq
 (.ops 3 [⟨some 5, none, .mv (.t 0), []⟩,
 ⟨some 6, none, .bin .sub (.t 5) (.c (.int .i64 1)), []⟩,
 ⟨some 7, none, .bin .mul (.c (.int .i64 128)) (.t 6), []⟩,
 ⟨some 8, none, .bin .add (.c (.int .i64 16)) (.t 7), []⟩,
 ⟨some 2, none, .mv (.t 8), []⟩])
 .ret)))⟩
theorem F11_code : cfgA.code 11 = some F11 := by kernel_rfl

/-- ticketline/ticketlineref27.Words -/
noncomputable def F12 : AFn := ⟨11, [.tmp 2], (.seq
 (.ops 0 [⟨some 1, none, .box 2 (.t 0) false, []⟩,
 ⟨some 2, none, .mv (.c (.int .i64 0)), []⟩])
 (.seq
 (.ops 1 [⟨some 3, none, .fld 0 (.t 1), []⟩,
 ⟨some 4, none, .ld 1 false (.t 3), []⟩,
 ⟨some 5, none, .bin .mul (.c (.int .i64 128)) (.t 4), []⟩,
 ⟨some 6, none, .bin .add (.c (.int .i64 16)) (.t 5), []⟩,
 ⟨some 7, none, .fld 1 (.t 1), []⟩,
 ⟨some 8, none, .ld 1 false (.t 7), []⟩,
 ⟨some 9, none, .bin .mul (.c (.int .i64 6)) (.t 8), []⟩,
 ⟨some 10, none, .bin .add (.t 6) (.t 9), []⟩,
 ⟨some 2, none, .mv (.t 10), []⟩])
 .ret))⟩
theorem F12_code : cfgA.code 12 = some F12 := by kernel_rfl

/-- (*ticketline/qnode.Nodes).Base -/
noncomputable def F13 : AFn := ⟨9, [.tmp 2], (.seq
 (.ops 0 [⟨some 2, none, .mv (.c (.int .i64 0)), []⟩])
 (.seq
 (.seq
 (.ops 1 [⟨some 3, none, .mv (.t 0), []⟩,
 ⟨some 4, none, .call 56 [.t 3], []⟩])
 (.cond (.t 4)
 (.seq
 (.ops 2 [⟨some 2, none, .mv (.c (.int .i64 0)), []⟩])
 .ret)
 .skip))
 (.seq
 (.ops 3 [⟨some 5, none, .mv (.t 0), []⟩,
 ⟨some 6, none, .nilc (.t 5) (mok Tryz.prog), []⟩,
 ⟨some 7, none, .fld 0 (.t 6), []⟩,
 ⟨some 8, none, .ld 1 false (.t 7), []⟩,
 ⟨some 2, none, .mv (.t 8), []⟩])
 .ret)))⟩
theorem F13_code : cfgA.code 13 = some F13 := by kernel_rfl

/-- (*ticketline/qnode.Nodes).Threads -/
noncomputable def F14 : AFn := ⟨6, [.tmp 2], (.seq
 (.ops 0 [⟨some 2, none, .mv (.c (.int .i64 0)), []⟩])
 (.seq
 (.ops 1 [⟨some 3, none, .mv (.t 0), []⟩,
 ⟨some 4, none, .call 57 [.t 3], []⟩,
 ⟨some 5, none, .bin .quo (.t 4) (.c (.int .i64 2)), []⟩,
 ⟨some 2, none, .mv (.t 5), []⟩])
 .ret))⟩
theorem F14_code : cfgA.code 14 = some F14 := by kernel_rfl

/-- (*ticketline/qnode.Nodes).Len -/
noncomputable def F15 : AFn := ⟨6, [.tmp 2], (.seq
 (.ops 0 [⟨some 2, none, .mv (.c (.int .i64 0)), []⟩])
 (.seq
 (.ops 1 [⟨some 3, none, .mv (.t 0), []⟩,
 ⟨some 4, none, .call 57 [.t 3], []⟩,
 ⟨some 5, none, .bin .mul (.t 4) (.c (.int .i64 3)), []⟩,
 ⟨some 2, none, .mv (.t 5), []⟩])
 .ret))⟩
theorem F15_code : cfgA.code 15 = some F15 := by kernel_rfl

/-- (*ticketline/mem.Mem).Len -/
noncomputable def F16 : AFn := ⟨10, [.tmp 2], (.seq
 (.ops 0 [⟨some 2, none, .mv (.c (.int .i64 0)), []⟩])
 (.seq
 (.seq
 (.ops 1 [⟨some 3, none, .mv (.t 0), []⟩,
 ⟨some 4, none, .call 58 [.t 3], []⟩])
 (.cond (.t 4)
 (.seq
 (.ops 2 [⟨some 2, none, .mv (.c (.int .i64 0)), []⟩])
 .ret)
 .skip))
 (.seq
 (.ops 3 [⟨some 5, none, .mv (.t 0), []⟩,
 ⟨some 6, none, .nilc (.t 5) (mok Tryz.prog), []⟩,
 ⟨some 7, none, .fld 0 (.t 6), []⟩,
 ⟨some 8, none, .ld 1 false (.t 7), []⟩,
 ⟨some 9, none, .len .slice (.t 8), []⟩,
 ⟨some 2, none, .mv (.t 9), []⟩])
 .ret)))⟩
theorem F16_code : cfgA.code 16 = some F16 := by kernel_rfl

/-- ticketline/arena.Open -/
noncomputable def F17 : AFn := ⟨43, [.tmp 2, .tmp 3], (.seq
 (.ops 0 [⟨some 2, none, .mv (.c (.nilp)), []⟩,
 ⟨some 3, none, .mv (.c (.int .i64 0)), []⟩])
 (.seq
 (.seq
 (.ops 1 [⟨some 7, none, .mv (.t 0), []⟩,
 ⟨some 8, none, .call 16 [.t 7], []⟩,
 ⟨some 9, none, .bin .eql (.t 8) (.c (.int .i64 0)), []⟩])
 (.cond (.t 9)
 (.seq
 (.ops 2 [⟨some 2, none, .mv (.c (.nilp)), []⟩,
 ⟨some 3, none, .mv (.c (.int .i64 1)), []⟩])
 .ret)
 .skip))
 (.seq
 (.ops 3 [⟨some 11, none, .mv (.t 0), []⟩,
 ⟨some 12, none, .call 59 [.t 11, .c (.int .i64 0)], []⟩,
 ⟨some 10, none, .mv (.t 12), []⟩,
 ⟨some 13, none, .ext (.t 10) 0, []⟩,
 ⟨some 14, none, .ext (.t 10) 1, []⟩,
 ⟨some 4, none, .mv (.t 13), []⟩,
 ⟨some 5, none, .mv (.t 14), []⟩])
 (.seq
 (.seq
 (.ops 4 [⟨some 15, none, .mv (.t 5), []⟩,
 ⟨some 16, none, .bin .neq (.t 15) (.c (.int .i64 0)), []⟩,
 ⟨some 17, none, .mv (.t 16), []⟩,
 ⟨some 18, some (17, false), .mv (.t 4), []⟩,
 ⟨some 19, some (17, false), .bin .lss (.t 18) (.c (.int .u64 1)), []⟩,
 ⟨some 20, none, .pick (.t 17) (.c (.bool true)) (.t 19), []⟩,
 ⟨some 21, none, .mv (.t 20), []⟩,
 ⟨some 22, some (21, false), .mv (.t 4), []⟩,
 ⟨some 23, some (21, false), .bin .gtr (.t 22) (.c (.int .u64 511)), []⟩,
 ⟨some 24, none, .pick (.t 21) (.c (.bool true)) (.t 23), []⟩,
 ⟨some 25, none, .mv (.t 24), []⟩,
 ⟨some 26, some (25, false), .mv (.t 4), []⟩,
 ⟨some 27, some (25, false), .cvi .i64 (.t 26), []⟩,
 ⟨some 28, some (25, false), .bin .add (.t 27) (.c (.int .i64 1)), []⟩,
 ⟨some 29, some (25, false), .call 60 [.t 28, .c (.int .i64 0)], []⟩,
 ⟨some 30, some (25, false), .mv (.t 0), []⟩,
 ⟨some 31, some (25, false), .call 16 [.t 30], []⟩,
 ⟨some 32, some (25, false), .bin .gtr (.t 29) (.t 31), []⟩,
 ⟨some 33, none, .pick (.t 25) (.c (.bool true)) (.t 32), []⟩])
 (.cond (.t 33)
 (.seq
 (.ops 5 [⟨some 2, none, .mv (.c (.nilp)), []⟩,
 ⟨some 3, none, .mv (.c (.int .i64 12)), []⟩])
 .ret)
 .skip))
 (.seq
 (.ops 6 [⟨some 34, none, .mv (.t 0), []⟩,
 ⟨some 35, none, .call 61 [.t 34], []⟩,
 ⟨some 36, none, .build [.nilp] [(0, 1, (.t 35))], []⟩,
 ⟨some 37, none, .build [.nilp] [(0, 1, (.t 36))], []⟩,
 ⟨some 38, none, .box 1 (.t 37) true, []⟩,
 ⟨some 6, none, .mv (.t 38), []⟩])
 (.seq
 (.seq
 (.ops 7 [⟨some 39, none, .mv (.t 6), []⟩,
 ⟨some 40, none, .call 62 [.t 39], []⟩,
 ⟨some 41, none, .un .not (.t 40), []⟩])
 (.cond (.t 41)
 (.seq
 (.ops 8 [⟨some 2, none, .mv (.c (.nilp)), []⟩,
 ⟨some 3, none, .mv (.c (.int .i64 12)), []⟩])
 .ret)
 .skip))
 (.seq
 (.ops 9 [⟨some 42, none, .mv (.t 6), []⟩,
 ⟨some 2, none, .mv (.t 42), []⟩,
 ⟨some 3, none, .mv (.c (.int .i64 0)), []⟩])
 .ret)))))))⟩
theorem F17_code : cfgA.code 17 = some F17 := by kernel_rfl

/-- (*ticketline/arena.Arena).Root -/
noncomputable def F18 : AFn := ⟨11, [.tmp 2], (.seq
 (.ops 0 [⟨some 2, none, .mv (.c (.int .i64 0)), []⟩])
 (.seq
 (.seq
 (.ops 1 [⟨some 3, none, .mv (.t 0), []⟩,
 ⟨some 4, none, .call 63 [.t 3], []⟩])
 (.cond (.t 4)
 (.seq
 (.ops 2 [⟨some 2, none, .mv (.c (.int .i64 0)), []⟩])
 .ret)
 .skip))
 (.seq
 (.ops 3 [⟨some 5, none, .mv (.t 0), []⟩,
 ⟨some 6, none, .nilc (.t 5) (mok Tryz.prog), []⟩,
 ⟨some 7, none, .fld 0 (.t 6), []⟩,
 ⟨some 8, none, .ld 1 true (.t 7), []⟩,
 ⟨some 9, none, .call 64 [.t 8, .c (.int .i64 3)], []⟩,
 ⟨some 10, none, .cvi .i64 (.t 9), []⟩,
 ⟨some 2, none, .mv (.t 10), []⟩])
 .ret)))⟩
theorem F18_code : cfgA.code 18 = some F18 := by kernel_rfl

/-- (*ticketline/arena.Arena).Counts: the round 0 -/
@[reducible] noncomputable def B19x0 : AC := (.seq
 (.seq
 (.ops 4 [⟨some 9, none, .mv (.t 6), []⟩,
 ⟨some 10, none, .mv (.t 0), []⟩,
 ⟨some 11, none, .call 65 [.t 10], []⟩,
 ⟨some 12, none, .bin .leq (.t 9) (.t 11), []⟩])
 (.cond (.t 12)
 .skip
 (.exit 0)))
 (.seq
 (.block 1
 (.block 2
 (.seq
 (.ops 6 [⟨some 16, none, .mv (.t 0), []⟩,
 ⟨some 17, none, .mv (.t 6), []⟩,
 ⟨some 18, none, .call 66 [.t 16, .t 17], []⟩,
 ⟨some 19, none, .bin .eql (.t 18) (.c (.int .u64 0)), []⟩,
 ⟨some 15, none, .mv (.t 19), []⟩])
 (.cond (.t 15)
 (.ops 7 [⟨some 20, none, .mv (.t 3), []⟩,
 ⟨some 21, none, .bin .add (.t 20) (.c (.int .i64 1)), []⟩,
 ⟨some 3, none, .mv (.t 21), []⟩])
 (.seq
 (.ops 8 [⟨some 23, none, .mv (.t 0), []⟩,
 ⟨some 24, none, .mv (.t 6), []⟩,
 ⟨some 25, none, .call 66 [.t 23, .t 24], []⟩,
 ⟨some 26, none, .bin .eql (.t 25) (.c (.int .u64 255)), []⟩,
 ⟨some 22, none, .mv (.t 26), []⟩])
 (.cond (.t 22)
 (.ops 9 [⟨some 27, none, .mv (.t 5), []⟩,
 ⟨some 28, none, .bin .add (.t 27) (.c (.int .i64 1)), []⟩,
 ⟨some 5, none, .mv (.t 28), []⟩])
 (.seq
 (.ops 10 [⟨some 30, none, .mv (.t 0), []⟩,
 ⟨some 31, none, .mv (.t 6), []⟩,
 ⟨some 32, none, .call 67 [.t 30, .t 31], []⟩,
 ⟨some 29, none, .mv (.t 32), []⟩])
 (.cond (.t 29)
 (.ops 11 [⟨some 33, none, .mv (.t 4), []⟩,
 ⟨some 34, none, .bin .add (.t 33) (.c (.int .i64 1)), []⟩,
 ⟨some 4, none, .mv (.t 34), []⟩])
 .skip))))))))
 (.ops 5 [⟨some 13, none, .mv (.t 6), []⟩,
 ⟨some 14, none, .bin .add (.t 13) (.c (.int .i64 1)), []⟩,
 ⟨some 6, none, .mv (.t 14), []⟩])))

/-- (*ticketline/arena.Arena).Counts -/
noncomputable def F19 : AFn := ⟨40, [.tmp 2, .tmp 3, .tmp 4, .tmp 5], (.seq
 (.ops 0 [⟨some 2, none, .mv (.c (.int .i64 0)), []⟩,
 ⟨some 3, none, .mv (.c (.int .i64 0)), []⟩,
 ⟨some 4, none, .mv (.c (.int .i64 0)), []⟩,
 ⟨some 5, none, .mv (.c (.int .i64 0)), []⟩])
 (.seq
 (.seq
 (.ops 1 [⟨some 7, none, .mv (.t 0), []⟩,
 ⟨some 8, none, .call 63 [.t 7], []⟩])
 (.cond (.t 8)
 (.seq
 (.ops 2 [⟨some 2, none, .mv (.c (.int .i64 0)), []⟩,
 ⟨some 3, none, .mv (.c (.int .i64 0)), []⟩,
 ⟨some 4, none, .mv (.c (.int .i64 0)), []⟩,
 ⟨some 5, none, .mv (.c (.int .i64 0)), []⟩])
 .ret)
 .skip))
 (.seq
 (.seq
 (.ops 3 [⟨some 6, none, .mv (.c (.int .i64 1)), []⟩])
 (.block 0
 (.loop [] B19x0)))
 (.seq
 (.ops 12 [⟨some 35, none, .mv (.t 0), []⟩,
 ⟨some 36, none, .call 65 [.t 35], []⟩,
 ⟨some 37, none, .mv (.t 3), []⟩,
 ⟨some 38, none, .mv (.t 4), []⟩,
 ⟨some 39, none, .mv (.t 5), []⟩,
 ⟨some 2, none, .mv (.t 36), []⟩,
 ⟨some 3, none, .mv (.t 37), []⟩,
 ⟨some 4, none, .mv (.t 38), []⟩,
 ⟨some 5, none, .mv (.t 39), []⟩])
 .ret))))⟩
theorem F19_code : cfgA.code 19 = some F19 := by kernel_rfl

/-- (*ticketline/arena.Arena).Read: the round 0 -/
@[reducible] noncomputable def B20x0 : AC := (.seq
 (.ops 6 [⟨some 17, none, .bin .lss (.t 16) (.c (.int .i64 128)), []⟩])
 (.seq
 (.cond (.t 17)
 .skip
 (.exit 0))
 (.seq
 (.block 1
 (.seq
 (.ops 7 [⟨some 18, none, .mv (.t 16), []⟩,
 ⟨some 8, none, .mv (.t 18), []⟩])
 (.ops 8 [⟨some 19, none, .mv (.t 8), []⟩,
 ⟨some 20, none, .mv (.t 0), []⟩,
 ⟨some 21, none, .nilc (.t 20) (mok Tryz.prog), []⟩,
 ⟨some 22, none, .fld 0 (.t 21), []⟩,
 ⟨some 23, none, .ld 1 true (.t 22), []⟩,
 ⟨some 24, none, .mv (.t 1), []⟩,
 ⟨some 25, none, .mv (.t 8), []⟩,
 ⟨some 26, none, .call 60 [.t 24, .t 25], [(23, .ld 1 true (.t 22))]⟩,
 ⟨some 27, none, .call 64 [.t 23, .t 26], []⟩,
 ⟨some 28, none, .ixa (some 128) 1 (.t 6) (.t 19), []⟩,
 ⟨none, none, .st 1 (.t 28) (.t 27), []⟩])))
 (.ops 9 [⟨some 29, none, .bin .add (.t 16) (.c (.int .i64 1)), []⟩,
 ⟨some 16, none, .mv (.t 29), []⟩]))))

/-- (*ticketline/arena.Arena).Read -/
noncomputable def F20 : AFn := ⟨31, [.cell 4 128 true, .tmp 5], (.seq
 (.ops 0 [⟨some 4, none, .alloc (List.replicate 128 (.int .u64 0)) false, []⟩,
 ⟨some 5, none, .mv (.c (.int .i64 0)), []⟩])
 (.seq
 (.ops 1 [⟨some 6, none, .alloc (List.replicate 128 (.int .u64 0)) false, []⟩])
 (.seq
 (.seq
 (.ops 2 [⟨some 9, none, .mv (.t 0), []⟩,
 ⟨some 10, none, .mv (.t 1), []⟩,
 ⟨some 11, none, .call 68 [.t 9, .t 10], []⟩,
 ⟨some 7, none, .mv (.t 11), []⟩])
 (.seq
 (.ops 3 [⟨some 12, none, .mv (.t 7), []⟩,
 ⟨some 13, none, .bin .neq (.t 12) (.c (.int .i64 0)), []⟩])
 (.cond (.t 13)
 (.seq
 (.ops 4 [⟨some 14, none, .ld 128 true (.t 6), []⟩,
 ⟨some 15, none, .mv (.t 7), []⟩,
 ⟨none, none, .st 128 (.t 4) (.t 14), []⟩,
 ⟨some 5, none, .mv (.t 15), []⟩])
 .ret)
 .skip)))
 (.seq
 (.seq
 (.ops 5 [⟨some 16, none, .mv (.c (.int .i64 0)), []⟩])
 (.block 0
 (.loop [] B20x0)))
 (.seq
 (.ops 10 [⟨some 30, none, .ld 128 true (.t 6), []⟩,
 ⟨none, none, .st 128 (.t 4) (.t 30), []⟩,
 ⟨some 5, none, .mv (.c (.int .i64 0)), []⟩])
 .ret)))))⟩
theorem F20_code : cfgA.code 20 = some F20 := by kernel_rfl

/-- (*ticketline/mem.Mem).Words -/
noncomputable def F21 : AFn := ⟨36, [.tmp 6, .tmp 7], (.seq
 (.ops 0 [⟨some 6, none, .mv (.c (.nils)), []⟩,
 ⟨some 7, none, .mv (.c (.int .i64 0)), []⟩])
 (.seq
 (.block 0
 (.seq
 (.ops 1 [⟨some 9, none, .mv (.t 0), []⟩,
 ⟨some 10, none, .call 58 [.t 9], []⟩,
 ⟨some 8, none, .mv (.t 10), []⟩])
 (.cond (.t 8)
 (.seq
 (.ops 2 [⟨some 6, none, .mv (.c (.nils)), []⟩,
 ⟨some 7, none, .mv (.c (.int .i64 1)), []⟩])
 .ret)
 (.seq
 (.ops 3 [⟨some 12, none, .mv (.t 1), []⟩,
 ⟨some 13, none, .bin .lss (.t 12) (.c (.int .i64 0)), []⟩,
 ⟨some 14, none, .mv (.t 13), []⟩,
 ⟨some 15, some (14, false), .mv (.t 2), []⟩,
 ⟨some 16, some (14, false), .mv (.t 1), []⟩,
 ⟨some 17, some (14, false), .bin .lss (.t 15) (.t 16), []⟩,
 ⟨some 18, none, .pick (.t 14) (.c (.bool true)) (.t 17), []⟩,
 ⟨some 19, none, .mv (.t 18), []⟩,
 ⟨some 20, some (19, false), .mv (.t 2), []⟩,
 ⟨some 21, some (19, false), .mv (.t 0), []⟩,
 ⟨some 22, some (19, false), .nilc (.t 21) (mok Tryz.prog), []⟩,
 ⟨some 23, some (19, false), .fld 0 (.t 22), []⟩,
 ⟨some 24, some (19, false), .ld 1 false (.t 23), []⟩,
 ⟨some 25, some (19, false), .len .slice (.t 24), []⟩,
 ⟨some 26, some (19, false), .bin .gtr (.t 20) (.t 25), []⟩,
 ⟨some 27, none, .pick (.t 19) (.c (.bool true)) (.t 26), []⟩,
 ⟨some 11, none, .mv (.t 27), []⟩])
 (.cond (.t 11)
 (.seq
 (.ops 4 [⟨some 6, none, .mv (.c (.nils)), []⟩,
 ⟨some 7, none, .mv (.c (.int .i64 3)), []⟩])
 .ret)
 .skip)))))
 (.seq
 (.ops 5 [⟨some 28, none, .mv (.t 0), []⟩,
 ⟨some 29, none, .nilc (.t 28) (mok Tryz.prog), []⟩,
 ⟨some 30, none, .fld 0 (.t 29), []⟩,
 ⟨some 31, none, .ld 1 false (.t 30), []⟩,
 ⟨some 32, none, .mv (.t 1), []⟩,
 ⟨some 33, none, .mv (.t 2), []⟩,
 ⟨some 34, none, .slc none 1 (.t 31) (some (.t 32)) (some (.t 33)), []⟩,
 ⟨some 35, none, .call 69 [.t 34], []⟩,
 ⟨some 6, none, .mv (.t 35), []⟩,
 ⟨some 7, none, .mv (.c (.int .i64 0)), []⟩])
 .ret)))⟩
theorem F21_code : cfgA.code 21 = some F21 := by kernel_rfl

/-- ticketline/slot.Level -/
noncomputable def F22 : AFn := ⟨10, [.tmp 2], (.seq
 (.ops 0 [⟨some 1, none, .box 128 (.t 0) false, []⟩,
 ⟨some 2, none, .mv (.c (.int .i64 0)), []⟩])
 (.seq
 (.seq
 (.ops 1 [⟨some 3, none, .ld 128 true (.t 1), []⟩,
 ⟨some 4, none, .call 70 [.t 3], []⟩,
 ⟨some 5, none, .un .not (.t 4), []⟩])
 (.cond (.t 5)
 (.seq
 (.ops 2 [⟨some 2, none, .mv (.c (.int .i64 (-1))), []⟩])
 .ret)
 .skip))
 (.seq
 (.ops 3 [⟨some 6, none, .ixa (some 128) 1 (.t 1) (.c (.int .i64 8)), []⟩,
 ⟨some 7, none, .ld 1 false (.t 6), []⟩,
 ⟨some 8, none, .cvi .i64 (.t 7), []⟩,
 ⟨some 9, none, .bin .sub (.t 8) (.c (.int .i64 1)), []⟩,
 ⟨some 2, none, .mv (.t 9), []⟩])
 .ret)))⟩
theorem F22_code : cfgA.code 22 = some F22 := by kernel_rfl

/-- ticketline/slot.Len -/
noncomputable def F23 : AFn := ⟨11, [.tmp 2], (.seq
 (.ops 0 [⟨some 1, none, .box 128 (.t 0) false, []⟩,
 ⟨some 2, none, .mv (.c (.int .i64 0)), []⟩])
 (.seq
 (.ops 1 [⟨some 6, none, .call 71 [.t 1], []⟩,
 ⟨some 5, none, .mv (.t 6), []⟩,
 ⟨some 7, none, .ext (.t 5) 0, []⟩,
 ⟨some 8, none, .ext (.t 5) 1, []⟩,
 ⟨some 3, none, .mv (.t 7), []⟩,
 ⟨some 4, none, .mv (.t 8), []⟩])
 (.seq
 (.ops 2 [⟨some 9, none, .mv (.t 3), []⟩,
 ⟨some 10, none, .len .slice (.t 9), []⟩,
 ⟨some 2, none, .mv (.t 10), []⟩])
 .ret)))⟩
theorem F23_code : cfgA.code 23 = some F23 := by kernel_rfl

/-- ticketline/slot.Make -/
noncomputable def F25 : AFn := ⟨57, [.cell 6 128 true, .tmp 7], (.seq
 (.ops 0 [⟨some 6, none, .alloc (List.replicate 128 (.int .u64 0)) false, []⟩,
 ⟨some 7, none, .mv (.c (.int .i64 0)), []⟩])
 (.seq
 (.block 0
 (.seq
 (.ops 1 [⟨some 12, none, .mv (.t 0), []⟩,
 ⟨some 13, none, .bin .lss (.t 12) (.c (.int .i64 0)), []⟩,
 ⟨some 14, none, .mv (.t 13), []⟩,
 ⟨some 15, some (14, false), .mv (.t 0), []⟩,
 ⟨some 16, some (14, false), .bin .geq (.t 15) (.c (.int .i64 6)), []⟩,
 ⟨some 17, none, .pick (.t 14) (.c (.bool true)) (.t 16), []⟩,
 ⟨some 11, none, .mv (.t 17), []⟩])
 (.cond (.t 11)
 (.seq
 (.ops 2 [⟨some 18, none, .build (List.replicate 128 (.int .u64 0)) [], []⟩,
 ⟨none, none, .st 128 (.t 6) (.t 18), []⟩,
 ⟨some 7, none, .mv (.c (.int .i64 2)), []⟩])
 .ret)
 (.seq
 (.ops 3 [⟨some 20, none, .mv (.t 1), []⟩,
 ⟨some 21, none, .len .string (.t 20), []⟩,
 ⟨some 22, none, .bin .gtr (.t 21) (.c (.int .i64 24)), []⟩,
 ⟨some 23, none, .mv (.t 22), []⟩,
 ⟨some 24, some (23, false), .mv (.t 2), []⟩,
 ⟨some 25, some (23, false), .len .string (.t 24), []⟩,
 ⟨some 26, some (23, false), .bin .gtr (.t 25) (.c (.int .i64 24)), []⟩,
 ⟨some 27, none, .pick (.t 23) (.c (.bool true)) (.t 26), []⟩,
 ⟨some 19, none, .mv (.t 27), []⟩])
 (.cond (.t 19)
 (.seq
 (.ops 4 [⟨some 28, none, .build (List.replicate 128 (.int .u64 0)) [], []⟩,
 ⟨none, none, .st 128 (.t 6) (.t 28), []⟩,
 ⟨some 7, none, .mv (.c (.int .i64 5)), []⟩])
 .ret)
 (.seq
 (.ops 5 [⟨some 30, none, .mv (.t 2), []⟩,
 ⟨some 31, none, .bin .neq (.t 30) (.c (.str [])), []⟩,
 ⟨some 32, none, .mv (.t 31), []⟩,
 ⟨some 33, some (32, true), .mv (.t 1), []⟩,
 ⟨some 34, some (32, true), .mv (.t 2), []⟩,
 ⟨some 35, some (32, true), .call 78 [.t 33, .t 34], []⟩,
 ⟨some 36, some (32, true), .bin .geq (.t 35) (.c (.int .i64 0)), []⟩,
 ⟨some 37, none, .pick (.t 32) (.t 36) (.c (.bool false)), []⟩,
 ⟨some 29, none, .mv (.t 37), []⟩])
 (.cond (.t 29)
 (.seq
 (.ops 6 [⟨some 38, none, .build (List.replicate 128 (.int .u64 0)) [], []⟩,
 ⟨none, none, .st 128 (.t 6) (.t 38), []⟩,
 ⟨some 7, none, .mv (.c (.int .i64 13)), []⟩])
 .ret)
 .skip)))))))
 (.seq
 (.ops 7 [⟨some 8, none, .alloc (List.replicate 128 (.int .u64 0)) false, []⟩])
 (.seq
 (.ops 8 [⟨some 39, none, .mv (.t 0), []⟩,
 ⟨some 40, none, .bin .add (.c (.int .i64 1)) (.t 39), []⟩,
 ⟨some 41, none, .cvi .u64 (.t 40), []⟩,
 ⟨some 42, none, .ixa (some 128) 1 (.t 8) (.c (.int .i64 8)), []⟩,
 ⟨none, none, .st 1 (.t 42) (.t 41), []⟩,
 ⟨some 43, none, .ixa (some 128) 1 (.t 8) (.c (.int .i64 11)), []⟩,
 ⟨none, none, .st 1 (.t 43) (.c (.int .u64 128)), []⟩])
 (.seq
 (.seq
 (.ops 9 [⟨some 44, none, .mv (.t 1), []⟩,
 ⟨some 45, none, .call 79 [.t 8, .c (.int .i64 12), .t 44], []⟩,
 ⟨some 9, none, .mv (.t 45), []⟩])
 (.seq
 (.ops 10 [⟨some 46, none, .mv (.t 9), []⟩,
 ⟨some 47, none, .bin .neq (.t 46) (.c (.int .i64 0)), []⟩])
 (.cond (.t 47)
 (.seq
 (.ops 11 [⟨some 48, none, .build (List.replicate 128 (.int .u64 0)) [], []⟩,
 ⟨some 49, none, .mv (.t 9), []⟩,
 ⟨none, none, .st 128 (.t 6) (.t 48), []⟩,
 ⟨some 7, none, .mv (.t 49), []⟩])
 .ret)
 .skip)))
 (.seq
 (.seq
 (.ops 12 [⟨some 50, none, .mv (.t 2), []⟩,
 ⟨some 51, none, .call 79 [.t 8, .c (.int .i64 16), .t 50], []⟩,
 ⟨some 10, none, .mv (.t 51), []⟩])
 (.seq
 (.ops 13 [⟨some 52, none, .mv (.t 10), []⟩,
 ⟨some 53, none, .bin .neq (.t 52) (.c (.int .i64 0)), []⟩])
 (.cond (.t 53)
 (.seq
 (.ops 14 [⟨some 54, none, .build (List.replicate 128 (.int .u64 0)) [], []⟩,
 ⟨some 55, none, .mv (.t 10), []⟩,
 ⟨none, none, .st 128 (.t 6) (.t 54), []⟩,
 ⟨some 7, none, .mv (.t 55), []⟩])
 .ret)
 .skip)))
 (.seq
 (.ops 15 [⟨some 56, none, .ld 128 true (.t 8), []⟩,
 ⟨none, none, .st 128 (.t 6) (.t 56), []⟩,
 ⟨some 7, none, .mv (.c (.int .i64 0)), []⟩])
 .ret)))))))⟩
theorem F25_code : cfgA.code 25 = some F25 := by kernel_rfl

/-- (*ticketline/arena.Arena).Alloc -/
noncomputable def F27 : AFn := ⟨39, [.tmp 4, .tmp 5], (.seq
 (.ops 0 [⟨some 3, none, .box 128 (.t 1) false, []⟩,
 ⟨some 4, none, .mv (.c (.int .i64 0)), []⟩,
 ⟨some 5, none, .mv (.c (.int .i64 0)), []⟩])
 (.seq
 (.block 0
 (.seq
 (.ops 1 [⟨some 8, none, .mv (.t 0), []⟩,
 ⟨some 9, none, .call 63 [.t 8], []⟩,
 ⟨some 7, none, .mv (.t 9), []⟩])
 (.cond (.t 7)
 (.seq
 (.ops 2 [⟨some 4, none, .mv (.c (.int .i64 0)), []⟩,
 ⟨some 5, none, .mv (.c (.int .i64 1)), []⟩])
 .ret)
 (.seq
 (.ops 3 [⟨some 11, none, .ld 128 true (.t 3), []⟩,
 ⟨some 12, none, .call 70 [.t 11], []⟩,
 ⟨some 13, none, .un .not (.t 12), []⟩,
 ⟨some 10, none, .mv (.t 13), []⟩])
 (.cond (.t 10)
 (.seq
 (.ops 4 [⟨some 4, none, .mv (.c (.int .i64 0)), []⟩,
 ⟨some 5, none, .mv (.c (.int .i64 12)), []⟩])
 .ret)
 .skip)))))
 (.seq
 (.ops 5 [⟨some 14, none, .mv (.t 0), []⟩,
 ⟨some 15, none, .nilc (.t 14) (mok Tryz.prog), []⟩,
 ⟨some 16, none, .fld 0 (.t 15), []⟩,
 ⟨some 17, none, .ld 1 true (.t 16), []⟩,
 ⟨some 18, none, .call 64 [.t 17, .c (.int .i64 1)], []⟩,
 ⟨some 19, none, .cvi .i64 (.t 18), []⟩,
 ⟨some 6, none, .mv (.t 19), []⟩])
 (.seq
 (.seq
 (.ops 6 [⟨some 20, none, .mv (.t 6), []⟩,
 ⟨some 21, none, .bin .eql (.t 20) (.c (.int .i64 0)), []⟩])
 (.cond (.t 21)
 (.seq
 (.ops 7 [⟨some 4, none, .mv (.c (.int .i64 0)), []⟩,
 ⟨some 5, none, .mv (.c (.int .i64 7)), []⟩])
 .ret)
 .skip))
 (.seq
 (.ops 8 [⟨some 22, none, .mv (.t 0), []⟩,
 ⟨some 23, none, .nilc (.t 22) (mok Tryz.prog), []⟩,
 ⟨some 24, none, .fld 0 (.t 23), []⟩,
 ⟨some 25, none, .ld 1 true (.t 24), []⟩,
 ⟨some 26, none, .mv (.t 0), []⟩,
 ⟨some 27, none, .nilc (.t 26) (mok Tryz.prog), []⟩,
 ⟨some 28, none, .fld 0 (.t 27), []⟩,
 ⟨some 29, none, .ld 1 true (.t 28), []⟩,
 ⟨some 30, none, .mv (.t 6), []⟩,
 ⟨some 31, none, .call 60 [.t 30, .c (.int .i64 10)], [(25, .ld 1 true (.t 24)), (29, .ld 1 true (.t 28))]⟩,
 ⟨some 32, none, .call 64 [.t 29, .t 31], [(25, .ld 1 true (.t 24))]⟩,
 ⟨some 33, none, .call 82 [.t 25, .c (.int .i64 1), .t 32], []⟩])
 (.seq
 (.ops 9 [⟨some 34, none, .mv (.t 0), []⟩,
 ⟨some 35, none, .mv (.t 6), []⟩,
 ⟨some 36, none, .ld 128 true (.t 3), []⟩,
 ⟨some 37, none, .call 83 [.t 34, .t 35, .t 36], []⟩])
 (.seq
 (.ops 10 [⟨some 38, none, .mv (.t 6), []⟩,
 ⟨some 4, none, .mv (.t 38), []⟩,
 ⟨some 5, none, .mv (.c (.int .i64 0)), []⟩])
 .ret)))))))⟩
theorem F27_code : cfgA.code 27 = some F27 := by kernel_rfl

/-- (*ticketline/arena.Arena).Mem -/
noncomputable def F35 : AFn := ⟨11, [.tmp 2], (.seq
 (.ops 0 [⟨some 2, none, .mv (.c (.nilp)), []⟩])
 (.seq
 (.seq
 (.ops 1 [⟨some 3, none, .mv (.t 0), []⟩,
 ⟨some 4, none, .call 63 [.t 3], []⟩])
 (.cond (.t 4)
 (.seq
 (.ops 2 [⟨some 2, none, .mv (.c (.nilp)), []⟩])
 .ret)
 .skip))
 (.seq
 (.ops 3 [⟨some 5, none, .mv (.t 0), []⟩,
 ⟨some 6, none, .nilc (.t 5) (mok Tryz.prog), []⟩,
 ⟨some 7, none, .fld 0 (.t 6), []⟩,
 ⟨some 8, none, .fld 0 (.t 7), []⟩,
 ⟨some 9, none, .ld 1 false (.t 8), []⟩,
 ⟨some 10, none, .call 61 [.t 9], []⟩,
 ⟨some 2, none, .mv (.t 10), []⟩])
 .ret)))⟩
theorem F35_code : cfgA.code 35 = some F35 := by kernel_rfl

/-- ticketline/descend.valid -/
noncomputable def F38 : AFn := ⟨21, [.tmp 2], (.seq
 (.ops 0 [⟨some 1, none, .box 2 (.t 0) false, []⟩,
 ⟨some 2, none, .mv (.c (.bool false)), []⟩])
 (.seq
 (.ops 1 [⟨some 3, none, .fld 0 (.t 1), []⟩,
 ⟨some 4, none, .ld 1 false (.t 3), []⟩,
 ⟨some 5, none, .bin .geq (.t 4) (.c (.int .i64 1)), []⟩,
 ⟨some 6, none, .mv (.t 5), []⟩,
 ⟨some 7, some (6, true), .fld 0 (.t 1), []⟩,
 ⟨some 8, some (6, true), .ld 1 false (.t 7), []⟩,
 ⟨some 9, some (6, true), .bin .leq (.t 8) (.c (.int .i64 511)), []⟩,
 ⟨some 10, none, .pick (.t 6) (.t 9) (.c (.bool false)), []⟩,
 ⟨some 11, none, .mv (.t 10), []⟩,
 ⟨some 12, some (11, true), .fld 1 (.t 1), []⟩,
 ⟨some 13, some (11, true), .ld 1 false (.t 12), []⟩,
 ⟨some 14, some (11, true), .bin .geq (.t 13) (.c (.int .i64 1)), []⟩,
 ⟨some 15, none, .pick (.t 11) (.t 14) (.c (.bool false)), []⟩,
 ⟨some 16, none, .mv (.t 15), []⟩,
 ⟨some 17, some (16, true), .fld 1 (.t 1), []⟩,
 ⟨some 18, some (16, true), .ld 1 false (.t 17), []⟩,
 ⟨some 19, some (16, true), .bin .leq (.t 18) (.c (.int .i64 17)), []⟩,
 ⟨some 20, none, .pick (.t 16) (.t 19) (.c (.bool false)), []⟩,
 ⟨some 2, none, .mv (.t 20), []⟩])
 .ret))⟩
theorem F38_code : cfgA.code 38 = some F38 := by kernel_rfl

/-- ticketline/qnode.New -/
noncomputable def F39 : AFn := ⟨28, [.tmp 4, .tmp 5], (.seq
 (.ops 0 [⟨some 4, none, .mv (.c (.nilp)), []⟩,
 ⟨some 5, none, .mv (.c (.int .i64 0)), []⟩])
 (.seq
 (.seq
 (.ops 1 [⟨some 6, none, .mv (.t 0), []⟩,
 ⟨some 7, none, .bin .lss (.t 6) (.c (.int .i64 0)), []⟩,
 ⟨some 8, none, .mv (.t 7), []⟩,
 ⟨some 9, some (8, false), .mv (.t 1), []⟩,
 ⟨some 10, some (8, false), .bin .lss (.t 9) (.c (.int .i64 1)), []⟩,
 ⟨some 11, none, .pick (.t 8) (.c (.bool true)) (.t 10), []⟩,
 ⟨some 12, none, .mv (.t 11), []⟩,
 ⟨some 13, some (12, false), .mv (.t 1), []⟩,
 ⟨some 14, some (12, false), .bin .gtr (.t 13) (.c (.int .i64 64)), []⟩,
 ⟨some 15, none, .pick (.t 12) (.c (.bool true)) (.t 14), []⟩,
 ⟨some 16, none, .mv (.t 15), []⟩,
 ⟨some 17, some (16, false), .mv (.t 0), []⟩,
 ⟨some 18, some (16, false), .mv (.t 1), []⟩,
 ⟨some 19, some (16, false), .bin .mul (.t 18) (.c (.int .i64 2)), []⟩,
 ⟨some 20, some (16, false), .bin .mul (.t 19) (.c (.int .i64 3)), []⟩,
 ⟨some 21, some (16, false), .bin .sub (.c (.int .i64 65536)) (.t 20), []⟩,
 ⟨some 22, some (16, false), .bin .gtr (.t 17) (.t 21), []⟩,
 ⟨some 23, none, .pick (.t 16) (.c (.bool true)) (.t 22), []⟩])
 (.cond (.t 23)
 (.seq
 (.ops 2 [⟨some 4, none, .mv (.c (.nilp)), []⟩,
 ⟨some 5, none, .mv (.c (.int .i64 2)), []⟩])
 .ret)
 .skip))
 (.seq
 (.ops 3 [⟨some 24, none, .mv (.t 0), []⟩,
 ⟨some 25, none, .mv (.t 1), []⟩,
 ⟨some 26, none, .build [.int .i64 0, .int .i64 0] [(0, 1, (.t 24)), (1, 1, (.t 25))], []⟩,
 ⟨some 27, none, .box 2 (.t 26) true, []⟩,
 ⟨some 4, none, .mv (.t 27), []⟩,
 ⟨some 5, none, .mv (.c (.int .i64 0)), []⟩])
 .ret)))⟩
theorem F39_code : cfgA.code 39 = some F39 := by kernel_rfl

/-- ticketline/descend.nodes -/
noncomputable def F40 : AFn := ⟨7, [.tmp 2], (.seq
 (.ops 0 [⟨some 1, none, .box 2 (.t 0) false, []⟩,
 ⟨some 2, none, .mv (.c (.int .i64 0)), []⟩])
 (.seq
 (.ops 1 [⟨some 3, none, .fld 0 (.t 1), []⟩,
 ⟨some 4, none, .ld 1 false (.t 3), []⟩,
 ⟨some 5, none, .bin .mul (.c (.int .i64 128)) (.t 4), []⟩,
 ⟨some 6, none, .bin .add (.c (.int .i64 16)) (.t 5), []⟩,
 ⟨some 2, none, .mv (.t 6), []⟩])
 .ret))⟩
theorem F40_code : cfgA.code 40 = some F40 := by kernel_rfl

/-- ticketline/descend.Words -/
noncomputable def F41 : AFn := ⟨14, [.tmp 2, .tmp 3], (.seq
 (.ops 0 [⟨some 1, none, .box 2 (.t 0) false, []⟩,
 ⟨some 2, none, .mv (.c (.int .i64 0)), []⟩,
 ⟨some 3, none, .mv (.c (.int .i64 0)), []⟩])
 (.seq
 (.seq
 (.ops 1 [⟨some 4, none, .ld 2 true (.t 1), []⟩,
 ⟨some 5, none, .call 38 [.t 4], []⟩,
 ⟨some 6, none, .un .not (.t 5), []⟩])
 (.cond (.t 6)
 (.seq
 (.ops 2 [⟨some 2, none, .mv (.c (.int .i64 0)), []⟩,
 ⟨some 3, none, .mv (.c (.int .i64 2)), []⟩])
 .ret)
 .skip))
 (.seq
 (.ops 3 [⟨some 7, none, .ld 2 true (.t 1), []⟩,
 ⟨some 9, none, .fld 1 (.t 1), []⟩,
 ⟨some 10, none, .ld 1 false (.t 9), []⟩,
 ⟨some 11, none, .bin .mul (.t 10) (.c (.int .i64 2)), []⟩,
 ⟨some 12, none, .bin .mul (.t 11) (.c (.int .i64 3)), []⟩,
 ⟨some 8, none, .call 40 [.t 7], [(10, .ld 1 false (.t 9))]⟩,
 ⟨some 13, none, .bin .add (.t 8) (.t 12), []⟩,
 ⟨some 2, none, .mv (.t 13), []⟩,
 ⟨some 3, none, .mv (.c (.int .i64 0)), []⟩])
 .ret)))⟩
theorem F41_code : cfgA.code 41 = some F41 := by kernel_rfl

/-- ticketline/mem.New -/
noncomputable def F42 : AFn := ⟨14, [.tmp 2, .tmp 3], (.seq
 (.ops 0 [⟨some 2, none, .mv (.c (.nilp)), []⟩,
 ⟨some 3, none, .mv (.c (.int .i64 0)), []⟩])
 (.seq
 (.seq
 (.ops 1 [⟨some 4, none, .mv (.t 0), []⟩,
 ⟨some 5, none, .bin .lss (.t 4) (.c (.int .i64 1)), []⟩,
 ⟨some 6, none, .mv (.t 5), []⟩,
 ⟨some 7, some (6, false), .mv (.t 0), []⟩,
 ⟨some 8, some (6, false), .bin .gtr (.t 7) (.c (.int .i64 65536)), []⟩,
 ⟨some 9, none, .pick (.t 6) (.c (.bool true)) (.t 8), []⟩])
 (.cond (.t 9)
 (.seq
 (.ops 2 [⟨some 2, none, .mv (.c (.nilp)), []⟩,
 ⟨some 3, none, .mv (.c (.int .i64 2)), []⟩])
 .ret)
 .skip))
 (.seq
 (.ops 3 [⟨some 10, none, .mv (.t 0), []⟩,
 ⟨some 11, none, .mks [.int .u64 0] 1 8 (.t 10) (.t 10) true, []⟩,
 ⟨some 12, none, .build [.nils] [(0, 1, (.t 11))], []⟩,
 ⟨some 13, none, .box 1 (.t 12) true, []⟩,
 ⟨some 2, none, .mv (.t 13), []⟩,
 ⟨some 3, none, .mv (.c (.int .i64 0)), []⟩])
 .ret)))⟩
theorem F42_code : cfgA.code 42 = some F42 := by kernel_rfl

/-- ticketline/arena.Format: the round 0 -/
@[reducible] noncomputable def B43x0 : AC := (.seq
 (.ops 7 [⟨some 35, none, .bin .lss (.t 34) (.t 33), []⟩])
 (.seq
 (.cond (.t 35)
 .skip
 (.exit 1))
 (.seq
 (.block 2
 (.seq
 (.ops 8 [⟨some 36, none, .mv (.t 34), []⟩,
 ⟨some 7, none, .mv (.t 36), []⟩])
 (.ops 9 [⟨some 37, none, .ld 1 true (.t 6), []⟩,
 ⟨some 38, none, .mv (.t 7), []⟩,
 ⟨some 39, none, .call 82 [.t 37, .t 38, .c (.int .u64 0)], []⟩])))
 (.ops 10 [⟨some 40, none, .bin .add (.t 34) (.c (.int .i64 1)), []⟩,
 ⟨some 34, none, .mv (.t 40), []⟩]))))

/-- ticketline/arena.Format: the round 1 -/
@[reducible] noncomputable def B43x1 : AC := (.seq
 (.seq
 (.ops 15 [⟨some 49, none, .mv (.t 8), []⟩,
 ⟨some 50, none, .mv (.t 1), []⟩,
 ⟨some 51, none, .bin .lss (.t 49) (.t 50), []⟩])
 (.cond (.t 51)
 .skip
 (.exit 3)))
 (.seq
 (.block 4
 (.ops 17 [⟨some 54, none, .ld 1 true (.t 6), []⟩,
 ⟨some 55, none, .mv (.t 8), []⟩,
 ⟨some 57, none, .mv (.t 8), []⟩,
 ⟨some 58, none, .bin .add (.t 57) (.c (.int .i64 1)), []⟩,
 ⟨some 59, none, .cvi .u64 (.t 58), []⟩,
 ⟨some 56, none, .call 60 [.t 55, .c (.int .i64 10)], [(54, .ld 1 true (.t 6))]⟩,
 ⟨some 60, none, .call 82 [.t 54, .t 56, .t 59], []⟩]))
 (.ops 16 [⟨some 52, none, .mv (.t 8), []⟩,
 ⟨some 53, none, .bin .add (.t 52) (.c (.int .i64 1)), []⟩,
 ⟨some 8, none, .mv (.t 53), []⟩])))

/-- ticketline/arena.Format -/
noncomputable def F43 : AFn := ⟨64, [.tmp 4, .tmp 5], (.seq
 (.ops 0 [⟨some 4, none, .mv (.c (.nilp)), []⟩,
 ⟨some 5, none, .mv (.c (.int .i64 0)), []⟩])
 (.seq
 (.block 0
 (.seq
 (.ops 1 [⟨some 10, none, .mv (.t 0), []⟩,
 ⟨some 11, none, .call 16 [.t 10], []⟩,
 ⟨some 12, none, .bin .eql (.t 11) (.c (.int .i64 0)), []⟩,
 ⟨some 9, none, .mv (.t 12), []⟩])
 (.cond (.t 9)
 (.seq
 (.ops 2 [⟨some 4, none, .mv (.c (.nilp)), []⟩,
 ⟨some 5, none, .mv (.c (.int .i64 1)), []⟩])
 .ret)
 (.seq
 (.ops 3 [⟨some 14, none, .mv (.t 1), []⟩,
 ⟨some 15, none, .bin .lss (.t 14) (.c (.int .i64 1)), []⟩,
 ⟨some 16, none, .mv (.t 15), []⟩,
 ⟨some 17, some (16, false), .mv (.t 1), []⟩,
 ⟨some 18, some (16, false), .bin .gtr (.t 17) (.c (.int .i64 511)), []⟩,
 ⟨some 19, none, .pick (.t 16) (.c (.bool true)) (.t 18), []⟩,
 ⟨some 20, none, .mv (.t 19), []⟩,
 ⟨some 21, some (20, false), .mv (.t 1), []⟩,
 ⟨some 22, some (20, false), .bin .add (.t 21) (.c (.int .i64 1)), []⟩,
 ⟨some 23, some (20, false), .call 60 [.t 22, .c (.int .i64 0)], []⟩,
 ⟨some 24, some (20, false), .mv (.t 0), []⟩,
 ⟨some 25, some (20, false), .call 16 [.t 24], []⟩,
 ⟨some 26, some (20, false), .bin .gtr (.t 23) (.t 25), []⟩,
 ⟨some 27, none, .pick (.t 20) (.c (.bool true)) (.t 26), []⟩,
 ⟨some 13, none, .mv (.t 27), []⟩])
 (.cond (.t 13)
 (.seq
 (.ops 4 [⟨some 4, none, .mv (.c (.nilp)), []⟩,
 ⟨some 5, none, .mv (.c (.int .i64 2)), []⟩])
 .ret)
 .skip)))))
 (.seq
 (.ops 5 [⟨some 28, none, .mv (.t 0), []⟩,
 ⟨some 29, none, .call 61 [.t 28], []⟩,
 ⟨some 30, none, .build [.nilp] [(0, 1, (.t 29))], []⟩,
 ⟨some 6, none, .alloc [.nilp] false, []⟩,
 ⟨none, none, .st 1 (.t 6) (.t 30), []⟩])
 (.seq
 (.seq
 (.ops 6 [⟨some 31, none, .mv (.t 1), []⟩,
 ⟨some 32, none, .bin .add (.t 31) (.c (.int .i64 1)), []⟩,
 ⟨some 33, none, .call 60 [.t 32, .c (.int .i64 0)], []⟩,
 ⟨some 34, none, .mv (.c (.int .i64 0)), []⟩])
 (.block 1
 (.loop [] B43x0)))
 (.seq
 (.ops 11 [⟨some 41, none, .ld 1 true (.t 6), []⟩,
 ⟨some 42, none, .mv (.t 1), []⟩,
 ⟨some 43, none, .cvi .u64 (.t 42), []⟩,
 ⟨some 44, none, .call 82 [.t 41, .c (.int .i64 0), .t 43], []⟩])
 (.seq
 (.ops 12 [⟨some 45, none, .ld 1 true (.t 6), []⟩,
 ⟨some 46, none, .call 82 [.t 45, .c (.int .i64 1), .c (.int .u64 1)], []⟩])
 (.seq
 (.ops 13 [⟨some 47, none, .ld 1 true (.t 6), []⟩,
 ⟨some 48, none, .call 82 [.t 47, .c (.int .i64 4), .c (.int .u64 1)], []⟩])
 (.seq
 (.seq
 (.ops 14 [⟨some 8, none, .mv (.c (.int .i64 1)), []⟩])
 (.block 3
 (.loop [] B43x1)))
 (.seq
 (.ops 18 [⟨some 61, none, .ld 1 true (.t 6), []⟩,
 ⟨some 62, none, .build [.nilp] [(0, 1, (.t 61))], []⟩,
 ⟨some 63, none, .box 1 (.t 62) true, []⟩,
 ⟨some 4, none, .mv (.t 63), []⟩,
 ⟨some 5, none, .mv (.c (.int .i64 0)), []⟩])
 .ret)))))))))⟩
theorem F43_code : cfgA.code 43 = some F43 := by kernel_rfl

/-- (*ticketline/arena.Arena).SetRoot -/
noncomputable def F44 : AFn := ⟨23, [.tmp 4], (.seq
 (.ops 0 [⟨some 4, none, .mv (.c (.int .i64 0)), []⟩])
 (.seq
 (.seq
 (.ops 1 [⟨some 6, none, .mv (.t 0), []⟩,
 ⟨some 7, none, .call 63 [.t 6], []⟩])
 (.cond (.t 7)
 (.seq
 (.ops 2 [⟨some 4, none, .mv (.c (.int .i64 1)), []⟩])
 .ret)
 .skip))
 (.seq
 (.seq
 (.ops 3 [⟨some 8, none, .mv (.t 1), []⟩,
 ⟨some 9, none, .bin .neq (.t 8) (.c (.int .i64 0)), []⟩])
 (.cond (.t 9)
 (.seq
 (.ops 4 [⟨some 10, none, .mv (.t 0), []⟩,
 ⟨some 11, none, .mv (.t 1), []⟩,
 ⟨some 12, none, .call 88 [.t 10, .t 11, .c (.bool false)], []⟩,
 ⟨some 5, none, .mv (.t 12), []⟩])
 (.seq
 (.ops 5 [⟨some 13, none, .mv (.t 5), []⟩,
 ⟨some 14, none, .bin .neq (.t 13) (.c (.int .i64 0)), []⟩])
 (.cond (.t 14)
 (.seq
 (.ops 6 [⟨some 15, none, .mv (.t 5), []⟩,
 ⟨some 4, none, .mv (.t 15), []⟩])
 .ret)
 .skip)))
 .skip))
 (.seq
 (.ops 7 [⟨some 16, none, .mv (.t 0), []⟩,
 ⟨some 17, none, .nilc (.t 16) (mok Tryz.prog), []⟩,
 ⟨some 18, none, .fld 0 (.t 17), []⟩,
 ⟨some 19, none, .ld 1 true (.t 18), []⟩,
 ⟨some 20, none, .mv (.t 1), []⟩,
 ⟨some 21, none, .cvi .u64 (.t 20), []⟩,
 ⟨some 22, none, .call 82 [.t 19, .c (.int .i64 3), .t 21], []⟩])
 (.seq
 (.ops 8 [⟨some 4, none, .mv (.c (.int .i64 0)), []⟩])
 .ret)))))⟩
theorem F44_code : cfgA.code 44 = some F44 := by kernel_rfl

/-- ticketline/descend.At -/
noncomputable def F45 : AFn := ⟨26, [.tmp 4, .tmp 5], (.seq
 (.ops 0 [⟨some 2, none, .box 2 (.t 0) false, []⟩,
 ⟨some 4, none, .mv (.c (.int .i64 0)), []⟩,
 ⟨some 5, none, .mv (.c (.int .i64 0)), []⟩])
 (.seq
 (.block 0
 (.seq
 (.ops 1 [⟨some 7, none, .ld 2 true (.t 2), []⟩,
 ⟨some 8, none, .call 38 [.t 7], []⟩,
 ⟨some 9, none, .un .not (.t 8), []⟩,
 ⟨some 6, none, .mv (.t 9), []⟩])
 (.cond (.t 6)
 (.seq
 (.ops 2 [⟨some 4, none, .mv (.c (.int .i64 0)), []⟩,
 ⟨some 5, none, .mv (.c (.int .i64 2)), []⟩])
 .ret)
 (.seq
 (.ops 3 [⟨some 11, none, .mv (.t 1), []⟩,
 ⟨some 12, none, .bin .lss (.t 11) (.c (.int .i64 0)), []⟩,
 ⟨some 13, none, .mv (.t 12), []⟩,
 ⟨some 14, some (13, false), .mv (.t 1), []⟩,
 ⟨some 15, some (13, false), .fld 0 (.t 2), []⟩,
 ⟨some 16, some (13, false), .ld 1 false (.t 15), []⟩,
 ⟨some 17, some (13, false), .bin .gtr (.t 14) (.t 16), []⟩,
 ⟨some 18, none, .pick (.t 13) (.c (.bool true)) (.t 17), []⟩,
 ⟨some 10, none, .mv (.t 18), []⟩])
 (.cond (.t 10)
 (.seq
 (.ops 4 [⟨some 4, none, .mv (.c (.int .i64 0)), []⟩,
 ⟨some 5, none, .mv (.c (.int .i64 3)), []⟩])
 .ret)
 (.seq
 (.ops 5 [⟨some 20, none, .mv (.t 1), []⟩,
 ⟨some 21, none, .bin .eql (.t 20) (.c (.int .i64 0)), []⟩,
 ⟨some 19, none, .mv (.t 21), []⟩])
 (.cond (.t 19)
 (.seq
 (.ops 6 [⟨some 4, none, .mv (.c (.int .i64 8)), []⟩,
 ⟨some 5, none, .mv (.c (.int .i64 0)), []⟩])
 .ret)
 .skip)))))))
 (.seq
 (.ops 7 [⟨some 22, none, .mv (.t 1), []⟩,
 ⟨some 23, none, .call 93 [.t 22, .c (.int .i64 0)], []⟩,
 ⟨some 24, none, .ext (.t 23) 0, []⟩,
 ⟨some 25, none, .ext (.t 23) 1, []⟩,
 ⟨some 4, none, .mv (.t 24), []⟩,
 ⟨some 5, none, .mv (.t 25), []⟩])
 .ret)))⟩
theorem F45_code : cfgA.code 45 = some F45 := by kernel_rfl

/-- ticketline/descend.Of -/
noncomputable def F46 : AFn := ⟨19, [.tmp 4, .tmp 5], (.seq
 (.ops 0 [⟨some 2, none, .box 2 (.t 0) false, []⟩,
 ⟨some 4, none, .mv (.c (.int .i64 0)), []⟩,
 ⟨some 5, none, .mv (.c (.int .i64 0)), []⟩])
 (.seq
 (.ops 1 [⟨some 9, none, .ld 2 true (.t 2), []⟩,
 ⟨some 10, none, .mv (.t 1), []⟩,
 ⟨some 11, none, .call 45 [.t 9, .t 10], []⟩,
 ⟨some 8, none, .mv (.t 11), []⟩,
 ⟨some 12, none, .ext (.t 8) 0, []⟩,
 ⟨some 13, none, .ext (.t 8) 1, []⟩,
 ⟨some 6, none, .mv (.t 12), []⟩,
 ⟨some 7, none, .mv (.t 13), []⟩])
 (.seq
 (.seq
 (.ops 2 [⟨some 14, none, .mv (.t 7), []⟩,
 ⟨some 15, none, .bin .neq (.t 14) (.c (.int .i64 0)), []⟩])
 (.cond (.t 15)
 (.seq
 (.ops 3 [⟨some 16, none, .mv (.t 7), []⟩,
 ⟨some 4, none, .mv (.c (.int .i64 0)), []⟩,
 ⟨some 5, none, .mv (.t 16), []⟩])
 .ret)
 .skip))
 (.seq
 (.ops 4 [⟨some 17, none, .mv (.t 6), []⟩,
 ⟨some 18, none, .bin .add (.t 17) (.c (.int .i64 3)), []⟩,
 ⟨some 4, none, .mv (.t 18), []⟩,
 ⟨some 5, none, .mv (.c (.int .i64 0)), []⟩])
 .ret))))⟩
theorem F46_code : cfgA.code 46 = some F46 := by kernel_rfl

/-- ticketline/ticketlinelaw27.given -/
noncomputable def F47 : AFn := ⟨2, [.cell 0 2 true], (.seq
 (.ops 0 [⟨some 0, none, .alloc [.int .i64 0, .int .i64 0] false, []⟩])
 (.seq
 (.ops 1 [⟨some 1, none, .build [.int .i64 0, .int .i64 0] [(0, 1, (.c (.int .i64 3))), (1, 1, (.c (.int .i64 2)))], []⟩,
 ⟨none, none, .st 2 (.t 0) (.t 1), []⟩])
 .ret))⟩
theorem F47_code : cfgA.code 47 = some F47 := by kernel_rfl

/-- ticketline/descend.NewFind -/
noncomputable def F48 : AFn := ⟨30, [.tmp 6, .tmp 7], (.seq
 (.ops 0 [⟨some 3, none, .box 2 (.t 0) false, []⟩,
 ⟨some 6, none, .mv (.c (.nilp)), []⟩,
 ⟨some 7, none, .mv (.c (.int .i64 0)), []⟩])
 (.seq
 (.seq
 (.ops 1 [⟨some 8, none, .ld 2 true (.t 3), []⟩,
 ⟨some 9, none, .call 38 [.t 8], []⟩,
 ⟨some 10, none, .un .not (.t 9), []⟩,
 ⟨some 11, none, .mv (.t 10), []⟩,
 ⟨some 12, some (11, false), .mv (.t 1), []⟩,
 ⟨some 13, some (11, false), .call 94 [.t 12], []⟩,
 ⟨some 14, some (11, false), .un .not (.t 13), []⟩,
 ⟨some 15, none, .pick (.t 11) (.c (.bool true)) (.t 14), []⟩,
 ⟨some 16, none, .mv (.t 15), []⟩,
 ⟨some 17, some (16, false), .mv (.t 2), []⟩,
 ⟨some 18, some (16, false), .bin .lss (.t 17) (.c (.int .i64 0)), []⟩,
 ⟨some 19, none, .pick (.t 16) (.c (.bool true)) (.t 18), []⟩,
 ⟨some 20, none, .mv (.t 19), []⟩,
 ⟨some 21, some (20, false), .mv (.t 2), []⟩,
 ⟨some 22, some (20, false), .bin .gtr (.t 21) (.c (.int .i64 64)), []⟩,
 ⟨some 23, none, .pick (.t 20) (.c (.bool true)) (.t 22), []⟩])
 (.cond (.t 23)
 (.seq
 (.ops 2 [⟨some 6, none, .mv (.c (.nilp)), []⟩,
 ⟨some 7, none, .mv (.c (.int .i64 2)), []⟩])
 .ret)
 .skip))
 (.seq
 (.ops 3 [⟨some 24, none, .ld 2 true (.t 3), []⟩,
 ⟨some 25, none, .mv (.t 1), []⟩,
 ⟨some 26, none, .mv (.t 2), []⟩,
 ⟨some 27, none, .call 95 [], [(24, .ld 2 true (.t 3))]⟩,
 ⟨some 28, none, .build [.int .i64 0, .int .i64 0, .str [], .int .i64 0, .int .i64 0, .int .i64 0, .int .i64 0, .nilp, .int .i64 0, .int .u64 0, .int .u64 0, .int .u64 0, .int .u64 0, .int .u64 0, .int .u64 0, .int .u64 0, .int .u64 0, .int .u64 0, .int .u64 0, .int .u64 0, .int .u64 0, .int .u64 0, .int .u64 0, .int .u64 0, .int .u64 0, .int .u64 0, .int .u64 0, .int .u64 0, .int .u64 0, .int .u64 0, .int .u64 0, .int .u64 0, .int .u64 0, .int .u64 0, .int .u64 0, .int .u64 0, .int .u64 0, .int .u64 0, .int .u64 0, .int .u64 0, .int .u64 0, .int .u64 0, .int .u64 0, .int .u64 0, .int .u64 0, .int .u64 0, .int .u64 0, .int .u64 0, .int .u64 0, .int .u64 0, .int .u64 0, .int .u64 0, .int .u64 0, .int .u64 0, .int .u64 0, .int .u64 0, .int .u64 0, .int .u64 0, .int .u64 0, .int .u64 0, .int .u64 0, .int .u64 0, .int .u64 0, .int .u64 0, .int .u64 0, .int .u64 0, .int .u64 0, .int .u64 0, .int .u64 0, .int .u64 0, .int .u64 0, .int .u64 0, .int .u64 0, .int .u64 0, .int .u64 0, .int .u64 0, .int .u64 0, .int .u64 0, .int .u64 0, .int .u64 0, .int .u64 0, .int .u64 0, .int .u64 0, .int .u64 0, .int .u64 0, .int .u64 0, .int .u64 0, .int .u64 0, .int .u64 0, .int .u64 0, .int .u64 0, .int .u64 0, .int .u64 0, .int .u64 0, .int .u64 0, .int .u64 0, .int .u64 0, .int .u64 0, .int .u64 0, .int .u64 0, .int .u64 0, .int .u64 0, .int .u64 0, .int .u64 0, .int .u64 0, .int .u64 0, .int .u64 0, .int .u64 0, .int .u64 0, .int .u64 0, .int .u64 0, .int .u64 0, .int .u64 0, .int .u64 0, .int .u64 0, .int .u64 0, .int .u64 0, .int .u64 0, .int .u64 0, .int .u64 0, .int .u64 0, .int .u64 0, .int .u64 0, .int .u64 0, .int .u64 0, .int .u64 0, .int .u64 0, .int .u64 0, .int .u64 0, .int .u64 0, .int .u64 0, .int .u64 0, .int .u64 0, .int .u64 0, .int .u64 0, .int .u64 0, .int .u64 0, .int .u64 0, .bool false] [(0, 2, (.t 24)), (2, 1, (.t 25)), (3, 1, (.t 26)), (7, 1, (.t 27))], []⟩,
 ⟨some 29, none, .box 139 (.t 28) true, []⟩,
 ⟨some 6, none, .mv (.t 29), []⟩,
 ⟨some 7, none, .mv (.c (.int .i64 0)), []⟩])
 .ret)))⟩
theorem F48_code : cfgA.code 48 = some F48 := by kernel_rfl

/-- ticketline/descend.NewScan -/
noncomputable def F49 : AFn := ⟨52, [.tmp 10, .tmp 11], (.seq
 (.ops 0 [⟨some 5, none, .box 2 (.t 0) false, []⟩,
 ⟨some 10, none, .mv (.c (.nilp)), []⟩,
 ⟨some 11, none, .mv (.c (.int .i64 0)), []⟩])
 (.seq
 (.seq
 (.ops 1 [⟨some 13, none, .ld 2 true (.t 5), []⟩,
 ⟨some 14, none, .call 38 [.t 13], []⟩,
 ⟨some 15, none, .un .not (.t 14), []⟩,
 ⟨some 16, none, .mv (.t 15), []⟩,
 ⟨some 17, some (16, false), .mv (.t 1), []⟩,
 ⟨some 18, some (16, false), .len .string (.t 17), []⟩,
 ⟨some 19, some (16, false), .bin .gtr (.t 18) (.c (.int .i64 24)), []⟩,
 ⟨some 20, none, .pick (.t 16) (.c (.bool true)) (.t 19), []⟩,
 ⟨some 21, none, .mv (.t 20), []⟩,
 ⟨some 22, some (21, false), .mv (.t 2), []⟩,
 ⟨some 23, some (21, false), .len .string (.t 22), []⟩,
 ⟨some 24, some (21, false), .bin .gtr (.t 23) (.c (.int .i64 24)), []⟩,
 ⟨some 25, none, .pick (.t 21) (.c (.bool true)) (.t 24), []⟩,
 ⟨some 26, none, .mv (.t 25), []⟩,
 ⟨some 27, some (26, false), .mv (.t 3), []⟩,
 ⟨some 28, some (26, false), .bin .lss (.t 27) (.c (.int .i64 1)), []⟩,
 ⟨some 29, none, .pick (.t 26) (.c (.bool true)) (.t 28), []⟩,
 ⟨some 30, none, .mv (.t 29), []⟩,
 ⟨some 31, some (30, false), .mv (.t 3), []⟩,
 ⟨some 32, some (30, false), .bin .gtr (.t 31) (.c (.int .i64 32)), []⟩,
 ⟨some 33, none, .pick (.t 30) (.c (.bool true)) (.t 32), []⟩,
 ⟨some 34, none, .mv (.t 33), []⟩,
 ⟨some 35, some (34, false), .mv (.t 4), []⟩,
 ⟨some 36, some (34, false), .bin .lss (.t 35) (.c (.int .i64 0)), []⟩,
 ⟨some 37, none, .pick (.t 34) (.c (.bool true)) (.t 36), []⟩,
 ⟨some 38, none, .mv (.t 37), []⟩,
 ⟨some 39, some (38, false), .mv (.t 4), []⟩,
 ⟨some 40, some (38, false), .bin .gtr (.t 39) (.c (.int .i64 64)), []⟩,
 ⟨some 41, none, .pick (.t 38) (.c (.bool true)) (.t 40), []⟩])
 (.cond (.t 41)
 (.seq
 (.ops 2 [⟨some 10, none, .mv (.c (.nilp)), []⟩,
 ⟨some 11, none, .mv (.c (.int .i64 2)), []⟩])
 .ret)
 .skip))
 (.seq
 (.ops 3 [⟨some 42, none, .ld 2 true (.t 5), []⟩,
 ⟨some 43, none, .mv (.t 1), []⟩,
 ⟨some 44, none, .mv (.t 2), []⟩,
 ⟨some 45, none, .mv (.t 3), []⟩,
 ⟨some 46, none, .mv (.t 4), []⟩,
 ⟨some 47, none, .build [.int .i64 0, .int .i64 0, .str [], .str [], .int .i64 0, .int .i64 0, .int .i64 0, .nilp, .nilp, .int .i64 0, .str [], .nils, .int .i64 0, .nils, .int .i64 0, .bool false] [(0, 2, (.t 42)), (2, 1, (.t 43)), (3, 1, (.t 44)), (4, 1, (.t 45)), (5, 1, (.t 46))], []⟩,
 ⟨some 48, none, .box 16 (.t 47) true, []⟩,
 ⟨some 12, none, .mv (.t 48), []⟩])
 (.seq
 (.ops 4 [⟨some 49, none, .mv (.t 12), []⟩,
 ⟨some 50, none, .call 96 [.t 49], []⟩])
 (.seq
 (.ops 5 [⟨some 51, none, .mv (.t 12), []⟩,
 ⟨some 10, none, .mv (.t 51), []⟩,
 ⟨some 11, none, .mv (.c (.int .i64 0)), []⟩])
 .ret)))))⟩
theorem F49_code : cfgA.code 49 = some F49 := by kernel_rfl

/-- ticketline/ticketlinelaw27.steps: the round 0 -/
@[reducible] noncomputable def B50x0 : AC := (.seq
 (.seq
 (.ops 2 [⟨some 13, none, .mv (.t 8), []⟩,
 ⟨some 14, none, .mv (.t 2), []⟩,
 ⟨some 15, none, .bin .lss (.t 13) (.t 14), []⟩,
 ⟨some 16, none, .mv (.t 15), []⟩,
 ⟨some 17, some (16, true), .mv (.t 0), []⟩,
 ⟨some 18, some (16, true), .invk (.t 17) "Done" [], []⟩,
 ⟨some 19, some (16, true), .un .not (.t 18), []⟩,
 ⟨some 20, none, .pick (.t 16) (.t 19) (.c (.bool false)), []⟩])
 (.cond (.t 20)
 .skip
 (.exit 0)))
 (.seq
 (.block 1
 (.seq
 (.ops 4 [⟨some 24, none, .mv (.t 1), []⟩,
 ⟨some 25, none, .call 97 [.t 24], []⟩,
 ⟨some 23, none, .mv (.t 25), []⟩,
 ⟨some 26, none, .ext (.t 23) 0, []⟩,
 ⟨some 27, none, .ext (.t 23) 1, []⟩,
 ⟨some 9, none, .mv (.t 26), []⟩,
 ⟨some 10, none, .mv (.t 27), []⟩])
 (.seq
 (.seq
 (.ops 5 [⟨some 28, none, .mv (.t 10), []⟩,
 ⟨some 29, none, .bin .neq (.t 28) (.c (.int .i64 0)), []⟩])
 (.cond (.t 29)
 (.seq
 (.ops 6 [⟨some 30, none, .mv (.t 7), []⟩,
 ⟨some 6, none, .mv (.c (.bool false)), []⟩,
 ⟨some 7, none, .mv (.t 30), []⟩])
 .ret)
 .skip))
 (.seq
 (.ops 7 [⟨some 32, none, .mv (.t 0), []⟩,
 ⟨some 33, none, .mv (.t 9), []⟩,
 ⟨some 34, none, .mki 150 (.t 33), []⟩,
 ⟨some 35, none, .invk (.t 32) "Step" [.t 34], []⟩,
 ⟨some 31, none, .mv (.t 35), []⟩,
 ⟨some 36, none, .ext (.t 31) 0, []⟩,
 ⟨some 37, none, .ext (.t 31) 1, []⟩,
 ⟨some 11, none, .mv (.t 36), []⟩,
 ⟨some 10, none, .mv (.t 37), []⟩])
 (.seq
 (.seq
 (.ops 8 [⟨some 38, none, .mv (.t 9), []⟩,
 ⟨some 39, none, .call 98 [.t 38], []⟩,
 ⟨some 40, none, .fdv 0 1 false (.t 39), []⟩,
 ⟨some 12, none, .mv (.t 40), []⟩])
 (.seq
 (.ops 9 [⟨some 41, none, .mv (.t 10), []⟩,
 ⟨some 42, none, .bin .neq (.t 41) (.c (.int .i64 0)), []⟩,
 ⟨some 43, none, .mv (.t 42), []⟩,
 ⟨some 44, some (43, false), .mv (.t 12), []⟩,
 ⟨some 45, some (43, false), .bin .neq (.t 44) (.c (.int .i64 1)), []⟩,
 ⟨some 46, some (43, false), .mv (.t 45), []⟩,
 ⟨some 47, some (46, true), .mv (.t 12), []⟩,
 ⟨some 48, some (46, true), .bin .neq (.t 47) (.c (.int .i64 0)), []⟩,
 ⟨some 49, some (43, false), .pick (.t 46) (.t 48) (.c (.bool false)), []⟩,
 ⟨some 50, none, .pick (.t 43) (.c (.bool true)) (.t 49), []⟩])
 (.cond (.t 50)
 (.seq
 (.ops 10 [⟨some 51, none, .mv (.t 7), []⟩,
 ⟨some 6, none, .mv (.c (.bool false)), []⟩,
 ⟨some 7, none, .mv (.t 51), []⟩])
 .ret)
 .skip)))
 (.ops 11 [⟨some 52, none, .mv (.t 7), []⟩,
 ⟨some 53, none, .mv (.t 52), []⟩,
 ⟨some 54, some (53, false), .mv (.t 11), []⟩,
 ⟨some 55, none, .pick (.t 53) (.c (.bool true)) (.t 54), []⟩,
 ⟨some 7, none, .mv (.t 55), []⟩]))))))
 (.ops 3 [⟨some 21, none, .mv (.t 8), []⟩,
 ⟨some 22, none, .bin .add (.t 21) (.c (.int .i64 1)), []⟩,
 ⟨some 8, none, .mv (.t 22), []⟩])))

/-- ticketline/ticketlinelaw27.steps -/
noncomputable def F50 : AFn := ⟨59, [.tmp 6, .tmp 7], (.seq
 (.ops 0 [⟨some 6, none, .mv (.c (.bool false)), []⟩,
 ⟨some 7, none, .mv (.c (.bool false)), []⟩])
 (.seq
 (.seq
 (.ops 1 [⟨some 8, none, .mv (.c (.int .i64 0)), []⟩])
 (.block 0
 (.loop [] B50x0)))
 (.seq
 (.ops 12 [⟨some 56, none, .mv (.t 0), []⟩,
 ⟨some 57, none, .invk (.t 56) "Done" [], []⟩,
 ⟨some 58, none, .mv (.t 7), []⟩,
 ⟨some 6, none, .mv (.t 57), []⟩,
 ⟨some 7, none, .mv (.t 58), []⟩])
 .ret)))⟩
theorem F50_code : cfgA.code 50 = some F50 := by kernel_rfl

/-- (*ticketline/descend.Find).Result -/
noncomputable def F51 : AFn := ⟨13, [.tmp 2], (.seq
 (.ops 0 [⟨some 2, none, .mv (.c (.int .u64 0)), []⟩])
 (.seq
 (.seq
 (.ops 1 [⟨some 3, none, .mv (.t 0), []⟩,
 ⟨some 4, none, .call 99 [.t 3], []⟩,
 ⟨some 5, none, .mv (.t 4), []⟩,
 ⟨some 6, some (5, true), .mv (.t 0), []⟩,
 ⟨some 7, some (5, true), .nilc (.t 6) (mok Tryz.prog), []⟩,
 ⟨some 8, some (5, true), .fld 8 (.t 7), []⟩,
 ⟨some 9, some (5, true), .fld 0 (.t 8), []⟩,
 ⟨some 10, some (5, true), .ld 1 false (.t 9), []⟩,
 ⟨some 11, some (5, true), .bin .gtr (.t 10) (.c (.int .i64 0)), []⟩,
 ⟨some 12, none, .pick (.t 5) (.t 11) (.c (.bool false)), []⟩])
 (.cond (.t 12)
 (.seq
 (.ops 2 [⟨some 2, none, .mv (.c (.int .u64 1)), []⟩])
 .ret)
 .skip))
 (.seq
 (.ops 3 [⟨some 2, none, .mv (.c (.int .u64 0)), []⟩])
 .ret)))⟩
theorem F51_code : cfgA.code 51 = some F51 := by kernel_rfl

/-- (*ticketline/descend.Find).Leaf -/
noncomputable def F52 : AFn := ⟨10, [.cell 2 130 true], (.seq
 (.ops 0 [⟨some 2, none, .alloc [.int .i64 0, .int .u64 0, .int .u64 0, .int .u64 0, .int .u64 0, .int .u64 0, .int .u64 0, .int .u64 0, .int .u64 0, .int .u64 0, .int .u64 0, .int .u64 0, .int .u64 0, .int .u64 0, .int .u64 0, .int .u64 0, .int .u64 0, .int .u64 0, .int .u64 0, .int .u64 0, .int .u64 0, .int .u64 0, .int .u64 0, .int .u64 0, .int .u64 0, .int .u64 0, .int .u64 0, .int .u64 0, .int .u64 0, .int .u64 0, .int .u64 0, .int .u64 0, .int .u64 0, .int .u64 0, .int .u64 0, .int .u64 0, .int .u64 0, .int .u64 0, .int .u64 0, .int .u64 0, .int .u64 0, .int .u64 0, .int .u64 0, .int .u64 0, .int .u64 0, .int .u64 0, .int .u64 0, .int .u64 0, .int .u64 0, .int .u64 0, .int .u64 0, .int .u64 0, .int .u64 0, .int .u64 0, .int .u64 0, .int .u64 0, .int .u64 0, .int .u64 0, .int .u64 0, .int .u64 0, .int .u64 0, .int .u64 0, .int .u64 0, .int .u64 0, .int .u64 0, .int .u64 0, .int .u64 0, .int .u64 0, .int .u64 0, .int .u64 0, .int .u64 0, .int .u64 0, .int .u64 0, .int .u64 0, .int .u64 0, .int .u64 0, .int .u64 0, .int .u64 0, .int .u64 0, .int .u64 0, .int .u64 0, .int .u64 0, .int .u64 0, .int .u64 0, .int .u64 0, .int .u64 0, .int .u64 0, .int .u64 0, .int .u64 0, .int .u64 0, .int .u64 0, .int .u64 0, .int .u64 0, .int .u64 0, .int .u64 0, .int .u64 0, .int .u64 0, .int .u64 0, .int .u64 0, .int .u64 0, .int .u64 0, .int .u64 0, .int .u64 0, .int .u64 0, .int .u64 0, .int .u64 0, .int .u64 0, .int .u64 0, .int .u64 0, .int .u64 0, .int .u64 0, .int .u64 0, .int .u64 0, .int .u64 0, .int .u64 0, .int .u64 0, .int .u64 0, .int .u64 0, .int .u64 0, .int .u64 0, .int .u64 0, .int .u64 0, .int .u64 0, .int .u64 0, .int .u64 0, .int .u64 0, .int .u64 0, .int .u64 0, .int .u64 0, .int .u64 0] false, []⟩])
 (.seq
 (.seq
 (.ops 1 [⟨some 3, none, .mv (.t 0), []⟩,
 ⟨some 4, none, .call 100 [.t 3], []⟩])
 (.cond (.t 4)
 (.seq
 (.ops 2 [⟨some 5, none, .build [.int .i64 0, .int .u64 0, .int .u64 0, .int .u64 0, .int .u64 0, .int .u64 0, .int .u64 0, .int .u64 0, .int .u64 0, .int .u64 0, .int .u64 0, .int .u64 0, .int .u64 0, .int .u64 0, .int .u64 0, .int .u64 0, .int .u64 0, .int .u64 0, .int .u64 0, .int .u64 0, .int .u64 0, .int .u64 0, .int .u64 0, .int .u64 0, .int .u64 0, .int .u64 0, .int .u64 0, .int .u64 0, .int .u64 0, .int .u64 0, .int .u64 0, .int .u64 0, .int .u64 0, .int .u64 0, .int .u64 0, .int .u64 0, .int .u64 0, .int .u64 0, .int .u64 0, .int .u64 0, .int .u64 0, .int .u64 0, .int .u64 0, .int .u64 0, .int .u64 0, .int .u64 0, .int .u64 0, .int .u64 0, .int .u64 0, .int .u64 0, .int .u64 0, .int .u64 0, .int .u64 0, .int .u64 0, .int .u64 0, .int .u64 0, .int .u64 0, .int .u64 0, .int .u64 0, .int .u64 0, .int .u64 0, .int .u64 0, .int .u64 0, .int .u64 0, .int .u64 0, .int .u64 0, .int .u64 0, .int .u64 0, .int .u64 0, .int .u64 0, .int .u64 0, .int .u64 0, .int .u64 0, .int .u64 0, .int .u64 0, .int .u64 0, .int .u64 0, .int .u64 0, .int .u64 0, .int .u64 0, .int .u64 0, .int .u64 0, .int .u64 0, .int .u64 0, .int .u64 0, .int .u64 0, .int .u64 0, .int .u64 0, .int .u64 0, .int .u64 0, .int .u64 0, .int .u64 0, .int .u64 0, .int .u64 0, .int .u64 0, .int .u64 0, .int .u64 0, .int .u64 0, .int .u64 0, .int .u64 0, .int .u64 0, .int .u64 0, .int .u64 0, .int .u64 0, .int .u64 0, .int .u64 0, .int .u64 0, .int .u64 0, .int .u64 0, .int .u64 0, .int .u64 0, .int .u64 0, .int .u64 0, .int .u64 0, .int .u64 0, .int .u64 0, .int .u64 0, .int .u64 0, .int .u64 0, .int .u64 0, .int .u64 0, .int .u64 0, .int .u64 0, .int .u64 0, .int .u64 0, .int .u64 0, .int .u64 0, .int .u64 0, .int .u64 0, .int .u64 0] [], []⟩,
 ⟨none, none, .st 130 (.t 2) (.t 5), []⟩])
 .ret)
 .skip))
 (.seq
 (.ops 3 [⟨some 6, none, .mv (.t 0), []⟩,
 ⟨some 7, none, .nilc (.t 6) (mok Tryz.prog), []⟩,
 ⟨some 8, none, .fld 8 (.t 7), []⟩,
 ⟨some 9, none, .ld 130 true (.t 8), []⟩,
 ⟨none, none, .st 130 (.t 2) (.t 9), []⟩])
 .ret)))⟩
theorem F52_code : cfgA.code 52 = some F52 := by kernel_rfl

/-- (*ticketline/descend.Scan).Result -/
noncomputable def F53 : AFn := ⟨11, [.tmp 2], (.seq
 (.ops 0 [⟨some 2, none, .mv (.c (.int .u64 0)), []⟩])
 (.seq
 (.seq
 (.ops 1 [⟨some 3, none, .mv (.t 0), []⟩,
 ⟨some 4, none, .call 101 [.t 3], []⟩,
 ⟨some 5, none, .mv (.t 4), []⟩,
 ⟨some 6, some (5, true), .mv (.t 0), []⟩,
 ⟨some 7, some (5, true), .nilc (.t 6) (mok Tryz.prog), []⟩,
 ⟨some 8, some (5, true), .fld 15 (.t 7), []⟩,
 ⟨some 9, some (5, true), .ld 1 false (.t 8), []⟩,
 ⟨some 10, none, .pick (.t 5) (.t 9) (.c (.bool false)), []⟩])
 (.cond (.t 10)
 (.seq
 (.ops 2 [⟨some 2, none, .mv (.c (.int .u64 1)), []⟩])
 .ret)
 .skip))
 (.seq
 (.ops 3 [⟨some 2, none, .mv (.c (.int .u64 0)), []⟩])
 .ret)))⟩
theorem F53_code : cfgA.code 53 = some F53 := by kernel_rfl

/-- (*ticketline/descend.Scan).Pairs -/
noncomputable def F54 : AFn := ⟨11, [.tmp 2], (.seq
 (.ops 0 [⟨some 2, none, .mv (.c (.nils)), []⟩])
 (.seq
 (.seq
 (.ops 1 [⟨some 3, none, .mv (.t 0), []⟩,
 ⟨some 4, none, .call 53 [.t 3], []⟩,
 ⟨some 5, none, .bin .eql (.t 4) (.c (.int .u64 0)), []⟩])
 (.cond (.t 5)
 (.seq
 (.ops 2 [⟨some 2, none, .mv (.c (.nils)), []⟩])
 .ret)
 .skip))
 (.seq
 (.ops 3 [⟨some 6, none, .mv (.t 0), []⟩,
 ⟨some 7, none, .nilc (.t 6) (mok Tryz.prog), []⟩,
 ⟨some 8, none, .fld 13 (.t 7), []⟩,
 ⟨some 9, none, .ld 1 false (.t 8), []⟩,
 ⟨some 10, none, .call 102 [.t 9], []⟩,
 ⟨some 2, none, .mv (.t 10), []⟩])
 .ret)))⟩
theorem F54_code : cfgA.code 54 = some F54 := by kernel_rfl

/-- (*ticketline/mem.Mem).Store -/
noncomputable def F55 : AFn := ⟨18, [.tmp 6], (.seq
 (.ops 0 [⟨some 6, none, .mv (.c (.int .i64 0)), []⟩])
 (.seq
 (.ops 1 [⟨some 10, none, .mv (.t 0), []⟩,
 ⟨some 11, none, .mv (.t 1), []⟩,
 ⟨some 12, none, .mv (.t 2), []⟩,
 ⟨some 13, none, .build [.int .i64 0, .int .i64 0, .int .u64 0, .int .u64 0] [(0, 1, (.c (.int .i64 2))), (1, 1, (.t 11)), (3, 1, (.t 12))], []⟩,
 ⟨some 14, none, .call 103 [.t 10, .t 13], []⟩,
 ⟨some 9, none, .mv (.t 14), []⟩,
 ⟨some 15, none, .ext (.t 9) 0, []⟩,
 ⟨some 16, none, .ext (.t 9) 1, []⟩,
 ⟨some 7, none, .alloc [.int .i64 0, .int .i64 0, .int .u64 0, .int .u64 0] false, []⟩,
 ⟨none, none, .st 4 (.t 7) (.t 15), []⟩,
 ⟨some 8, none, .mv (.t 16), []⟩])
 (.seq
 (.ops 2 [⟨some 17, none, .mv (.t 8), []⟩,
 ⟨some 6, none, .mv (.t 17), []⟩])
 .ret)))⟩
theorem F55_code : cfgA.code 55 = some F55 := by kernel_rfl

/-- (*ticketline/qnode.Nodes).zero -/
noncomputable def F56 : AFn := ⟨12, [.tmp 2], (.seq
 (.ops 0 [⟨some 2, none, .mv (.c (.bool false)), []⟩])
 (.seq
 (.ops 1 [⟨some 3, none, .mv (.t 0), []⟩,
 ⟨some 4, none, .eqn .ptr false (.t 3), []⟩,
 ⟨some 5, none, .mv (.t 4), []⟩,
 ⟨some 6, some (5, false), .mv (.t 0), []⟩,
 ⟨some 7, some (5, false), .nilc (.t 6) (mok Tryz.prog), []⟩,
 ⟨some 8, some (5, false), .fld 1 (.t 7), []⟩,
 ⟨some 9, some (5, false), .ld 1 false (.t 8), []⟩,
 ⟨some 10, some (5, false), .bin .eql (.t 9) (.c (.int .i64 0)), []⟩,
 ⟨some 11, none, .pick (.t 5) (.c (.bool true)) (.t 10), []⟩,
 ⟨some 2, none, .mv (.t 11), []⟩])
 .ret))⟩
theorem F56_code : cfgA.code 56 = some F56 := by kernel_rfl

/-- (*ticketline/qnode.Nodes).many -/
noncomputable def F57 : AFn := ⟨10, [.tmp 2], (.seq
 (.ops 0 [⟨some 2, none, .mv (.c (.int .i64 0)), []⟩])
 (.seq
 (.seq
 (.ops 1 [⟨some 3, none, .mv (.t 0), []⟩,
 ⟨some 4, none, .call 56 [.t 3], []⟩])
 (.cond (.t 4)
 (.seq
 (.ops 2 [⟨some 2, none, .mv (.c (.int .i64 0)), []⟩])
 .ret)
 .skip))
 (.seq
 (.ops 3 [⟨some 5, none, .mv (.t 0), []⟩,
 ⟨some 6, none, .nilc (.t 5) (mok Tryz.prog), []⟩,
 ⟨some 7, none, .fld 1 (.t 6), []⟩,
 ⟨some 8, none, .ld 1 false (.t 7), []⟩,
 ⟨some 9, none, .bin .mul (.t 8) (.c (.int .i64 2)), []⟩,
 ⟨some 2, none, .mv (.t 9), []⟩])
 .ret)))⟩
theorem F57_code : cfgA.code 57 = some F57 := by kernel_rfl

/-- (*ticketline/mem.Mem).zero -/
noncomputable def F58 : AFn := ⟨13, [.tmp 2], (.seq
 (.ops 0 [⟨some 2, none, .mv (.c (.bool false)), []⟩])
 (.seq
 (.ops 1 [⟨some 3, none, .mv (.t 0), []⟩,
 ⟨some 4, none, .eqn .ptr false (.t 3), []⟩,
 ⟨some 5, none, .mv (.t 4), []⟩,
 ⟨some 6, some (5, false), .mv (.t 0), []⟩,
 ⟨some 7, some (5, false), .nilc (.t 6) (mok Tryz.prog), []⟩,
 ⟨some 8, some (5, false), .fld 0 (.t 7), []⟩,
 ⟨some 9, some (5, false), .ld 1 false (.t 8), []⟩,
 ⟨some 10, some (5, false), .len .slice (.t 9), []⟩,
 ⟨some 11, some (5, false), .bin .eql (.t 10) (.c (.int .i64 0)), []⟩,
 ⟨some 12, none, .pick (.t 5) (.c (.bool true)) (.t 11), []⟩,
 ⟨some 2, none, .mv (.t 12), []⟩])
 .ret))⟩
theorem F58_code : cfgA.code 58 = some F58 := by kernel_rfl

/-- (*ticketline/mem.Mem).Load -/
noncomputable def F59 : AFn := ⟨18, [.tmp 4, .tmp 5], (.seq
 (.ops 0 [⟨some 4, none, .mv (.c (.int .u64 0)), []⟩,
 ⟨some 5, none, .mv (.c (.int .i64 0)), []⟩])
 (.seq
 (.ops 1 [⟨some 9, none, .mv (.t 0), []⟩,
 ⟨some 10, none, .mv (.t 1), []⟩,
 ⟨some 11, none, .build [.int .i64 0, .int .i64 0, .int .u64 0, .int .u64 0] [(0, 1, (.c (.int .i64 1))), (1, 1, (.t 10))], []⟩,
 ⟨some 12, none, .call 103 [.t 9, .t 11], []⟩,
 ⟨some 8, none, .mv (.t 12), []⟩,
 ⟨some 13, none, .ext (.t 8) 0, []⟩,
 ⟨some 14, none, .ext (.t 8) 1, []⟩,
 ⟨some 6, none, .alloc [.int .i64 0, .int .i64 0, .int .u64 0, .int .u64 0] false, []⟩,
 ⟨none, none, .st 4 (.t 6) (.t 13), []⟩,
 ⟨some 7, none, .mv (.t 14), []⟩])
 (.seq
 (.ops 2 [⟨some 15, none, .fld 2 (.t 6), []⟩,
 ⟨some 16, none, .ld 1 false (.t 15), []⟩,
 ⟨some 17, none, .mv (.t 7), []⟩,
 ⟨some 4, none, .mv (.t 16), []⟩,
 ⟨some 5, none, .mv (.t 17), []⟩])
 .ret)))⟩
theorem F59_code : cfgA.code 59 = some F59 := by kernel_rfl

/-- ticketline/arena.place -/
noncomputable def F60 : AFn := ⟨11, [.tmp 4], (.seq
 (.ops 0 [⟨some 4, none, .mv (.c (.int .i64 0)), []⟩])
 (.seq
 (.ops 1 [⟨some 5, none, .mv (.t 0), []⟩,
 ⟨some 6, none, .bin .sub (.t 5) (.c (.int .i64 1)), []⟩,
 ⟨some 7, none, .bin .mul (.c (.int .i64 128)) (.t 6), []⟩,
 ⟨some 8, none, .bin .add (.c (.int .i64 16)) (.t 7), []⟩,
 ⟨some 9, none, .mv (.t 1), []⟩,
 ⟨some 10, none, .bin .add (.t 8) (.t 9), []⟩,
 ⟨some 4, none, .mv (.t 10), []⟩])
 .ret))⟩
theorem F60_code : cfgA.code 60 = some F60 := by kernel_rfl

/-- (*ticketline/mem.Mem).Copy -/
noncomputable def F61 : AFn := ⟨12, [.tmp 2], (.seq
 (.ops 0 [⟨some 2, none, .mv (.c (.nilp)), []⟩])
 (.seq
 (.seq
 (.ops 1 [⟨some 3, none, .mv (.t 0), []⟩,
 ⟨some 4, none, .call 58 [.t 3], []⟩])
 (.cond (.t 4)
 (.seq
 (.ops 2 [⟨some 2, none, .mv (.c (.nilp)), []⟩])
 .ret)
 .skip))
 (.seq
 (.ops 3 [⟨some 5, none, .mv (.t 0), []⟩,
 ⟨some 6, none, .nilc (.t 5) (mok Tryz.prog), []⟩,
 ⟨some 7, none, .fld 0 (.t 6), []⟩,
 ⟨some 8, none, .ld 1 false (.t 7), []⟩,
 ⟨some 9, none, .call 69 [.t 8], []⟩,
 ⟨some 10, none, .build [.nils] [(0, 1, (.t 9))], []⟩,
 ⟨some 11, none, .box 1 (.t 10) true, []⟩,
 ⟨some 2, none, .mv (.t 11), []⟩])
 .ret)))⟩
theorem F61_code : cfgA.code 61 = some F61 := by kernel_rfl

/-- (*ticketline/arena.Arena).sound: the round 0 -/
@[reducible] noncomputable def B62x0 : AC := (.seq
 (.ops 8 [⟨some 76, none, .bin .lss (.t 75) (.t 74), []⟩])
 (.seq
 (.cond (.t 76)
 .skip
 (.exit 0))
 (.seq
 (.block 1
 (.seq
 (.ops 9 [⟨some 77, none, .ixa none 1 (.t 73) (.t 75), []⟩,
 ⟨some 78, none, .ld 1 false (.t 77), []⟩,
 ⟨some 13, none, .mv (.t 78), []⟩])
 (.seq
 (.ops 10 [⟨some 79, none, .mv (.t 0), []⟩,
 ⟨some 80, none, .nilc (.t 79) (mok Tryz.prog), []⟩,
 ⟨some 81, none, .fld 0 (.t 80), []⟩,
 ⟨some 82, none, .ld 1 true (.t 81), []⟩,
 ⟨some 83, none, .mv (.t 13), []⟩,
 ⟨some 84, none, .call 60 [.t 83, .c (.int .i64 11)], [(82, .ld 1 true (.t 81))]⟩,
 ⟨some 85, none, .call 64 [.t 82, .t 84], []⟩,
 ⟨some 14, none, .mv (.t 85), []⟩])
 (.seq
 (.seq
 (.ops 11 [⟨some 86, none, .mv (.t 14), []⟩,
 ⟨some 87, none, .bin .lss (.t 86) (.c (.int .u64 1)), []⟩,
 ⟨some 88, none, .mv (.t 87), []⟩,
 ⟨some 89, some (88, false), .mv (.t 14), []⟩,
 ⟨some 90, some (88, false), .mv (.t 11), []⟩,
 ⟨some 91, some (88, false), .bin .geq (.t 89) (.t 90), []⟩,
 ⟨some 92, none, .pick (.t 88) (.c (.bool true)) (.t 91), []⟩])
 (.cond (.t 92)
 (.seq
 (.ops 12 [⟨some 2, none, .mv (.c (.bool false)), []⟩])
 .ret)
 .skip))
 (.ops 13 [⟨some 93, none, .mv (.t 14), []⟩,
 ⟨some 11, none, .mv (.t 93), []⟩])))))
 (.ops 14 [⟨some 94, none, .bin .add (.t 75) (.c (.int .i64 1)), []⟩,
 ⟨some 75, none, .mv (.t 94), []⟩]))))

/-- (*ticketline/arena.Arena).sound -/
noncomputable def F62 : AFn := ⟨114, [.tmp 2], (.seq
 (.ops 0 [⟨some 2, none, .mv (.c (.bool false)), []⟩])
 (.seq
 (.ops 1 [⟨some 17, none, .mv (.t 0), []⟩,
 ⟨some 18, none, .call 90 [.t 17, .c (.int .i64 1), .c (.int .u64 0)], []⟩,
 ⟨some 16, none, .mv (.t 18), []⟩,
 ⟨some 19, none, .ext (.t 16) 0, []⟩,
 ⟨some 20, none, .ext (.t 16) 1, []⟩,
 ⟨some 3, none, .mv (.t 19), []⟩,
 ⟨some 4, none, .mv (.t 20), []⟩])
 (.seq
 (.ops 2 [⟨some 22, none, .mv (.t 0), []⟩,
 ⟨some 23, none, .call 90 [.t 22, .c (.int .i64 2), .c (.int .u64 255)], []⟩,
 ⟨some 21, none, .mv (.t 23), []⟩,
 ⟨some 24, none, .ext (.t 21) 0, []⟩,
 ⟨some 25, none, .ext (.t 21) 1, []⟩,
 ⟨some 5, none, .mv (.t 24), []⟩,
 ⟨some 6, none, .mv (.t 25), []⟩])
 (.seq
 (.ops 3 [⟨some 27, none, .mv (.t 0), []⟩,
 ⟨some 28, none, .call 19 [.t 27], []⟩,
 ⟨some 26, none, .mv (.t 28), []⟩,
 ⟨some 29, none, .ext (.t 26) 0, []⟩,
 ⟨some 30, none, .ext (.t 26) 1, []⟩,
 ⟨some 31, none, .ext (.t 26) 2, []⟩,
 ⟨some 32, none, .ext (.t 26) 3, []⟩,
 ⟨some 7, none, .mv (.t 29), []⟩,
 ⟨some 8, none, .mv (.t 30), []⟩,
 ⟨some 9, none, .mv (.t 31), []⟩,
 ⟨some 10, none, .mv (.t 32), []⟩])
 (.seq
 (.ops 4 [⟨some 33, none, .mv (.t 0), []⟩,
 ⟨some 34, none, .nilc (.t 33) (mok Tryz.prog), []⟩,
 ⟨some 35, none, .fld 0 (.t 34), []⟩,
 ⟨some 36, none, .ld 1 true (.t 35), []⟩,
 ⟨some 37, none, .call 64 [.t 36, .c (.int .i64 4)], []⟩,
 ⟨some 11, none, .mv (.t 37), []⟩])
 (.seq
 (.seq
 (.ops 5 [⟨some 38, none, .mv (.t 4), []⟩,
 ⟨some 39, none, .un .not (.t 38), []⟩,
 ⟨some 40, none, .mv (.t 39), []⟩,
 ⟨some 41, some (40, false), .mv (.t 6), []⟩,
 ⟨some 42, some (40, false), .un .not (.t 41), []⟩,
 ⟨some 43, none, .pick (.t 40) (.c (.bool true)) (.t 42), []⟩,
 ⟨some 44, none, .mv (.t 43), []⟩,
 ⟨some 45, some (44, false), .mv (.t 3), []⟩,
 ⟨some 46, some (44, false), .len .slice (.t 45), []⟩,
 ⟨some 47, some (44, false), .mv (.t 8), []⟩,
 ⟨some 48, some (44, false), .bin .neq (.t 46) (.t 47), []⟩,
 ⟨some 49, none, .pick (.t 44) (.c (.bool true)) (.t 48), []⟩,
 ⟨some 50, none, .mv (.t 49), []⟩,
 ⟨some 51, some (50, false), .mv (.t 5), []⟩,
 ⟨some 52, some (50, false), .len .slice (.t 51), []⟩,
 ⟨some 53, some (50, false), .mv (.t 10), []⟩,
 ⟨some 54, some (50, false), .bin .neq (.t 52) (.t 53), []⟩,
 ⟨some 55, none, .pick (.t 50) (.c (.bool true)) (.t 54), []⟩,
 ⟨some 56, none, .mv (.t 55), []⟩,
 ⟨some 57, some (56, false), .mv (.t 8), []⟩,
 ⟨some 58, some (56, false), .mv (.t 9), []⟩,
 ⟨some 59, some (56, false), .bin .add (.t 57) (.t 58), []⟩,
 ⟨some 60, some (56, false), .mv (.t 10), []⟩,
 ⟨some 61, some (56, false), .bin .add (.t 59) (.t 60), []⟩,
 ⟨some 62, some (56, false), .mv (.t 7), []⟩,
 ⟨some 63, some (56, false), .bin .neq (.t 61) (.t 62), []⟩,
 ⟨some 64, none, .pick (.t 56) (.c (.bool true)) (.t 63), []⟩,
 ⟨some 65, none, .mv (.t 64), []⟩,
 ⟨some 66, some (65, false), .mv (.t 11), []⟩,
 ⟨some 67, some (65, false), .bin .lss (.t 66) (.c (.int .u64 1)), []⟩,
 ⟨some 68, none, .pick (.t 65) (.c (.bool true)) (.t 67), []⟩,
 ⟨some 69, none, .mv (.t 68), []⟩,
 ⟨some 70, some (69, false), .mv (.t 11), []⟩,
 ⟨some 71, some (69, false), .bin .gtr (.t 70) (.c (.int .u64 1099511627776)), []⟩,
 ⟨some 72, none, .pick (.t 69) (.c (.bool true)) (.t 71), []⟩])
 (.cond (.t 72)
 (.seq
 (.ops 6 [⟨some 2, none, .mv (.c (.bool false)), []⟩])
 .ret)
 .skip))
 (.seq
 (.seq
 (.ops 7 [⟨some 73, none, .mv (.t 5), []⟩,
 ⟨some 74, none, .len .slice (.t 73), []⟩,
 ⟨some 75, none, .mv (.c (.int .i64 0)), []⟩])
 (.block 0
 (.loop [] B62x0)))
 (.seq
 (.ops 15 [⟨some 95, none, .mv (.t 0), []⟩,
 ⟨some 96, none, .nilc (.t 95) (mok Tryz.prog), []⟩,
 ⟨some 97, none, .fld 0 (.t 96), []⟩,
 ⟨some 98, none, .ld 1 true (.t 97), []⟩,
 ⟨some 99, none, .call 64 [.t 98, .c (.int .i64 3)], []⟩,
 ⟨some 15, none, .mv (.t 99), []⟩])
 (.seq
 (.ops 16 [⟨some 100, none, .mv (.t 15), []⟩,
 ⟨some 101, none, .bin .eql (.t 100) (.c (.int .u64 0)), []⟩,
 ⟨some 102, none, .mv (.t 101), []⟩,
 ⟨some 103, some (102, false), .mv (.t 15), []⟩,
 ⟨some 104, some (102, false), .mv (.t 7), []⟩,
 ⟨some 105, some (102, false), .cvi .u64 (.t 104), []⟩,
 ⟨some 106, some (102, false), .bin .leq (.t 103) (.t 105), []⟩,
 ⟨some 107, some (102, false), .mv (.t 106), []⟩,
 ⟨some 108, some (107, true), .mv (.t 0), []⟩,
 ⟨some 109, some (107, true), .mv (.t 15), []⟩,
 ⟨some 110, some (107, true), .cvi .i64 (.t 109), []⟩,
 ⟨some 111, some (107, true), .call 67 [.t 108, .t 110], []⟩,
 ⟨some 112, some (102, false), .pick (.t 107) (.t 111) (.c (.bool false)), []⟩,
 ⟨some 113, none, .pick (.t 102) (.c (.bool true)) (.t 112), []⟩,
 ⟨some 2, none, .mv (.t 113), []⟩])
 .ret)))))))))⟩
theorem F62_code : cfgA.code 62 = some F62 := by kernel_rfl

/-- (*ticketline/arena.Arena).none -/
noncomputable def F63 : AFn := ⟨13, [.tmp 2], (.seq
 (.ops 0 [⟨some 2, none, .mv (.c (.bool false)), []⟩])
 (.seq
 (.ops 1 [⟨some 3, none, .mv (.t 0), []⟩,
 ⟨some 4, none, .eqn .ptr false (.t 3), []⟩,
 ⟨some 5, none, .mv (.t 4), []⟩,
 ⟨some 6, some (5, false), .mv (.t 0), []⟩,
 ⟨some 7, some (5, false), .nilc (.t 6) (mok Tryz.prog), []⟩,
 ⟨some 8, some (5, false), .fld 0 (.t 7), []⟩,
 ⟨some 9, some (5, false), .fld 0 (.t 8), []⟩,
 ⟨some 10, some (5, false), .ld 1 false (.t 9), []⟩,
 ⟨some 11, some (5, false), .eqn .ptr false (.t 10), []⟩,
 ⟨some 12, none, .pick (.t 5) (.c (.bool true)) (.t 11), []⟩,
 ⟨some 2, none, .mv (.t 12), []⟩])
 .ret))⟩
theorem F63_code : cfgA.code 63 = some F63 := by kernel_rfl

/-- (ticketline/arena.words).get -/
noncomputable def F64 : AFn := ⟨15, [.tmp 4], (.seq
 (.ops 0 [⟨some 2, none, .box 1 (.t 0) false, []⟩,
 ⟨some 4, none, .mv (.c (.int .u64 0)), []⟩])
 (.seq
 (.ops 1 [⟨some 8, none, .fld 0 (.t 2), []⟩,
 ⟨some 9, none, .ld 1 false (.t 8), []⟩,
 ⟨some 10, none, .mv (.t 1), []⟩,
 ⟨some 11, none, .call 59 [.t 9, .t 10], []⟩,
 ⟨some 7, none, .mv (.t 11), []⟩,
 ⟨some 12, none, .ext (.t 7) 0, []⟩,
 ⟨some 13, none, .ext (.t 7) 1, []⟩,
 ⟨some 5, none, .mv (.t 12), []⟩,
 ⟨some 6, none, .mv (.t 13), []⟩])
 (.seq
 (.ops 2 [⟨some 14, none, .mv (.t 5), []⟩,
 ⟨some 4, none, .mv (.t 14), []⟩])
 .ret)))⟩
theorem F64_code : cfgA.code 64 = some F64 := by kernel_rfl

/-- (*ticketline/arena.Arena).pages -/
noncomputable def F65 : AFn := ⟨9, [.tmp 2], (.seq
 (.ops 0 [⟨some 2, none, .mv (.c (.int .i64 0)), []⟩])
 (.seq
 (.ops 1 [⟨some 3, none, .mv (.t 0), []⟩,
 ⟨some 4, none, .nilc (.t 3) (mok Tryz.prog), []⟩,
 ⟨some 5, none, .fld 0 (.t 4), []⟩,
 ⟨some 6, none, .ld 1 true (.t 5), []⟩,
 ⟨some 7, none, .call 64 [.t 6, .c (.int .i64 0)], []⟩,
 ⟨some 8, none, .cvi .i64 (.t 7), []⟩,
 ⟨some 2, none, .mv (.t 8), []⟩])
 .ret))⟩
theorem F65_code : cfgA.code 65 = some F65 := by kernel_rfl

/-- (*ticketline/arena.Arena).kind -/
noncomputable def F66 : AFn := ⟨12, [.tmp 4], (.seq
 (.ops 0 [⟨some 4, none, .mv (.c (.int .u64 0)), []⟩])
 (.seq
 (.ops 1 [⟨some 5, none, .mv (.t 0), []⟩,
 ⟨some 6, none, .nilc (.t 5) (mok Tryz.prog), []⟩,
 ⟨some 7, none, .fld 0 (.t 6), []⟩,
 ⟨some 8, none, .ld 1 true (.t 7), []⟩,
 ⟨some 9, none, .mv (.t 1), []⟩,
 ⟨some 10, none, .call 60 [.t 9, .c (.int .i64 8)], [(8, .ld 1 true (.t 7))]⟩,
 ⟨some 11, none, .call 64 [.t 8, .t 10], []⟩,
 ⟨some 4, none, .mv (.t 11), []⟩])
 .ret))⟩
theorem F66_code : cfgA.code 66 = some F66 := by kernel_rfl

/-- (*ticketline/arena.Arena).used -/
noncomputable def F67 : AFn := ⟨15, [.tmp 4], (.seq
 (.ops 0 [⟨some 4, none, .mv (.c (.bool false)), []⟩])
 (.seq
 (.ops 1 [⟨some 6, none, .mv (.t 0), []⟩,
 ⟨some 7, none, .mv (.t 1), []⟩,
 ⟨some 8, none, .call 66 [.t 6, .t 7], []⟩,
 ⟨some 5, none, .mv (.t 8), []⟩])
 (.seq
 (.ops 2 [⟨some 9, none, .mv (.t 5), []⟩,
 ⟨some 10, none, .bin .geq (.t 9) (.c (.int .u64 1)), []⟩,
 ⟨some 11, none, .mv (.t 10), []⟩,
 ⟨some 12, some (11, true), .mv (.t 5), []⟩,
 ⟨some 13, some (11, true), .bin .leq (.t 12) (.c (.int .u64 6)), []⟩,
 ⟨some 14, none, .pick (.t 11) (.t 13) (.c (.bool false)), []⟩,
 ⟨some 4, none, .mv (.t 14), []⟩])
 .ret)))⟩
theorem F67_code : cfgA.code 67 = some F67 := by kernel_rfl

/-- (*ticketline/arena.Arena).there -/
noncomputable def F68 : AFn := ⟨17, [.tmp 4], (.seq
 (.ops 0 [⟨some 4, none, .mv (.c (.int .i64 0)), []⟩])
 (.seq
 (.block 0
 (.seq
 (.ops 1 [⟨some 6, none, .mv (.t 0), []⟩,
 ⟨some 7, none, .call 63 [.t 6], []⟩,
 ⟨some 5, none, .mv (.t 7), []⟩])
 (.cond (.t 5)
 (.seq
 (.ops 2 [⟨some 4, none, .mv (.c (.int .i64 1)), []⟩])
 .ret)
 (.seq
 (.ops 3 [⟨some 9, none, .mv (.t 1), []⟩,
 ⟨some 10, none, .bin .lss (.t 9) (.c (.int .i64 1)), []⟩,
 ⟨some 11, none, .mv (.t 10), []⟩,
 ⟨some 12, some (11, false), .mv (.t 1), []⟩,
 ⟨some 13, some (11, false), .mv (.t 0), []⟩,
 ⟨some 14, some (11, false), .call 65 [.t 13], []⟩,
 ⟨some 15, some (11, false), .bin .gtr (.t 12) (.t 14), []⟩,
 ⟨some 16, none, .pick (.t 11) (.c (.bool true)) (.t 15), []⟩,
 ⟨some 8, none, .mv (.t 16), []⟩])
 (.cond (.t 8)
 (.seq
 (.ops 4 [⟨some 4, none, .mv (.c (.int .i64 3)), []⟩])
 .ret)
 .skip)))))
 (.seq
 (.ops 5 [⟨some 4, none, .mv (.c (.int .i64 0)), []⟩])
 .ret)))⟩
theorem F68_code : cfgA.code 68 = some F68 := by kernel_rfl

/-- slices.Clone[[]uint64,uint64] -/
noncomputable def F69 : AFn := ⟨8, [.tmp 2], (.seq
 (.ops 0 [⟨some 2, none, .mv (.c (.nils)), []⟩])
 (.seq
 (.seq
 (.ops 1 [⟨some 3, none, .mv (.t 0), []⟩,
 ⟨some 4, none, .eqn .slice false (.t 3), []⟩])
 (.cond (.t 4)
 (.seq
 (.ops 2 [⟨some 2, none, .mv (.c (.nils)), []⟩])
 .ret)
 .skip))
 (.seq
 (.ops 3 [⟨some 5, none, .bslice [.int .u64 0] 1 0 [] false false, []⟩,
 ⟨some 6, none, .mv (.t 0), []⟩,
 ⟨some 7, none, .app 1 8 (.t 5) (.t 6) true, []⟩,
 ⟨some 2, none, .mv (.t 7), []⟩])
 .ret)))⟩
theorem F69_code : cfgA.code 69 = some F69 := by kernel_rfl

/-- ticketline/slot.Valid -/
noncomputable def F70 : AFn := ⟨10, [.tmp 2], (.seq
 (.ops 0 [⟨some 1, none, .box 128 (.t 0) false, []⟩,
 ⟨some 2, none, .mv (.c (.bool false)), []⟩])
 (.seq
 (.ops 1 [⟨some 6, none, .call 71 [.t 1], []⟩,
 ⟨some 5, none, .mv (.t 6), []⟩,
 ⟨some 7, none, .ext (.t 5) 0, []⟩,
 ⟨some 8, none, .ext (.t 5) 1, []⟩,
 ⟨some 3, none, .mv (.t 7), []⟩,
 ⟨some 4, none, .mv (.t 8), []⟩])
 (.seq
 (.ops 2 [⟨some 9, none, .mv (.t 4), []⟩,
 ⟨some 2, none, .mv (.t 9), []⟩])
 .ret)))⟩
theorem F70_code : cfgA.code 70 = some F70 := by kernel_rfl

/-- ticketline/slot.list: the round 0 -/
@[reducible] noncomputable def B71x0 : AC := (.seq
 (.seq
 (.ops 15 [⟨some 68, none, .mv (.t 10), []⟩,
 ⟨some 69, none, .fld 2 (.t 7), []⟩,
 ⟨some 70, none, .ld 1 false (.t 69), []⟩,
 ⟨some 71, none, .bin .lss (.t 68) (.t 70), []⟩])
 (.cond (.t 71)
 .skip
 (.exit 2)))
 (.seq
 (.block 3
 (.seq
 (.seq
 (.ops 17 [⟨some 74, none, .mv (.t 10), []⟩,
 ⟨some 75, none, .ixa (some 128) 1 (.t 5) (.t 74), []⟩,
 ⟨some 76, none, .ld 1 false (.t 75), []⟩])
 (.cond (.t 76)
 (.seq
 (.ops 18 [⟨some 2, none, .mv (.c (.nils)), []⟩,
 ⟨some 3, none, .mv (.c (.bool false)), []⟩])
 .ret)
 .skip))
 (.ops 19 [⟨some 77, none, .mv (.t 10), []⟩,
 ⟨some 78, none, .ixa (some 128) 1 (.t 5) (.t 77), []⟩,
 ⟨none, none, .st 1 (.t 78) (.c (.bool true)), []⟩])))
 (.ops 16 [⟨some 72, none, .mv (.t 10), []⟩,
 ⟨some 73, none, .bin .add (.t 72) (.c (.int .i64 1)), []⟩,
 ⟨some 10, none, .mv (.t 73), []⟩])))

/-- ticketline/slot.list: the round 1 -/
@[reducible] noncomputable def B71x1 : AC := (.seq
 (.ops 6 [⟨some 20, none, .bin .lss (.t 19) (.t 18), []⟩])
 (.seq
 (.cond (.t 20)
 .skip
 (.exit 0))
 (.seq
 (.block 1
 (.seq
 (.ops 7 [⟨some 21, none, .mv (.t 19), []⟩,
 ⟨some 6, none, .mv (.t 21), []⟩])
 (.seq
 (.seq
 (.ops 8 [⟨some 22, none, .mv (.t 0), []⟩,
 ⟨some 23, none, .mv (.t 6), []⟩,
 ⟨some 24, none, .call 105 [.t 22, .t 23], []⟩,
 ⟨some 25, none, .un .not (.t 24), []⟩])
 (.cond (.t 25)
 (.seq
 (.ops 9 [⟨some 2, none, .mv (.c (.nils)), []⟩,
 ⟨some 3, none, .mv (.c (.bool false)), []⟩])
 .ret)
 .skip))
 (.seq
 (.ops 10 [⟨some 26, none, .mv (.t 0), []⟩,
 ⟨some 27, none, .mv (.t 6), []⟩,
 ⟨some 28, none, .bin .add (.c (.int .i64 20)) (.t 27), []⟩,
 ⟨some 29, none, .nilc (.t 26) (mok Tryz.prog), []⟩,
 ⟨some 30, none, .ixa (some 128) 1 (.t 29) (.t 28), []⟩,
 ⟨some 31, none, .ld 1 false (.t 30), []⟩,
 ⟨some 32, none, .call 106 [.t 31], []⟩,
 ⟨some 7, none, .alloc [.int .i64 0, .int .i64 0, .int .i64 0, .int .i64 0, .int .i64 0] false, []⟩,
 ⟨none, none, .st 5 (.t 7) (.t 32), []⟩])
 (.seq
 (.ops 11 [⟨some 34, none, .mv (.t 0), []⟩,
 ⟨some 35, none, .ld 5 true (.t 7), []⟩,
 ⟨some 36, none, .call 107 [.t 34, .t 35], []⟩,
 ⟨some 33, none, .mv (.t 36), []⟩,
 ⟨some 37, none, .ext (.t 33) 0, []⟩,
 ⟨some 38, none, .ext (.t 33) 1, []⟩,
 ⟨some 8, none, .alloc [.str [], .str []] false, []⟩,
 ⟨none, none, .st 2 (.t 8) (.t 37), []⟩,
 ⟨some 9, none, .mv (.t 38), []⟩])
 (.seq
 (.seq
 (.ops 12 [⟨some 39, none, .mv (.t 9), []⟩,
 ⟨some 40, none, .bin .neq (.t 39) (.c (.int .i64 0)), []⟩,
 ⟨some 41, none, .mv (.t 40), []⟩,
 ⟨some 42, some (41, false), .mv (.t 0), []⟩,
 ⟨some 43, some (41, false), .nilc (.t 42) (mok Tryz.prog), []⟩,
 ⟨some 44, some (41, false), .ixa (some 128) 1 (.t 43) (.c (.int .i64 8)), []⟩,
 ⟨some 45, some (41, false), .ld 1 false (.t 44), []⟩,
 ⟨some 46, some (41, false), .bin .gtr (.t 45) (.c (.int .u64 1)), []⟩,
 ⟨some 47, some (41, false), .mv (.t 46), []⟩,
 ⟨some 48, some (47, true), .mv (.t 0), []⟩,
 ⟨some 49, some (47, true), .fld 1 (.t 7), []⟩,
 ⟨some 50, some (47, true), .ld 1 false (.t 49), []⟩,
 ⟨some 51, some (47, true), .nilc (.t 48) (mok Tryz.prog), []⟩,
 ⟨some 52, some (47, true), .ixa (some 128) 1 (.t 51) (.t 50), []⟩,
 ⟨some 53, some (47, true), .ld 1 false (.t 52), []⟩,
 ⟨some 54, some (47, true), .bin .lss (.t 53) (.c (.int .u64 1)), []⟩,
 ⟨some 55, some (47, true), .mv (.t 54), []⟩,
 ⟨some 56, some (55, false), .mv (.t 0), []⟩,
 ⟨some 57, some (55, false), .fld 1 (.t 7), []⟩,
 ⟨some 58, some (55, false), .ld 1 false (.t 57), []⟩,
 ⟨some 59, some (55, false), .nilc (.t 56) (mok Tryz.prog), []⟩,
 ⟨some 60, some (55, false), .ixa (some 128) 1 (.t 59) (.t 58), []⟩,
 ⟨some 61, some (55, false), .ld 1 false (.t 60), []⟩,
 ⟨some 62, some (55, false), .bin .gtr (.t 61) (.c (.int .u64 511)), []⟩,
 ⟨some 63, some (47, true), .pick (.t 55) (.c (.bool true)) (.t 62), []⟩,
 ⟨some 64, some (41, false), .pick (.t 47) (.t 63) (.c (.bool false)), []⟩,
 ⟨some 65, none, .pick (.t 41) (.c (.bool true)) (.t 64), []⟩])
 (.cond (.t 65)
 (.seq
 (.ops 13 [⟨some 2, none, .mv (.c (.nils)), []⟩,
 ⟨some 3, none, .mv (.c (.bool false)), []⟩])
 .ret)
 .skip))
 (.seq
 (.seq
 (.ops 14 [⟨some 66, none, .fld 0 (.t 7), []⟩,
 ⟨some 67, none, .ld 1 false (.t 66), []⟩,
 ⟨some 10, none, .mv (.t 67), []⟩])
 (.block 2
 (.loop [] B71x0)))
 (.ops 20 [⟨some 79, none, .mv (.t 4), []⟩,
 ⟨some 80, none, .ld 2 true (.t 8), []⟩,
 ⟨some 81, none, .bslice [.str [], .str []] 2 1 [(0, (.t 80))] false false, []⟩,
 ⟨some 82, none, .app 2 32 (.t 79) (.t 81) false, []⟩,
 ⟨some 4, none, .mv (.t 82), []⟩]))))))))
 (.ops 21 [⟨some 83, none, .bin .add (.t 19) (.c (.int .i64 1)), []⟩,
 ⟨some 19, none, .mv (.t 83), []⟩]))))

/-- ticketline/slot.list -/
noncomputable def F71 : AFn := ⟨85, [.tmp 2, .tmp 3], (.seq
 (.ops 0 [⟨some 2, none, .mv (.c (.nils)), []⟩,
 ⟨some 3, none, .mv (.c (.bool false)), []⟩])
 (.seq
 (.seq
 (.ops 1 [⟨some 11, none, .mv (.t 0), []⟩,
 ⟨some 12, none, .call 104 [.t 11], []⟩,
 ⟨some 13, none, .un .not (.t 12), []⟩])
 (.cond (.t 13)
 (.seq
 (.ops 2 [⟨some 2, none, .mv (.c (.nils)), []⟩,
 ⟨some 3, none, .mv (.c (.bool false)), []⟩])
 .ret)
 .skip))
 (.seq
 (.ops 3 [⟨some 4, none, .mv (.c (.nils)), []⟩])
 (.seq
 (.ops 4 [⟨some 5, none, .alloc (List.replicate 128 (.bool false)) false, []⟩])
 (.seq
 (.seq
 (.ops 5 [⟨some 14, none, .mv (.t 0), []⟩,
 ⟨some 15, none, .nilc (.t 14) (mok Tryz.prog), []⟩,
 ⟨some 16, none, .ixa (some 128) 1 (.t 15) (.c (.int .i64 9)), []⟩,
 ⟨some 17, none, .ld 1 false (.t 16), []⟩,
 ⟨some 18, none, .cvi .i64 (.t 17), []⟩,
 ⟨some 19, none, .mv (.c (.int .i64 0)), []⟩])
 (.block 0
 (.loop [] B71x1)))
 (.seq
 (.ops 22 [⟨some 84, none, .mv (.t 4), []⟩,
 ⟨some 2, none, .mv (.t 84), []⟩,
 ⟨some 3, none, .mv (.c (.bool true)), []⟩])
 .ret))))))⟩
theorem F71_code : cfgA.code 71 = some F71 := by kernel_rfl

/-- ticketline/keys.Compare -/
noncomputable def F78 : AFn := ⟨8, [.tmp 4], (.seq
 (.ops 0 [⟨some 4, none, .mv (.c (.int .i64 0)), []⟩])
 (.seq
 (.ops 1 [⟨some 5, none, .mv (.t 0), []⟩,
 ⟨some 6, none, .mv (.t 1), []⟩,
 ⟨some 7, none, .call 111 [.t 5, .t 6], []⟩,
 ⟨some 4, none, .mv (.t 7), []⟩])
 .ret))⟩
theorem F78_code : cfgA.code 78 = some F78 := by kernel_rfl

/-- ticketline/slot.setFence -/
noncomputable def F79 : AFn := ⟨33, [.tmp 6], (.seq
 (.ops 0 [⟨some 6, none, .mv (.c (.int .i64 0)), []⟩])
 (.seq
 (.ops 1 [⟨some 10, none, .mv (.t 2), []⟩,
 ⟨some 11, none, .call 112 [.t 10], []⟩,
 ⟨some 9, none, .mv (.t 11), []⟩,
 ⟨some 12, none, .ext (.t 9) 0, []⟩,
 ⟨some 13, none, .ext (.t 9) 1, []⟩,
 ⟨some 7, none, .mv (.t 12), []⟩,
 ⟨some 8, none, .mv (.t 13), []⟩])
 (.seq
 (.seq
 (.ops 2 [⟨some 14, none, .mv (.t 8), []⟩,
 ⟨some 15, none, .bin .neq (.t 14) (.c (.int .i64 0)), []⟩])
 (.cond (.t 15)
 (.seq
 (.ops 3 [⟨some 16, none, .mv (.t 8), []⟩,
 ⟨some 6, none, .mv (.t 16), []⟩])
 .ret)
 .skip))
 (.seq
 (.ops 4 [⟨some 17, none, .mv (.t 0), []⟩,
 ⟨some 18, none, .mv (.t 1), []⟩,
 ⟨some 19, none, .mv (.t 2), []⟩,
 ⟨some 20, none, .len .string (.t 19), []⟩,
 ⟨some 21, none, .cvi .u64 (.t 20), []⟩,
 ⟨some 22, none, .nilc (.t 17) (mok Tryz.prog), []⟩,
 ⟨some 23, none, .ixa (some 128) 1 (.t 22) (.t 18), []⟩,
 ⟨none, none, .st 1 (.t 23) (.t 21), []⟩])
 (.seq
 (.ops 5 [⟨some 24, none, .mv (.t 0), []⟩,
 ⟨some 25, none, .nilc (.t 24) (mok Tryz.prog), []⟩,
 ⟨some 26, none, .mv (.t 1), []⟩,
 ⟨some 27, none, .bin .add (.t 26) (.c (.int .i64 1)), []⟩,
 ⟨some 28, none, .mv (.t 1), []⟩,
 ⟨some 29, none, .bin .add (.t 28) (.c (.int .i64 4)), []⟩,
 ⟨some 30, none, .slc (some 128) 1 (.t 25) (some (.t 27)) (some (.t 29)), []⟩,
 ⟨some 31, none, .mv (.t 7), []⟩,
 ⟨some 32, none, .cpy 1 (.t 30) (.t 31), []⟩])
 (.seq
 (.ops 6 [⟨some 6, none, .mv (.c (.int .i64 0)), []⟩])
 .ret))))))⟩
theorem F79_code : cfgA.code 79 = some F79 := by kernel_rfl

/-- (ticketline/arena.words).set -/
noncomputable def F82 : AFn := ⟨11, [], (.seq
 (.ops 0 [⟨some 3, none, .box 1 (.t 0) false, []⟩])
 (.ops 1 [⟨some 6, none, .fld 0 (.t 3), []⟩,
 ⟨some 7, none, .ld 1 false (.t 6), []⟩,
 ⟨some 8, none, .mv (.t 1), []⟩,
 ⟨some 9, none, .mv (.t 2), []⟩,
 ⟨some 10, none, .call 55 [.t 7, .t 8, .t 9], []⟩]))⟩
theorem F82_code : cfgA.code 82 = some F82 := by kernel_rfl

/-- (*ticketline/arena.Arena).put: the round 0 -/
@[reducible] noncomputable def B83x0 : AC := (.seq
 (.seq
 (.ops 2 [⟨some 7, none, .mv (.t 6), []⟩,
 ⟨some 8, none, .bin .lss (.t 7) (.c (.int .i64 128)), []⟩])
 (.cond (.t 8)
 .skip
 (.exit 0)))
 (.seq
 (.block 1
 (.ops 4 [⟨some 11, none, .mv (.t 0), []⟩,
 ⟨some 12, none, .nilc (.t 11) (mok Tryz.prog), []⟩,
 ⟨some 13, none, .fld 0 (.t 12), []⟩,
 ⟨some 14, none, .ld 1 true (.t 13), []⟩,
 ⟨some 15, none, .mv (.t 1), []⟩,
 ⟨some 16, none, .mv (.t 6), []⟩,
 ⟨some 18, none, .mv (.t 6), []⟩,
 ⟨some 19, none, .ixa (some 128) 1 (.t 5) (.t 18), []⟩,
 ⟨some 20, none, .ld 1 false (.t 19), []⟩,
 ⟨some 17, none, .call 60 [.t 15, .t 16], [(14, .ld 1 true (.t 13)), (20, .ld 1 false (.t 19))]⟩,
 ⟨some 21, none, .call 82 [.t 14, .t 17, .t 20], []⟩]))
 (.ops 3 [⟨some 9, none, .mv (.t 6), []⟩,
 ⟨some 10, none, .bin .add (.t 9) (.c (.int .i64 1)), []⟩,
 ⟨some 6, none, .mv (.t 10), []⟩])))

/-- (*ticketline/arena.Arena).put -/
noncomputable def F83 : AFn := ⟨22, [], (.seq
 (.ops 0 [⟨some 5, none, .box 128 (.t 2) false, []⟩])
 (.seq
 (.ops 1 [⟨some 6, none, .mv (.c (.int .i64 8)), []⟩])
 (.block 0
 (.loop [] B83x0))))⟩
theorem F83_code : cfgA.code 83 = some F83 := by kernel_rfl

/-- (*ticketline/arena.Arena).busy -/
noncomputable def F88 : AFn := ⟨28, [.tmp 6], (.seq
 (.ops 0 [⟨some 6, none, .mv (.c (.int .i64 0)), []⟩])
 (.seq
 (.ops 1 [⟨some 8, none, .mv (.t 0), []⟩,
 ⟨some 9, none, .mv (.t 1), []⟩,
 ⟨some 10, none, .call 68 [.t 8, .t 9], []⟩,
 ⟨some 7, none, .mv (.t 10), []⟩])
 (.seq
 (.block 0
 (.seq
 (.ops 2 [⟨some 12, none, .mv (.t 7), []⟩,
 ⟨some 13, none, .bin .neq (.t 12) (.c (.int .i64 0)), []⟩,
 ⟨some 11, none, .mv (.t 13), []⟩])
 (.cond (.t 11)
 (.seq
 (.ops 3 [⟨some 14, none, .mv (.t 7), []⟩,
 ⟨some 6, none, .mv (.t 14), []⟩])
 .ret)
 (.seq
 (.ops 4 [⟨some 16, none, .mv (.t 0), []⟩,
 ⟨some 17, none, .mv (.t 1), []⟩,
 ⟨some 18, none, .call 67 [.t 16, .t 17], []⟩,
 ⟨some 19, none, .un .not (.t 18), []⟩,
 ⟨some 15, none, .mv (.t 19), []⟩])
 (.cond (.t 15)
 (.seq
 (.ops 5 [⟨some 6, none, .mv (.c (.int .i64 8)), []⟩])
 .ret)
 (.seq
 (.ops 6 [⟨some 21, none, .mv (.t 2), []⟩,
 ⟨some 22, none, .mv (.t 21), []⟩,
 ⟨some 23, some (22, true), .mv (.t 0), []⟩,
 ⟨some 24, some (22, true), .call 18 [.t 23], []⟩,
 ⟨some 25, some (22, true), .mv (.t 1), []⟩,
 ⟨some 26, some (22, true), .bin .eql (.t 24) (.t 25), []⟩,
 ⟨some 27, none, .pick (.t 22) (.t 26) (.c (.bool false)), []⟩,
 ⟨some 20, none, .mv (.t 27), []⟩])
 (.cond (.t 20)
 (.seq
 (.ops 7 [⟨some 6, none, .mv (.c (.int .i64 11)), []⟩])
 .ret)
 .skip)))))))
 (.seq
 (.ops 8 [⟨some 6, none, .mv (.c (.int .i64 0)), []⟩])
 .ret))))⟩
theorem F88_code : cfgA.code 88 = some F88 := by kernel_rfl

/-- (*ticketline/arena.Arena).list: the round 0 -/
@[reducible] noncomputable def B90x0 : AC := (.seq
 (.seq
 (.ops 3 [⟨some 16, none, .mv (.t 9), []⟩,
 ⟨some 17, none, .bin .neq (.t 16) (.c (.int .u64 0)), []⟩])
 (.cond (.t 17)
 .skip
 (.exit 0)))
 (.block 1
 (.seq
 (.seq
 (.ops 4 [⟨some 18, none, .mv (.t 9), []⟩,
 ⟨some 19, none, .mv (.t 0), []⟩,
 ⟨some 20, none, .call 65 [.t 19], []⟩,
 ⟨some 21, none, .cvi .u64 (.t 20), []⟩,
 ⟨some 22, none, .bin .gtr (.t 18) (.t 21), []⟩,
 ⟨some 23, none, .mv (.t 22), []⟩,
 ⟨some 24, some (23, false), .mv (.t 8), []⟩,
 ⟨some 25, some (23, false), .len .slice (.t 24), []⟩,
 ⟨some 26, some (23, false), .mv (.t 0), []⟩,
 ⟨some 27, some (23, false), .call 65 [.t 26], []⟩,
 ⟨some 28, some (23, false), .bin .eql (.t 25) (.t 27), []⟩,
 ⟨some 29, none, .pick (.t 23) (.c (.bool true)) (.t 28), []⟩,
 ⟨some 30, none, .mv (.t 29), []⟩,
 ⟨some 31, some (30, false), .mv (.t 0), []⟩,
 ⟨some 32, some (30, false), .mv (.t 9), []⟩,
 ⟨some 33, some (30, false), .cvi .i64 (.t 32), []⟩,
 ⟨some 34, some (30, false), .call 66 [.t 31, .t 33], []⟩,
 ⟨some 35, some (30, false), .mv (.t 2), []⟩,
 ⟨some 36, some (30, false), .bin .neq (.t 34) (.t 35), []⟩,
 ⟨some 37, none, .pick (.t 30) (.c (.bool true)) (.t 36), []⟩])
 (.cond (.t 37)
 (.seq
 (.ops 5 [⟨some 6, none, .mv (.c (.nils)), []⟩,
 ⟨some 7, none, .mv (.c (.bool false)), []⟩])
 .ret)
 .skip))
 (.seq
 (.ops 6 [⟨some 38, none, .mv (.t 8), []⟩,
 ⟨some 39, none, .mv (.t 9), []⟩,
 ⟨some 40, none, .cvi .i64 (.t 39), []⟩,
 ⟨some 41, none, .bslice [.int .i64 0] 1 1 [(0, (.t 40))] false true, []⟩,
 ⟨some 42, none, .app 1 8 (.t 38) (.t 41) true, []⟩,
 ⟨some 8, none, .mv (.t 42), []⟩])
 (.ops 7 [⟨some 43, none, .mv (.t 0), []⟩,
 ⟨some 44, none, .nilc (.t 43) (mok Tryz.prog), []⟩,
 ⟨some 45, none, .fld 0 (.t 44), []⟩,
 ⟨some 46, none, .ld 1 true (.t 45), []⟩,
 ⟨some 47, none, .mv (.t 9), []⟩,
 ⟨some 48, none, .cvi .i64 (.t 47), []⟩,
 ⟨some 49, none, .call 60 [.t 48, .c (.int .i64 10)], [(46, .ld 1 true (.t 45))]⟩,
 ⟨some 50, none, .call 64 [.t 46, .t 49], []⟩,
 ⟨some 9, none, .mv (.t 50), []⟩])))))

/-- (*ticketline/arena.Arena).list -/
noncomputable def F90 : AFn := ⟨52, [.tmp 6, .tmp 7], (.seq
 (.ops 0 [⟨some 6, none, .mv (.c (.nils)), []⟩,
 ⟨some 7, none, .mv (.c (.bool false)), []⟩])
 (.seq
 (.ops 1 [⟨some 8, none, .mv (.c (.nils)), []⟩])
 (.seq
 (.ops 2 [⟨some 10, none, .mv (.t 0), []⟩,
 ⟨some 11, none, .nilc (.t 10) (mok Tryz.prog), []⟩,
 ⟨some 12, none, .fld 0 (.t 11), []⟩,
 ⟨some 13, none, .ld 1 true (.t 12), []⟩,
 ⟨some 14, none, .mv (.t 1), []⟩,
 ⟨some 15, none, .call 64 [.t 13, .t 14], []⟩,
 ⟨some 9, none, .mv (.t 15), []⟩])
 (.seq
 (.block 0
 (.loop [] B90x0))
 (.seq
 (.ops 8 [⟨some 51, none, .mv (.t 8), []⟩,
 ⟨some 6, none, .mv (.t 51), []⟩,
 ⟨some 7, none, .mv (.c (.bool true)), []⟩])
 .ret)))))⟩
theorem F90_code : cfgA.code 90 = some F90 := by kernel_rfl

/-- ticketline/arena.Word -/
noncomputable def F93 : AFn := ⟨23, [.tmp 4, .tmp 5], (.seq
 (.ops 0 [⟨some 4, none, .mv (.c (.int .i64 0)), []⟩,
 ⟨some 5, none, .mv (.c (.int .i64 0)), []⟩])
 (.seq
 (.seq
 (.ops 1 [⟨some 6, none, .mv (.t 0), []⟩,
 ⟨some 7, none, .bin .lss (.t 6) (.c (.int .i64 1)), []⟩,
 ⟨some 8, none, .mv (.t 7), []⟩,
 ⟨some 9, some (8, false), .mv (.t 0), []⟩,
 ⟨some 10, some (8, false), .bin .gtr (.t 9) (.c (.int .i64 511)), []⟩,
 ⟨some 11, none, .pick (.t 8) (.c (.bool true)) (.t 10), []⟩,
 ⟨some 12, none, .mv (.t 11), []⟩,
 ⟨some 13, some (12, false), .mv (.t 1), []⟩,
 ⟨some 14, some (12, false), .bin .lss (.t 13) (.c (.int .i64 0)), []⟩,
 ⟨some 15, none, .pick (.t 12) (.c (.bool true)) (.t 14), []⟩,
 ⟨some 16, none, .mv (.t 15), []⟩,
 ⟨some 17, some (16, false), .mv (.t 1), []⟩,
 ⟨some 18, some (16, false), .bin .geq (.t 17) (.c (.int .i64 128)), []⟩,
 ⟨some 19, none, .pick (.t 16) (.c (.bool true)) (.t 18), []⟩])
 (.cond (.t 19)
 (.seq
 (.ops 2 [⟨some 4, none, .mv (.c (.int .i64 0)), []⟩,
 ⟨some 5, none, .mv (.c (.int .i64 3)), []⟩])
 .ret)
 .skip))
 (.seq
 (.ops 3 [⟨some 20, none, .mv (.t 0), []⟩,
 ⟨some 21, none, .mv (.t 1), []⟩,
 ⟨some 22, none, .call 60 [.t 20, .t 21], []⟩,
 ⟨some 4, none, .mv (.t 22), []⟩,
 ⟨some 5, none, .mv (.c (.int .i64 0)), []⟩])
 .ret)))⟩
theorem F93_code : cfgA.code 93 = some F93 := by kernel_rfl

/-- ticketline/keys.ValidKey -/
noncomputable def F94 : AFn := ⟨11, [.tmp 2], (.seq
 (.ops 0 [⟨some 2, none, .mv (.c (.bool false)), []⟩])
 (.seq
 (.ops 1 [⟨some 3, none, .mv (.t 0), []⟩,
 ⟨some 4, none, .len .string (.t 3), []⟩,
 ⟨some 5, none, .bin .geq (.t 4) (.c (.int .i64 1)), []⟩,
 ⟨some 6, none, .mv (.t 5), []⟩,
 ⟨some 7, some (6, true), .mv (.t 0), []⟩,
 ⟨some 8, some (6, true), .len .string (.t 7), []⟩,
 ⟨some 9, some (6, true), .bin .leq (.t 8) (.c (.int .i64 24)), []⟩,
 ⟨some 10, none, .pick (.t 6) (.t 9) (.c (.bool false)), []⟩,
 ⟨some 2, none, .mv (.t 10), []⟩])
 .ret))⟩
theorem F94_code : cfgA.code 94 = some F94 := by kernel_rfl

/-- ticketline/descend.readRoot -/
noncomputable def F95 : AFn := ⟨8, [.tmp 0], (.seq
 (.ops 0 [⟨some 0, none, .mv (.c (.nilp)), []⟩])
 (.seq
 (.ops 1 [⟨some 4, none, .call 120 [.c (.int .i64 11), .c (.int .i64 3), .c (.int .i64 1), .c (.int .i64 2)], []⟩,
 ⟨some 3, none, .mv (.t 4), []⟩,
 ⟨some 5, none, .ext (.t 3) 0, []⟩,
 ⟨some 6, none, .ext (.t 3) 1, []⟩,
 ⟨some 1, none, .mv (.t 5), []⟩,
 ⟨some 2, none, .mv (.t 6), []⟩])
 (.seq
 (.ops 2 [⟨some 7, none, .mv (.t 1), []⟩,
 ⟨some 0, none, .mv (.t 7), []⟩])
 .ret)))⟩
theorem F95_code : cfgA.code 95 = some F95 := by kernel_rfl

/-- (*ticketline/descend.Scan).begin -/
noncomputable def F96 : AFn := ⟨33, [], (.seq
 (.ops 0 [⟨some 3, none, .mv (.t 0), []⟩,
 ⟨some 4, none, .nilc (.t 3) (mok Tryz.prog), []⟩,
 ⟨some 5, none, .fld 2 (.t 4), []⟩,
 ⟨some 6, none, .ld 1 false (.t 5), []⟩,
 ⟨some 2, none, .mv (.t 6), []⟩])
 (.seq
 (.seq
 (.ops 1 [⟨some 7, none, .mv (.t 2), []⟩,
 ⟨some 8, none, .bin .eql (.t 7) (.c (.str [])), []⟩])
 (.cond (.t 8)
 (.ops 2 [⟨some 2, none, .mv (.c (.str [0])), []⟩])
 .skip))
 (.seq
 (.ops 3 [⟨some 10, none, .mv (.t 0), []⟩,
 ⟨some 11, none, .mv (.t 0), []⟩,
 ⟨some 12, none, .nilc (.t 11) (mok Tryz.prog), []⟩,
 ⟨some 13, none, .fld 0 (.t 12), []⟩,
 ⟨some 14, none, .ld 2 true (.t 13), []⟩,
 ⟨some 15, none, .mv (.t 2), []⟩,
 ⟨some 16, none, .call 48 [.t 14, .t 15, .c (.int .i64 0)], []⟩,
 ⟨some 9, none, .mv (.t 16), []⟩,
 ⟨some 17, none, .ext (.t 9) 0, []⟩,
 ⟨some 18, none, .ext (.t 9) 1, []⟩,
 ⟨some 19, none, .nilc (.t 10) (mok Tryz.prog), []⟩,
 ⟨some 20, none, .fld 7 (.t 19), []⟩,
 ⟨none, none, .st 1 (.t 20) (.t 17), []⟩])
 (.ops 4 [⟨some 21, none, .mv (.t 0), []⟩,
 ⟨some 22, none, .mv (.t 0), []⟩,
 ⟨some 23, none, .mv (.t 0), []⟩,
 ⟨some 24, none, .mv (.t 0), []⟩,
 ⟨some 25, none, .nilc (.t 21) (mok Tryz.prog), []⟩,
 ⟨some 26, none, .fld 11 (.t 25), []⟩,
 ⟨none, none, .st 1 (.t 26) (.c (.nils)), []⟩,
 ⟨some 27, none, .nilc (.t 22) (mok Tryz.prog), []⟩,
 ⟨some 28, none, .fld 13 (.t 27), []⟩,
 ⟨none, none, .st 1 (.t 28) (.c (.nils)), []⟩,
 ⟨some 29, none, .nilc (.t 23) (mok Tryz.prog), []⟩,
 ⟨some 30, none, .fld 12 (.t 29), []⟩,
 ⟨none, none, .st 1 (.t 30) (.c (.int .i64 0)), []⟩,
 ⟨some 31, none, .nilc (.t 24) (mok Tryz.prog), []⟩,
 ⟨some 32, none, .fld 14 (.t 31), []⟩,
 ⟨none, none, .st 1 (.t 32) (.c (.int .i64 1)), []⟩]))))⟩
theorem F96_code : cfgA.code 96 = some F96 := by kernel_rfl

/-- ticketline/mem.NewOnce -/
noncomputable def F97 : AFn := ⟨9, [.tmp 2, .tmp 3], (.seq
 (.ops 0 [⟨some 2, none, .mv (.c (.nilp)), []⟩,
 ⟨some 3, none, .mv (.c (.int .i64 0)), []⟩])
 (.seq
 (.seq
 (.ops 1 [⟨some 4, none, .mv (.t 0), []⟩,
 ⟨some 5, none, .call 58 [.t 4], []⟩])
 (.cond (.t 5)
 (.seq
 (.ops 2 [⟨some 2, none, .mv (.c (.nilp)), []⟩,
 ⟨some 3, none, .mv (.c (.int .i64 1)), []⟩])
 .ret)
 .skip))
 (.seq
 (.ops 3 [⟨some 6, none, .mv (.t 0), []⟩,
 ⟨some 7, none, .build [.nilp, .int .i64 0, .int .i64 0, .int .u64 0, .int .u64 0] [(0, 1, (.t 6))], []⟩,
 ⟨some 8, none, .box 5 (.t 7) true, []⟩,
 ⟨some 2, none, .mv (.t 8), []⟩,
 ⟨some 3, none, .mv (.c (.int .i64 0)), []⟩])
 .ret)))⟩
theorem F97_code : cfgA.code 97 = some F97 := by kernel_rfl

/-- (*ticketline/mem.Once).Access -/
noncomputable def F98 : AFn := ⟨10, [.cell 2 4 true], (.seq
 (.ops 0 [⟨some 2, none, .alloc [.int .i64 0, .int .i64 0, .int .u64 0, .int .u64 0] false, []⟩])
 (.seq
 (.seq
 (.ops 1 [⟨some 3, none, .mv (.t 0), []⟩,
 ⟨some 4, none, .call 121 [.t 3], []⟩])
 (.cond (.t 4)
 (.seq
 (.ops 2 [⟨some 5, none, .build [.int .i64 0, .int .i64 0, .int .u64 0, .int .u64 0] [], []⟩,
 ⟨none, none, .st 4 (.t 2) (.t 5), []⟩])
 .ret)
 .skip))
 (.seq
 (.ops 3 [⟨some 6, none, .mv (.t 0), []⟩,
 ⟨some 7, none, .nilc (.t 6) (mok Tryz.prog), []⟩,
 ⟨some 8, none, .fld 1 (.t 7), []⟩,
 ⟨some 9, none, .ld 4 true (.t 8), []⟩,
 ⟨none, none, .st 4 (.t 2) (.t 9), []⟩])
 .ret)))⟩
theorem F98_code : cfgA.code 98 = some F98 := by kernel_rfl

/-- (*ticketline/descend.Find).over -/
noncomputable def F99 : AFn := ⟨12, [.tmp 2], (.seq
 (.ops 0 [⟨some 2, none, .mv (.c (.bool false)), []⟩])
 (.seq
 (.ops 1 [⟨some 3, none, .mv (.t 0), []⟩,
 ⟨some 4, none, .call 100 [.t 3], []⟩,
 ⟨some 5, none, .un .not (.t 4), []⟩,
 ⟨some 6, none, .mv (.t 5), []⟩,
 ⟨some 7, some (6, true), .mv (.t 0), []⟩,
 ⟨some 8, some (6, true), .nilc (.t 7) (mok Tryz.prog), []⟩,
 ⟨some 9, some (6, true), .fld 138 (.t 8), []⟩,
 ⟨some 10, some (6, true), .ld 1 false (.t 9), []⟩,
 ⟨some 11, none, .pick (.t 6) (.t 10) (.c (.bool false)), []⟩,
 ⟨some 2, none, .mv (.t 11), []⟩])
 .ret))⟩
theorem F99_code : cfgA.code 99 = some F99 := by kernel_rfl

/-- (*ticketline/descend.Find).zero -/
noncomputable def F100 : AFn := ⟨12, [.tmp 2], (.seq
 (.ops 0 [⟨some 2, none, .mv (.c (.bool false)), []⟩])
 (.seq
 (.ops 1 [⟨some 3, none, .mv (.t 0), []⟩,
 ⟨some 4, none, .eqn .ptr false (.t 3), []⟩,
 ⟨some 5, none, .mv (.t 4), []⟩,
 ⟨some 6, some (5, false), .mv (.t 0), []⟩,
 ⟨some 7, some (5, false), .nilc (.t 6) (mok Tryz.prog), []⟩,
 ⟨some 8, some (5, false), .fld 2 (.t 7), []⟩,
 ⟨some 9, some (5, false), .ld 1 false (.t 8), []⟩,
 ⟨some 10, some (5, false), .bin .eql (.t 9) (.c (.str [])), []⟩,
 ⟨some 11, none, .pick (.t 5) (.c (.bool true)) (.t 10), []⟩,
 ⟨some 2, none, .mv (.t 11), []⟩])
 .ret))⟩
theorem F100_code : cfgA.code 100 = some F100 := by kernel_rfl

/-- (*ticketline/descend.Scan).over -/
noncomputable def F101 : AFn := ⟨13, [.tmp 2], (.seq
 (.ops 0 [⟨some 2, none, .mv (.c (.bool false)), []⟩])
 (.seq
 (.ops 1 [⟨some 3, none, .mv (.t 0), []⟩,
 ⟨some 4, none, .call 122 [.t 3], []⟩,
 ⟨some 5, none, .un .not (.t 4), []⟩,
 ⟨some 6, none, .mv (.t 5), []⟩,
 ⟨some 7, some (6, true), .mv (.t 0), []⟩,
 ⟨some 8, some (6, true), .nilc (.t 7) (mok Tryz.prog), []⟩,
 ⟨some 9, some (6, true), .fld 14 (.t 8), []⟩,
 ⟨some 10, some (6, true), .ld 1 false (.t 9), []⟩,
 ⟨some 11, some (6, true), .bin .eql (.t 10) (.c (.int .i64 4)), []⟩,
 ⟨some 12, none, .pick (.t 6) (.t 11) (.c (.bool false)), []⟩,
 ⟨some 2, none, .mv (.t 12), []⟩])
 .ret))⟩
theorem F101_code : cfgA.code 101 = some F101 := by kernel_rfl

/-- slices.Clone[[]ticketline/api.Pair,ticketline/api.Pair] -/
noncomputable def F102 : AFn := ⟨8, [.tmp 2], (.seq
 (.ops 0 [⟨some 2, none, .mv (.c (.nils)), []⟩])
 (.seq
 (.seq
 (.ops 1 [⟨some 3, none, .mv (.t 0), []⟩,
 ⟨some 4, none, .eqn .slice false (.t 3), []⟩])
 (.cond (.t 4)
 (.seq
 (.ops 2 [⟨some 2, none, .mv (.c (.nils)), []⟩])
 .ret)
 .skip))
 (.seq
 (.ops 3 [⟨some 5, none, .bslice [.str [], .str []] 2 0 [] false false, []⟩,
 ⟨some 6, none, .mv (.t 0), []⟩,
 ⟨some 7, none, .app 2 32 (.t 5) (.t 6) true, []⟩,
 ⟨some 2, none, .mv (.t 7), []⟩])
 .ret)))⟩
theorem F102_code : cfgA.code 102 = some F102 := by kernel_rfl

/-- (*ticketline/mem.Mem).Do -/
noncomputable def F103 : AFn := ⟨86, [.cell 4 4 true, .tmp 5], (.seq
 (.ops 0 [⟨some 3, none, .box 4 (.t 1) false, []⟩,
 ⟨some 4, none, .alloc [.int .i64 0, .int .i64 0, .int .u64 0, .int .u64 0] false, []⟩,
 ⟨some 5, none, .mv (.c (.int .i64 0)), []⟩])
 (.seq
 (.block 0
 (.seq
 (.ops 1 [⟨some 8, none, .mv (.t 0), []⟩,
 ⟨some 9, none, .call 58 [.t 8], []⟩,
 ⟨some 7, none, .mv (.t 9), []⟩])
 (.cond (.t 7)
 (.seq
 (.ops 2 [⟨some 10, none, .build [.int .i64 0, .int .i64 0, .int .u64 0, .int .u64 0] [], []⟩,
 ⟨none, none, .st 4 (.t 4) (.t 10), []⟩,
 ⟨some 5, none, .mv (.c (.int .i64 1)), []⟩])
 .ret)
 (.seq
 (.ops 3 [⟨some 12, none, .fld 0 (.t 3), []⟩,
 ⟨some 13, none, .ld 1 false (.t 12), []⟩,
 ⟨some 14, none, .bin .lss (.t 13) (.c (.int .i64 1)), []⟩,
 ⟨some 15, none, .mv (.t 14), []⟩,
 ⟨some 16, some (15, false), .fld 0 (.t 3), []⟩,
 ⟨some 17, some (15, false), .ld 1 false (.t 16), []⟩,
 ⟨some 18, some (15, false), .bin .gtr (.t 17) (.c (.int .i64 4)), []⟩,
 ⟨some 19, none, .pick (.t 15) (.c (.bool true)) (.t 18), []⟩,
 ⟨some 11, none, .mv (.t 19), []⟩])
 (.cond (.t 11)
 (.seq
 (.ops 4 [⟨some 20, none, .build [.int .i64 0, .int .i64 0, .int .u64 0, .int .u64 0] [], []⟩,
 ⟨none, none, .st 4 (.t 4) (.t 20), []⟩,
 ⟨some 5, none, .mv (.c (.int .i64 2)), []⟩])
 .ret)
 (.seq
 (.ops 5 [⟨some 22, none, .fld 1 (.t 3), []⟩,
 ⟨some 23, none, .ld 1 false (.t 22), []⟩,
 ⟨some 24, none, .bin .lss (.t 23) (.c (.int .i64 0)), []⟩,
 ⟨some 25, none, .mv (.t 24), []⟩,
 ⟨some 26, some (25, false), .fld 1 (.t 3), []⟩,
 ⟨some 27, some (25, false), .ld 1 false (.t 26), []⟩,
 ⟨some 28, some (25, false), .mv (.t 0), []⟩,
 ⟨some 29, some (25, false), .nilc (.t 28) (mok Tryz.prog), []⟩,
 ⟨some 30, some (25, false), .fld 0 (.t 29), []⟩,
 ⟨some 31, some (25, false), .ld 1 false (.t 30), []⟩,
 ⟨some 32, some (25, false), .len .slice (.t 31), []⟩,
 ⟨some 33, some (25, false), .bin .geq (.t 27) (.t 32), []⟩,
 ⟨some 34, none, .pick (.t 25) (.c (.bool true)) (.t 33), []⟩,
 ⟨some 21, none, .mv (.t 34), []⟩])
 (.cond (.t 21)
 (.seq
 (.ops 6 [⟨some 35, none, .build [.int .i64 0, .int .i64 0, .int .u64 0, .int .u64 0] [], []⟩,
 ⟨none, none, .st 4 (.t 4) (.t 35), []⟩,
 ⟨some 5, none, .mv (.c (.int .i64 3)), []⟩])
 .ret)
 .skip)))))))
 (.seq
 (.ops 7 [⟨some 36, none, .mv (.t 0), []⟩,
 ⟨some 37, none, .nilc (.t 36) (mok Tryz.prog), []⟩,
 ⟨some 38, none, .fld 0 (.t 37), []⟩,
 ⟨some 39, none, .ld 1 false (.t 38), []⟩,
 ⟨some 40, none, .fld 1 (.t 3), []⟩,
 ⟨some 41, none, .ld 1 false (.t 40), []⟩,
 ⟨some 42, none, .ixa none 1 (.t 39) (.t 41), []⟩,
 ⟨some 43, none, .ld 1 false (.t 42), []⟩,
 ⟨some 6, none, .mv (.t 43), []⟩])
 (.seq
 (.seq
 (.ops 8 [⟨some 44, none, .fld 0 (.t 3), []⟩,
 ⟨some 45, none, .ld 1 false (.t 44), []⟩,
 ⟨some 46, none, .bin .eql (.t 45) (.c (.int .i64 2)), []⟩,
 ⟨some 47, none, .mv (.t 46), []⟩,
 ⟨some 48, some (47, false), .fld 0 (.t 3), []⟩,
 ⟨some 49, some (47, false), .ld 1 false (.t 48), []⟩,
 ⟨some 50, some (47, false), .bin .eql (.t 49) (.c (.int .i64 4)), []⟩,
 ⟨some 51, none, .pick (.t 47) (.c (.bool true)) (.t 50), []⟩,
 ⟨some 52, none, .mv (.t 51), []⟩,
 ⟨some 53, some (52, false), .fld 0 (.t 3), []⟩,
 ⟨some 54, some (52, false), .ld 1 false (.t 53), []⟩,
 ⟨some 55, some (52, false), .bin .eql (.t 54) (.c (.int .i64 3)), []⟩,
 ⟨some 56, some (52, false), .mv (.t 55), []⟩,
 ⟨some 57, some (56, true), .mv (.t 6), []⟩,
 ⟨some 58, some (56, true), .fld 2 (.t 3), []⟩,
 ⟨some 59, some (56, true), .ld 1 false (.t 58), []⟩,
 ⟨some 60, some (56, true), .bin .eql (.t 57) (.t 59), []⟩,
 ⟨some 61, some (52, false), .pick (.t 56) (.t 60) (.c (.bool false)), []⟩,
 ⟨some 62, none, .pick (.t 52) (.c (.bool true)) (.t 61), []⟩])
 (.cond (.t 62)
 (.ops 9 [⟨some 63, none, .mv (.t 0), []⟩,
 ⟨some 64, none, .nilc (.t 63) (mok Tryz.prog), []⟩,
 ⟨some 65, none, .fld 0 (.t 64), []⟩,
 ⟨some 66, none, .ld 1 false (.t 65), []⟩,
 ⟨some 67, none, .fld 1 (.t 3), []⟩,
 ⟨some 68, none, .ld 1 false (.t 67), []⟩,
 ⟨some 69, none, .fld 3 (.t 3), []⟩,
 ⟨some 70, none, .ld 1 false (.t 69), []⟩,
 ⟨some 71, none, .ixa none 1 (.t 66) (.t 68), []⟩,
 ⟨none, none, .st 1 (.t 71) (.t 70), []⟩])
 .skip))
 (.seq
 (.ops 10 [⟨some 72, none, .fld 0 (.t 3), []⟩,
 ⟨some 73, none, .ld 1 false (.t 72), []⟩,
 ⟨some 74, none, .fld 1 (.t 3), []⟩,
 ⟨some 75, none, .ld 1 false (.t 74), []⟩,
 ⟨some 76, none, .mv (.t 6), []⟩,
 ⟨some 77, none, .mv (.t 0), []⟩,
 ⟨some 78, none, .nilc (.t 77) (mok Tryz.prog), []⟩,
 ⟨some 79, none, .fld 0 (.t 78), []⟩,
 ⟨some 80, none, .ld 1 false (.t 79), []⟩,
 ⟨some 81, none, .fld 1 (.t 3), []⟩,
 ⟨some 82, none, .ld 1 false (.t 81), []⟩,
 ⟨some 83, none, .ixa none 1 (.t 80) (.t 82), []⟩,
 ⟨some 84, none, .ld 1 false (.t 83), []⟩,
 ⟨some 85, none, .build [.int .i64 0, .int .i64 0, .int .u64 0, .int .u64 0] [(0, 1, (.t 73)), (1, 1, (.t 75)), (2, 1, (.t 76)), (3, 1, (.t 84))], []⟩,
 ⟨none, none, .st 4 (.t 4) (.t 85), []⟩,
 ⟨some 5, none, .mv (.c (.int .i64 0)), []⟩])
 .ret)))))⟩
theorem F103_code : cfgA.code 103 = some F103 := by kernel_rfl

end Den
