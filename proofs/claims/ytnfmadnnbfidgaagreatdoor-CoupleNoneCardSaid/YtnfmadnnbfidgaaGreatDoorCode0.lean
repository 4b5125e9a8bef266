/- Functions of the program, as den reads them. -/
import Derived.Test.YtnfmadnnbfidgaaGreatDoorA
namespace Den
open Go Go.Proofs
set_option maxRecDepth 1000000

/-- ticketline/ticketlinelaw28.CoupleNone: the round 0 -/
noncomputable def B3x0 : AC := (.seq
 (.ops 8 [⟨some 34, none, .bin .lss (.t 33) (.t 32), []⟩])
 (.seq
 (.cond (.t 34)
 .skip
 (.exit 0))
 (.seq
 (.block 1
 (.seq
 (.ops 9 [⟨some 35, none, .ixa none 1 (.t 31) (.t 33), []⟩,
 ⟨some 36, none, .ld 1 false (.t 35), []⟩,
 ⟨some 7, none, .mv (.t 36), []⟩])
 (.seq
 (.ops 10 [⟨some 38, none, .mv (.t 7), []⟩,
 ⟨some 39, none, .mv (.t 1), []⟩,
 ⟨some 40, none, .mki 22 (.t 39), []⟩,
 ⟨some 41, none, .call 6 [.t 38, .t 40], []⟩,
 ⟨some 37, none, .mv (.t 41), []⟩,
 ⟨some 42, none, .ext (.t 37) 0, []⟩,
 ⟨some 43, none, .ext (.t 37) 1, []⟩,
 ⟨some 8, none, .mv (.t 42), []⟩,
 ⟨some 9, none, .mv (.t 43), []⟩])
 (.seq
 (.ops 11 [⟨some 44, none, .mv (.t 9), []⟩,
 ⟨some 45, none, .bin .neq (.t 44) (.c (.int .i64 1)), []⟩,
 ⟨some 46, none, .mv (.t 45), []⟩,
 ⟨some 47, some (46, false), .mv (.t 7), []⟩,
 ⟨some 48, some (46, false), .call 7 [.t 47], []⟩,
 ⟨some 49, some (46, false), .un .not (.t 48), []⟩,
 ⟨some 50, none, .pick (.t 46) (.c (.bool true)) (.t 49), []⟩,
 ⟨some 51, none, .mv (.t 50), []⟩,
 ⟨some 52, some (51, false), .mv (.t 7), []⟩,
 ⟨some 53, some (51, false), .call 8 [.t 52], []⟩,
 ⟨some 54, some (51, false), .bin .neq (.t 53) (.c (.int .u64 0)), []⟩,
 ⟨some 55, none, .pick (.t 51) (.c (.bool true)) (.t 54), []⟩,
 ⟨some 56, none, .mv (.t 55), []⟩,
 ⟨some 57, some (56, false), .mv (.t 7), []⟩,
 ⟨some 58, some (56, false), .call 9 [.t 57], []⟩,
 ⟨some 59, some (56, false), .eqn .iface true (.t 58), []⟩,
 ⟨some 60, none, .pick (.t 56) (.c (.bool true)) (.t 59), []⟩,
 ⟨some 61, none, .mv (.t 60), []⟩,
 ⟨some 62, some (61, false), .mv (.t 7), []⟩,
 ⟨some 63, some (61, false), .call 10 [.t 62], []⟩,
 ⟨some 64, some (61, false), .build [.int .i64 0, .int .u64 0, .int .u64 0, .int .u64 0, .int .u64 0, .int .u64 0, .int .u64 0, .int .u64 0, .int .u64 0, .int .u64 0, .int .u64 0, .int .u64 0, .int .u64 0, .int .u64 0, .int .u64 0, .int .u64 0, .int .u64 0, .int .u64 0, .int .u64 0, .int .u64 0, .int .u64 0, .int .u64 0, .int .u64 0, .int .u64 0, .int .u64 0, .int .u64 0, .int .u64 0, .int .u64 0, .int .u64 0, .int .u64 0, .int .u64 0, .int .u64 0, .int .u64 0, .int .u64 0, .int .u64 0, .int .u64 0, .int .u64 0, .int .u64 0, .int .u64 0, .int .u64 0, .int .u64 0, .int .u64 0, .int .u64 0, .int .u64 0, .int .u64 0, .int .u64 0, .int .u64 0, .int .u64 0, .int .u64 0, .int .u64 0, .int .u64 0, .int .u64 0, .int .u64 0, .int .u64 0, .int .u64 0, .int .u64 0, .int .u64 0, .int .u64 0, .int .u64 0, .int .u64 0, .int .u64 0, .int .u64 0, .int .u64 0, .int .u64 0, .int .u64 0, .int .u64 0, .int .u64 0, .int .u64 0, .int .u64 0, .int .u64 0, .int .u64 0, .int .u64 0, .int .u64 0, .int .u64 0, .int .u64 0, .int .u64 0, .int .u64 0, .int .u64 0, .int .u64 0, .int .u64 0, .int .u64 0, .int .u64 0, .int .u64 0, .int .u64 0, .int .u64 0, .int .u64 0, .int .u64 0, .int .u64 0, .int .u64 0, .int .u64 0, .int .u64 0, .int .u64 0, .int .u64 0, .int .u64 0, .int .u64 0, .int .u64 0, .int .u64 0, .int .u64 0, .int .u64 0, .int .u64 0, .int .u64 0, .int .u64 0, .int .u64 0, .int .u64 0, .int .u64 0, .int .u64 0, .int .u64 0, .int .u64 0, .int .u64 0, .int .u64 0, .int .u64 0, .int .u64 0, .int .u64 0, .int .u64 0, .int .u64 0, .int .u64 0, .int .u64 0, .int .u64 0, .int .u64 0, .int .u64 0, .int .u64 0, .int .u64 0, .int .u64 0, .int .u64 0, .int .u64 0, .int .u64 0, .int .u64 0, .int .u64 0, .int .u64 0, .int .u64 0] [], []⟩,
 ⟨some 65, some (61, false), .eqs true [.int, .int, .int, .int, .int, .int, .int, .int, .int, .int, .int, .int, .int, .int, .int, .int, .int, .int, .int, .int, .int, .int, .int, .int, .int, .int, .int, .int, .int, .int, .int, .int, .int, .int, .int, .int, .int, .int, .int, .int, .int, .int, .int, .int, .int, .int, .int, .int, .int, .int, .int, .int, .int, .int, .int, .int, .int, .int, .int, .int, .int, .int, .int, .int, .int, .int, .int, .int, .int, .int, .int, .int, .int, .int, .int, .int, .int, .int, .int, .int, .int, .int, .int, .int, .int, .int, .int, .int, .int, .int, .int, .int, .int, .int, .int, .int, .int, .int, .int, .int, .int, .int, .int, .int, .int, .int, .int, .int, .int, .int, .int, .int, .int, .int, .int, .int, .int, .int, .int, .int, .int, .int, .int, .int, .int, .int, .int, .int, .int, .int] (.t 63) (.t 64), []⟩,
 ⟨some 66, none, .pick (.t 61) (.c (.bool true)) (.t 65), []⟩])
 (.cond (.t 66)
 (.seq
 (.ops 12 [⟨some 0, none, .mv (.c (.bool false)), []⟩])
 .ret)
 .skip)))))
 (.ops 13 [⟨some 67, none, .bin .add (.t 33) (.c (.int .i64 1)), []⟩,
 ⟨some 33, none, .mv (.t 67), []⟩]))))
/-- ticketline/ticketlinelaw28.CoupleNone: the round 1 -/
noncomputable def B3x1 : AC := (.seq
 (.ops 15 [⟨some 74, none, .bin .lss (.t 73) (.t 72), []⟩])
 (.seq
 (.cond (.t 74)
 .skip
 (.exit 2))
 (.seq
 (.block 3
 (.seq
 (.ops 16 [⟨some 75, none, .ixa none 1 (.t 71) (.t 73), []⟩,
 ⟨some 76, none, .ld 1 false (.t 75), []⟩,
 ⟨some 11, none, .mv (.t 76), []⟩])
 (.seq
 (.ops 17 [⟨some 78, none, .mv (.t 11), []⟩,
 ⟨some 79, none, .mv (.t 1), []⟩,
 ⟨some 80, none, .mki 22 (.t 79), []⟩,
 ⟨some 81, none, .call 11 [.t 78, .t 80], []⟩,
 ⟨some 77, none, .mv (.t 81), []⟩,
 ⟨some 82, none, .ext (.t 77) 0, []⟩,
 ⟨some 83, none, .ext (.t 77) 1, []⟩,
 ⟨some 12, none, .mv (.t 82), []⟩,
 ⟨some 13, none, .mv (.t 83), []⟩])
 (.seq
 (.ops 18 [⟨some 84, none, .mv (.t 13), []⟩,
 ⟨some 85, none, .bin .neq (.t 84) (.c (.int .i64 1)), []⟩,
 ⟨some 86, none, .mv (.t 85), []⟩,
 ⟨some 87, some (86, false), .mv (.t 11), []⟩,
 ⟨some 88, some (86, false), .call 12 [.t 87], []⟩,
 ⟨some 89, some (86, false), .un .not (.t 88), []⟩,
 ⟨some 90, none, .pick (.t 86) (.c (.bool true)) (.t 89), []⟩,
 ⟨some 91, none, .mv (.t 90), []⟩,
 ⟨some 92, some (91, false), .mv (.t 11), []⟩,
 ⟨some 93, some (91, false), .call 13 [.t 92], []⟩,
 ⟨some 94, some (91, false), .bin .neq (.t 93) (.c (.int .u64 0)), []⟩,
 ⟨some 95, none, .pick (.t 91) (.c (.bool true)) (.t 94), []⟩,
 ⟨some 96, none, .mv (.t 95), []⟩,
 ⟨some 97, some (96, false), .mv (.t 11), []⟩,
 ⟨some 98, some (96, false), .call 14 [.t 97], []⟩,
 ⟨some 99, some (96, false), .eqn .iface true (.t 98), []⟩,
 ⟨some 100, none, .pick (.t 96) (.c (.bool true)) (.t 99), []⟩,
 ⟨some 101, none, .mv (.t 100), []⟩,
 ⟨some 102, some (101, false), .mv (.t 11), []⟩,
 ⟨some 103, some (101, false), .call 15 [.t 102], []⟩,
 ⟨some 104, some (101, false), .len .slice (.t 103), []⟩,
 ⟨some 105, some (101, false), .bin .neq (.t 104) (.c (.int .i64 0)), []⟩,
 ⟨some 106, none, .pick (.t 101) (.c (.bool true)) (.t 105), []⟩])
 (.cond (.t 106)
 (.seq
 (.ops 19 [⟨some 0, none, .mv (.c (.bool false)), []⟩])
 .ret)
 .skip)))))
 (.ops 20 [⟨some 107, none, .bin .add (.t 73) (.c (.int .i64 1)), []⟩,
 ⟨some 73, none, .mv (.t 107), []⟩]))))
/-- ticketline/ticketlinelaw28.CoupleNone: the round 2 -/
noncomputable def B3x2 : AC := (.seq
 (.ops 22 [⟨some 114, none, .bin .lss (.t 113) (.t 112), []⟩])
 (.seq
 (.cond (.t 114)
 .skip
 (.exit 4))
 (.seq
 (.block 5
 (.seq
 (.ops 23 [⟨some 115, none, .ixa none 1 (.t 111) (.t 113), []⟩,
 ⟨some 116, none, .ld 1 false (.t 115), []⟩,
 ⟨some 15, none, .mv (.t 116), []⟩])
 (.seq
 (.ops 24 [⟨some 118, none, .mv (.t 15), []⟩,
 ⟨some 119, none, .mv (.t 1), []⟩,
 ⟨some 120, none, .mki 22 (.t 119), []⟩,
 ⟨some 121, none, .call 16 [.t 118, .t 120], []⟩,
 ⟨some 117, none, .mv (.t 121), []⟩,
 ⟨some 122, none, .ext (.t 117) 0, []⟩,
 ⟨some 123, none, .ext (.t 117) 1, []⟩,
 ⟨some 16, none, .mv (.t 122), []⟩,
 ⟨some 17, none, .mv (.t 123), []⟩])
 (.seq
 (.ops 25 [⟨some 124, none, .mv (.t 17), []⟩,
 ⟨some 125, none, .bin .neq (.t 124) (.c (.int .i64 1)), []⟩,
 ⟨some 126, none, .mv (.t 125), []⟩,
 ⟨some 127, some (126, false), .mv (.t 15), []⟩,
 ⟨some 128, some (126, false), .call 17 [.t 127], []⟩,
 ⟨some 129, some (126, false), .un .not (.t 128), []⟩,
 ⟨some 130, none, .pick (.t 126) (.c (.bool true)) (.t 129), []⟩,
 ⟨some 131, none, .mv (.t 130), []⟩,
 ⟨some 132, some (131, false), .mv (.t 15), []⟩,
 ⟨some 133, some (131, false), .call 18 [.t 132], []⟩,
 ⟨some 134, some (131, false), .bin .neq (.t 133) (.c (.int .u64 0)), []⟩,
 ⟨some 135, none, .pick (.t 131) (.c (.bool true)) (.t 134), []⟩,
 ⟨some 136, none, .mv (.t 135), []⟩,
 ⟨some 137, some (136, false), .mv (.t 15), []⟩,
 ⟨some 138, some (136, false), .call 19 [.t 137], []⟩,
 ⟨some 139, some (136, false), .eqn .iface true (.t 138), []⟩,
 ⟨some 140, none, .pick (.t 136) (.c (.bool true)) (.t 139), []⟩,
 ⟨some 141, none, .mv (.t 140), []⟩,
 ⟨some 142, some (141, false), .mv (.t 15), []⟩,
 ⟨some 143, some (141, false), .call 20 [.t 142], []⟩,
 ⟨some 144, some (141, false), .build [.int .i64 0, .int .u64 0, .int .u64 0, .int .u64 0, .int .u64 0, .int .u64 0, .int .u64 0, .int .u64 0, .int .u64 0, .int .u64 0, .int .u64 0, .int .u64 0, .int .u64 0, .int .u64 0, .int .u64 0, .int .u64 0, .int .u64 0, .int .u64 0, .int .u64 0, .int .u64 0, .int .u64 0, .int .u64 0, .int .u64 0, .int .u64 0, .int .u64 0, .int .u64 0, .int .u64 0, .int .u64 0, .int .u64 0, .int .u64 0, .int .u64 0, .int .u64 0, .int .u64 0, .int .u64 0, .int .u64 0, .int .u64 0, .int .u64 0, .int .u64 0, .int .u64 0, .int .u64 0, .int .u64 0, .int .u64 0, .int .u64 0, .int .u64 0, .int .u64 0, .int .u64 0, .int .u64 0, .int .u64 0, .int .u64 0, .int .u64 0, .int .u64 0, .int .u64 0, .int .u64 0, .int .u64 0, .int .u64 0, .int .u64 0, .int .u64 0, .int .u64 0, .int .u64 0, .int .u64 0, .int .u64 0, .int .u64 0, .int .u64 0, .int .u64 0, .int .u64 0, .int .u64 0, .int .u64 0, .int .u64 0, .int .u64 0, .int .u64 0, .int .u64 0, .int .u64 0, .int .u64 0, .int .u64 0, .int .u64 0, .int .u64 0, .int .u64 0, .int .u64 0, .int .u64 0, .int .u64 0, .int .u64 0, .int .u64 0, .int .u64 0, .int .u64 0, .int .u64 0, .int .u64 0, .int .u64 0, .int .u64 0, .int .u64 0, .int .u64 0, .int .u64 0, .int .u64 0, .int .u64 0, .int .u64 0, .int .u64 0, .int .u64 0, .int .u64 0, .int .u64 0, .int .u64 0, .int .u64 0, .int .u64 0, .int .u64 0, .int .u64 0, .int .u64 0, .int .u64 0, .int .u64 0, .int .u64 0, .int .u64 0, .int .u64 0, .int .u64 0, .int .u64 0, .int .u64 0, .int .u64 0, .int .u64 0, .int .u64 0, .int .u64 0, .int .u64 0, .int .u64 0, .int .u64 0, .int .u64 0, .int .u64 0, .int .u64 0, .int .u64 0, .int .u64 0, .int .u64 0, .int .u64 0, .int .u64 0, .int .u64 0, .int .u64 0, .int .u64 0] [], []⟩,
 ⟨some 145, some (141, false), .eqs true [.int, .int, .int, .int, .int, .int, .int, .int, .int, .int, .int, .int, .int, .int, .int, .int, .int, .int, .int, .int, .int, .int, .int, .int, .int, .int, .int, .int, .int, .int, .int, .int, .int, .int, .int, .int, .int, .int, .int, .int, .int, .int, .int, .int, .int, .int, .int, .int, .int, .int, .int, .int, .int, .int, .int, .int, .int, .int, .int, .int, .int, .int, .int, .int, .int, .int, .int, .int, .int, .int, .int, .int, .int, .int, .int, .int, .int, .int, .int, .int, .int, .int, .int, .int, .int, .int, .int, .int, .int, .int, .int, .int, .int, .int, .int, .int, .int, .int, .int, .int, .int, .int, .int, .int, .int, .int, .int, .int, .int, .int, .int, .int, .int, .int, .int, .int, .int, .int, .int, .int, .int, .int, .int, .int, .int, .int, .int, .int, .int, .int] (.t 143) (.t 144), []⟩,
 ⟨some 146, none, .pick (.t 141) (.c (.bool true)) (.t 145), []⟩])
 (.cond (.t 146)
 (.seq
 (.ops 26 [⟨some 0, none, .mv (.c (.bool false)), []⟩])
 .ret)
 .skip)))))
 (.ops 27 [⟨some 147, none, .bin .add (.t 113) (.c (.int .i64 1)), []⟩,
 ⟨some 113, none, .mv (.t 147), []⟩]))))
/-- ticketline/ticketlinelaw28.CoupleNone -/
noncomputable def F3 : AFn := ⟨149, [.tmp 0], (.seq
 (.ops 0 [⟨some 0, none, .mv (.c (.bool false)), []⟩])
 (.seq
 (.ops 1 [⟨some 19, none, .call 5 [.c (.int .i64 9)], []⟩,
 ⟨some 18, none, .mv (.t 19), []⟩,
 ⟨some 20, none, .ext (.t 18) 0, []⟩,
 ⟨some 21, none, .ext (.t 18) 1, []⟩,
 ⟨some 1, none, .mv (.t 20), []⟩,
 ⟨some 2, none, .mv (.t 21), []⟩])
 (.seq
 (.seq
 (.ops 2 [⟨some 22, none, .mv (.t 1), []⟩,
 ⟨some 23, none, .eqn .ptr false (.t 22), []⟩,
 ⟨some 24, none, .mv (.t 23), []⟩,
 ⟨some 25, some (24, false), .mv (.t 2), []⟩,
 ⟨some 26, some (24, false), .bin .neq (.t 25) (.c (.int .i64 0)), []⟩,
 ⟨some 27, none, .pick (.t 24) (.c (.bool true)) (.t 26), []⟩])
 (.cond (.t 27)
 (.seq
 (.ops 3 [⟨some 0, none, .mv (.c (.bool false)), []⟩])
 .ret)
 .skip))
 (.seq
 (.ops 4 [⟨some 3, none, .mv (.c (.nilp)), []⟩])
 (.seq
 (.ops 5 [⟨some 4, none, .mv (.c (.nilp)), []⟩])
 (.seq
 (.ops 6 [⟨some 5, none, .mv (.c (.nilp)), []⟩])
 (.seq
 (.seq
 (.ops 7 [⟨some 28, none, .mv (.t 3), []⟩,
 ⟨some 29, none, .build [.int .i64 0, .int .i64 0, .int .i64 0, .str [], .int .i64 0, .int .i64 0, .int .i64 0, .int .i64 0, .nili, .nilp, .int .i64 0, .int .u64 0, .int .u64 0, .int .u64 0, .int .u64 0, .int .u64 0, .int .u64 0, .int .u64 0, .int .u64 0, .int .u64 0, .int .u64 0, .int .u64 0, .int .u64 0, .int .u64 0, .int .u64 0, .int .u64 0, .int .u64 0, .int .u64 0, .int .u64 0, .int .u64 0, .int .u64 0, .int .u64 0, .int .u64 0, .int .u64 0, .int .u64 0, .int .u64 0, .int .u64 0, .int .u64 0, .int .u64 0, .int .u64 0, .int .u64 0, .int .u64 0, .int .u64 0, .int .u64 0, .int .u64 0, .int .u64 0, .int .u64 0, .int .u64 0, .int .u64 0, .int .u64 0, .int .u64 0, .int .u64 0, .int .u64 0, .int .u64 0, .int .u64 0, .int .u64 0, .int .u64 0, .int .u64 0, .int .u64 0, .int .u64 0, .int .u64 0, .int .u64 0, .int .u64 0, .int .u64 0, .int .u64 0, .int .u64 0, .int .u64 0, .int .u64 0, .int .u64 0, .int .u64 0, .int .u64 0, .int .u64 0, .int .u64 0, .int .u64 0, .int .u64 0, .int .u64 0, .int .u64 0, .int .u64 0, .int .u64 0, .int .u64 0, .int .u64 0, .int .u64 0, .int .u64 0, .int .u64 0, .int .u64 0, .int .u64 0, .int .u64 0, .int .u64 0, .int .u64 0, .int .u64 0, .int .u64 0, .int .u64 0, .int .u64 0, .int .u64 0, .int .u64 0, .int .u64 0, .int .u64 0, .int .u64 0, .int .u64 0, .int .u64 0, .int .u64 0, .int .u64 0, .int .u64 0, .int .u64 0, .int .u64 0, .int .u64 0, .int .u64 0, .int .u64 0, .int .u64 0, .int .u64 0, .int .u64 0, .int .u64 0, .int .u64 0, .int .u64 0, .int .u64 0, .int .u64 0, .int .u64 0, .int .u64 0, .int .u64 0, .int .u64 0, .int .u64 0, .int .u64 0, .int .u64 0, .int .u64 0, .int .u64 0, .int .u64 0, .int .u64 0, .int .u64 0, .int .u64 0, .int .u64 0, .int .u64 0, .int .u64 0, .int .u64 0, .int .u64 0, .int .u64 0, .int .u64 0, .int .u64 0, .int .u64 0, .int .u64 0, .int .u64 0] [], []⟩,
 ⟨some 30, none, .box 140 (.t 29) false, []⟩,
 ⟨some 31, none, .bslice [.nilp] 1 2 [(0, (.t 28)), (1, (.t 30))] true false, []⟩,
 ⟨some 32, none, .len .slice (.t 31), []⟩,
 ⟨some 33, none, .mv (.c (.int .i64 0)), []⟩])
 (.block 0
 (.loop [] B3x0)))
 (.seq
 (.seq
 (.ops 14 [⟨some 68, none, .mv (.t 4), []⟩,
 ⟨some 69, none, .build [.int .i64 0, .int .i64 0, .int .i64 0, .str [], .int .i64 0, .int .i64 0, .int .i64 0, .int .i64 0, .nili, .nilp, .int .i64 0, .int .u64 0, .int .u64 0, .int .u64 0, .int .u64 0, .int .u64 0, .int .u64 0, .int .u64 0, .int .u64 0, .int .u64 0, .int .u64 0, .int .u64 0, .int .u64 0, .int .u64 0, .int .u64 0, .int .u64 0, .int .u64 0, .int .u64 0, .int .u64 0, .int .u64 0, .int .u64 0, .int .u64 0, .int .u64 0, .int .u64 0, .int .u64 0, .int .u64 0, .int .u64 0, .int .u64 0, .int .u64 0, .int .u64 0, .int .u64 0, .int .u64 0, .int .u64 0, .int .u64 0, .int .u64 0, .int .u64 0, .int .u64 0, .int .u64 0, .int .u64 0, .int .u64 0, .int .u64 0, .int .u64 0, .int .u64 0, .int .u64 0, .int .u64 0, .int .u64 0, .int .u64 0, .int .u64 0, .int .u64 0, .int .u64 0, .int .u64 0, .int .u64 0, .int .u64 0, .int .u64 0, .int .u64 0, .int .u64 0, .int .u64 0, .int .u64 0, .int .u64 0, .int .u64 0, .int .u64 0, .int .u64 0, .int .u64 0, .int .u64 0, .int .u64 0, .int .u64 0, .int .u64 0, .int .u64 0, .int .u64 0, .int .u64 0, .int .u64 0, .int .u64 0, .int .u64 0, .int .u64 0, .int .u64 0, .int .u64 0, .int .u64 0, .int .u64 0, .int .u64 0, .int .u64 0, .int .u64 0, .int .u64 0, .int .u64 0, .int .u64 0, .int .u64 0, .int .u64 0, .int .u64 0, .int .u64 0, .int .u64 0, .int .u64 0, .int .u64 0, .int .u64 0, .int .u64 0, .int .u64 0, .int .u64 0, .int .u64 0, .int .u64 0, .int .u64 0, .int .u64 0, .int .u64 0, .int .u64 0, .int .u64 0, .int .u64 0, .int .u64 0, .int .u64 0, .int .u64 0, .int .u64 0, .int .u64 0, .int .u64 0, .int .u64 0, .int .u64 0, .int .u64 0, .int .u64 0, .int .u64 0, .int .u64 0, .int .u64 0, .int .u64 0, .int .u64 0, .int .u64 0, .int .u64 0, .int .u64 0, .int .u64 0, .int .u64 0, .int .u64 0, .int .u64 0, .int .u64 0, .int .u64 0, .int .u64 0, .int .u64 0, .int .u64 0, .str [], .str [], .int .i64 0, .nils, .nils] [], []⟩,
 ⟨some 70, none, .box 145 (.t 69) false, []⟩,
 ⟨some 71, none, .bslice [.nilp] 1 2 [(0, (.t 68)), (1, (.t 70))] true false, []⟩,
 ⟨some 72, none, .len .slice (.t 71), []⟩,
 ⟨some 73, none, .mv (.c (.int .i64 0)), []⟩])
 (.block 2
 (.loop [] B3x1)))
 (.seq
 (.seq
 (.ops 21 [⟨some 108, none, .mv (.t 5), []⟩,
 ⟨some 109, none, .build [.int .i64 0, .int .i64 0, .int .i64 0, .int .u64 0, .int .u64 0, .int .u64 0, .int .u64 0, .int .u64 0, .int .u64 0, .int .u64 0, .int .u64 0, .int .u64 0, .int .u64 0, .int .u64 0, .int .u64 0, .int .u64 0, .int .u64 0, .int .u64 0, .int .u64 0, .int .u64 0, .int .u64 0, .int .u64 0, .int .u64 0, .int .u64 0, .int .u64 0, .int .u64 0, .int .u64 0, .int .u64 0, .int .u64 0, .int .u64 0, .int .u64 0, .int .u64 0, .int .u64 0, .int .u64 0, .int .u64 0, .int .u64 0, .int .u64 0, .int .u64 0, .int .u64 0, .int .u64 0, .int .u64 0, .int .u64 0, .int .u64 0, .int .u64 0, .int .u64 0, .int .u64 0, .int .u64 0, .int .u64 0, .int .u64 0, .int .u64 0, .int .u64 0, .int .u64 0, .int .u64 0, .int .u64 0, .int .u64 0, .int .u64 0, .int .u64 0, .int .u64 0, .int .u64 0, .int .u64 0, .int .u64 0, .int .u64 0, .int .u64 0, .int .u64 0, .int .u64 0, .int .u64 0, .int .u64 0, .int .u64 0, .int .u64 0, .int .u64 0, .int .u64 0, .int .u64 0, .int .u64 0, .int .u64 0, .int .u64 0, .int .u64 0, .int .u64 0, .int .u64 0, .int .u64 0, .int .u64 0, .int .u64 0, .int .u64 0, .int .u64 0, .int .u64 0, .int .u64 0, .int .u64 0, .int .u64 0, .int .u64 0, .int .u64 0, .int .u64 0, .int .u64 0, .int .u64 0, .int .u64 0, .int .u64 0, .int .u64 0, .int .u64 0, .int .u64 0, .int .u64 0, .int .u64 0, .int .u64 0, .int .u64 0, .int .u64 0, .int .u64 0, .int .u64 0, .int .u64 0, .int .u64 0, .int .u64 0, .int .u64 0, .int .u64 0, .int .u64 0, .int .u64 0, .int .u64 0, .int .u64 0, .int .u64 0, .int .u64 0, .int .u64 0, .int .u64 0, .int .u64 0, .int .u64 0, .int .u64 0, .int .u64 0, .int .u64 0, .int .u64 0, .int .u64 0, .int .u64 0, .int .u64 0, .int .u64 0, .int .u64 0, .int .u64 0, .int .u64 0, .int .u64 0, .int .u64 0] [], []⟩,
 ⟨some 110, none, .box 132 (.t 109) false, []⟩,
 ⟨some 111, none, .bslice [.nilp] 1 2 [(0, (.t 108)), (1, (.t 110))] true false, []⟩,
 ⟨some 112, none, .len .slice (.t 111), []⟩,
 ⟨some 113, none, .mv (.c (.int .i64 0)), []⟩])
 (.block 4
 (.loop [] B3x2)))
 (.seq
 (.ops 28 [⟨some 148, none, .call 21 [], []⟩,
 ⟨some 0, none, .mv (.t 148), []⟩])
 .ret))))))))))⟩
theorem F3_code : cfgA.code 3 = some F3 := by kernel_rfl

/-- ticketline/mem.New -/
noncomputable def F5 : AFn := ⟨14, [.tmp 2, .tmp 3], (.seq
 (.ops 0 [⟨some 2, none, .mv (.c (.nilp)), []⟩,
 ⟨some 3, none, .mv (.c (.int .i64 0)), []⟩])
 (.seq
 (.seq
 (.ops 1 [⟨some 4, none, .mv (.t 0), []⟩,
 ⟨some 5, none, .bin .lss (.t 4) (.c (.int .i64 1)), []⟩,
 ⟨some 6, none, .mv (.t 5), []⟩,
 ⟨some 7, some (6, false), .mv (.t 0), []⟩,
 ⟨some 8, some (6, false), .bin .gtr (.t 7) (.c (.int .i64 65536)), []⟩,
 ⟨some 9, none, .pick (.t 6) (.c (.bool true)) (.t 8), []⟩])
 (.cond (.t 9)
 (.seq
 (.ops 2 [⟨some 2, none, .mv (.c (.nilp)), []⟩,
 ⟨some 3, none, .mv (.c (.int .i64 2)), []⟩])
 .ret)
 .skip))
 (.seq
 (.ops 3 [⟨some 10, none, .mv (.t 0), []⟩,
 ⟨some 11, none, .mks [.int .u64 0] 1 8 (.t 10) (.t 10) true, []⟩,
 ⟨some 12, none, .build [.nils] [(0, 1, (.t 11))], []⟩,
 ⟨some 13, none, .box 1 (.t 12) true, []⟩,
 ⟨some 2, none, .mv (.t 13), []⟩,
 ⟨some 3, none, .mv (.c (.int .i64 0)), []⟩])
 .ret)))⟩
theorem F5_code : cfgA.code 5 = some F5 := by kernel_rfl

/-- (*ticketline/couple.Down).Step -/
noncomputable def F6 : AFn := ⟨39, [.tmp 4, .tmp 5], (.seq
 (.ops 0 [⟨some 4, none, .mv (.c (.bool false)), []⟩,
 ⟨some 5, none, .mv (.c (.int .i64 0)), []⟩])
 (.seq
 (.block 0
 (.seq
 (.ops 1 [⟨some 10, none, .mv (.t 0), []⟩,
 ⟨some 11, none, .call 37 [.t 10], []⟩,
 ⟨some 12, none, .mv (.t 11), []⟩,
 ⟨some 13, some (12, false), .mv (.t 1), []⟩,
 ⟨some 14, some (12, false), .eqn .iface false (.t 13), []⟩,
 ⟨some 15, none, .pick (.t 12) (.c (.bool true)) (.t 14), []⟩,
 ⟨some 9, none, .mv (.t 15), []⟩])
 (.cond (.t 9)
 (.seq
 (.ops 2 [⟨some 4, none, .mv (.c (.bool false)), []⟩,
 ⟨some 5, none, .mv (.c (.int .i64 1)), []⟩])
 .ret)
 (.seq
 (.ops 3 [⟨some 17, none, .mv (.t 0), []⟩,
 ⟨some 18, none, .nilc (.t 17) (mok Tryz.prog), []⟩,
 ⟨some 19, none, .fld 0 (.t 18), []⟩,
 ⟨some 20, none, .fld 5 (.t 19), []⟩,
 ⟨some 21, none, .ld 1 false (.t 20), []⟩,
 ⟨some 22, none, .bin .eql (.t 21) (.c (.int .i64 7)), []⟩,
 ⟨some 16, none, .mv (.t 22), []⟩])
 (.cond (.t 16)
 (.seq
 (.ops 4 [⟨some 4, none, .mv (.c (.bool false)), []⟩,
 ⟨some 5, none, .mv (.c (.int .i64 17)), []⟩])
 .ret)
 .skip)))))
 (.seq
 (.ops 5 [⟨some 24, none, .mv (.t 0), []⟩,
 ⟨some 25, none, .nilc (.t 24) (mok Tryz.prog), []⟩,
 ⟨some 26, none, .fld 0 (.t 25), []⟩,
 ⟨some 27, none, .mv (.t 1), []⟩,
 ⟨some 28, none, .call 38 [.t 26, .t 27], []⟩,
 ⟨some 23, none, .mv (.t 28), []⟩,
 ⟨some 29, none, .ext (.t 23) 0, []⟩,
 ⟨some 30, none, .ext (.t 23) 1, []⟩,
 ⟨some 31, none, .ext (.t 23) 2, []⟩,
 ⟨some 6, none, .mv (.t 29), []⟩,
 ⟨some 7, none, .mv (.t 30), []⟩,
 ⟨some 8, none, .mv (.t 31), []⟩])
 (.seq
 (.seq
 (.ops 6 [⟨some 32, none, .mv (.t 7), []⟩])
 (.cond (.t 32)
 (.ops 7 [⟨some 33, none, .mv (.t 0), []⟩,
 ⟨some 34, none, .nilc (.t 33) (mok Tryz.prog), []⟩,
 ⟨some 35, none, .fld 0 (.t 34), []⟩,
 ⟨some 36, none, .fld 5 (.t 35), []⟩,
 ⟨none, none, .st 1 (.t 36) (.c (.int .i64 7)), []⟩])
 .skip))
 (.seq
 (.ops 8 [⟨some 37, none, .mv (.t 6), []⟩,
 ⟨some 38, none, .mv (.t 8), []⟩,
 ⟨some 4, none, .mv (.t 37), []⟩,
 ⟨some 5, none, .mv (.t 38), []⟩])
 .ret)))))⟩
theorem F6_code : cfgA.code 6 = some F6 := by kernel_rfl

/-- (*ticketline/couple.Down).Done -/
noncomputable def F7 : AFn := ⟨13, [.tmp 2], (.seq
 (.ops 0 [⟨some 2, none, .mv (.c (.bool false)), []⟩])
 (.seq
 (.ops 1 [⟨some 3, none, .mv (.t 0), []⟩,
 ⟨some 4, none, .call 37 [.t 3], []⟩,
 ⟨some 5, none, .mv (.t 4), []⟩,
 ⟨some 6, some (5, false), .mv (.t 0), []⟩,
 ⟨some 7, some (5, false), .nilc (.t 6) (mok Tryz.prog), []⟩,
 ⟨some 8, some (5, false), .fld 0 (.t 7), []⟩,
 ⟨some 9, some (5, false), .fld 5 (.t 8), []⟩,
 ⟨some 10, some (5, false), .ld 1 false (.t 9), []⟩,
 ⟨some 11, some (5, false), .bin .eql (.t 10) (.c (.int .i64 7)), []⟩,
 ⟨some 12, none, .pick (.t 5) (.c (.bool true)) (.t 11), []⟩,
 ⟨some 2, none, .mv (.t 12), []⟩])
 .ret))⟩
theorem F7_code : cfgA.code 7 = some F7 := by kernel_rfl

/-- (*ticketline/couple.Down).Result -/
noncomputable def F8 : AFn := ⟨7, [.tmp 2], (.seq
 (.ops 0 [⟨some 2, none, .mv (.c (.int .u64 0)), []⟩])
 (.seq
 (.ops 1 [⟨some 3, none, .mv (.t 0), []⟩,
 ⟨some 4, none, .call 10 [.t 3], []⟩,
 ⟨some 5, none, .fdv 0 1 false (.t 4), []⟩,
 ⟨some 6, none, .cvi .u64 (.t 5), []⟩,
 ⟨some 2, none, .mv (.t 6), []⟩])
 .ret))⟩
theorem F8_code : cfgA.code 8 = some F8 := by kernel_rfl

/-- (*ticketline/couple.Down).Copy -/
noncomputable def F9 : AFn := ⟨13, [.tmp 2], (.seq
 (.ops 0 [⟨some 2, none, .mv (.c (.nili)), []⟩])
 (.seq
 (.seq
 (.ops 1 [⟨some 3, none, .mv (.t 0), []⟩,
 ⟨some 4, none, .call 37 [.t 3], []⟩])
 (.cond (.t 4)
 (.seq
 (.ops 2 [⟨some 2, none, .mv (.c (.nili)), []⟩])
 .ret)
 .skip))
 (.seq
 (.ops 3 [⟨some 5, none, .mv (.t 0), []⟩,
 ⟨some 6, none, .nilc (.t 5) (mok Tryz.prog), []⟩,
 ⟨some 7, none, .fld 0 (.t 6), []⟩,
 ⟨some 8, none, .ld 140 true (.t 7), []⟩,
 ⟨some 9, none, .call 39 [.t 8], []⟩,
 ⟨some 10, none, .build [.int .i64 0, .int .i64 0, .int .i64 0, .str [], .int .i64 0, .int .i64 0, .int .i64 0, .int .i64 0, .nili, .nilp, .int .i64 0, .int .u64 0, .int .u64 0, .int .u64 0, .int .u64 0, .int .u64 0, .int .u64 0, .int .u64 0, .int .u64 0, .int .u64 0, .int .u64 0, .int .u64 0, .int .u64 0, .int .u64 0, .int .u64 0, .int .u64 0, .int .u64 0, .int .u64 0, .int .u64 0, .int .u64 0, .int .u64 0, .int .u64 0, .int .u64 0, .int .u64 0, .int .u64 0, .int .u64 0, .int .u64 0, .int .u64 0, .int .u64 0, .int .u64 0, .int .u64 0, .int .u64 0, .int .u64 0, .int .u64 0, .int .u64 0, .int .u64 0, .int .u64 0, .int .u64 0, .int .u64 0, .int .u64 0, .int .u64 0, .int .u64 0, .int .u64 0, .int .u64 0, .int .u64 0, .int .u64 0, .int .u64 0, .int .u64 0, .int .u64 0, .int .u64 0, .int .u64 0, .int .u64 0, .int .u64 0, .int .u64 0, .int .u64 0, .int .u64 0, .int .u64 0, .int .u64 0, .int .u64 0, .int .u64 0, .int .u64 0, .int .u64 0, .int .u64 0, .int .u64 0, .int .u64 0, .int .u64 0, .int .u64 0, .int .u64 0, .int .u64 0, .int .u64 0, .int .u64 0, .int .u64 0, .int .u64 0, .int .u64 0, .int .u64 0, .int .u64 0, .int .u64 0, .int .u64 0, .int .u64 0, .int .u64 0, .int .u64 0, .int .u64 0, .int .u64 0, .int .u64 0, .int .u64 0, .int .u64 0, .int .u64 0, .int .u64 0, .int .u64 0, .int .u64 0, .int .u64 0, .int .u64 0, .int .u64 0, .int .u64 0, .int .u64 0, .int .u64 0, .int .u64 0, .int .u64 0, .int .u64 0, .int .u64 0, .int .u64 0, .int .u64 0, .int .u64 0, .int .u64 0, .int .u64 0, .int .u64 0, .int .u64 0, .int .u64 0, .int .u64 0, .int .u64 0, .int .u64 0, .int .u64 0, .int .u64 0, .int .u64 0, .int .u64 0, .int .u64 0, .int .u64 0, .int .u64 0, .int .u64 0, .int .u64 0, .int .u64 0, .int .u64 0, .int .u64 0, .int .u64 0, .int .u64 0, .int .u64 0, .int .u64 0, .int .u64 0, .int .u64 0, .int .u64 0] [(0, 140, (.t 9))], []⟩,
 ⟨some 11, none, .box 140 (.t 10) true, []⟩,
 ⟨some 12, none, .mki 26 (.t 11), []⟩,
 ⟨some 2, none, .mv (.t 12), []⟩])
 .ret)))⟩
theorem F9_code : cfgA.code 9 = some F9 := by kernel_rfl

/-- (*ticketline/couple.Down).Leaf -/
noncomputable def F10 : AFn := ⟨12, [.cell 2 130 true], (.seq
 (.ops 0 [⟨some 2, none, .alloc [.int .i64 0, .int .u64 0, .int .u64 0, .int .u64 0, .int .u64 0, .int .u64 0, .int .u64 0, .int .u64 0, .int .u64 0, .int .u64 0, .int .u64 0, .int .u64 0, .int .u64 0, .int .u64 0, .int .u64 0, .int .u64 0, .int .u64 0, .int .u64 0, .int .u64 0, .int .u64 0, .int .u64 0, .int .u64 0, .int .u64 0, .int .u64 0, .int .u64 0, .int .u64 0, .int .u64 0, .int .u64 0, .int .u64 0, .int .u64 0, .int .u64 0, .int .u64 0, .int .u64 0, .int .u64 0, .int .u64 0, .int .u64 0, .int .u64 0, .int .u64 0, .int .u64 0, .int .u64 0, .int .u64 0, .int .u64 0, .int .u64 0, .int .u64 0, .int .u64 0, .int .u64 0, .int .u64 0, .int .u64 0, .int .u64 0, .int .u64 0, .int .u64 0, .int .u64 0, .int .u64 0, .int .u64 0, .int .u64 0, .int .u64 0, .int .u64 0, .int .u64 0, .int .u64 0, .int .u64 0, .int .u64 0, .int .u64 0, .int .u64 0, .int .u64 0, .int .u64 0, .int .u64 0, .int .u64 0, .int .u64 0, .int .u64 0, .int .u64 0, .int .u64 0, .int .u64 0, .int .u64 0, .int .u64 0, .int .u64 0, .int .u64 0, .int .u64 0, .int .u64 0, .int .u64 0, .int .u64 0, .int .u64 0, .int .u64 0, .int .u64 0, .int .u64 0, .int .u64 0, .int .u64 0, .int .u64 0, .int .u64 0, .int .u64 0, .int .u64 0, .int .u64 0, .int .u64 0, .int .u64 0, .int .u64 0, .int .u64 0, .int .u64 0, .int .u64 0, .int .u64 0, .int .u64 0, .int .u64 0, .int .u64 0, .int .u64 0, .int .u64 0, .int .u64 0, .int .u64 0, .int .u64 0, .int .u64 0, .int .u64 0, .int .u64 0, .int .u64 0, .int .u64 0, .int .u64 0, .int .u64 0, .int .u64 0, .int .u64 0, .int .u64 0, .int .u64 0, .int .u64 0, .int .u64 0, .int .u64 0, .int .u64 0, .int .u64 0, .int .u64 0, .int .u64 0, .int .u64 0, .int .u64 0, .int .u64 0, .int .u64 0, .int .u64 0, .int .u64 0] false, []⟩])
 (.seq
 (.seq
 (.ops 1 [⟨some 3, none, .mv (.t 0), []⟩,
 ⟨some 4, none, .call 40 [.t 3], []⟩,
 ⟨some 5, none, .un .not (.t 4), []⟩])
 (.cond (.t 5)
 (.seq
 (.ops 2 [⟨some 6, none, .build [.int .i64 0, .int .u64 0, .int .u64 0, .int .u64 0, .int .u64 0, .int .u64 0, .int .u64 0, .int .u64 0, .int .u64 0, .int .u64 0, .int .u64 0, .int .u64 0, .int .u64 0, .int .u64 0, .int .u64 0, .int .u64 0, .int .u64 0, .int .u64 0, .int .u64 0, .int .u64 0, .int .u64 0, .int .u64 0, .int .u64 0, .int .u64 0, .int .u64 0, .int .u64 0, .int .u64 0, .int .u64 0, .int .u64 0, .int .u64 0, .int .u64 0, .int .u64 0, .int .u64 0, .int .u64 0, .int .u64 0, .int .u64 0, .int .u64 0, .int .u64 0, .int .u64 0, .int .u64 0, .int .u64 0, .int .u64 0, .int .u64 0, .int .u64 0, .int .u64 0, .int .u64 0, .int .u64 0, .int .u64 0, .int .u64 0, .int .u64 0, .int .u64 0, .int .u64 0, .int .u64 0, .int .u64 0, .int .u64 0, .int .u64 0, .int .u64 0, .int .u64 0, .int .u64 0, .int .u64 0, .int .u64 0, .int .u64 0, .int .u64 0, .int .u64 0, .int .u64 0, .int .u64 0, .int .u64 0, .int .u64 0, .int .u64 0, .int .u64 0, .int .u64 0, .int .u64 0, .int .u64 0, .int .u64 0, .int .u64 0, .int .u64 0, .int .u64 0, .int .u64 0, .int .u64 0, .int .u64 0, .int .u64 0, .int .u64 0, .int .u64 0, .int .u64 0, .int .u64 0, .int .u64 0, .int .u64 0, .int .u64 0, .int .u64 0, .int .u64 0, .int .u64 0, .int .u64 0, .int .u64 0, .int .u64 0, .int .u64 0, .int .u64 0, .int .u64 0, .int .u64 0, .int .u64 0, .int .u64 0, .int .u64 0, .int .u64 0, .int .u64 0, .int .u64 0, .int .u64 0, .int .u64 0, .int .u64 0, .int .u64 0, .int .u64 0, .int .u64 0, .int .u64 0, .int .u64 0, .int .u64 0, .int .u64 0, .int .u64 0, .int .u64 0, .int .u64 0, .int .u64 0, .int .u64 0, .int .u64 0, .int .u64 0, .int .u64 0, .int .u64 0, .int .u64 0, .int .u64 0, .int .u64 0, .int .u64 0, .int .u64 0, .int .u64 0, .int .u64 0] [], []⟩,
 ⟨none, none, .st 130 (.t 2) (.t 6), []⟩])
 .ret)
 .skip))
 (.seq
 (.ops 3 [⟨some 7, none, .mv (.t 0), []⟩,
 ⟨some 8, none, .nilc (.t 7) (mok Tryz.prog), []⟩,
 ⟨some 9, none, .fld 0 (.t 8), []⟩,
 ⟨some 10, none, .fld 10 (.t 9), []⟩,
 ⟨some 11, none, .ld 130 true (.t 10), []⟩,
 ⟨none, none, .st 130 (.t 2) (.t 11), []⟩])
 .ret)))⟩
theorem F10_code : cfgA.code 10 = some F10 := by kernel_rfl

/-- (*ticketline/couple.Walk).Step -/
noncomputable def F11 : AFn := ⟨119, [.tmp 4, .tmp 5], (.seq
 (.ops 0 [⟨some 4, none, .mv (.c (.bool false)), []⟩,
 ⟨some 5, none, .mv (.c (.int .i64 0)), []⟩])
 (.seq
 (.block 0
 (.seq
 (.ops 1 [⟨some 14, none, .mv (.t 0), []⟩,
 ⟨some 15, none, .call 41 [.t 14], []⟩,
 ⟨some 16, none, .mv (.t 15), []⟩,
 ⟨some 17, some (16, false), .mv (.t 1), []⟩,
 ⟨some 18, some (16, false), .eqn .iface false (.t 17), []⟩,
 ⟨some 19, none, .pick (.t 16) (.c (.bool true)) (.t 18), []⟩,
 ⟨some 13, none, .mv (.t 19), []⟩])
 (.cond (.t 13)
 (.seq
 (.ops 2 [⟨some 4, none, .mv (.c (.bool false)), []⟩,
 ⟨some 5, none, .mv (.c (.int .i64 1)), []⟩])
 .ret)
 (.seq
 (.ops 3 [⟨some 21, none, .mv (.t 0), []⟩,
 ⟨some 22, none, .nilc (.t 21) (mok Tryz.prog), []⟩,
 ⟨some 23, none, .fld 0 (.t 22), []⟩,
 ⟨some 24, none, .fld 5 (.t 23), []⟩,
 ⟨some 25, none, .ld 1 false (.t 24), []⟩,
 ⟨some 26, none, .bin .eql (.t 25) (.c (.int .i64 7)), []⟩,
 ⟨some 20, none, .mv (.t 26), []⟩])
 (.cond (.t 20)
 (.seq
 (.ops 4 [⟨some 4, none, .mv (.c (.bool false)), []⟩,
 ⟨some 5, none, .mv (.c (.int .i64 17)), []⟩])
 .ret)
 (.seq
 (.ops 5 [⟨some 28, none, .mv (.t 0), []⟩,
 ⟨some 29, none, .nilc (.t 28) (mok Tryz.prog), []⟩,
 ⟨some 30, none, .fld 0 (.t 29), []⟩,
 ⟨some 31, none, .fld 5 (.t 30), []⟩,
 ⟨some 32, none, .ld 1 false (.t 31), []⟩,
 ⟨some 33, none, .bin .eql (.t 32) (.c (.int .i64 6)), []⟩,
 ⟨some 27, none, .mv (.t 33), []⟩])
 (.cond (.t 27)
 (.seq
 (.ops 6 [⟨some 35, none, .mv (.t 0), []⟩,
 ⟨some 36, none, .nilc (.t 35) (mok Tryz.prog), []⟩,
 ⟨some 37, none, .fld 0 (.t 36), []⟩,
 ⟨some 38, none, .fld 8 (.t 37), []⟩,
 ⟨some 39, none, .ld 1 false (.t 38), []⟩,
 ⟨some 40, none, .mv (.t 1), []⟩,
 ⟨some 41, none, .invk (.t 39) "Step" [.t 40], []⟩,
 ⟨some 34, none, .mv (.t 41), []⟩,
 ⟨some 42, none, .ext (.t 34) 0, []⟩,
 ⟨some 43, none, .ext (.t 34) 1, []⟩,
 ⟨some 6, none, .mv (.t 42), []⟩,
 ⟨some 7, none, .mv (.t 43), []⟩])
 (.seq
 (.seq
 (.ops 7 [⟨some 44, none, .mv (.t 7), []⟩,
 ⟨some 45, none, .bin .eql (.t 44) (.c (.int .i64 0)), []⟩,
 ⟨some 46, none, .mv (.t 45), []⟩,
 ⟨some 47, some (46, true), .mv (.t 0), []⟩,
 ⟨some 48, some (46, true), .nilc (.t 47) (mok Tryz.prog), []⟩,
 ⟨some 49, some (46, true), .fld 0 (.t 48), []⟩,
 ⟨some 50, some (46, true), .fld 8 (.t 49), []⟩,
 ⟨some 51, some (46, true), .ld 1 false (.t 50), []⟩,
 ⟨some 52, some (46, true), .invk (.t 51) "Done" [], []⟩,
 ⟨some 53, none, .pick (.t 46) (.t 52) (.c (.bool false)), []⟩])
 (.cond (.t 53)
 (.ops 8 [⟨some 54, none, .mv (.t 0), []⟩,
 ⟨some 55, none, .nilc (.t 54) (mok Tryz.prog), []⟩,
 ⟨some 56, none, .fld 0 (.t 55), []⟩,
 ⟨some 57, none, .fld 5 (.t 56), []⟩,
 ⟨none, none, .st 1 (.t 57) (.c (.int .i64 7)), []⟩])
 .skip))
 (.seq
 (.ops 9 [⟨some 58, none, .mv (.t 6), []⟩,
 ⟨some 59, none, .mv (.t 7), []⟩,
 ⟨some 4, none, .mv (.t 58), []⟩,
 ⟨some 5, none, .mv (.t 59), []⟩])
 .ret)))
 (.seq
 (.ops 10 [⟨some 61, none, .mv (.t 0), []⟩,
 ⟨some 62, none, .nilc (.t 61) (mok Tryz.prog), []⟩,
 ⟨some 63, none, .fld 0 (.t 62), []⟩,
 ⟨some 64, none, .fld 5 (.t 63), []⟩,
 ⟨some 65, none, .ld 1 false (.t 64), []⟩,
 ⟨some 66, none, .bin .eql (.t 65) (.c (.int .i64 3)), []⟩,
 ⟨some 67, none, .mv (.t 66), []⟩,
 ⟨some 68, some (67, true), .mv (.t 0), []⟩,
 ⟨some 69, some (67, true), .nilc (.t 68) (mok Tryz.prog), []⟩,
 ⟨some 70, some (67, true), .fld 143 (.t 69), []⟩,
 ⟨some 71, some (67, true), .ld 1 false (.t 70), []⟩,
 ⟨some 72, some (67, true), .len .slice (.t 71), []⟩,
 ⟨some 73, some (67, true), .bin .gtr (.t 72) (.c (.int .i64 0)), []⟩,
 ⟨some 74, none, .pick (.t 67) (.t 73) (.c (.bool false)), []⟩,
 ⟨some 60, none, .mv (.t 74), []⟩])
 (.cond (.t 60)
 (.seq
 (.ops 11 [⟨some 76, none, .mv (.t 0), []⟩,
 ⟨some 77, none, .nilc (.t 76) (mok Tryz.prog), []⟩,
 ⟨some 78, none, .fld 0 (.t 77), []⟩,
 ⟨some 79, none, .fld 8 (.t 78), []⟩,
 ⟨some 80, none, .ld 1 false (.t 79), []⟩,
 ⟨some 81, none, .mv (.t 1), []⟩,
 ⟨some 82, none, .invk (.t 80) "Step" [.t 81], []⟩,
 ⟨some 75, none, .mv (.t 82), []⟩,
 ⟨some 83, none, .ext (.t 75) 0, []⟩,
 ⟨some 84, none, .ext (.t 75) 1, []⟩,
 ⟨some 8, none, .mv (.t 83), []⟩,
 ⟨some 9, none, .mv (.t 84), []⟩])
 (.seq
 (.seq
 (.ops 12 [⟨some 85, none, .mv (.t 9), []⟩,
 ⟨some 86, none, .bin .eql (.t 85) (.c (.int .i64 0)), []⟩,
 ⟨some 87, none, .mv (.t 86), []⟩,
 ⟨some 88, some (87, true), .mv (.t 0), []⟩,
 ⟨some 89, some (87, true), .nilc (.t 88) (mok Tryz.prog), []⟩,
 ⟨some 90, some (87, true), .fld 0 (.t 89), []⟩,
 ⟨some 91, some (87, true), .fld 8 (.t 90), []⟩,
 ⟨some 92, some (87, true), .ld 1 false (.t 91), []⟩,
 ⟨some 93, some (87, true), .invk (.t 92) "Done" [], []⟩,
 ⟨some 94, none, .pick (.t 87) (.t 93) (.c (.bool false)), []⟩])
 (.cond (.t 94)
 (.ops 13 [⟨some 95, none, .mv (.t 0), []⟩,
 ⟨some 96, none, .nilc (.t 95) (mok Tryz.prog), []⟩,
 ⟨some 97, none, .fld 0 (.t 96), []⟩,
 ⟨some 98, none, .call 42 [.t 97], []⟩])
 .skip))
 (.seq
 (.ops 14 [⟨some 99, none, .mv (.t 8), []⟩,
 ⟨some 100, none, .mv (.t 9), []⟩,
 ⟨some 4, none, .mv (.t 99), []⟩,
 ⟨some 5, none, .mv (.t 100), []⟩])
 .ret)))
 .skip)))))))))
 (.seq
 (.ops 15 [⟨some 102, none, .mv (.t 0), []⟩,
 ⟨some 103, none, .nilc (.t 102) (mok Tryz.prog), []⟩,
 ⟨some 104, none, .fld 0 (.t 103), []⟩,
 ⟨some 105, none, .mv (.t 1), []⟩,
 ⟨some 106, none, .call 38 [.t 104, .t 105], []⟩,
 ⟨some 101, none, .mv (.t 106), []⟩,
 ⟨some 107, none, .ext (.t 101) 0, []⟩,
 ⟨some 108, none, .ext (.t 101) 1, []⟩,
 ⟨some 109, none, .ext (.t 101) 2, []⟩,
 ⟨some 10, none, .mv (.t 107), []⟩,
 ⟨some 11, none, .mv (.t 108), []⟩,
 ⟨some 12, none, .mv (.t 109), []⟩])
 (.seq
 (.seq
 (.ops 16 [⟨some 110, none, .mv (.t 12), []⟩,
 ⟨some 111, none, .bin .eql (.t 110) (.c (.int .i64 0)), []⟩,
 ⟨some 112, none, .mv (.t 111), []⟩,
 ⟨some 113, some (112, true), .mv (.t 11), []⟩,
 ⟨some 114, none, .pick (.t 112) (.t 113) (.c (.bool false)), []⟩])
 (.cond (.t 114)
 (.ops 17 [⟨some 115, none, .mv (.t 0), []⟩,
 ⟨some 116, none, .call 43 [.t 115], []⟩,
 ⟨some 12, none, .mv (.t 116), []⟩])
 .skip))
 (.seq
 (.ops 18 [⟨some 117, none, .mv (.t 10), []⟩,
 ⟨some 118, none, .mv (.t 12), []⟩,
 ⟨some 4, none, .mv (.t 117), []⟩,
 ⟨some 5, none, .mv (.t 118), []⟩])
 .ret)))))⟩
theorem F11_code : cfgA.code 11 = some F11 := by kernel_rfl

/-- (*ticketline/couple.Walk).Done -/
noncomputable def F12 : AFn := ⟨13, [.tmp 2], (.seq
 (.ops 0 [⟨some 2, none, .mv (.c (.bool false)), []⟩])
 (.seq
 (.ops 1 [⟨some 3, none, .mv (.t 0), []⟩,
 ⟨some 4, none, .call 41 [.t 3], []⟩,
 ⟨some 5, none, .mv (.t 4), []⟩,
 ⟨some 6, some (5, false), .mv (.t 0), []⟩,
 ⟨some 7, some (5, false), .nilc (.t 6) (mok Tryz.prog), []⟩,
 ⟨some 8, some (5, false), .fld 0 (.t 7), []⟩,
 ⟨some 9, some (5, false), .fld 5 (.t 8), []⟩,
 ⟨some 10, some (5, false), .ld 1 false (.t 9), []⟩,
 ⟨some 11, some (5, false), .bin .eql (.t 10) (.c (.int .i64 7)), []⟩,
 ⟨some 12, none, .pick (.t 5) (.c (.bool true)) (.t 11), []⟩,
 ⟨some 2, none, .mv (.t 12), []⟩])
 .ret))⟩
theorem F12_code : cfgA.code 12 = some F12 := by kernel_rfl

/-- (*ticketline/couple.Walk).Result -/
noncomputable def F13 : AFn := ⟨5, [.tmp 2], (.seq
 (.ops 0 [⟨some 2, none, .mv (.c (.int .u64 0)), []⟩])
 (.seq
 (.seq
 (.ops 1 [⟨some 3, none, .mv (.t 0), []⟩,
 ⟨some 4, none, .call 44 [.t 3], []⟩])
 (.cond (.t 4)
 (.seq
 (.ops 2 [⟨some 2, none, .mv (.c (.int .u64 1)), []⟩])
 .ret)
 .skip))
 (.seq
 (.ops 3 [⟨some 2, none, .mv (.c (.int .u64 0)), []⟩])
 .ret)))⟩
theorem F13_code : cfgA.code 13 = some F13 := by kernel_rfl

/-- (*ticketline/couple.Walk).Copy -/
noncomputable def F14 : AFn := ⟨16, [.tmp 2], (.seq
 (.ops 0 [⟨some 2, none, .mv (.c (.nili)), []⟩])
 (.seq
 (.seq
 (.ops 1 [⟨some 4, none, .mv (.t 0), []⟩,
 ⟨some 5, none, .call 41 [.t 4], []⟩])
 (.cond (.t 5)
 (.seq
 (.ops 2 [⟨some 2, none, .mv (.c (.nili)), []⟩])
 .ret)
 .skip))
 (.seq
 (.ops 3 [⟨some 6, none, .mv (.t 0), []⟩,
 ⟨some 7, none, .nilc (.t 6) (mok Tryz.prog), []⟩,
 ⟨some 8, none, .ld 145 true (.t 7), []⟩,
 ⟨some 3, none, .alloc [.int .i64 0, .int .i64 0, .int .i64 0, .str [], .int .i64 0, .int .i64 0, .int .i64 0, .int .i64 0, .nili, .nilp, .int .i64 0, .int .u64 0, .int .u64 0, .int .u64 0, .int .u64 0, .int .u64 0, .int .u64 0, .int .u64 0, .int .u64 0, .int .u64 0, .int .u64 0, .int .u64 0, .int .u64 0, .int .u64 0, .int .u64 0, .int .u64 0, .int .u64 0, .int .u64 0, .int .u64 0, .int .u64 0, .int .u64 0, .int .u64 0, .int .u64 0, .int .u64 0, .int .u64 0, .int .u64 0, .int .u64 0, .int .u64 0, .int .u64 0, .int .u64 0, .int .u64 0, .int .u64 0, .int .u64 0, .int .u64 0, .int .u64 0, .int .u64 0, .int .u64 0, .int .u64 0, .int .u64 0, .int .u64 0, .int .u64 0, .int .u64 0, .int .u64 0, .int .u64 0, .int .u64 0, .int .u64 0, .int .u64 0, .int .u64 0, .int .u64 0, .int .u64 0, .int .u64 0, .int .u64 0, .int .u64 0, .int .u64 0, .int .u64 0, .int .u64 0, .int .u64 0, .int .u64 0, .int .u64 0, .int .u64 0, .int .u64 0, .int .u64 0, .int .u64 0, .int .u64 0, .int .u64 0, .int .u64 0, .int .u64 0, .int .u64 0, .int .u64 0, .int .u64 0, .int .u64 0, .int .u64 0, .int .u64 0, .int .u64 0, .int .u64 0, .int .u64 0, .int .u64 0, .int .u64 0, .int .u64 0, .int .u64 0, .int .u64 0, .int .u64 0, .int .u64 0, .int .u64 0, .int .u64 0, .int .u64 0, .int .u64 0, .int .u64 0, .int .u64 0, .int .u64 0, .int .u64 0, .int .u64 0, .int .u64 0, .int .u64 0, .int .u64 0, .int .u64 0, .int .u64 0, .int .u64 0, .int .u64 0, .int .u64 0, .int .u64 0, .int .u64 0, .int .u64 0, .int .u64 0, .int .u64 0, .int .u64 0, .int .u64 0, .int .u64 0, .int .u64 0, .int .u64 0, .int .u64 0, .int .u64 0, .int .u64 0, .int .u64 0, .int .u64 0, .int .u64 0, .int .u64 0, .int .u64 0, .int .u64 0, .int .u64 0, .int .u64 0, .int .u64 0, .int .u64 0, .int .u64 0, .int .u64 0, .int .u64 0, .int .u64 0, .int .u64 0, .int .u64 0, .int .u64 0, .str [], .str [], .int .i64 0, .nils, .nils] true, []⟩,
 ⟨none, none, .st 145 (.t 3) (.t 8), []⟩])
 (.seq
 (.ops 4 [⟨some 9, none, .mv (.t 0), []⟩,
 ⟨some 10, none, .nilc (.t 9) (mok Tryz.prog), []⟩,
 ⟨some 11, none, .fld 0 (.t 10), []⟩,
 ⟨some 12, none, .ld 140 true (.t 11), []⟩,
 ⟨some 13, none, .call 39 [.t 12], []⟩,
 ⟨some 14, none, .fld 0 (.t 3), []⟩,
 ⟨none, none, .st 140 (.t 14) (.t 13), []⟩])
 (.seq
 (.ops 5 [⟨some 15, none, .mki 27 (.t 3), []⟩,
 ⟨some 2, none, .mv (.t 15), []⟩])
 .ret)))))⟩
theorem F14_code : cfgA.code 14 = some F14 := by kernel_rfl

/-- (*ticketline/couple.Walk).Pairs -/
noncomputable def F15 : AFn := ⟨11, [.tmp 2], (.seq
 (.ops 0 [⟨some 2, none, .mv (.c (.nils)), []⟩])
 (.seq
 (.seq
 (.ops 1 [⟨some 3, none, .mv (.t 0), []⟩,
 ⟨some 4, none, .call 44 [.t 3], []⟩,
 ⟨some 5, none, .un .not (.t 4), []⟩])
 (.cond (.t 5)
 (.seq
 (.ops 2 [⟨some 2, none, .mv (.c (.nils)), []⟩])
 .ret)
 .skip))
 (.seq
 (.ops 3 [⟨some 6, none, .mv (.t 0), []⟩,
 ⟨some 7, none, .nilc (.t 6) (mok Tryz.prog), []⟩,
 ⟨some 8, none, .fld 144 (.t 7), []⟩,
 ⟨some 9, none, .ld 1 false (.t 8), []⟩,
 ⟨some 10, none, .call 45 [.t 9], []⟩,
 ⟨some 2, none, .mv (.t 10), []⟩])
 .ret)))⟩
theorem F15_code : cfgA.code 15 = some F15 := by kernel_rfl

/-- (*ticketline/couple.Look).Step -/
noncomputable def F16 : AFn := ⟨55, [.tmp 4, .tmp 5], (.seq
 (.ops 0 [⟨some 4, none, .mv (.c (.bool false)), []⟩,
 ⟨some 5, none, .mv (.c (.int .i64 0)), []⟩])
 (.seq
 (.block 0
 (.seq
 (.ops 1 [⟨some 9, none, .mv (.t 0), []⟩,
 ⟨some 10, none, .call 46 [.t 9], []⟩,
 ⟨some 11, none, .mv (.t 10), []⟩,
 ⟨some 12, some (11, false), .mv (.t 1), []⟩,
 ⟨some 13, some (11, false), .eqn .iface false (.t 12), []⟩,
 ⟨some 14, none, .pick (.t 11) (.c (.bool true)) (.t 13), []⟩,
 ⟨some 8, none, .mv (.t 14), []⟩])
 (.cond (.t 8)
 (.seq
 (.ops 2 [⟨some 4, none, .mv (.c (.bool false)), []⟩,
 ⟨some 5, none, .mv (.c (.int .i64 1)), []⟩])
 .ret)
 (.seq
 (.ops 3 [⟨some 16, none, .mv (.t 0), []⟩,
 ⟨some 17, none, .call 47 [.t 16], []⟩,
 ⟨some 15, none, .mv (.t 17), []⟩])
 (.cond (.t 15)
 (.seq
 (.ops 4 [⟨some 4, none, .mv (.c (.bool false)), []⟩,
 ⟨some 5, none, .mv (.c (.int .i64 17)), []⟩])
 .ret)
 .skip)))))
 (.seq
 (.ops 5 [⟨some 19, none, .mv (.t 1), []⟩,
 ⟨some 20, none, .mv (.t 0), []⟩,
 ⟨some 21, none, .nilc (.t 20) (mok Tryz.prog), []⟩,
 ⟨some 22, none, .fld 0 (.t 21), []⟩,
 ⟨some 23, none, .ld 1 false (.t 22), []⟩,
 ⟨some 24, none, .mv (.t 0), []⟩,
 ⟨some 25, none, .nilc (.t 24) (mok Tryz.prog), []⟩,
 ⟨some 26, none, .fld 1 (.t 25), []⟩,
 ⟨some 27, none, .ld 1 false (.t 26), []⟩,
 ⟨some 28, none, .bin .add (.t 23) (.t 27), []⟩,
 ⟨some 29, none, .mkv "Load" (.t 19), []⟩,
 ⟨some 30, none, .nilc (.t 29) (mok Tryz.prog), []⟩,
 ⟨some 31, none, .mv (.t 19), []⟩,
 ⟨some 32, none, .invk (.t 31) "Load" [.t 28], []⟩,
 ⟨some 18, none, .mv (.t 32), []⟩,
 ⟨some 33, none, .ext (.t 18) 0, []⟩,
 ⟨some 34, none, .ext (.t 18) 1, []⟩,
 ⟨some 6, none, .mv (.t 33), []⟩,
 ⟨some 7, none, .mv (.t 34), []⟩])
 (.seq
 (.seq
 (.ops 6 [⟨some 35, none, .mv (.t 7), []⟩,
 ⟨some 36, none, .bin .neq (.t 35) (.c (.int .i64 0)), []⟩])
 (.cond (.t 36)
 (.seq
 (.ops 7 [⟨some 37, none, .mv (.t 7), []⟩,
 ⟨some 4, none, .mv (.c (.bool false)), []⟩,
 ⟨some 5, none, .mv (.t 37), []⟩])
 .ret)
 .skip))
 (.seq
 (.ops 8 [⟨some 38, none, .mv (.t 0), []⟩,
 ⟨some 39, none, .mv (.t 0), []⟩,
 ⟨some 40, none, .nilc (.t 39) (mok Tryz.prog), []⟩,
 ⟨some 41, none, .fld 1 (.t 40), []⟩,
 ⟨some 42, none, .ld 1 false (.t 41), []⟩,
 ⟨some 43, none, .mv (.t 6), []⟩,
 ⟨some 44, none, .nilc (.t 38) (mok Tryz.prog), []⟩,
 ⟨some 45, none, .fld 2 (.t 44), []⟩,
 ⟨some 46, none, .fld 1 (.t 45), []⟩,
 ⟨some 47, none, .ixa (some 128) 1 (.t 46) (.t 42), []⟩,
 ⟨none, none, .st 1 (.t 47) (.t 43), []⟩])
 (.seq
 (.ops 9 [⟨some 48, none, .mv (.t 0), []⟩,
 ⟨some 49, none, .nilc (.t 48) (mok Tryz.prog), []⟩,
 ⟨some 50, none, .fld 1 (.t 49), []⟩,
 ⟨some 51, none, .ld 1 false (.t 50), []⟩,
 ⟨some 52, none, .bin .add (.t 51) (.c (.int .i64 1)), []⟩,
 ⟨some 53, none, .nilc (.t 48) (mok Tryz.prog), []⟩,
 ⟨some 54, none, .fld 1 (.t 53), []⟩,
 ⟨none, none, .st 1 (.t 54) (.t 52), []⟩])
 (.seq
 (.ops 10 [⟨some 4, none, .mv (.c (.bool false)), []⟩,
 ⟨some 5, none, .mv (.c (.int .i64 0)), []⟩])
 .ret)))))))⟩
theorem F16_code : cfgA.code 16 = some F16 := by kernel_rfl

/-- (*ticketline/couple.Look).Done -/
noncomputable def F17 : AFn := ⟨12, [.tmp 2], (.seq
 (.ops 0 [⟨some 2, none, .mv (.c (.bool false)), []⟩])
 (.seq
 (.ops 1 [⟨some 3, none, .mv (.t 0), []⟩,
 ⟨some 4, none, .call 46 [.t 3], []⟩,
 ⟨some 5, none, .mv (.t 4), []⟩,
 ⟨some 6, some (5, false), .mv (.t 0), []⟩,
 ⟨some 7, some (5, false), .nilc (.t 6) (mok Tryz.prog), []⟩,
 ⟨some 8, some (5, false), .fld 1 (.t 7), []⟩,
 ⟨some 9, some (5, false), .ld 1 false (.t 8), []⟩,
 ⟨some 10, some (5, false), .bin .eql (.t 9) (.c (.int .i64 128)), []⟩,
 ⟨some 11, none, .pick (.t 5) (.c (.bool true)) (.t 10), []⟩,
 ⟨some 2, none, .mv (.t 11), []⟩])
 .ret))⟩
theorem F17_code : cfgA.code 17 = some F17 := by kernel_rfl

/-- (*ticketline/couple.Look).Result -/
noncomputable def F18 : AFn := ⟨5, [.tmp 2], (.seq
 (.ops 0 [⟨some 2, none, .mv (.c (.int .u64 0)), []⟩])
 (.seq
 (.seq
 (.ops 1 [⟨some 3, none, .mv (.t 0), []⟩,
 ⟨some 4, none, .call 47 [.t 3], []⟩])
 (.cond (.t 4)
 (.seq
 (.ops 2 [⟨some 2, none, .mv (.c (.int .u64 1)), []⟩])
 .ret)
 .skip))
 (.seq
 (.ops 3 [⟨some 2, none, .mv (.c (.int .u64 0)), []⟩])
 .ret)))⟩
theorem F18_code : cfgA.code 18 = some F18 := by kernel_rfl

/-- (*ticketline/couple.Look).Copy -/
noncomputable def F19 : AFn := ⟨10, [.tmp 2], (.seq
 (.ops 0 [⟨some 2, none, .mv (.c (.nili)), []⟩])
 (.seq
 (.seq
 (.ops 1 [⟨some 4, none, .mv (.t 0), []⟩,
 ⟨some 5, none, .call 46 [.t 4], []⟩])
 (.cond (.t 5)
 (.seq
 (.ops 2 [⟨some 2, none, .mv (.c (.nili)), []⟩])
 .ret)
 .skip))
 (.seq
 (.ops 3 [⟨some 6, none, .mv (.t 0), []⟩,
 ⟨some 7, none, .nilc (.t 6) (mok Tryz.prog), []⟩,
 ⟨some 8, none, .ld 132 true (.t 7), []⟩,
 ⟨some 3, none, .alloc [.int .i64 0, .int .i64 0, .int .i64 0, .int .u64 0, .int .u64 0, .int .u64 0, .int .u64 0, .int .u64 0, .int .u64 0, .int .u64 0, .int .u64 0, .int .u64 0, .int .u64 0, .int .u64 0, .int .u64 0, .int .u64 0, .int .u64 0, .int .u64 0, .int .u64 0, .int .u64 0, .int .u64 0, .int .u64 0, .int .u64 0, .int .u64 0, .int .u64 0, .int .u64 0, .int .u64 0, .int .u64 0, .int .u64 0, .int .u64 0, .int .u64 0, .int .u64 0, .int .u64 0, .int .u64 0, .int .u64 0, .int .u64 0, .int .u64 0, .int .u64 0, .int .u64 0, .int .u64 0, .int .u64 0, .int .u64 0, .int .u64 0, .int .u64 0, .int .u64 0, .int .u64 0, .int .u64 0, .int .u64 0, .int .u64 0, .int .u64 0, .int .u64 0, .int .u64 0, .int .u64 0, .int .u64 0, .int .u64 0, .int .u64 0, .int .u64 0, .int .u64 0, .int .u64 0, .int .u64 0, .int .u64 0, .int .u64 0, .int .u64 0, .int .u64 0, .int .u64 0, .int .u64 0, .int .u64 0, .int .u64 0, .int .u64 0, .int .u64 0, .int .u64 0, .int .u64 0, .int .u64 0, .int .u64 0, .int .u64 0, .int .u64 0, .int .u64 0, .int .u64 0, .int .u64 0, .int .u64 0, .int .u64 0, .int .u64 0, .int .u64 0, .int .u64 0, .int .u64 0, .int .u64 0, .int .u64 0, .int .u64 0, .int .u64 0, .int .u64 0, .int .u64 0, .int .u64 0, .int .u64 0, .int .u64 0, .int .u64 0, .int .u64 0, .int .u64 0, .int .u64 0, .int .u64 0, .int .u64 0, .int .u64 0, .int .u64 0, .int .u64 0, .int .u64 0, .int .u64 0, .int .u64 0, .int .u64 0, .int .u64 0, .int .u64 0, .int .u64 0, .int .u64 0, .int .u64 0, .int .u64 0, .int .u64 0, .int .u64 0, .int .u64 0, .int .u64 0, .int .u64 0, .int .u64 0, .int .u64 0, .int .u64 0, .int .u64 0, .int .u64 0, .int .u64 0, .int .u64 0, .int .u64 0, .int .u64 0, .int .u64 0, .int .u64 0, .int .u64 0, .int .u64 0, .int .u64 0] true, []⟩,
 ⟨none, none, .st 132 (.t 3) (.t 8), []⟩])
 (.seq
 (.ops 4 [⟨some 9, none, .mki 28 (.t 3), []⟩,
 ⟨some 2, none, .mv (.t 9), []⟩])
 .ret))))⟩
theorem F19_code : cfgA.code 19 = some F19 := by kernel_rfl

/-- (*ticketline/couple.Look).Leaf -/
noncomputable def F20 : AFn := ⟨11, [.cell 2 130 true], (.seq
 (.ops 0 [⟨some 2, none, .alloc [.int .i64 0, .int .u64 0, .int .u64 0, .int .u64 0, .int .u64 0, .int .u64 0, .int .u64 0, .int .u64 0, .int .u64 0, .int .u64 0, .int .u64 0, .int .u64 0, .int .u64 0, .int .u64 0, .int .u64 0, .int .u64 0, .int .u64 0, .int .u64 0, .int .u64 0, .int .u64 0, .int .u64 0, .int .u64 0, .int .u64 0, .int .u64 0, .int .u64 0, .int .u64 0, .int .u64 0, .int .u64 0, .int .u64 0, .int .u64 0, .int .u64 0, .int .u64 0, .int .u64 0, .int .u64 0, .int .u64 0, .int .u64 0, .int .u64 0, .int .u64 0, .int .u64 0, .int .u64 0, .int .u64 0, .int .u64 0, .int .u64 0, .int .u64 0, .int .u64 0, .int .u64 0, .int .u64 0, .int .u64 0, .int .u64 0, .int .u64 0, .int .u64 0, .int .u64 0, .int .u64 0, .int .u64 0, .int .u64 0, .int .u64 0, .int .u64 0, .int .u64 0, .int .u64 0, .int .u64 0, .int .u64 0, .int .u64 0, .int .u64 0, .int .u64 0, .int .u64 0, .int .u64 0, .int .u64 0, .int .u64 0, .int .u64 0, .int .u64 0, .int .u64 0, .int .u64 0, .int .u64 0, .int .u64 0, .int .u64 0, .int .u64 0, .int .u64 0, .int .u64 0, .int .u64 0, .int .u64 0, .int .u64 0, .int .u64 0, .int .u64 0, .int .u64 0, .int .u64 0, .int .u64 0, .int .u64 0, .int .u64 0, .int .u64 0, .int .u64 0, .int .u64 0, .int .u64 0, .int .u64 0, .int .u64 0, .int .u64 0, .int .u64 0, .int .u64 0, .int .u64 0, .int .u64 0, .int .u64 0, .int .u64 0, .int .u64 0, .int .u64 0, .int .u64 0, .int .u64 0, .int .u64 0, .int .u64 0, .int .u64 0, .int .u64 0, .int .u64 0, .int .u64 0, .int .u64 0, .int .u64 0, .int .u64 0, .int .u64 0, .int .u64 0, .int .u64 0, .int .u64 0, .int .u64 0, .int .u64 0, .int .u64 0, .int .u64 0, .int .u64 0, .int .u64 0, .int .u64 0, .int .u64 0, .int .u64 0, .int .u64 0, .int .u64 0, .int .u64 0] false, []⟩])
 (.seq
 (.seq
 (.ops 1 [⟨some 3, none, .mv (.t 0), []⟩,
 ⟨some 4, none, .call 47 [.t 3], []⟩,
 ⟨some 5, none, .un .not (.t 4), []⟩])
 (.cond (.t 5)
 (.seq
 (.ops 2 [⟨some 6, none, .build [.int .i64 0, .int .u64 0, .int .u64 0, .int .u64 0, .int .u64 0, .int .u64 0, .int .u64 0, .int .u64 0, .int .u64 0, .int .u64 0, .int .u64 0, .int .u64 0, .int .u64 0, .int .u64 0, .int .u64 0, .int .u64 0, .int .u64 0, .int .u64 0, .int .u64 0, .int .u64 0, .int .u64 0, .int .u64 0, .int .u64 0, .int .u64 0, .int .u64 0, .int .u64 0, .int .u64 0, .int .u64 0, .int .u64 0, .int .u64 0, .int .u64 0, .int .u64 0, .int .u64 0, .int .u64 0, .int .u64 0, .int .u64 0, .int .u64 0, .int .u64 0, .int .u64 0, .int .u64 0, .int .u64 0, .int .u64 0, .int .u64 0, .int .u64 0, .int .u64 0, .int .u64 0, .int .u64 0, .int .u64 0, .int .u64 0, .int .u64 0, .int .u64 0, .int .u64 0, .int .u64 0, .int .u64 0, .int .u64 0, .int .u64 0, .int .u64 0, .int .u64 0, .int .u64 0, .int .u64 0, .int .u64 0, .int .u64 0, .int .u64 0, .int .u64 0, .int .u64 0, .int .u64 0, .int .u64 0, .int .u64 0, .int .u64 0, .int .u64 0, .int .u64 0, .int .u64 0, .int .u64 0, .int .u64 0, .int .u64 0, .int .u64 0, .int .u64 0, .int .u64 0, .int .u64 0, .int .u64 0, .int .u64 0, .int .u64 0, .int .u64 0, .int .u64 0, .int .u64 0, .int .u64 0, .int .u64 0, .int .u64 0, .int .u64 0, .int .u64 0, .int .u64 0, .int .u64 0, .int .u64 0, .int .u64 0, .int .u64 0, .int .u64 0, .int .u64 0, .int .u64 0, .int .u64 0, .int .u64 0, .int .u64 0, .int .u64 0, .int .u64 0, .int .u64 0, .int .u64 0, .int .u64 0, .int .u64 0, .int .u64 0, .int .u64 0, .int .u64 0, .int .u64 0, .int .u64 0, .int .u64 0, .int .u64 0, .int .u64 0, .int .u64 0, .int .u64 0, .int .u64 0, .int .u64 0, .int .u64 0, .int .u64 0, .int .u64 0, .int .u64 0, .int .u64 0, .int .u64 0, .int .u64 0, .int .u64 0, .int .u64 0, .int .u64 0, .int .u64 0] [], []⟩,
 ⟨none, none, .st 130 (.t 2) (.t 6), []⟩])
 .ret)
 .skip))
 (.seq
 (.ops 3 [⟨some 7, none, .mv (.t 0), []⟩,
 ⟨some 8, none, .nilc (.t 7) (mok Tryz.prog), []⟩,
 ⟨some 9, none, .fld 2 (.t 8), []⟩,
 ⟨some 10, none, .ld 130 true (.t 9), []⟩,
 ⟨none, none, .st 130 (.t 2) (.t 10), []⟩])
 .ret)))⟩
theorem F20_code : cfgA.code 20 = some F20 := by kernel_rfl

/-- ticketline/ticketlinelaw28.known -/
noncomputable def F21 : AFn := ⟨248, [.tmp 0], (.seq
 (.ops 0 [⟨some 0, none, .mv (.c (.bool false)), []⟩])
 (.seq
 (.ops 1 [⟨some 29, none, .call 48 [], []⟩,
 ⟨some 1, none, .alloc [.int .i64 0, .int .i64 0] false, []⟩,
 ⟨none, none, .st 2 (.t 1) (.t 29), []⟩])
 (.seq
 (.ops 2 [⟨some 31, none, .ld 2 true (.t 1), []⟩,
 ⟨some 32, none, .call 49 [.t 31], []⟩,
 ⟨some 30, none, .mv (.t 32), []⟩,
 ⟨some 33, none, .ext (.t 30) 0, []⟩,
 ⟨some 34, none, .ext (.t 30) 1, []⟩,
 ⟨some 2, none, .mv (.t 33), []⟩,
 ⟨some 3, none, .mv (.t 34), []⟩])
 (.seq
 (.ops 3 [⟨some 36, none, .ld 2 true (.t 1), []⟩,
 ⟨some 37, none, .call 50 [.t 36, .c (.int .i64 0), .c (.str [97]), .c (.int .i64 3)], []⟩,
 ⟨some 35, none, .mv (.t 37), []⟩,
 ⟨some 38, none, .ext (.t 35) 0, []⟩,
 ⟨some 39, none, .ext (.t 35) 1, []⟩,
 ⟨some 4, none, .mv (.t 38), []⟩,
 ⟨some 5, none, .mv (.t 39), []⟩])
 (.seq
 (.ops 4 [⟨some 41, none, .ld 2 true (.t 1), []⟩,
 ⟨some 42, none, .call 50 [.t 41, .c (.int .i64 1), .c (.str [98]), .c (.int .i64 1)], []⟩,
 ⟨some 40, none, .mv (.t 42), []⟩,
 ⟨some 43, none, .ext (.t 40) 0, []⟩,
 ⟨some 44, none, .ext (.t 40) 1, []⟩,
 ⟨some 6, none, .mv (.t 43), []⟩,
 ⟨some 7, none, .mv (.t 44), []⟩])
 (.seq
 (.seq
 (.ops 5 [⟨some 45, none, .mv (.t 2), []⟩,
 ⟨some 46, none, .eqn .ptr false (.t 45), []⟩,
 ⟨some 47, none, .mv (.t 46), []⟩,
 ⟨some 48, some (47, false), .mv (.t 4), []⟩,
 ⟨some 49, some (47, false), .eqn .ptr false (.t 48), []⟩,
 ⟨some 50, none, .pick (.t 47) (.c (.bool true)) (.t 49), []⟩,
 ⟨some 51, none, .mv (.t 50), []⟩,
 ⟨some 52, some (51, false), .mv (.t 6), []⟩,
 ⟨some 53, some (51, false), .eqn .ptr false (.t 52), []⟩,
 ⟨some 54, none, .pick (.t 51) (.c (.bool true)) (.t 53), []⟩,
 ⟨some 55, none, .mv (.t 54), []⟩,
 ⟨some 56, some (55, false), .mv (.t 3), []⟩,
 ⟨some 57, some (55, false), .bin .neq (.t 56) (.c (.int .i64 0)), []⟩,
 ⟨some 58, none, .pick (.t 55) (.c (.bool true)) (.t 57), []⟩,
 ⟨some 59, none, .mv (.t 58), []⟩,
 ⟨some 60, some (59, false), .mv (.t 5), []⟩,
 ⟨some 61, some (59, false), .bin .neq (.t 60) (.c (.int .i64 0)), []⟩,
 ⟨some 62, none, .pick (.t 59) (.c (.bool true)) (.t 61), []⟩,
 ⟨some 63, none, .mv (.t 62), []⟩,
 ⟨some 64, some (63, false), .mv (.t 7), []⟩,
 ⟨some 65, some (63, false), .bin .neq (.t 64) (.c (.int .i64 0)), []⟩,
 ⟨some 66, none, .pick (.t 63) (.c (.bool true)) (.t 65), []⟩])
 (.cond (.t 66)
 (.seq
 (.ops 6 [⟨some 0, none, .mv (.c (.bool false)), []⟩])
 .ret)
 .skip))
 (.seq
 (.ops 7 [⟨some 68, none, .mv (.t 4), []⟩,
 ⟨some 69, none, .mki 26 (.t 68), []⟩,
 ⟨some 70, none, .mv (.t 2), []⟩,
 ⟨some 71, none, .call 51 [.t 69, .t 70, .c (.int .i64 500)], []⟩,
 ⟨some 67, none, .mv (.t 71), []⟩,
 ⟨some 72, none, .ext (.t 67) 0, []⟩,
 ⟨some 73, none, .ext (.t 67) 1, []⟩,
 ⟨some 8, none, .mv (.t 72), []⟩,
 ⟨some 9, none, .mv (.t 73), []⟩])
 (.seq
 (.ops 8 [⟨some 75, none, .ld 2 true (.t 1), []⟩,
 ⟨some 76, none, .mv (.t 2), []⟩,
 ⟨some 77, none, .call 52 [.t 75, .t 76, .c (.int .i64 1)], []⟩,
 ⟨some 74, none, .mv (.t 77), []⟩,
 ⟨some 78, none, .ext (.t 74) 0, []⟩,
 ⟨some 79, none, .ext (.t 74) 1, []⟩,
 ⟨some 10, none, .alloc [.nils, .int .i64 0, .int .i64 0, .int .i64 0, .int .i64 0, .nils] false, []⟩,
 ⟨none, none, .st 6 (.t 10) (.t 78), []⟩,
 ⟨some 11, none, .mv (.t 79), []⟩])
 (.seq
 (.ops 9 [⟨some 81, none, .ld 2 true (.t 1), []⟩,
 ⟨some 82, none, .mv (.t 2), []⟩,
 ⟨some 83, none, .call 52 [.t 81, .t 82, .c (.int .i64 0)], []⟩,
 ⟨some 80, none, .mv (.t 83), []⟩,
 ⟨some 84, none, .ext (.t 80) 0, []⟩,
 ⟨some 85, none, .ext (.t 80) 1, []⟩,
 ⟨some 12, none, .alloc [.nils, .int .i64 0, .int .i64 0, .int .i64 0, .int .i64 0, .nils] false, []⟩,
 ⟨none, none, .st 6 (.t 12) (.t 84), []⟩,
 ⟨some 13, none, .mv (.t 85), []⟩])
 (.seq
 (.seq
 (.ops 10 [⟨some 86, none, .mv (.t 8), []⟩,
 ⟨some 87, none, .un .not (.t 86), []⟩,
 ⟨some 88, none, .mv (.t 87), []⟩,
 ⟨some 89, some (88, false), .mv (.t 4), []⟩,
 ⟨some 90, some (88, false), .call 8 [.t 89], []⟩,
 ⟨some 91, some (88, false), .bin .neq (.t 90) (.c (.int .u64 1)), []⟩,
 ⟨some 92, none, .pick (.t 88) (.c (.bool true)) (.t 91), []⟩,
 ⟨some 93, none, .mv (.t 92), []⟩,
 ⟨some 94, some (93, false), .mv (.t 11), []⟩,
 ⟨some 95, some (93, false), .un .not (.t 94), []⟩,
 ⟨some 96, none, .pick (.t 93) (.c (.bool true)) (.t 95), []⟩,
 ⟨some 97, none, .mv (.t 96), []⟩,
 ⟨some 98, some (97, false), .mv (.t 13), []⟩,
 ⟨some 99, some (97, false), .un .not (.t 98), []⟩,
 ⟨some 100, none, .pick (.t 97) (.c (.bool true)) (.t 99), []⟩,
 ⟨some 101, none, .mv (.t 100), []⟩,
 ⟨some 102, some (101, false), .fld 2 (.t 10), []⟩,
 ⟨some 103, some (101, false), .ld 1 false (.t 102), []⟩,
 ⟨some 104, some (101, false), .bin .neq (.t 103) (.c (.int .i64 0)), []⟩,
 ⟨some 105, none, .pick (.t 101) (.c (.bool true)) (.t 104), []⟩,
 ⟨some 106, none, .mv (.t 105), []⟩,
 ⟨some 107, some (106, false), .fld 2 (.t 12), []⟩,
 ⟨some 108, some (106, false), .ld 1 false (.t 107), []⟩,
 ⟨some 109, some (106, false), .bin .neq (.t 108) (.c (.int .i64 (-1))), []⟩,
 ⟨some 110, none, .pick (.t 106) (.c (.bool true)) (.t 109), []⟩])
 (.cond (.t 110)
 (.seq
 (.ops 11 [⟨some 0, none, .mv (.c (.bool false)), []⟩])
 .ret)
 .skip))
 (.seq
 (.ops 12 [⟨some 112, none, .mv (.t 6), []⟩,
 ⟨some 113, none, .mki 26 (.t 112), []⟩,
 ⟨some 114, none, .mv (.t 2), []⟩,
 ⟨some 115, none, .call 51 [.t 113, .t 114, .c (.int .i64 200)], []⟩,
 ⟨some 111, none, .mv (.t 115), []⟩,
 ⟨some 116, none, .ext (.t 111) 0, []⟩,
 ⟨some 117, none, .ext (.t 111) 1, []⟩,
 ⟨some 8, none, .mv (.t 116), []⟩,
 ⟨some 14, none, .mv (.t 117), []⟩])
 (.seq
 (.ops 13 [⟨some 118, none, .ld 2 true (.t 1), []⟩,
 ⟨some 119, none, .bslice [.int .i64 0] 1 1 [(0, (.c (.int .i64 1)))] false false, []⟩,
 ⟨some 120, none, .call 53 [.t 118, .c (.int .i64 0), .t 119], []⟩,
 ⟨some 15, none, .mv (.t 120), []⟩])
 (.seq
 (.seq
 (.ops 14 [⟨some 121, none, .mv (.t 8), []⟩,
 ⟨some 122, none, .mv (.t 121), []⟩,
 ⟨some 123, some (122, false), .mv (.t 14), []⟩,
 ⟨some 124, some (122, false), .un .not (.t 123), []⟩,
 ⟨some 125, none, .pick (.t 122) (.c (.bool true)) (.t 124), []⟩,
 ⟨some 126, none, .mv (.t 125), []⟩,
 ⟨some 127, some (126, false), .mv (.t 15), []⟩,
 ⟨some 128, some (126, false), .eqn .iface false (.t 127), []⟩,
 ⟨some 129, none, .pick (.t 126) (.c (.bool true)) (.t 128), []⟩])
 (.cond (.t 129)
 (.seq
 (.ops 15 [⟨some 0, none, .mv (.c (.bool false)), []⟩])
 .ret)
 .skip))
 (.seq
 (.ops 16 [⟨some 131, none, .mv (.t 15), []⟩,
 ⟨some 132, none, .mv (.t 2), []⟩,
 ⟨some 133, none, .call 51 [.t 131, .t 132, .c (.int .i64 100)], []⟩,
 ⟨some 130, none, .mv (.t 133), []⟩,
 ⟨some 134, none, .ext (.t 130) 0, []⟩,
 ⟨some 135, none, .ext (.t 130) 1, []⟩,
 ⟨some 16, none, .mv (.t 134), []⟩,
 ⟨some 17, none, .mv (.t 135), []⟩])
 (.seq
 (.ops 17 [⟨some 137, none, .mv (.t 6), []⟩,
 ⟨some 138, none, .mki 26 (.t 137), []⟩,
 ⟨some 139, none, .mv (.t 2), []⟩,
 ⟨some 140, none, .call 51 [.t 138, .t 139, .c (.int .i64 500)], []⟩,
 ⟨some 136, none, .mv (.t 140), []⟩,
 ⟨some 141, none, .ext (.t 136) 0, []⟩,
 ⟨some 142, none, .ext (.t 136) 1, []⟩,
 ⟨some 18, none, .mv (.t 141), []⟩,
 ⟨some 19, none, .mv (.t 142), []⟩])
 (.seq
 (.seq
 (.ops 18 [⟨some 143, none, .mv (.t 16), []⟩,
 ⟨some 144, none, .un .not (.t 143), []⟩,
 ⟨some 145, none, .mv (.t 144), []⟩,
 ⟨some 146, some (145, false), .mv (.t 18), []⟩,
 ⟨some 147, some (145, false), .un .not (.t 146), []⟩,
 ⟨some 148, none, .pick (.t 145) (.c (.bool true)) (.t 147), []⟩,
 ⟨some 149, none, .mv (.t 148), []⟩,
 ⟨some 150, some (149, false), .mv (.t 6), []⟩,
 ⟨some 151, some (149, false), .call 8 [.t 150], []⟩,
 ⟨some 152, some (149, false), .bin .neq (.t 151) (.c (.int .u64 1)), []⟩,
 ⟨some 153, none, .pick (.t 149) (.c (.bool true)) (.t 152), []⟩])
 (.cond (.t 153)
 (.seq
 (.ops 19 [⟨some 0, none, .mv (.c (.bool false)), []⟩])
 .ret)
 .skip))
 (.seq
 (.ops 20 [⟨some 155, none, .ld 2 true (.t 1), []⟩,
 ⟨some 156, none, .call 49 [.t 155], []⟩,
 ⟨some 154, none, .mv (.t 156), []⟩,
 ⟨some 157, none, .ext (.t 154) 0, []⟩,
 ⟨some 158, none, .ext (.t 154) 1, []⟩,
 ⟨some 20, none, .mv (.t 157), []⟩,
 ⟨some 3, none, .mv (.t 158), []⟩])
 (.seq
 (.ops 21 [⟨some 160, none, .ld 2 true (.t 1), []⟩,
 ⟨some 161, none, .call 54 [.t 160, .c (.int .i64 0), .c (.str []), .c (.str []), .c (.int .i64 3)], []⟩,
 ⟨some 159, none, .mv (.t 161), []⟩,
 ⟨some 162, none, .ext (.t 159) 0, []⟩,
 ⟨some 163, none, .ext (.t 159) 1, []⟩,
 ⟨some 21, none, .mv (.t 162), []⟩,
 ⟨some 5, none, .mv (.t 163), []⟩])
 (.seq
 (.seq
 (.ops 22 [⟨some 164, none, .mv (.t 20), []⟩,
 ⟨some 165, none, .eqn .ptr false (.t 164), []⟩,
 ⟨some 166, none, .mv (.t 165), []⟩,
 ⟨some 167, some (166, false), .mv (.t 21), []⟩,
 ⟨some 168, some (166, false), .eqn .ptr false (.t 167), []⟩,
 ⟨some 169, none, .pick (.t 166) (.c (.bool true)) (.t 168), []⟩,
 ⟨some 170, none, .mv (.t 169), []⟩,
 ⟨some 171, some (170, false), .mv (.t 3), []⟩,
 ⟨some 172, some (170, false), .bin .neq (.t 171) (.c (.int .i64 0)), []⟩,
 ⟨some 173, none, .pick (.t 170) (.c (.bool true)) (.t 172), []⟩,
 ⟨some 174, none, .mv (.t 173), []⟩,
 ⟨some 175, some (174, false), .mv (.t 5), []⟩,
 ⟨some 176, some (174, false), .bin .neq (.t 175) (.c (.int .i64 0)), []⟩,
 ⟨some 177, none, .pick (.t 174) (.c (.bool true)) (.t 176), []⟩])
 (.cond (.t 177)
 (.seq
 (.ops 23 [⟨some 0, none, .mv (.c (.bool false)), []⟩])
 .ret)
 .skip))
 (.seq
 (.seq
 (.ops 24 [⟨some 179, none, .mv (.t 21), []⟩,
 ⟨some 180, none, .mki 27 (.t 179), []⟩,
 ⟨some 181, none, .mv (.t 20), []⟩,
 ⟨some 182, none, .call 51 [.t 180, .t 181, .c (.int .i64 800)], []⟩,
 ⟨some 178, none, .mv (.t 182), []⟩,
 ⟨some 183, none, .ext (.t 178) 0, []⟩,
 ⟨some 184, none, .ext (.t 178) 1, []⟩,
 ⟨some 22, none, .mv (.t 183), []⟩,
 ⟨some 23, none, .mv (.t 184), []⟩])
 (.seq
 (.ops 25 [⟨some 185, none, .mv (.t 22), []⟩,
 ⟨some 186, none, .un .not (.t 185), []⟩,
 ⟨some 187, none, .mv (.t 186), []⟩,
 ⟨some 188, some (187, false), .mv (.t 21), []⟩,
 ⟨some 189, some (187, false), .call 13 [.t 188], []⟩,
 ⟨some 190, some (187, false), .bin .neq (.t 189) (.c (.int .u64 1)), []⟩,
 ⟨some 191, none, .pick (.t 187) (.c (.bool true)) (.t 190), []⟩,
 ⟨some 192, none, .mv (.t 191), []⟩,
 ⟨some 193, some (192, false), .mv (.t 21), []⟩,
 ⟨some 194, some (192, false), .call 15 [.t 193], []⟩,
 ⟨some 195, some (192, false), .len .slice (.t 194), []⟩,
 ⟨some 196, some (192, false), .bin .neq (.t 195) (.c (.int .i64 0)), []⟩,
 ⟨some 197, none, .pick (.t 192) (.c (.bool true)) (.t 196), []⟩])
 (.cond (.t 197)
 (.seq
 (.ops 26 [⟨some 0, none, .mv (.c (.bool false)), []⟩])
 .ret)
 .skip)))
 (.seq
 (.ops 27 [⟨some 199, none, .ld 2 true (.t 1), []⟩,
 ⟨some 200, none, .call 50 [.t 199, .c (.int .i64 2), .c (.str [97]), .c (.int .i64 1)], []⟩,
 ⟨some 198, none, .mv (.t 200), []⟩,
 ⟨some 201, none, .ext (.t 198) 0, []⟩,
 ⟨some 202, none, .ext (.t 198) 1, []⟩,
 ⟨some 24, none, .mv (.t 201), []⟩,
 ⟨some 3, none, .mv (.t 202), []⟩])
 (.seq
 (.ops 28 [⟨some 204, none, .ld 2 true (.t 1), []⟩,
 ⟨some 205, none, .call 50 [.t 204, .c (.int .i64 0), .c (.str [97]), .c (.int .i64 2)], []⟩,
 ⟨some 203, none, .mv (.t 205), []⟩,
 ⟨some 206, none, .ext (.t 203) 0, []⟩,
 ⟨some 207, none, .ext (.t 203) 1, []⟩,
 ⟨some 25, none, .mv (.t 206), []⟩,
 ⟨some 5, none, .mv (.t 207), []⟩])
 (.seq
 (.ops 29 [⟨some 209, none, .ld 2 true (.t 1), []⟩,
 ⟨some 210, none, .call 55 [.t 209, .c (.int .i64 0)], []⟩,
 ⟨some 208, none, .mv (.t 210), []⟩,
 ⟨some 211, none, .ext (.t 208) 0, []⟩,
 ⟨some 212, none, .ext (.t 208) 1, []⟩,
 ⟨some 26, none, .mv (.t 211), []⟩,
 ⟨some 7, none, .mv (.t 212), []⟩])
 (.seq
 (.ops 30 [⟨some 214, none, .ld 2 true (.t 1), []⟩,
 ⟨some 215, none, .call 56 [.t 214, .c (.int .i64 0), .c (.nils)], []⟩,
 ⟨some 213, none, .mv (.t 215), []⟩,
 ⟨some 216, none, .ext (.t 213) 0, []⟩,
 ⟨some 217, none, .ext (.t 213) 1, []⟩,
 ⟨some 27, none, .mv (.t 216), []⟩,
 ⟨some 28, none, .mv (.t 217), []⟩])
 (.seq
 (.ops 31 [⟨some 218, none, .mv (.t 24), []⟩,
 ⟨some 219, none, .eqn .ptr false (.t 218), []⟩,
 ⟨some 220, none, .mv (.t 219), []⟩,
 ⟨some 221, some (220, true), .mv (.t 25), []⟩,
 ⟨some 222, some (220, true), .eqn .ptr false (.t 221), []⟩,
 ⟨some 223, none, .pick (.t 220) (.t 222) (.c (.bool false)), []⟩,
 ⟨some 224, none, .mv (.t 223), []⟩,
 ⟨some 225, some (224, true), .mv (.t 26), []⟩,
 ⟨some 226, some (224, true), .eqn .ptr false (.t 225), []⟩,
 ⟨some 227, none, .pick (.t 224) (.t 226) (.c (.bool false)), []⟩,
 ⟨some 228, none, .mv (.t 227), []⟩,
 ⟨some 229, some (228, true), .mv (.t 27), []⟩,
 ⟨some 230, some (228, true), .eqn .iface false (.t 229), []⟩,
 ⟨some 231, none, .pick (.t 228) (.t 230) (.c (.bool false)), []⟩,
 ⟨some 232, none, .mv (.t 231), []⟩,
 ⟨some 233, some (232, true), .mv (.t 3), []⟩,
 ⟨some 234, some (232, true), .bin .eql (.t 233) (.c (.int .i64 2)), []⟩,
 ⟨some 235, none, .pick (.t 232) (.t 234) (.c (.bool false)), []⟩,
 ⟨some 236, none, .mv (.t 235), []⟩,
 ⟨some 237, some (236, true), .mv (.t 5), []⟩,
 ⟨some 238, some (236, true), .bin .eql (.t 237) (.c (.int .i64 2)), []⟩,
 ⟨some 239, none, .pick (.t 236) (.t 238) (.c (.bool false)), []⟩,
 ⟨some 240, none, .mv (.t 239), []⟩,
 ⟨some 241, some (240, true), .mv (.t 7), []⟩,
 ⟨some 242, some (240, true), .bin .eql (.t 241) (.c (.int .i64 2)), []⟩,
 ⟨some 243, none, .pick (.t 240) (.t 242) (.c (.bool false)), []⟩,
 ⟨some 244, none, .mv (.t 243), []⟩,
 ⟨some 245, some (244, true), .mv (.t 28), []⟩,
 ⟨some 246, some (244, true), .bin .eql (.t 245) (.c (.int .i64 2)), []⟩,
 ⟨some 247, none, .pick (.t 244) (.t 246) (.c (.bool false)), []⟩,
 ⟨some 0, none, .mv (.t 247), []⟩])
 .ret)))))))))))))))))))))))))⟩
theorem F21_code : cfgA.code 21 = some F21 := by kernel_rfl

/-- (*ticketline/couple.Down).zero -/
noncomputable def F37 : AFn := ⟨13, [.tmp 2], (.seq
 (.ops 0 [⟨some 2, none, .mv (.c (.bool false)), []⟩])
 (.seq
 (.ops 1 [⟨some 3, none, .mv (.t 0), []⟩,
 ⟨some 4, none, .eqn .ptr false (.t 3), []⟩,
 ⟨some 5, none, .mv (.t 4), []⟩,
 ⟨some 6, some (5, false), .mv (.t 0), []⟩,
 ⟨some 7, some (5, false), .nilc (.t 6) (mok Tryz.prog), []⟩,
 ⟨some 8, some (5, false), .fld 0 (.t 7), []⟩,
 ⟨some 9, some (5, false), .fld 5 (.t 8), []⟩,
 ⟨some 10, some (5, false), .ld 1 false (.t 9), []⟩,
 ⟨some 11, some (5, false), .bin .eql (.t 10) (.c (.int .i64 0)), []⟩,
 ⟨some 12, none, .pick (.t 5) (.c (.bool true)) (.t 11), []⟩,
 ⟨some 2, none, .mv (.t 12), []⟩])
 .ret))⟩
theorem F37_code : cfgA.code 37 = some F37 := by kernel_rfl

/-- (*ticketline/couple.path).step -/
noncomputable def F38 : AFn := ⟨103, [.tmp 4, .tmp 5, .tmp 6], (.seq
 (.ops 0 [⟨some 4, none, .mv (.c (.bool false)), []⟩,
 ⟨some 5, none, .mv (.c (.bool false)), []⟩,
 ⟨some 6, none, .mv (.c (.int .i64 0)), []⟩])
 (.seq
 (.seq
 (.ops 1 [⟨some 9, none, .mv (.t 0), []⟩,
 ⟨some 10, none, .nilc (.t 9) (mok Tryz.prog), []⟩,
 ⟨some 11, none, .fld 5 (.t 10), []⟩,
 ⟨some 12, none, .ld 1 false (.t 11), []⟩])
 (.block 0
 (.seq
 (.ops 2 [⟨some 14, none, .bin .eql (.t 12) (.c (.int .i64 2)), []⟩,
 ⟨some 13, none, .mv (.t 14), []⟩])
 (.cond (.t 13)
 (.seq
 (.ops 3 [⟨some 15, none, .mv (.t 0), []⟩,
 ⟨some 16, none, .mv (.t 1), []⟩,
 ⟨some 17, none, .call 83 [.t 15, .t 16], []⟩,
 ⟨some 4, none, .mv (.c (.bool false)), []⟩,
 ⟨some 5, none, .mv (.c (.bool false)), []⟩,
 ⟨some 6, none, .mv (.t 17), []⟩])
 .ret)
 (.seq
 (.ops 4 [⟨some 19, none, .bin .eql (.t 12) (.c (.int .i64 5)), []⟩,
 ⟨some 18, none, .mv (.t 19), []⟩])
 (.cond (.t 18)
 (.seq
 (.seq
 (.ops 5 [⟨some 21, none, .mv (.t 0), []⟩,
 ⟨some 22, none, .nilc (.t 21) (mok Tryz.prog), []⟩,
 ⟨some 23, none, .fld 9 (.t 22), []⟩,
 ⟨some 24, none, .ld 1 false (.t 23), []⟩,
 ⟨some 25, none, .mv (.t 1), []⟩,
 ⟨some 26, none, .call 16 [.t 24, .t 25], []⟩,
 ⟨some 20, none, .mv (.t 26), []⟩,
 ⟨some 27, none, .ext (.t 20) 0, []⟩,
 ⟨some 28, none, .ext (.t 20) 1, []⟩,
 ⟨some 7, none, .mv (.t 27), []⟩,
 ⟨some 8, none, .mv (.t 28), []⟩])
 (.seq
 (.ops 6 [⟨some 29, none, .mv (.t 8), []⟩,
 ⟨some 30, none, .bin .neq (.t 29) (.c (.int .i64 0)), []⟩,
 ⟨some 31, none, .mv (.t 30), []⟩,
 ⟨some 32, some (31, false), .mv (.t 0), []⟩,
 ⟨some 33, some (31, false), .nilc (.t 32) (mok Tryz.prog), []⟩,
 ⟨some 34, some (31, false), .fld 9 (.t 33), []⟩,
 ⟨some 35, some (31, false), .ld 1 false (.t 34), []⟩,
 ⟨some 36, some (31, false), .call 17 [.t 35], []⟩,
 ⟨some 37, some (31, false), .un .not (.t 36), []⟩,
 ⟨some 38, none, .pick (.t 31) (.c (.bool true)) (.t 37), []⟩])
 (.cond (.t 38)
 (.seq
 (.ops 7 [⟨some 39, none, .mv (.t 8), []⟩,
 ⟨some 4, none, .mv (.c (.bool false)), []⟩,
 ⟨some 5, none, .mv (.c (.bool false)), []⟩,
 ⟨some 6, none, .mv (.t 39), []⟩])
 .ret)
 .skip)))
 (.seq
 (.ops 8 [⟨some 41, none, .mv (.t 0), []⟩,
 ⟨some 42, none, .call 84 [.t 41], []⟩,
 ⟨some 40, none, .mv (.t 42), []⟩,
 ⟨some 43, none, .ext (.t 40) 0, []⟩,
 ⟨some 44, none, .ext (.t 40) 1, []⟩,
 ⟨some 5, none, .mv (.t 43), []⟩,
 ⟨some 6, none, .mv (.t 44), []⟩])
 (.seq
 (.ops 9 [⟨some 45, none, .mv (.t 5), []⟩,
 ⟨some 46, none, .mv (.t 6), []⟩,
 ⟨some 4, none, .mv (.c (.bool false)), []⟩,
 ⟨some 5, none, .mv (.t 45), []⟩,
 ⟨some 6, none, .mv (.t 46), []⟩])
 .ret)))
 .skip))))))
 (.seq
 (.ops 10 [⟨some 48, none, .mv (.t 0), []⟩,
 ⟨some 49, none, .nilc (.t 48) (mok Tryz.prog), []⟩,
 ⟨some 50, none, .fld 8 (.t 49), []⟩,
 ⟨some 51, none, .ld 1 false (.t 50), []⟩,
 ⟨some 52, none, .mv (.t 1), []⟩,
 ⟨some 53, none, .invk (.t 51) "Step" [.t 52], []⟩,
 ⟨some 47, none, .mv (.t 53), []⟩,
 ⟨some 54, none, .ext (.t 47) 0, []⟩,
 ⟨some 55, none, .ext (.t 47) 1, []⟩,
 ⟨some 4, none, .mv (.t 54), []⟩,
 ⟨some 6, none, .mv (.t 55), []⟩])
 (.seq
 (.seq
 (.ops 11 [⟨some 56, none, .mv (.t 6), []⟩,
 ⟨some 57, none, .bin .neq (.t 56) (.c (.int .i64 0)), []⟩,
 ⟨some 58, none, .mv (.t 57), []⟩,
 ⟨some 59, some (58, false), .mv (.t 0), []⟩,
 ⟨some 60, some (58, false), .nilc (.t 59) (mok Tryz.prog), []⟩,
 ⟨some 61, some (58, false), .fld 8 (.t 60), []⟩,
 ⟨some 62, some (58, false), .ld 1 false (.t 61), []⟩,
 ⟨some 63, some (58, false), .invk (.t 62) "Done" [], []⟩,
 ⟨some 64, some (58, false), .un .not (.t 63), []⟩,
 ⟨some 65, none, .pick (.t 58) (.c (.bool true)) (.t 64), []⟩])
 (.cond (.t 65)
 (.seq
 (.ops 12 [⟨some 66, none, .mv (.t 4), []⟩,
 ⟨some 67, none, .mv (.t 6), []⟩,
 ⟨some 4, none, .mv (.t 66), []⟩,
 ⟨some 5, none, .mv (.c (.bool false)), []⟩,
 ⟨some 6, none, .mv (.t 67), []⟩])
 .ret)
 .skip))
 (.seq
 (.seq
 (.ops 13 [⟨some 68, none, .mv (.t 0), []⟩,
 ⟨some 69, none, .nilc (.t 68) (mok Tryz.prog), []⟩,
 ⟨some 70, none, .fld 5 (.t 69), []⟩,
 ⟨some 71, none, .ld 1 false (.t 70), []⟩])
 (.block 1
 (.seq
 (.ops 14 [⟨some 73, none, .bin .eql (.t 71) (.c (.int .i64 1)), []⟩,
 ⟨some 72, none, .mv (.t 73), []⟩])
 (.cond (.t 72)
 (.ops 15 [⟨some 74, none, .mv (.t 0), []⟩,
 ⟨some 75, none, .nilc (.t 74) (mok Tryz.prog), []⟩,
 ⟨some 76, none, .fld 5 (.t 75), []⟩,
 ⟨none, none, .st 1 (.t 76) (.c (.int .i64 2)), []⟩])
 (.seq
 (.ops 16 [⟨some 78, none, .bin .eql (.t 71) (.c (.int .i64 3)), []⟩,
 ⟨some 77, none, .mv (.t 78), []⟩])
 (.cond (.t 77)
 (.ops 17 [⟨some 79, none, .mv (.t 0), []⟩,
 ⟨some 80, none, .mv (.t 0), []⟩,
 ⟨some 81, none, .mv (.t 0), []⟩,
 ⟨some 82, none, .nilc (.t 81) (mok Tryz.prog), []⟩,
 ⟨some 83, none, .fld 0 (.t 82), []⟩,
 ⟨some 84, none, .ld 2 true (.t 83), []⟩,
 ⟨some 85, none, .mv (.t 0), []⟩,
 ⟨some 86, none, .nilc (.t 85) (mok Tryz.prog), []⟩,
 ⟨some 87, none, .fld 2 (.t 86), []⟩,
 ⟨some 88, none, .ld 1 false (.t 87), []⟩,
 ⟨some 89, none, .mv (.t 0), []⟩,
 ⟨some 90, none, .nilc (.t 89) (mok Tryz.prog), []⟩,
 ⟨some 91, none, .fld 7 (.t 90), []⟩,
 ⟨some 92, none, .ld 1 false (.t 91), []⟩,
 ⟨some 93, none, .call 85 [.t 84, .t 88, .t 92], []⟩,
 ⟨some 94, none, .nilc (.t 79) (mok Tryz.prog), []⟩,
 ⟨some 95, none, .fld 8 (.t 94), []⟩,
 ⟨none, none, .st 1 (.t 95) (.t 93), []⟩,
 ⟨some 96, none, .nilc (.t 80) (mok Tryz.prog), []⟩,
 ⟨some 97, none, .fld 5 (.t 96), []⟩,
 ⟨none, none, .st 1 (.t 97) (.c (.int .i64 4)), []⟩])
 (.seq
 (.ops 18 [⟨some 99, none, .bin .eql (.t 71) (.c (.int .i64 4)), []⟩,
 ⟨some 98, none, .mv (.t 99), []⟩])
 (.cond (.t 98)
 (.ops 19 [⟨some 100, none, .mv (.t 0), []⟩,
 ⟨some 101, none, .call 42 [.t 100], []⟩])
 .skip))))))))
 (.seq
 (.ops 20 [⟨some 102, none, .mv (.t 4), []⟩,
 ⟨some 4, none, .mv (.t 102), []⟩,
 ⟨some 5, none, .mv (.c (.bool false)), []⟩,
 ⟨some 6, none, .mv (.c (.int .i64 0)), []⟩])
 .ret))))))⟩
theorem F38_code : cfgA.code 38 = some F38 := by kernel_rfl

/-- (*ticketline/couple.Down).over -/
noncomputable def F40 : AFn := ⟨14, [.tmp 2], (.seq
 (.ops 0 [⟨some 2, none, .mv (.c (.bool false)), []⟩])
 (.seq
 (.ops 1 [⟨some 3, none, .mv (.t 0), []⟩,
 ⟨some 4, none, .call 37 [.t 3], []⟩,
 ⟨some 5, none, .un .not (.t 4), []⟩,
 ⟨some 6, none, .mv (.t 5), []⟩,
 ⟨some 7, some (6, true), .mv (.t 0), []⟩,
 ⟨some 8, some (6, true), .nilc (.t 7) (mok Tryz.prog), []⟩,
 ⟨some 9, some (6, true), .fld 0 (.t 8), []⟩,
 ⟨some 10, some (6, true), .fld 5 (.t 9), []⟩,
 ⟨some 11, some (6, true), .ld 1 false (.t 10), []⟩,
 ⟨some 12, some (6, true), .bin .eql (.t 11) (.c (.int .i64 7)), []⟩,
 ⟨some 13, none, .pick (.t 6) (.t 12) (.c (.bool false)), []⟩,
 ⟨some 2, none, .mv (.t 13), []⟩])
 .ret))⟩
theorem F40_code : cfgA.code 40 = some F40 := by kernel_rfl

/-- (*ticketline/couple.Walk).zero -/
noncomputable def F41 : AFn := ⟨13, [.tmp 2], (.seq
 (.ops 0 [⟨some 2, none, .mv (.c (.bool false)), []⟩])
 (.seq
 (.ops 1 [⟨some 3, none, .mv (.t 0), []⟩,
 ⟨some 4, none, .eqn .ptr false (.t 3), []⟩,
 ⟨some 5, none, .mv (.t 4), []⟩,
 ⟨some 6, some (5, false), .mv (.t 0), []⟩,
 ⟨some 7, some (5, false), .nilc (.t 6) (mok Tryz.prog), []⟩,
 ⟨some 8, some (5, false), .fld 0 (.t 7), []⟩,
 ⟨some 9, some (5, false), .fld 5 (.t 8), []⟩,
 ⟨some 10, some (5, false), .ld 1 false (.t 9), []⟩,
 ⟨some 11, some (5, false), .bin .eql (.t 10) (.c (.int .i64 0)), []⟩,
 ⟨some 12, none, .pick (.t 5) (.c (.bool true)) (.t 11), []⟩,
 ⟨some 2, none, .mv (.t 12), []⟩])
 .ret))⟩
theorem F41_code : cfgA.code 41 = some F41 := by kernel_rfl

/-- (*ticketline/couple.path).see -/
noncomputable def F42 : AFn := ⟨20, [], (.seq
 (.ops 0 [⟨some 3, none, .mv (.t 0), []⟩,
 ⟨some 4, none, .mv (.t 0), []⟩,
 ⟨some 5, none, .nilc (.t 4) (mok Tryz.prog), []⟩,
 ⟨some 6, none, .fld 0 (.t 5), []⟩,
 ⟨some 7, none, .ld 2 true (.t 6), []⟩,
 ⟨some 8, none, .mv (.t 0), []⟩,
 ⟨some 9, none, .nilc (.t 8) (mok Tryz.prog), []⟩,
 ⟨some 10, none, .fld 6 (.t 9), []⟩,
 ⟨some 11, none, .ld 1 false (.t 10), []⟩,
 ⟨some 12, none, .call 55 [.t 7, .t 11], []⟩,
 ⟨some 2, none, .mv (.t 12), []⟩,
 ⟨some 13, none, .ext (.t 2) 0, []⟩,
 ⟨some 14, none, .ext (.t 2) 1, []⟩,
 ⟨some 15, none, .nilc (.t 3) (mok Tryz.prog), []⟩,
 ⟨some 16, none, .fld 9 (.t 15), []⟩,
 ⟨none, none, .st 1 (.t 16) (.t 13), []⟩])
 (.ops 1 [⟨some 17, none, .mv (.t 0), []⟩,
 ⟨some 18, none, .nilc (.t 17) (mok Tryz.prog), []⟩,
 ⟨some 19, none, .fld 5 (.t 18), []⟩,
 ⟨none, none, .st 1 (.t 19) (.c (.int .i64 5)), []⟩]))⟩
theorem F42_code : cfgA.code 42 = some F42 := by kernel_rfl

/-- (*ticketline/couple.Walk).take: the round 0 -/
noncomputable def B43x0 : AC := (.seq
 (.ops 9 [⟨some 61, none, .bin .lss (.t 60) (.t 59), []⟩])
 (.seq
 (.cond (.t 61)
 .skip
 (.exit 0))
 (.seq
 (.block 1
 (.seq
 (.ops 10 [⟨some 62, none, .ixa none 2 (.t 58) (.t 60), []⟩,
 ⟨some 63, none, .ld 2 true (.t 62), []⟩,
 ⟨some 10, none, .alloc [.str [], .str []] false, []⟩,
 ⟨none, none, .st 2 (.t 10) (.t 63), []⟩])
 (.seq
 (.ops 11 [⟨some 64, none, .mv (.t 0), []⟩,
 ⟨some 65, none, .nilc (.t 64) (mok Tryz.prog), []⟩,
 ⟨some 66, none, .fld 144 (.t 65), []⟩,
 ⟨some 67, none, .ld 1 false (.t 66), []⟩,
 ⟨some 68, none, .len .slice (.t 67), []⟩,
 ⟨some 69, none, .mv (.t 0), []⟩,
 ⟨some 70, none, .nilc (.t 69) (mok Tryz.prog), []⟩,
 ⟨some 71, none, .fld 142 (.t 70), []⟩,
 ⟨some 72, none, .ld 1 false (.t 71), []⟩,
 ⟨some 73, none, .bin .lss (.t 68) (.t 72), []⟩,
 ⟨some 74, none, .mv (.t 73), []⟩,
 ⟨some 75, some (74, true), .fld 0 (.t 10), []⟩,
 ⟨some 76, some (74, true), .ld 1 false (.t 75), []⟩,
 ⟨some 77, some (74, true), .mv (.t 0), []⟩,
 ⟨some 78, some (74, true), .nilc (.t 77) (mok Tryz.prog), []⟩,
 ⟨some 79, some (74, true), .fld 140 (.t 78), []⟩,
 ⟨some 80, some (74, true), .ld 1 false (.t 79), []⟩,
 ⟨some 81, some (74, true), .bin .geq (.t 76) (.t 80), []⟩,
 ⟨some 82, none, .pick (.t 74) (.t 81) (.c (.bool false)), []⟩,
 ⟨some 83, none, .mv (.t 82), []⟩,
 ⟨some 84, some (83, true), .mv (.t 0), []⟩,
 ⟨some 85, some (83, true), .nilc (.t 84) (mok Tryz.prog), []⟩,
 ⟨some 86, some (83, true), .fld 141 (.t 85), []⟩,
 ⟨some 87, some (83, true), .ld 1 false (.t 86), []⟩,
 ⟨some 88, some (83, true), .bin .eql (.t 87) (.c (.str [])), []⟩,
 ⟨some 89, some (83, true), .mv (.t 88), []⟩,
 ⟨some 90, some (89, false), .fld 0 (.t 10), []⟩,
 ⟨some 91, some (89, false), .ld 1 false (.t 90), []⟩,
 ⟨some 92, some (89, false), .mv (.t 0), []⟩,
 ⟨some 93, some (89, false), .nilc (.t 92) (mok Tryz.prog), []⟩,
 ⟨some 94, some (89, false), .fld 141 (.t 93), []⟩,
 ⟨some 95, some (89, false), .ld 1 false (.t 94), []⟩,
 ⟨some 96, some (89, false), .bin .lss (.t 91) (.t 95), []⟩,
 ⟨some 97, some (83, true), .pick (.t 89) (.c (.bool true)) (.t 96), []⟩,
 ⟨some 98, none, .pick (.t 83) (.t 97) (.c (.bool false)), []⟩])
 (.cond (.t 98)
 (.ops 12 [⟨some 99, none, .mv (.t 0), []⟩,
 ⟨some 100, none, .mv (.t 0), []⟩,
 ⟨some 101, none, .nilc (.t 100) (mok Tryz.prog), []⟩,
 ⟨some 102, none, .fld 144 (.t 101), []⟩,
 ⟨some 103, none, .ld 1 false (.t 102), []⟩,
 ⟨some 104, none, .ld 2 true (.t 10), []⟩,
 ⟨some 105, none, .bslice [.str [], .str []] 2 1 [(0, (.t 104))] false false, []⟩,
 ⟨some 106, none, .app 2 32 (.t 103) (.t 105) true, []⟩,
 ⟨some 107, none, .nilc (.t 99) (mok Tryz.prog), []⟩,
 ⟨some 108, none, .fld 144 (.t 107), []⟩,
 ⟨none, none, .st 1 (.t 108) (.t 106), []⟩])
 .skip))))
 (.ops 13 [⟨some 109, none, .bin .add (.t 60) (.c (.int .i64 1)), []⟩,
 ⟨some 60, none, .mv (.t 109), []⟩]))))
/-- (*ticketline/couple.Walk).take -/
noncomputable def F43 : AFn := ⟨193, [.tmp 2], (.seq
 (.ops 0 [⟨some 2, none, .mv (.c (.int .i64 0)), []⟩])
 (.seq
 (.ops 1 [⟨some 12, none, .mv (.t 0), []⟩,
 ⟨some 13, none, .nilc (.t 12) (mok Tryz.prog), []⟩,
 ⟨some 14, none, .fld 0 (.t 13), []⟩,
 ⟨some 15, none, .fld 10 (.t 14), []⟩,
 ⟨some 16, none, .fld 1 (.t 15), []⟩,
 ⟨some 17, none, .ld 128 true (.t 16), []⟩,
 ⟨some 3, none, .alloc (List.replicate 128 (.int .u64 0)) false, []⟩,
 ⟨none, none, .st 128 (.t 3) (.t 17), []⟩])
 (.seq
 (.ops 2 [⟨some 19, none, .ld 128 true (.t 3), []⟩,
 ⟨some 20, none, .call 87 [.t 19], []⟩,
 ⟨some 18, none, .mv (.t 20), []⟩,
 ⟨some 21, none, .ext (.t 18) 0, []⟩,
 ⟨some 22, none, .ext (.t 18) 1, []⟩,
 ⟨some 4, none, .mv (.t 21), []⟩,
 ⟨some 5, none, .mv (.t 22), []⟩])
 (.seq
 (.ops 3 [⟨some 24, none, .ld 128 true (.t 3), []⟩,
 ⟨some 25, none, .call 88 [.t 24], []⟩,
 ⟨some 23, none, .mv (.t 25), []⟩,
 ⟨some 26, none, .ext (.t 23) 0, []⟩,
 ⟨some 27, none, .ext (.t 23) 1, []⟩,
 ⟨some 28, none, .ext (.t 23) 2, []⟩,
 ⟨some 6, none, .mv (.t 26), []⟩,
 ⟨some 7, none, .mv (.t 27), []⟩,
 ⟨some 8, none, .mv (.t 28), []⟩])
 (.seq
 (.seq
 (.ops 4 [⟨some 29, none, .mv (.t 5), []⟩,
 ⟨some 30, none, .bin .neq (.t 29) (.c (.int .i64 0)), []⟩,
 ⟨some 31, none, .mv (.t 30), []⟩,
 ⟨some 32, some (31, false), .mv (.t 8), []⟩,
 ⟨some 33, some (31, false), .bin .neq (.t 32) (.c (.int .i64 0)), []⟩,
 ⟨some 34, none, .pick (.t 31) (.c (.bool true)) (.t 33), []⟩])
 (.cond (.t 34)
 (.seq
 (.ops 5 [⟨some 2, none, .mv (.c (.int .i64 12)), []⟩])
 .ret)
 .skip))
 (.seq
 (.ops 6 [⟨some 35, none, .mv (.t 0), []⟩,
 ⟨some 36, none, .mv (.t 0), []⟩,
 ⟨some 37, none, .nilc (.t 36) (mok Tryz.prog), []⟩,
 ⟨some 38, none, .fld 143 (.t 37), []⟩,
 ⟨some 39, none, .ld 1 false (.t 38), []⟩,
 ⟨some 41, none, .mv (.t 0), []⟩,
 ⟨some 42, none, .nilc (.t 41) (mok Tryz.prog), []⟩,
 ⟨some 43, none, .fld 0 (.t 42), []⟩,
 ⟨some 44, none, .fld 6 (.t 43), []⟩,
 ⟨some 45, none, .ld 1 false (.t 44), []⟩,
 ⟨some 46, none, .bslice [.int .i64 0] 1 1 [(0, (.t 45))] false false, []⟩,
 ⟨some 40, none, .call 89 [.t 39], [(45, .ld 1 false (.t 44))]⟩,
 ⟨some 47, none, .app 1 8 (.t 40) (.t 46) true, []⟩,
 ⟨some 48, none, .nilc (.t 35) (mok Tryz.prog), []⟩,
 ⟨some 49, none, .fld 143 (.t 48), []⟩,
 ⟨none, none, .st 1 (.t 49) (.t 47), []⟩])
 (.seq
 (.ops 7 [⟨some 50, none, .mv (.t 0), []⟩,
 ⟨some 51, none, .mv (.t 0), []⟩,
 ⟨some 52, none, .nilc (.t 51) (mok Tryz.prog), []⟩,
 ⟨some 53, none, .fld 144 (.t 52), []⟩,
 ⟨some 54, none, .ld 1 false (.t 53), []⟩,
 ⟨some 55, none, .call 45 [.t 54], []⟩,
 ⟨some 56, none, .nilc (.t 50) (mok Tryz.prog), []⟩,
 ⟨some 57, none, .fld 144 (.t 56), []⟩,
 ⟨none, none, .st 1 (.t 57) (.t 55), []⟩])
 (.seq
 (.seq
 (.ops 8 [⟨some 58, none, .mv (.t 4), []⟩,
 ⟨some 59, none, .len .slice (.t 58), []⟩,
 ⟨some 60, none, .mv (.c (.int .i64 0)), []⟩])
 (.block 0
 (.loop [] B43x0)))
 (.seq
 (.ops 14 [⟨some 110, none, .ld 128 true (.t 3), []⟩,
 ⟨some 111, none, .call 90 [.t 110], []⟩,
 ⟨some 11, none, .mv (.t 111), []⟩])
 (.seq
 (.seq
 (.ops 15 [⟨some 112, none, .mv (.t 0), []⟩,
 ⟨some 113, none, .nilc (.t 112) (mok Tryz.prog), []⟩,
 ⟨some 114, none, .fld 144 (.t 113), []⟩,
 ⟨some 115, none, .ld 1 false (.t 114), []⟩,
 ⟨some 116, none, .len .slice (.t 115), []⟩,
 ⟨some 117, none, .mv (.t 0), []⟩,
 ⟨some 118, none, .nilc (.t 117) (mok Tryz.prog), []⟩,
 ⟨some 119, none, .fld 142 (.t 118), []⟩,
 ⟨some 120, none, .ld 1 false (.t 119), []⟩,
 ⟨some 121, none, .bin .lss (.t 116) (.t 120), []⟩,
 ⟨some 122, none, .mv (.t 121), []⟩,
 ⟨some 123, some (122, true), .mv (.t 11), []⟩,
 ⟨some 124, some (122, true), .bin .gtr (.t 123) (.c (.int .i64 0)), []⟩,
 ⟨some 125, none, .pick (.t 122) (.t 124) (.c (.bool false)), []⟩,
 ⟨some 126, none, .mv (.t 125), []⟩,
 ⟨some 127, some (126, true), .mv (.t 0), []⟩,
 ⟨some 128, some (126, true), .nilc (.t 127) (mok Tryz.prog), []⟩,
 ⟨some 129, some (126, true), .fld 141 (.t 128), []⟩,
 ⟨some 130, some (126, true), .ld 1 false (.t 129), []⟩,
 ⟨some 131, some (126, true), .bin .eql (.t 130) (.c (.str [])), []⟩,
 ⟨some 132, some (126, true), .mv (.t 131), []⟩,
 ⟨some 133, some (132, false), .mv (.t 7), []⟩,
 ⟨some 134, some (132, false), .mv (.t 0), []⟩,
 ⟨some 135, some (132, false), .nilc (.t 134) (mok Tryz.prog), []⟩,
 ⟨some 136, some (132, false), .fld 141 (.t 135), []⟩,
 ⟨some 137, some (132, false), .ld 1 false (.t 136), []⟩,
 ⟨some 138, some (132, false), .bin .lss (.t 133) (.t 137), []⟩,
 ⟨some 139, some (126, true), .pick (.t 132) (.c (.bool true)) (.t 138), []⟩,
 ⟨some 140, none, .pick (.t 126) (.t 139) (.c (.bool false)), []⟩])
 (.cond (.t 140)
 (.seq
 (.ops 16 [⟨some 141, none, .mv (.t 0), []⟩,
 ⟨some 142, none, .mv (.t 11), []⟩,
 ⟨some 143, none, .nilc (.t 141) (mok Tryz.prog), []⟩,
 ⟨some 144, none, .fld 0 (.t 143), []⟩,
 ⟨some 145, none, .fld 6 (.t 144), []⟩,
 ⟨none, none, .st 1 (.t 145) (.t 142), []⟩])
 (.seq
 (.ops 17 [⟨some 146, none, .mv (.t 0), []⟩,
 ⟨some 147, none, .mv (.t 0), []⟩,
 ⟨some 148, none, .mv (.t 0), []⟩,
 ⟨some 149, none, .nilc (.t 148) (mok Tryz.prog), []⟩,
 ⟨some 150, none, .fld 0 (.t 149), []⟩,
 ⟨some 151, none, .fld 0 (.t 150), []⟩,
 ⟨some 152, none, .ld 2 true (.t 151), []⟩,
 ⟨some 153, none, .mv (.t 0), []⟩,
 ⟨some 154, none, .nilc (.t 153) (mok Tryz.prog), []⟩,
 ⟨some 155, none, .fld 0 (.t 154), []⟩,
 ⟨some 156, none, .fld 2 (.t 155), []⟩,
 ⟨some 157, none, .ld 1 false (.t 156), []⟩,
 ⟨some 158, none, .mv (.t 11), []⟩,
 ⟨some 159, none, .call 91 [.t 152, .t 157, .t 158, .c (.int .i64 1)], []⟩,
 ⟨some 160, none, .nilc (.t 146) (mok Tryz.prog), []⟩,
 ⟨some 161, none, .fld 0 (.t 160), []⟩,
 ⟨some 162, none, .fld 8 (.t 161), []⟩,
 ⟨none, none, .st 1 (.t 162) (.t 159), []⟩,
 ⟨some 163, none, .nilc (.t 147) (mok Tryz.prog), []⟩,
 ⟨some 164, none, .fld 0 (.t 163), []⟩,
 ⟨some 165, none, .fld 5 (.t 164), []⟩,
 ⟨none, none, .st 1 (.t 165) (.c (.int .i64 3)), []⟩])
 (.seq
 (.ops 18 [⟨some 2, none, .mv (.c (.int .i64 0)), []⟩])
 .ret)))
 .skip))
 (.seq
 (.ops 19 [⟨some 167, none, .mv (.t 0), []⟩,
 ⟨some 168, none, .mv (.t 0), []⟩,
 ⟨some 169, none, .nilc (.t 168) (mok Tryz.prog), []⟩,
 ⟨some 170, none, .fld 0 (.t 169), []⟩,
 ⟨some 171, none, .fld 0 (.t 170), []⟩,
 ⟨some 172, none, .ld 2 true (.t 171), []⟩,
 ⟨some 173, none, .mv (.t 0), []⟩,
 ⟨some 174, none, .nilc (.t 173) (mok Tryz.prog), []⟩,
 ⟨some 175, none, .fld 0 (.t 174), []⟩,
 ⟨some 176, none, .fld 2 (.t 175), []⟩,
 ⟨some 177, none, .ld 1 false (.t 176), []⟩,
 ⟨some 178, none, .mv (.t 0), []⟩,
 ⟨some 179, none, .nilc (.t 178) (mok Tryz.prog), []⟩,
 ⟨some 180, none, .fld 143 (.t 179), []⟩,
 ⟨some 181, none, .ld 1 false (.t 180), []⟩,
 ⟨some 182, none, .call 56 [.t 172, .t 177, .t 181], []⟩,
 ⟨some 166, none, .mv (.t 182), []⟩,
 ⟨some 183, none, .ext (.t 166) 0, []⟩,
 ⟨some 184, none, .ext (.t 166) 1, []⟩,
 ⟨some 185, none, .nilc (.t 167) (mok Tryz.prog), []⟩,
 ⟨some 186, none, .fld 0 (.t 185), []⟩,
 ⟨some 187, none, .fld 8 (.t 186), []⟩,
 ⟨none, none, .st 1 (.t 187) (.t 183), []⟩,
 ⟨some 5, none, .mv (.t 184), []⟩])
 (.seq
 (.ops 20 [⟨some 188, none, .mv (.t 0), []⟩,
 ⟨some 189, none, .nilc (.t 188) (mok Tryz.prog), []⟩,
 ⟨some 190, none, .fld 0 (.t 189), []⟩,
 ⟨some 191, none, .fld 5 (.t 190), []⟩,
 ⟨none, none, .st 1 (.t 191) (.c (.int .i64 6)), []⟩])
 (.seq
 (.ops 21 [⟨some 192, none, .mv (.t 5), []⟩,
 ⟨some 2, none, .mv (.t 192), []⟩])
 .ret)))))))))))))⟩
theorem F43_code : cfgA.code 43 = some F43 := by kernel_rfl

/-- (*ticketline/couple.Walk).over -/
noncomputable def F44 : AFn := ⟨14, [.tmp 2], (.seq
 (.ops 0 [⟨some 2, none, .mv (.c (.bool false)), []⟩])
 (.seq
 (.ops 1 [⟨some 3, none, .mv (.t 0), []⟩,
 ⟨some 4, none, .call 41 [.t 3], []⟩,
 ⟨some 5, none, .un .not (.t 4), []⟩,
 ⟨some 6, none, .mv (.t 5), []⟩,
 ⟨some 7, some (6, true), .mv (.t 0), []⟩,
 ⟨some 8, some (6, true), .nilc (.t 7) (mok Tryz.prog), []⟩,
 ⟨some 9, some (6, true), .fld 0 (.t 8), []⟩,
 ⟨some 10, some (6, true), .fld 5 (.t 9), []⟩,
 ⟨some 11, some (6, true), .ld 1 false (.t 10), []⟩,
 ⟨some 12, some (6, true), .bin .eql (.t 11) (.c (.int .i64 7)), []⟩,
 ⟨some 13, none, .pick (.t 6) (.t 12) (.c (.bool false)), []⟩,
 ⟨some 2, none, .mv (.t 13), []⟩])
 .ret))⟩
theorem F44_code : cfgA.code 44 = some F44 := by kernel_rfl

/-- slices.Clone[[]ticketline/api.Pair,ticketline/api.Pair] -/
noncomputable def F45 : AFn := ⟨8, [.tmp 2], (.seq
 (.ops 0 [⟨some 2, none, .mv (.c (.nils)), []⟩])
 (.seq
 (.seq
 (.ops 1 [⟨some 3, none, .mv (.t 0), []⟩,
 ⟨some 4, none, .eqn .slice false (.t 3), []⟩])
 (.cond (.t 4)
 (.seq
 (.ops 2 [⟨some 2, none, .mv (.c (.nils)), []⟩])
 .ret)
 .skip))
 (.seq
 (.ops 3 [⟨some 5, none, .bslice [.str [], .str []] 2 0 [] false false, []⟩,
 ⟨some 6, none, .mv (.t 0), []⟩,
 ⟨some 7, none, .app 2 32 (.t 5) (.t 6) true, []⟩,
 ⟨some 2, none, .mv (.t 7), []⟩])
 .ret)))⟩
theorem F45_code : cfgA.code 45 = some F45 := by kernel_rfl

/-- (*ticketline/couple.Look).zero -/
noncomputable def F46 : AFn := ⟨13, [.tmp 2], (.seq
 (.ops 0 [⟨some 2, none, .mv (.c (.bool false)), []⟩])
 (.seq
 (.ops 1 [⟨some 3, none, .mv (.t 0), []⟩,
 ⟨some 4, none, .eqn .ptr false (.t 3), []⟩,
 ⟨some 5, none, .mv (.t 4), []⟩,
 ⟨some 6, some (5, false), .mv (.t 0), []⟩,
 ⟨some 7, some (5, false), .nilc (.t 6) (mok Tryz.prog), []⟩,
 ⟨some 8, some (5, false), .fld 2 (.t 7), []⟩,
 ⟨some 9, some (5, false), .fld 0 (.t 8), []⟩,
 ⟨some 10, some (5, false), .ld 1 false (.t 9), []⟩,
 ⟨some 11, some (5, false), .bin .eql (.t 10) (.c (.int .i64 0)), []⟩,
 ⟨some 12, none, .pick (.t 5) (.c (.bool true)) (.t 11), []⟩,
 ⟨some 2, none, .mv (.t 12), []⟩])
 .ret))⟩
theorem F46_code : cfgA.code 46 = some F46 := by kernel_rfl

/-- (*ticketline/couple.Look).over -/
noncomputable def F47 : AFn := ⟨13, [.tmp 2], (.seq
 (.ops 0 [⟨some 2, none, .mv (.c (.bool false)), []⟩])
 (.seq
 (.ops 1 [⟨some 3, none, .mv (.t 0), []⟩,
 ⟨some 4, none, .call 46 [.t 3], []⟩,
 ⟨some 5, none, .un .not (.t 4), []⟩,
 ⟨some 6, none, .mv (.t 5), []⟩,
 ⟨some 7, some (6, true), .mv (.t 0), []⟩,
 ⟨some 8, some (6, true), .nilc (.t 7) (mok Tryz.prog), []⟩,
 ⟨some 9, some (6, true), .fld 1 (.t 8), []⟩,
 ⟨some 10, some (6, true), .ld 1 false (.t 9), []⟩,
 ⟨some 11, some (6, true), .bin .eql (.t 10) (.c (.int .i64 128)), []⟩,
 ⟨some 12, none, .pick (.t 6) (.t 11) (.c (.bool false)), []⟩,
 ⟨some 2, none, .mv (.t 12), []⟩])
 .ret))⟩
theorem F47_code : cfgA.code 47 = some F47 := by kernel_rfl

/-- ticketline/ticketlinelaw28.given -/
noncomputable def F48 : AFn := ⟨2, [.cell 0 2 true], (.seq
 (.ops 0 [⟨some 0, none, .alloc [.int .i64 0, .int .i64 0] false, []⟩])
 (.seq
 (.ops 1 [⟨some 1, none, .build [.int .i64 0, .int .i64 0] [(0, 1, (.c (.int .i64 3))), (1, 1, (.c (.int .i64 2)))], []⟩,
 ⟨none, none, .st 2 (.t 0) (.t 1), []⟩])
 .ret))⟩
theorem F48_code : cfgA.code 48 = some F48 := by kernel_rfl

/-- ticketline/descend.Format -/
noncomputable def F49 : AFn := ⟨61, [.tmp 2, .tmp 3], (.seq
 (.ops 0 [⟨some 1, none, .box 2 (.t 0) false, []⟩,
 ⟨some 2, none, .mv (.c (.nilp)), []⟩,
 ⟨some 3, none, .mv (.c (.int .i64 0)), []⟩])
 (.seq
 (.ops 1 [⟨some 12, none, .ld 2 true (.t 1), []⟩,
 ⟨some 13, none, .call 92 [.t 12], []⟩,
 ⟨some 11, none, .mv (.t 13), []⟩,
 ⟨some 14, none, .ext (.t 11) 0, []⟩,
 ⟨some 15, none, .ext (.t 11) 1, []⟩,
 ⟨some 4, none, .mv (.t 14), []⟩,
 ⟨some 5, none, .mv (.t 15), []⟩])
 (.seq
 (.seq
 (.ops 2 [⟨some 16, none, .mv (.t 5), []⟩,
 ⟨some 17, none, .bin .neq (.t 16) (.c (.int .i64 0)), []⟩])
 (.cond (.t 17)
 (.seq
 (.ops 3 [⟨some 18, none, .mv (.t 5), []⟩,
 ⟨some 2, none, .mv (.c (.nilp)), []⟩,
 ⟨some 3, none, .mv (.t 18), []⟩])
 .ret)
 .skip))
 (.seq
 (.ops 4 [⟨some 20, none, .mv (.t 4), []⟩,
 ⟨some 21, none, .call 5 [.t 20], []⟩,
 ⟨some 19, none, .mv (.t 21), []⟩,
 ⟨some 22, none, .ext (.t 19) 0, []⟩,
 ⟨some 23, none, .ext (.t 19) 1, []⟩,
 ⟨some 6, none, .mv (.t 22), []⟩,
 ⟨some 5, none, .mv (.t 23), []⟩])
 (.seq
 (.seq
 (.ops 5 [⟨some 24, none, .mv (.t 5), []⟩,
 ⟨some 25, none, .bin .neq (.t 24) (.c (.int .i64 0)), []⟩])
 (.cond (.t 25)
 (.seq
 (.ops 6 [⟨some 26, none, .mv (.t 5), []⟩,
 ⟨some 2, none, .mv (.c (.nilp)), []⟩,
 ⟨some 3, none, .mv (.t 26), []⟩])
 .ret)
 .skip))
 (.seq
 (.ops 7 [⟨some 28, none, .mv (.t 6), []⟩,
 ⟨some 29, none, .fld 0 (.t 1), []⟩,
 ⟨some 30, none, .ld 1 false (.t 29), []⟩,
 ⟨some 31, none, .call 93 [.t 28, .t 30], []⟩,
 ⟨some 27, none, .mv (.t 31), []⟩,
 ⟨some 32, none, .ext (.t 27) 0, []⟩,
 ⟨some 33, none, .ext (.t 27) 1, []⟩,
 ⟨some 7, none, .mv (.t 32), []⟩,
 ⟨some 5, none, .mv (.t 33), []⟩])
 (.seq
 (.seq
 (.ops 8 [⟨some 34, none, .mv (.t 5), []⟩,
 ⟨some 35, none, .bin .neq (.t 34) (.c (.int .i64 0)), []⟩])
 (.cond (.t 35)
 (.seq
 (.ops 9 [⟨some 36, none, .mv (.t 5), []⟩,
 ⟨some 2, none, .mv (.c (.nilp)), []⟩,
 ⟨some 3, none, .mv (.t 36), []⟩])
 .ret)
 .skip))
 (.seq
 (.ops 10 [⟨some 38, none, .call 94 [.c (.int .i64 0), .c (.str []), .c (.str [])], []⟩,
 ⟨some 37, none, .mv (.t 38), []⟩,
 ⟨some 39, none, .ext (.t 37) 0, []⟩,
 ⟨some 40, none, .ext (.t 37) 1, []⟩,
 ⟨some 8, none, .alloc (List.replicate 128 (.int .u64 0)) false, []⟩,
 ⟨none, none, .st 128 (.t 8) (.t 39), []⟩,
 ⟨some 5, none, .mv (.t 40), []⟩])
 (.seq
 (.seq
 (.ops 11 [⟨some 41, none, .mv (.t 5), []⟩,
 ⟨some 42, none, .bin .neq (.t 41) (.c (.int .i64 0)), []⟩])
 (.cond (.t 42)
 (.seq
 (.ops 12 [⟨some 43, none, .mv (.t 5), []⟩,
 ⟨some 2, none, .mv (.c (.nilp)), []⟩,
 ⟨some 3, none, .mv (.t 43), []⟩])
 .ret)
 .skip))
 (.seq
 (.ops 13 [⟨some 45, none, .mv (.t 7), []⟩,
 ⟨some 46, none, .ld 128 true (.t 8), []⟩,
 ⟨some 47, none, .call 95 [.t 45, .t 46], []⟩,
 ⟨some 44, none, .mv (.t 47), []⟩,
 ⟨some 48, none, .ext (.t 44) 0, []⟩,
 ⟨some 49, none, .ext (.t 44) 1, []⟩,
 ⟨some 9, none, .mv (.t 48), []⟩,
 ⟨some 5, none, .mv (.t 49), []⟩])
 (.seq
 (.seq
 (.ops 14 [⟨some 50, none, .mv (.t 5), []⟩,
 ⟨some 51, none, .bin .neq (.t 50) (.c (.int .i64 0)), []⟩])
 (.cond (.t 51)
 (.seq
 (.ops 15 [⟨some 52, none, .mv (.t 5), []⟩,
 ⟨some 2, none, .mv (.c (.nilp)), []⟩,
 ⟨some 3, none, .mv (.t 52), []⟩])
 .ret)
 .skip))
 (.seq
 (.seq
 (.ops 16 [⟨some 53, none, .mv (.t 7), []⟩,
 ⟨some 54, none, .mv (.t 9), []⟩,
 ⟨some 55, none, .call 96 [.t 53, .t 54], []⟩,
 ⟨some 10, none, .mv (.t 55), []⟩])
 (.seq
 (.ops 17 [⟨some 56, none, .mv (.t 10), []⟩,
 ⟨some 57, none, .bin .neq (.t 56) (.c (.int .i64 0)), []⟩])
 (.cond (.t 57)
 (.seq
 (.ops 18 [⟨some 58, none, .mv (.t 10), []⟩,
 ⟨some 2, none, .mv (.c (.nilp)), []⟩,
 ⟨some 3, none, .mv (.t 58), []⟩])
 .ret)
 .skip)))
 (.seq
 (.ops 19 [⟨some 59, none, .mv (.t 7), []⟩,
 ⟨some 60, none, .call 97 [.t 59], []⟩,
 ⟨some 2, none, .mv (.t 60), []⟩,
 ⟨some 3, none, .mv (.c (.int .i64 0)), []⟩])
 .ret)))))))))))))⟩
theorem F49_code : cfgA.code 49 = some F49 := by kernel_rfl

/-- ticketline/couple.NewDown -/
noncomputable def F50 : AFn := ⟨34, [.tmp 8, .tmp 9], (.seq
 (.ops 0 [⟨some 4, none, .box 2 (.t 0) false, []⟩,
 ⟨some 8, none, .mv (.c (.nilp)), []⟩,
 ⟨some 9, none, .mv (.c (.int .i64 0)), []⟩])
 (.seq
 (.seq
 (.ops 1 [⟨some 10, none, .ld 2 true (.t 4), []⟩,
 ⟨some 11, none, .mv (.t 1), []⟩,
 ⟨some 12, none, .call 98 [.t 10, .t 11, .c (.int .i64 0)], []⟩,
 ⟨some 13, none, .un .not (.t 12), []⟩,
 ⟨some 14, none, .mv (.t 13), []⟩,
 ⟨some 15, some (14, false), .mv (.t 2), []⟩,
 ⟨some 16, some (14, false), .call 99 [.t 15], []⟩,
 ⟨some 17, some (14, false), .un .not (.t 16), []⟩,
 ⟨some 18, none, .pick (.t 14) (.c (.bool true)) (.t 17), []⟩,
 ⟨some 19, none, .mv (.t 18), []⟩,
 ⟨some 20, some (19, false), .mv (.t 3), []⟩,
 ⟨some 21, some (19, false), .bin .neq (.t 20) (.c (.int .i64 1)), []⟩,
 ⟨some 22, some (19, false), .mv (.t 21), []⟩,
 ⟨some 23, some (22, true), .mv (.t 3), []⟩,
 ⟨some 24, some (22, true), .bin .neq (.t 23) (.c (.int .i64 3)), []⟩,
 ⟨some 25, some (19, false), .pick (.t 22) (.t 24) (.c (.bool false)), []⟩,
 ⟨some 26, none, .pick (.t 19) (.c (.bool true)) (.t 25), []⟩])
 (.cond (.t 26)
 (.seq
 (.ops 2 [⟨some 8, none, .mv (.c (.nilp)), []⟩,
 ⟨some 9, none, .mv (.c (.int .i64 2)), []⟩])
 .ret)
 .skip))
 (.seq
 (.ops 3 [⟨some 27, none, .ld 2 true (.t 4), []⟩,
 ⟨some 28, none, .mv (.t 1), []⟩,
 ⟨some 29, none, .mv (.t 2), []⟩,
 ⟨some 30, none, .mv (.t 3), []⟩,
 ⟨some 31, none, .call 100 [.t 27, .t 28, .t 29, .t 30], []⟩,
 ⟨some 32, none, .build [.int .i64 0, .int .i64 0, .int .i64 0, .str [], .int .i64 0, .int .i64 0, .int .i64 0, .int .i64 0, .nili, .nilp, .int .i64 0, .int .u64 0, .int .u64 0, .int .u64 0, .int .u64 0, .int .u64 0, .int .u64 0, .int .u64 0, .int .u64 0, .int .u64 0, .int .u64 0, .int .u64 0, .int .u64 0, .int .u64 0, .int .u64 0, .int .u64 0, .int .u64 0, .int .u64 0, .int .u64 0, .int .u64 0, .int .u64 0, .int .u64 0, .int .u64 0, .int .u64 0, .int .u64 0, .int .u64 0, .int .u64 0, .int .u64 0, .int .u64 0, .int .u64 0, .int .u64 0, .int .u64 0, .int .u64 0, .int .u64 0, .int .u64 0, .int .u64 0, .int .u64 0, .int .u64 0, .int .u64 0, .int .u64 0, .int .u64 0, .int .u64 0, .int .u64 0, .int .u64 0, .int .u64 0, .int .u64 0, .int .u64 0, .int .u64 0, .int .u64 0, .int .u64 0, .int .u64 0, .int .u64 0, .int .u64 0, .int .u64 0, .int .u64 0, .int .u64 0, .int .u64 0, .int .u64 0, .int .u64 0, .int .u64 0, .int .u64 0, .int .u64 0, .int .u64 0, .int .u64 0, .int .u64 0, .int .u64 0, .int .u64 0, .int .u64 0, .int .u64 0, .int .u64 0, .int .u64 0, .int .u64 0, .int .u64 0, .int .u64 0, .int .u64 0, .int .u64 0, .int .u64 0, .int .u64 0, .int .u64 0, .int .u64 0, .int .u64 0, .int .u64 0, .int .u64 0, .int .u64 0, .int .u64 0, .int .u64 0, .int .u64 0, .int .u64 0, .int .u64 0, .int .u64 0, .int .u64 0, .int .u64 0, .int .u64 0, .int .u64 0, .int .u64 0, .int .u64 0, .int .u64 0, .int .u64 0, .int .u64 0, .int .u64 0, .int .u64 0, .int .u64 0, .int .u64 0, .int .u64 0, .int .u64 0, .int .u64 0, .int .u64 0, .int .u64 0, .int .u64 0, .int .u64 0, .int .u64 0, .int .u64 0, .int .u64 0, .int .u64 0, .int .u64 0, .int .u64 0, .int .u64 0, .int .u64 0, .int .u64 0, .int .u64 0, .int .u64 0, .int .u64 0, .int .u64 0, .int .u64 0, .int .u64 0, .int .u64 0, .int .u64 0, .int .u64 0, .int .u64 0, .int .u64 0] [(0, 140, (.t 31))], []⟩,
 ⟨some 33, none, .box 140 (.t 32) true, []⟩,
 ⟨some 8, none, .mv (.t 33), []⟩,
 ⟨some 9, none, .mv (.c (.int .i64 0)), []⟩])
 .ret)))⟩
theorem F50_code : cfgA.code 50 = some F50 := by kernel_rfl

/-- ticketline/ticketlinelaw28.run: the round 0 -/
noncomputable def B51x0 : AC := (.seq
 (.seq
 (.ops 2 [⟨some 11, none, .mv (.t 8), []⟩,
 ⟨some 12, none, .mv (.t 2), []⟩,
 ⟨some 13, none, .bin .lss (.t 11) (.t 12), []⟩,
 ⟨some 14, none, .mv (.t 13), []⟩,
 ⟨some 15, some (14, true), .mv (.t 0), []⟩,
 ⟨some 16, some (14, true), .invk (.t 15) "Done" [], []⟩,
 ⟨some 17, some (14, true), .un .not (.t 16), []⟩,
 ⟨some 18, none, .pick (.t 14) (.t 17) (.c (.bool false)), []⟩])
 (.cond (.t 18)
 .skip
 (.exit 0)))
 (.seq
 (.block 1
 (.seq
 (.ops 4 [⟨some 22, none, .mv (.t 0), []⟩,
 ⟨some 23, none, .mv (.t 1), []⟩,
 ⟨some 24, none, .call 101 [.t 22, .t 23], []⟩,
 ⟨some 21, none, .mv (.t 24), []⟩,
 ⟨some 25, none, .ext (.t 21) 0, []⟩,
 ⟨some 26, none, .ext (.t 21) 1, []⟩,
 ⟨some 9, none, .mv (.t 25), []⟩,
 ⟨some 10, none, .mv (.t 26), []⟩])
 (.seq
 (.seq
 (.ops 5 [⟨some 27, none, .mv (.t 10), []⟩])
 (.cond (.t 27)
 (.seq
 (.ops 6 [⟨some 6, none, .mv (.c (.bool false)), []⟩,
 ⟨some 7, none, .mv (.c (.bool false)), []⟩])
 .ret)
 .skip))
 (.ops 7 [⟨some 28, none, .mv (.t 9), []⟩,
 ⟨some 7, none, .mv (.t 28), []⟩]))))
 (.ops 3 [⟨some 19, none, .mv (.t 8), []⟩,
 ⟨some 20, none, .bin .add (.t 19) (.c (.int .i64 1)), []⟩,
 ⟨some 8, none, .mv (.t 20), []⟩])))
/-- ticketline/ticketlinelaw28.run -/
noncomputable def F51 : AFn := ⟨32, [.tmp 6, .tmp 7], (.seq
 (.ops 0 [⟨some 6, none, .mv (.c (.bool false)), []⟩,
 ⟨some 7, none, .mv (.c (.bool false)), []⟩])
 (.seq
 (.seq
 (.ops 1 [⟨some 8, none, .mv (.c (.int .i64 0)), []⟩])
 (.block 0
 (.loop [] B51x0)))
 (.seq
 (.ops 8 [⟨some 29, none, .mv (.t 0), []⟩,
 ⟨some 30, none, .invk (.t 29) "Done" [], []⟩,
 ⟨some 31, none, .mv (.t 7), []⟩,
 ⟨some 6, none, .mv (.t 30), []⟩,
 ⟨some 7, none, .mv (.t 31), []⟩])
 .ret)))⟩
theorem F51_code : cfgA.code 51 = some F51 := by kernel_rfl

/-- ticketline/ticketlinelaw28.seen -/
noncomputable def F52 : AFn := ⟨46, [.cell 6 6 true, .tmp 7], (.seq
 (.ops 0 [⟨some 3, none, .box 2 (.t 0) false, []⟩,
 ⟨some 6, none, .alloc [.nils, .int .i64 0, .int .i64 0, .int .i64 0, .int .i64 0, .nils] false, []⟩,
 ⟨some 7, none, .mv (.c (.bool false)), []⟩])
 (.seq
 (.ops 1 [⟨some 14, none, .ld 2 true (.t 3), []⟩,
 ⟨some 15, none, .call 102 [.t 14], []⟩,
 ⟨some 13, none, .mv (.t 15), []⟩,
 ⟨some 16, none, .ext (.t 13) 0, []⟩,
 ⟨some 17, none, .ext (.t 13) 1, []⟩,
 ⟨some 8, none, .mv (.t 16), []⟩,
 ⟨some 9, none, .mv (.t 17), []⟩])
 (.seq
 (.ops 2 [⟨some 19, none, .ld 2 true (.t 3), []⟩,
 ⟨some 20, none, .mv (.t 2), []⟩,
 ⟨some 21, none, .call 103 [.t 19, .t 20], []⟩,
 ⟨some 18, none, .mv (.t 21), []⟩,
 ⟨some 22, none, .ext (.t 18) 0, []⟩,
 ⟨some 23, none, .ext (.t 18) 1, []⟩,
 ⟨some 10, none, .mv (.t 22), []⟩,
 ⟨some 11, none, .mv (.t 23), []⟩])
 (.seq
 (.seq
 (.ops 3 [⟨some 24, none, .mv (.t 8), []⟩,
 ⟨some 25, none, .eqn .ptr false (.t 24), []⟩,
 ⟨some 26, none, .mv (.t 25), []⟩,
 ⟨some 27, some (26, false), .mv (.t 9), []⟩,
 ⟨some 28, some (26, false), .bin .neq (.t 27) (.c (.int .i64 0)), []⟩,
 ⟨some 29, none, .pick (.t 26) (.c (.bool true)) (.t 28), []⟩,
 ⟨some 30, none, .mv (.t 29), []⟩,
 ⟨some 31, some (30, false), .mv (.t 11), []⟩,
 ⟨some 32, some (30, false), .bin .neq (.t 31) (.c (.int .i64 0)), []⟩,
 ⟨some 33, none, .pick (.t 30) (.c (.bool true)) (.t 32), []⟩])
 (.cond (.t 33)
 (.seq
 (.ops 4 [⟨some 34, none, .build [.nils, .int .i64 0, .int .i64 0, .int .i64 0, .int .i64 0, .nils] [], []⟩,
 ⟨none, none, .st 6 (.t 6) (.t 34), []⟩,
 ⟨some 7, none, .mv (.c (.bool false)), []⟩])
 .ret)
 .skip))
 (.seq
 (.ops 5 [⟨some 36, none, .mv (.t 1), []⟩,
 ⟨some 37, none, .mki 22 (.t 36), []⟩,
 ⟨some 38, none, .mv (.t 8), []⟩,
 ⟨some 39, none, .mv (.t 10), []⟩,
 ⟨some 40, none, .call 104 [.t 37, .t 38, .t 39], []⟩,
 ⟨some 35, none, .mv (.t 40), []⟩,
 ⟨some 41, none, .ext (.t 35) 0, []⟩,
 ⟨some 42, none, .ext (.t 35) 1, []⟩,
 ⟨some 12, none, .alloc [.nils, .int .i64 0, .int .i64 0, .int .i64 0, .int .i64 0, .nils] false, []⟩,
 ⟨none, none, .st 6 (.t 12) (.t 41), []⟩,
 ⟨some 9, none, .mv (.t 42), []⟩])
 (.seq
 (.ops 6 [⟨some 43, none, .ld 6 true (.t 12), []⟩,
 ⟨some 44, none, .mv (.t 9), []⟩,
 ⟨some 45, none, .bin .eql (.t 44) (.c (.int .i64 0)), []⟩,
 ⟨none, none, .st 6 (.t 6) (.t 43), []⟩,
 ⟨some 7, none, .mv (.t 45), []⟩])
 .ret))))))⟩
theorem F52_code : cfgA.code 52 = some F52 := by kernel_rfl

/-- ticketline/ticketlinelaw28.gives -/
noncomputable def F53 : AFn := ⟨19, [.tmp 6], (.seq
 (.ops 0 [⟨some 3, none, .box 2 (.t 0) false, []⟩,
 ⟨some 6, none, .mv (.c (.nili)), []⟩])
 (.seq
 (.ops 1 [⟨some 10, none, .ld 2 true (.t 3), []⟩,
 ⟨some 11, none, .mv (.t 1), []⟩,
 ⟨some 12, none, .mv (.t 2), []⟩,
 ⟨some 13, none, .call 56 [.t 10, .t 11, .t 12], []⟩,
 ⟨some 9, none, .mv (.t 13), []⟩,
 ⟨some 14, none, .ext (.t 9) 0, []⟩,
 ⟨some 15, none, .ext (.t 9) 1, []⟩,
 ⟨some 7, none, .mv (.t 14), []⟩,
 ⟨some 8, none, .mv (.t 15), []⟩])
 (.seq
 (.seq
 (.ops 2 [⟨some 16, none, .mv (.t 8), []⟩,
 ⟨some 17, none, .bin .neq (.t 16) (.c (.int .i64 0)), []⟩])
 (.cond (.t 17)
 (.seq
 (.ops 3 [⟨some 6, none, .mv (.c (.nili)), []⟩])
 .ret)
 .skip))
 (.seq
 (.ops 4 [⟨some 18, none, .mv (.t 7), []⟩,
 ⟨some 6, none, .mv (.t 18), []⟩])
 .ret))))⟩
theorem F53_code : cfgA.code 53 = some F53 := by kernel_rfl

/-- ticketline/couple.NewWalk -/
noncomputable def F54 : AFn := ⟨47, [.tmp 10, .tmp 11], (.seq
 (.ops 0 [⟨some 5, none, .box 2 (.t 0) false, []⟩,
 ⟨some 10, none, .mv (.c (.nilp)), []⟩,
 ⟨some 11, none, .mv (.c (.int .i64 0)), []⟩])
 (.seq
 (.seq
 (.ops 1 [⟨some 13, none, .ld 2 true (.t 5), []⟩,
 ⟨some 14, none, .mv (.t 1), []⟩,
 ⟨some 15, none, .call 98 [.t 13, .t 14, .c (.int .i64 0)], []⟩,
 ⟨some 16, none, .un .not (.t 15), []⟩,
 ⟨some 17, none, .mv (.t 16), []⟩,
 ⟨some 18, some (17, false), .mv (.t 2), []⟩,
 ⟨some 19, some (17, false), .len .string (.t 18), []⟩,
 ⟨some 20, some (17, false), .bin .gtr (.t 19) (.c (.int .i64 24)), []⟩,
 ⟨some 21, none, .pick (.t 17) (.c (.bool true)) (.t 20), []⟩,
 ⟨some 22, none, .mv (.t 21), []⟩,
 ⟨some 23, some (22, false), .mv (.t 3), []⟩,
 ⟨some 24, some (22, false), .len .string (.t 23), []⟩,
 ⟨some 25, some (22, false), .bin .gtr (.t 24) (.c (.int .i64 24)), []⟩,
 ⟨some 26, none, .pick (.t 22) (.c (.bool true)) (.t 25), []⟩,
 ⟨some 27, none, .mv (.t 26), []⟩,
 ⟨some 28, some (27, false), .mv (.t 4), []⟩,
 ⟨some 29, some (27, false), .bin .lss (.t 28) (.c (.int .i64 1)), []⟩,
 ⟨some 30, none, .pick (.t 27) (.c (.bool true)) (.t 29), []⟩,
 ⟨some 31, none, .mv (.t 30), []⟩,
 ⟨some 32, some (31, false), .mv (.t 4), []⟩,
 ⟨some 33, some (31, false), .bin .gtr (.t 32) (.c (.int .i64 32)), []⟩,
 ⟨some 34, none, .pick (.t 31) (.c (.bool true)) (.t 33), []⟩])
 (.cond (.t 34)
 (.seq
 (.ops 2 [⟨some 10, none, .mv (.c (.nilp)), []⟩,
 ⟨some 11, none, .mv (.c (.int .i64 2)), []⟩])
 .ret)
 .skip))
 (.seq
 (.ops 3 [⟨some 35, none, .mv (.t 2), []⟩,
 ⟨some 12, none, .mv (.t 35), []⟩])
 (.seq
 (.seq
 (.ops 4 [⟨some 36, none, .mv (.t 12), []⟩,
 ⟨some 37, none, .bin .eql (.t 36) (.c (.str [])), []⟩])
 (.cond (.t 37)
 (.ops 5 [⟨some 12, none, .mv (.c (.str [0])), []⟩])
 .skip))
 (.seq
 (.ops 6 [⟨some 38, none, .ld 2 true (.t 5), []⟩,
 ⟨some 39, none, .mv (.t 1), []⟩,
 ⟨some 40, none, .mv (.t 12), []⟩,
 ⟨some 41, none, .call 100 [.t 38, .t 39, .t 40, .c (.int .i64 1)], []⟩,
 ⟨some 42, none, .mv (.t 2), []⟩,
 ⟨some 43, none, .mv (.t 3), []⟩,
 ⟨some 44, none, .mv (.t 4), []⟩,
 ⟨some 45, none, .build [.int .i64 0, .int .i64 0, .int .i64 0, .str [], .int .i64 0, .int .i64 0, .int .i64 0, .int .i64 0, .nili, .nilp, .int .i64 0, .int .u64 0, .int .u64 0, .int .u64 0, .int .u64 0, .int .u64 0, .int .u64 0, .int .u64 0, .int .u64 0, .int .u64 0, .int .u64 0, .int .u64 0, .int .u64 0, .int .u64 0, .int .u64 0, .int .u64 0, .int .u64 0, .int .u64 0, .int .u64 0, .int .u64 0, .int .u64 0, .int .u64 0, .int .u64 0, .int .u64 0, .int .u64 0, .int .u64 0, .int .u64 0, .int .u64 0, .int .u64 0, .int .u64 0, .int .u64 0, .int .u64 0, .int .u64 0, .int .u64 0, .int .u64 0, .int .u64 0, .int .u64 0, .int .u64 0, .int .u64 0, .int .u64 0, .int .u64 0, .int .u64 0, .int .u64 0, .int .u64 0, .int .u64 0, .int .u64 0, .int .u64 0, .int .u64 0, .int .u64 0, .int .u64 0, .int .u64 0, .int .u64 0, .int .u64 0, .int .u64 0, .int .u64 0, .int .u64 0, .int .u64 0, .int .u64 0, .int .u64 0, .int .u64 0, .int .u64 0, .int .u64 0, .int .u64 0, .int .u64 0, .int .u64 0, .int .u64 0, .int .u64 0, .int .u64 0, .int .u64 0, .int .u64 0, .int .u64 0, .int .u64 0, .int .u64 0, .int .u64 0, .int .u64 0, .int .u64 0, .int .u64 0, .int .u64 0, .int .u64 0, .int .u64 0, .int .u64 0, .int .u64 0, .int .u64 0, .int .u64 0, .int .u64 0, .int .u64 0, .int .u64 0, .int .u64 0, .int .u64 0, .int .u64 0, .int .u64 0, .int .u64 0, .int .u64 0, .int .u64 0, .int .u64 0, .int .u64 0, .int .u64 0, .int .u64 0, .int .u64 0, .int .u64 0, .int .u64 0, .int .u64 0, .int .u64 0, .int .u64 0, .int .u64 0, .int .u64 0, .int .u64 0, .int .u64 0, .int .u64 0, .int .u64 0, .int .u64 0, .int .u64 0, .int .u64 0, .int .u64 0, .int .u64 0, .int .u64 0, .int .u64 0, .int .u64 0, .int .u64 0, .int .u64 0, .int .u64 0, .int .u64 0, .int .u64 0, .int .u64 0, .int .u64 0, .int .u64 0, .int .u64 0, .int .u64 0, .int .u64 0, .int .u64 0, .str [], .str [], .int .i64 0, .nils, .nils] [(0, 140, (.t 41)), (140, 1, (.t 42)), (141, 1, (.t 43)), (142, 1, (.t 44))], []⟩,
 ⟨some 46, none, .box 145 (.t 45) true, []⟩,
 ⟨some 10, none, .mv (.t 46), []⟩,
 ⟨some 11, none, .mv (.c (.int .i64 0)), []⟩])
 .ret)))))⟩
theorem F54_code : cfgA.code 54 = some F54 := by kernel_rfl

/-- ticketline/couple.NewLook -/
noncomputable def F55 : AFn := ⟨25, [.tmp 4, .tmp 5], (.seq
 (.ops 0 [⟨some 2, none, .box 2 (.t 0) false, []⟩,
 ⟨some 4, none, .mv (.c (.nilp)), []⟩,
 ⟨some 5, none, .mv (.c (.int .i64 0)), []⟩])
 (.seq
 (.ops 1 [⟨some 9, none, .ld 2 true (.t 2), []⟩,
 ⟨some 10, none, .mv (.t 1), []⟩,
 ⟨some 11, none, .call 103 [.t 9, .t 10], []⟩,
 ⟨some 8, none, .mv (.t 11), []⟩,
 ⟨some 12, none, .ext (.t 8) 0, []⟩,
 ⟨some 13, none, .ext (.t 8) 1, []⟩,
 ⟨some 6, none, .mv (.t 12), []⟩,
 ⟨some 7, none, .mv (.t 13), []⟩])
 (.seq
 (.seq
 (.ops 2 [⟨some 14, none, .mv (.t 7), []⟩,
 ⟨some 15, none, .bin .neq (.t 14) (.c (.int .i64 0)), []⟩,
 ⟨some 16, none, .mv (.t 15), []⟩,
 ⟨some 17, some (16, false), .mv (.t 1), []⟩,
 ⟨some 18, some (16, false), .bin .eql (.t 17) (.c (.int .i64 0)), []⟩,
 ⟨some 19, none, .pick (.t 16) (.c (.bool true)) (.t 18), []⟩])
 (.cond (.t 19)
 (.seq
 (.ops 3 [⟨some 4, none, .mv (.c (.nilp)), []⟩,
 ⟨some 5, none, .mv (.c (.int .i64 2)), []⟩])
 .ret)
 .skip))
 (.seq
 (.ops 4 [⟨some 20, none, .mv (.t 6), []⟩,
 ⟨some 21, none, .mv (.t 1), []⟩,
 ⟨some 22, none, .build [.int .i64 0, .int .u64 0, .int .u64 0, .int .u64 0, .int .u64 0, .int .u64 0, .int .u64 0, .int .u64 0, .int .u64 0, .int .u64 0, .int .u64 0, .int .u64 0, .int .u64 0, .int .u64 0, .int .u64 0, .int .u64 0, .int .u64 0, .int .u64 0, .int .u64 0, .int .u64 0, .int .u64 0, .int .u64 0, .int .u64 0, .int .u64 0, .int .u64 0, .int .u64 0, .int .u64 0, .int .u64 0, .int .u64 0, .int .u64 0, .int .u64 0, .int .u64 0, .int .u64 0, .int .u64 0, .int .u64 0, .int .u64 0, .int .u64 0, .int .u64 0, .int .u64 0, .int .u64 0, .int .u64 0, .int .u64 0, .int .u64 0, .int .u64 0, .int .u64 0, .int .u64 0, .int .u64 0, .int .u64 0, .int .u64 0, .int .u64 0, .int .u64 0, .int .u64 0, .int .u64 0, .int .u64 0, .int .u64 0, .int .u64 0, .int .u64 0, .int .u64 0, .int .u64 0, .int .u64 0, .int .u64 0, .int .u64 0, .int .u64 0, .int .u64 0, .int .u64 0, .int .u64 0, .int .u64 0, .int .u64 0, .int .u64 0, .int .u64 0, .int .u64 0, .int .u64 0, .int .u64 0, .int .u64 0, .int .u64 0, .int .u64 0, .int .u64 0, .int .u64 0, .int .u64 0, .int .u64 0, .int .u64 0, .int .u64 0, .int .u64 0, .int .u64 0, .int .u64 0, .int .u64 0, .int .u64 0, .int .u64 0, .int .u64 0, .int .u64 0, .int .u64 0, .int .u64 0, .int .u64 0, .int .u64 0, .int .u64 0, .int .u64 0, .int .u64 0, .int .u64 0, .int .u64 0, .int .u64 0, .int .u64 0, .int .u64 0, .int .u64 0, .int .u64 0, .int .u64 0, .int .u64 0, .int .u64 0, .int .u64 0, .int .u64 0, .int .u64 0, .int .u64 0, .int .u64 0, .int .u64 0, .int .u64 0, .int .u64 0, .int .u64 0, .int .u64 0, .int .u64 0, .int .u64 0, .int .u64 0, .int .u64 0, .int .u64 0, .int .u64 0, .int .u64 0, .int .u64 0, .int .u64 0, .int .u64 0, .int .u64 0, .int .u64 0, .int .u64 0] [(0, 1, (.t 21))], []⟩,
 ⟨some 23, none, .build [.int .i64 0, .int .i64 0, .int .i64 0, .int .u64 0, .int .u64 0, .int .u64 0, .int .u64 0, .int .u64 0, .int .u64 0, .int .u64 0, .int .u64 0, .int .u64 0, .int .u64 0, .int .u64 0, .int .u64 0, .int .u64 0, .int .u64 0, .int .u64 0, .int .u64 0, .int .u64 0, .int .u64 0, .int .u64 0, .int .u64 0, .int .u64 0, .int .u64 0, .int .u64 0, .int .u64 0, .int .u64 0, .int .u64 0, .int .u64 0, .int .u64 0, .int .u64 0, .int .u64 0, .int .u64 0, .int .u64 0, .int .u64 0, .int .u64 0, .int .u64 0, .int .u64 0, .int .u64 0, .int .u64 0, .int .u64 0, .int .u64 0, .int .u64 0, .int .u64 0, .int .u64 0, .int .u64 0, .int .u64 0, .int .u64 0, .int .u64 0, .int .u64 0, .int .u64 0, .int .u64 0, .int .u64 0, .int .u64 0, .int .u64 0, .int .u64 0, .int .u64 0, .int .u64 0, .int .u64 0, .int .u64 0, .int .u64 0, .int .u64 0, .int .u64 0, .int .u64 0, .int .u64 0, .int .u64 0, .int .u64 0, .int .u64 0, .int .u64 0, .int .u64 0, .int .u64 0, .int .u64 0, .int .u64 0, .int .u64 0, .int .u64 0, .int .u64 0, .int .u64 0, .int .u64 0, .int .u64 0, .int .u64 0, .int .u64 0, .int .u64 0, .int .u64 0, .int .u64 0, .int .u64 0, .int .u64 0, .int .u64 0, .int .u64 0, .int .u64 0, .int .u64 0, .int .u64 0, .int .u64 0, .int .u64 0, .int .u64 0, .int .u64 0, .int .u64 0, .int .u64 0, .int .u64 0, .int .u64 0, .int .u64 0, .int .u64 0, .int .u64 0, .int .u64 0, .int .u64 0, .int .u64 0, .int .u64 0, .int .u64 0, .int .u64 0, .int .u64 0, .int .u64 0, .int .u64 0, .int .u64 0, .int .u64 0, .int .u64 0, .int .u64 0, .int .u64 0, .int .u64 0, .int .u64 0, .int .u64 0, .int .u64 0, .int .u64 0, .int .u64 0, .int .u64 0, .int .u64 0, .int .u64 0, .int .u64 0, .int .u64 0, .int .u64 0, .int .u64 0, .int .u64 0, .int .u64 0] [(0, 1, (.t 20)), (1, 1, (.c (.int .i64 8))), (2, 130, (.t 22))], []⟩,
 ⟨some 24, none, .box 132 (.t 23) true, []⟩,
 ⟨some 4, none, .mv (.t 24), []⟩,
 ⟨some 5, none, .mv (.c (.int .i64 0)), []⟩])
 .ret))))⟩
theorem F55_code : cfgA.code 55 = some F55 := by kernel_rfl

/-- ticketline/couple.NewRelease: the round 0 -/
noncomputable def B56x0 : AC := (.seq
 (.ops 3 [⟨some 14, none, .bin .lss (.t 13) (.t 12), []⟩])
 (.seq
 (.cond (.t 14)
 .skip
 (.exit 0))
 (.seq
 (.block 1
 (.seq
 (.ops 4 [⟨some 15, none, .ixa none 1 (.t 11) (.t 13), []⟩,
 ⟨some 16, none, .ld 1 false (.t 15), []⟩,
 ⟨some 10, none, .mv (.t 16), []⟩])
 (.seq
 (.seq
 (.ops 5 [⟨some 17, none, .ld 2 true (.t 3), []⟩,
 ⟨some 18, none, .mv (.t 1), []⟩,
 ⟨some 19, none, .mv (.t 10), []⟩,
 ⟨some 20, none, .call 98 [.t 17, .t 18, .t 19], []⟩,
 ⟨some 21, none, .un .not (.t 20), []⟩])
 (.cond (.t 21)
 (.seq
 (.ops 6 [⟨some 6, none, .mv (.c (.nili)), []⟩,
 ⟨some 7, none, .mv (.c (.int .i64 2)), []⟩])
 .ret)
 .skip))
 (.ops 7 [⟨some 22, none, .mv (.t 8), []⟩,
 ⟨some 23, none, .ld 2 true (.t 3), []⟩,
 ⟨some 24, none, .mv (.t 1), []⟩,
 ⟨some 25, none, .mv (.t 10), []⟩,
 ⟨some 26, none, .call 85 [.t 23, .t 24, .t 25], []⟩,
 ⟨some 27, none, .bslice [.nili] 1 1 [(0, (.t 26))] true false, []⟩,
 ⟨some 28, none, .app 1 16 (.t 22) (.t 27) false, []⟩,
 ⟨some 8, none, .mv (.t 28), []⟩]))))
 (.ops 8 [⟨some 29, none, .bin .add (.t 13) (.c (.int .i64 1)), []⟩,
 ⟨some 13, none, .mv (.t 29), []⟩]))))
/-- ticketline/couple.NewRelease -/
noncomputable def F56 : AFn := ⟨37, [.tmp 6, .tmp 7], (.seq
 (.ops 0 [⟨some 3, none, .box 2 (.t 0) false, []⟩,
 ⟨some 6, none, .mv (.c (.nili)), []⟩,
 ⟨some 7, none, .mv (.c (.int .i64 0)), []⟩])
 (.seq
 (.ops 1 [⟨some 8, none, .mv (.c (.nils)), []⟩])
 (.seq
 (.seq
 (.ops 2 [⟨some 11, none, .mv (.t 2), []⟩,
 ⟨some 12, none, .len .slice (.t 11), []⟩,
 ⟨some 13, none, .mv (.c (.int .i64 0)), []⟩])
 (.block 0
 (.loop [] B56x0)))
 (.seq
 (.seq
 (.ops 9 [⟨some 30, none, .mv (.t 8), []⟩,
 ⟨some 31, none, .len .slice (.t 30), []⟩,
 ⟨some 32, none, .bin .eql (.t 31) (.c (.int .i64 0)), []⟩])
 (.cond (.t 32)
 (.seq
 (.ops 10 [⟨some 6, none, .mv (.c (.nili)), []⟩,
 ⟨some 7, none, .mv (.c (.int .i64 2)), []⟩])
 .ret)
 .skip))
 (.seq
 (.ops 11 [⟨some 33, none, .mv (.t 8), []⟩,
 ⟨some 34, none, .call 105 [.t 33], []⟩,
 ⟨some 35, none, .ext (.t 34) 0, []⟩,
 ⟨some 36, none, .ext (.t 34) 1, []⟩,
 ⟨some 6, none, .mv (.t 35), []⟩,
 ⟨some 7, none, .mv (.t 36), []⟩])
 .ret)))))⟩
theorem F56_code : cfgA.code 56 = some F56 := by kernel_rfl

/-- ticketline/arena.Word -/
noncomputable def F59 : AFn := ⟨23, [.tmp 4, .tmp 5], (.seq
 (.ops 0 [⟨some 4, none, .mv (.c (.int .i64 0)), []⟩,
 ⟨some 5, none, .mv (.c (.int .i64 0)), []⟩])
 (.seq
 (.seq
 (.ops 1 [⟨some 6, none, .mv (.t 0), []⟩,
 ⟨some 7, none, .bin .lss (.t 6) (.c (.int .i64 1)), []⟩,
 ⟨some 8, none, .mv (.t 7), []⟩,
 ⟨some 9, some (8, false), .mv (.t 0), []⟩,
 ⟨some 10, some (8, false), .bin .gtr (.t 9) (.c (.int .i64 511)), []⟩,
 ⟨some 11, none, .pick (.t 8) (.c (.bool true)) (.t 10), []⟩,
 ⟨some 12, none, .mv (.t 11), []⟩,
 ⟨some 13, some (12, false), .mv (.t 1), []⟩,
 ⟨some 14, some (12, false), .bin .lss (.t 13) (.c (.int .i64 0)), []⟩,
 ⟨some 15, none, .pick (.t 12) (.c (.bool true)) (.t 14), []⟩,
 ⟨some 16, none, .mv (.t 15), []⟩,
 ⟨some 17, some (16, false), .mv (.t 1), []⟩,
 ⟨some 18, some (16, false), .bin .geq (.t 17) (.c (.int .i64 128)), []⟩,
 ⟨some 19, none, .pick (.t 16) (.c (.bool true)) (.t 18), []⟩])
 (.cond (.t 19)
 (.seq
 (.ops 2 [⟨some 4, none, .mv (.c (.int .i64 0)), []⟩,
 ⟨some 5, none, .mv (.c (.int .i64 3)), []⟩])
 .ret)
 .skip))
 (.seq
 (.ops 3 [⟨some 20, none, .mv (.t 0), []⟩,
 ⟨some 21, none, .mv (.t 1), []⟩,
 ⟨some 22, none, .call 106 [.t 20, .t 21], []⟩,
 ⟨some 4, none, .mv (.t 22), []⟩,
 ⟨some 5, none, .mv (.c (.int .i64 0)), []⟩])
 .ret)))⟩
theorem F59_code : cfgA.code 59 = some F59 := by kernel_rfl

/-- ticketline/slot.Level -/
noncomputable def F77 : AFn := ⟨10, [.tmp 2], (.seq
 (.ops 0 [⟨some 1, none, .box 128 (.t 0) false, []⟩,
 ⟨some 2, none, .mv (.c (.int .i64 0)), []⟩])
 (.seq
 (.seq
 (.ops 1 [⟨some 3, none, .ld 128 true (.t 1), []⟩,
 ⟨some 4, none, .call 133 [.t 3], []⟩,
 ⟨some 5, none, .un .not (.t 4), []⟩])
 (.cond (.t 5)
 (.seq
 (.ops 2 [⟨some 2, none, .mv (.c (.int .i64 (-1))), []⟩])
 .ret)
 .skip))
 (.seq
 (.ops 3 [⟨some 6, none, .ixa (some 128) 1 (.t 1) (.c (.int .i64 8)), []⟩,
 ⟨some 7, none, .ld 1 false (.t 6), []⟩,
 ⟨some 8, none, .cvi .i64 (.t 7), []⟩,
 ⟨some 9, none, .bin .sub (.t 8) (.c (.int .i64 1)), []⟩,
 ⟨some 2, none, .mv (.t 9), []⟩])
 .ret)))⟩
theorem F77_code : cfgA.code 77 = some F77 := by kernel_rfl

/-- (*ticketline/couple.path).root -/
noncomputable def F83 : AFn := ⟨31, [.tmp 4], (.seq
 (.ops 0 [⟨some 4, none, .mv (.c (.int .i64 0)), []⟩])
 (.seq
 (.ops 1 [⟨some 8, none, .mv (.t 1), []⟩,
 ⟨some 9, none, .invk (.t 8) "Load" [.c (.int .i64 3)], []⟩,
 ⟨some 7, none, .mv (.t 9), []⟩,
 ⟨some 10, none, .ext (.t 7) 0, []⟩,
 ⟨some 11, none, .ext (.t 7) 1, []⟩,
 ⟨some 5, none, .mv (.t 10), []⟩,
 ⟨some 6, none, .mv (.t 11), []⟩])
 (.seq
 (.seq
 (.ops 2 [⟨some 12, none, .mv (.t 6), []⟩,
 ⟨some 13, none, .bin .neq (.t 12) (.c (.int .i64 0)), []⟩])
 (.cond (.t 13)
 (.seq
 (.ops 3 [⟨some 14, none, .mv (.t 6), []⟩,
 ⟨some 4, none, .mv (.t 14), []⟩])
 .ret)
 .skip))
 (.seq
 (.seq
 (.ops 4 [⟨some 15, none, .mv (.t 5), []⟩,
 ⟨some 16, none, .bin .lss (.t 15) (.c (.int .u64 1)), []⟩,
 ⟨some 17, none, .mv (.t 16), []⟩,
 ⟨some 18, some (17, false), .mv (.t 5), []⟩,
 ⟨some 19, some (17, false), .mv (.t 0), []⟩,
 ⟨some 20, some (17, false), .nilc (.t 19) (mok Tryz.prog), []⟩,
 ⟨some 21, some (17, false), .fld 0 (.t 20), []⟩,
 ⟨some 22, some (17, false), .fld 0 (.t 21), []⟩,
 ⟨some 23, some (17, false), .ld 1 false (.t 22), []⟩,
 ⟨some 24, some (17, false), .cvi .u64 (.t 23), []⟩,
 ⟨some 25, some (17, false), .bin .gtr (.t 18) (.t 24), []⟩,
 ⟨some 26, none, .pick (.t 17) (.c (.bool true)) (.t 25), []⟩])
 (.cond (.t 26)
 (.seq
 (.ops 5 [⟨some 4, none, .mv (.c (.int .i64 12)), []⟩])
 .ret)
 .skip))
 (.seq
 (.ops 6 [⟨some 27, none, .mv (.t 0), []⟩,
 ⟨some 28, none, .mv (.t 5), []⟩,
 ⟨some 29, none, .cvi .i64 (.t 28), []⟩,
 ⟨some 30, none, .call 138 [.t 27, .t 29], []⟩])
 (.seq
 (.ops 7 [⟨some 4, none, .mv (.c (.int .i64 0)), []⟩])
 .ret))))))⟩
theorem F83_code : cfgA.code 83 = some F83 := by kernel_rfl

/-- (*ticketline/couple.path).below -/
noncomputable def F84 : AFn := ⟨42, [.tmp 2, .tmp 3], (.seq
 (.ops 0 [⟨some 2, none, .mv (.c (.bool false)), []⟩,
 ⟨some 3, none, .mv (.c (.int .i64 0)), []⟩])
 (.seq
 (.ops 1 [⟨some 7, none, .mv (.t 0), []⟩,
 ⟨some 8, none, .mv (.t 0), []⟩,
 ⟨some 9, none, .nilc (.t 8) (mok Tryz.prog), []⟩,
 ⟨some 10, none, .fld 9 (.t 9), []⟩,
 ⟨some 11, none, .ld 1 false (.t 10), []⟩,
 ⟨some 12, none, .call 20 [.t 11], []⟩,
 ⟨some 13, none, .nilc (.t 7) (mok Tryz.prog), []⟩,
 ⟨some 14, none, .fld 10 (.t 13), []⟩,
 ⟨none, none, .st 130 (.t 14) (.t 12), []⟩])
 (.seq
 (.seq
 (.ops 2 [⟨some 15, none, .mv (.t 0), []⟩,
 ⟨some 16, none, .nilc (.t 15) (mok Tryz.prog), []⟩,
 ⟨some 17, none, .fld 10 (.t 16), []⟩,
 ⟨some 18, none, .fld 1 (.t 17), []⟩,
 ⟨some 19, none, .ld 128 true (.t 18), []⟩,
 ⟨some 20, none, .call 77 [.t 19], []⟩,
 ⟨some 21, none, .bin .eql (.t 20) (.c (.int .i64 0)), []⟩])
 (.cond (.t 21)
 (.seq
 (.ops 3 [⟨some 2, none, .mv (.c (.bool true)), []⟩,
 ⟨some 3, none, .mv (.c (.int .i64 0)), []⟩])
 .ret)
 .skip))
 (.seq
 (.ops 4 [⟨some 23, none, .mv (.t 0), []⟩,
 ⟨some 24, none, .nilc (.t 23) (mok Tryz.prog), []⟩,
 ⟨some 25, none, .fld 10 (.t 24), []⟩,
 ⟨some 26, none, .fld 1 (.t 25), []⟩,
 ⟨some 27, none, .ld 128 true (.t 26), []⟩,
 ⟨some 28, none, .mv (.t 0), []⟩,
 ⟨some 29, none, .nilc (.t 28) (mok Tryz.prog), []⟩,
 ⟨some 30, none, .fld 3 (.t 29), []⟩,
 ⟨some 31, none, .ld 1 false (.t 30), []⟩,
 ⟨some 32, none, .call 139 [.t 27, .t 31], []⟩,
 ⟨some 22, none, .mv (.t 32), []⟩,
 ⟨some 33, none, .ext (.t 22) 0, []⟩,
 ⟨some 34, none, .ext (.t 22) 1, []⟩,
 ⟨some 35, none, .ext (.t 22) 2, []⟩,
 ⟨some 4, none, .mv (.t 33), []⟩,
 ⟨some 5, none, .mv (.t 34), []⟩,
 ⟨some 6, none, .mv (.t 35), []⟩])
 (.seq
 (.seq
 (.ops 5 [⟨some 36, none, .mv (.t 6), []⟩,
 ⟨some 37, none, .bin .neq (.t 36) (.c (.int .i64 0)), []⟩])
 (.cond (.t 37)
 (.seq
 (.ops 6 [⟨some 38, none, .mv (.t 6), []⟩,
 ⟨some 2, none, .mv (.c (.bool false)), []⟩,
 ⟨some 3, none, .mv (.t 38), []⟩])
 .ret)
 .skip))
 (.seq
 (.ops 7 [⟨some 39, none, .mv (.t 0), []⟩,
 ⟨some 40, none, .mv (.t 5), []⟩,
 ⟨some 41, none, .call 138 [.t 39, .t 40], []⟩])
 (.seq
 (.ops 8 [⟨some 2, none, .mv (.c (.bool false)), []⟩,
 ⟨some 3, none, .mv (.c (.int .i64 0)), []⟩])
 .ret)))))))⟩
theorem F84_code : cfgA.code 84 = some F84 := by kernel_rfl

/-- ticketline/couple.release -/
noncomputable def F85 : AFn := ⟨33, [.tmp 6], (.seq
 (.ops 0 [⟨some 3, none, .box 2 (.t 0) false, []⟩,
 ⟨some 6, none, .mv (.c (.nili)), []⟩])
 (.seq
 (.ops 1 [⟨some 14, none, .ld 2 true (.t 3), []⟩,
 ⟨some 15, none, .call 102 [.t 14], []⟩,
 ⟨some 13, none, .mv (.t 15), []⟩,
 ⟨some 16, none, .ext (.t 13) 0, []⟩,
 ⟨some 17, none, .ext (.t 13) 1, []⟩,
 ⟨some 7, none, .mv (.t 16), []⟩,
 ⟨some 8, none, .mv (.t 17), []⟩])
 (.seq
 (.ops 2 [⟨some 19, none, .ld 2 true (.t 3), []⟩,
 ⟨some 20, none, .mv (.t 2), []⟩,
 ⟨some 21, none, .call 103 [.t 19, .t 20], []⟩,
 ⟨some 18, none, .mv (.t 21), []⟩,
 ⟨some 22, none, .ext (.t 18) 0, []⟩,
 ⟨some 23, none, .ext (.t 18) 1, []⟩,
 ⟨some 9, none, .mv (.t 22), []⟩,
 ⟨some 10, none, .mv (.t 23), []⟩])
 (.seq
 (.ops 3 [⟨some 25, none, .mv (.t 7), []⟩,
 ⟨some 26, none, .mv (.t 9), []⟩,
 ⟨some 27, none, .mv (.t 1), []⟩,
 ⟨some 28, none, .call 140 [.t 25, .t 26, .t 27], []⟩,
 ⟨some 24, none, .mv (.t 28), []⟩,
 ⟨some 29, none, .ext (.t 24) 0, []⟩,
 ⟨some 30, none, .ext (.t 24) 1, []⟩,
 ⟨some 11, none, .mv (.t 29), []⟩,
 ⟨some 12, none, .mv (.t 30), []⟩])
 (.seq
 (.ops 4 [⟨some 31, none, .mv (.t 11), []⟩,
 ⟨some 32, none, .mki 186 (.t 31), []⟩,
 ⟨some 6, none, .mv (.t 32), []⟩])
 .ret)))))⟩
theorem F85_code : cfgA.code 85 = some F85 := by kernel_rfl

/-- ticketline/slot.Pairs -/
noncomputable def F87 : AFn := ⟨13, [.tmp 2, .tmp 3], (.seq
 (.ops 0 [⟨some 1, none, .box 128 (.t 0) false, []⟩,
 ⟨some 2, none, .mv (.c (.nils)), []⟩,
 ⟨some 3, none, .mv (.c (.int .i64 0)), []⟩])
 (.seq
 (.ops 1 [⟨some 7, none, .call 141 [.t 1], []⟩,
 ⟨some 6, none, .mv (.t 7), []⟩,
 ⟨some 8, none, .ext (.t 6) 0, []⟩,
 ⟨some 9, none, .ext (.t 6) 1, []⟩,
 ⟨some 4, none, .mv (.t 8), []⟩,
 ⟨some 5, none, .mv (.t 9), []⟩])
 (.seq
 (.seq
 (.ops 2 [⟨some 10, none, .mv (.t 5), []⟩,
 ⟨some 11, none, .un .not (.t 10), []⟩])
 (.cond (.t 11)
 (.seq
 (.ops 3 [⟨some 2, none, .mv (.c (.nils)), []⟩,
 ⟨some 3, none, .mv (.c (.int .i64 12)), []⟩])
 .ret)
 .skip))
 (.seq
 (.ops 4 [⟨some 12, none, .mv (.t 4), []⟩,
 ⟨some 2, none, .mv (.t 12), []⟩,
 ⟨some 3, none, .mv (.c (.int .i64 0)), []⟩])
 .ret))))⟩
theorem F87_code : cfgA.code 87 = some F87 := by kernel_rfl

/-- ticketline/slot.Fences -/
noncomputable def F88 : AFn := ⟨18, [.tmp 2, .tmp 3, .tmp 4], (.seq
 (.ops 0 [⟨some 1, none, .box 128 (.t 0) false, []⟩,
 ⟨some 2, none, .mv (.c (.str [])), []⟩,
 ⟨some 3, none, .mv (.c (.str [])), []⟩,
 ⟨some 4, none, .mv (.c (.int .i64 0)), []⟩])
 (.seq
 (.seq
 (.ops 1 [⟨some 5, none, .ld 128 true (.t 1), []⟩,
 ⟨some 6, none, .call 133 [.t 5], []⟩,
 ⟨some 7, none, .un .not (.t 6), []⟩])
 (.cond (.t 7)
 (.seq
 (.ops 2 [⟨some 2, none, .mv (.c (.str [])), []⟩,
 ⟨some 3, none, .mv (.c (.str [])), []⟩,
 ⟨some 4, none, .mv (.c (.int .i64 12)), []⟩])
 .ret)
 .skip))
 (.seq
 (.ops 3 [⟨some 9, none, .call 142 [.t 1, .c (.int .i64 12)], []⟩,
 ⟨some 8, none, .mv (.t 9), []⟩,
 ⟨some 10, none, .ext (.t 8) 0, []⟩,
 ⟨some 11, none, .ext (.t 8) 1, []⟩,
 ⟨some 2, none, .mv (.t 10), []⟩])
 (.seq
 (.ops 4 [⟨some 13, none, .call 142 [.t 1, .c (.int .i64 16)], []⟩,
 ⟨some 12, none, .mv (.t 13), []⟩,
 ⟨some 14, none, .ext (.t 12) 0, []⟩,
 ⟨some 15, none, .ext (.t 12) 1, []⟩,
 ⟨some 3, none, .mv (.t 14), []⟩])
 (.seq
 (.ops 5 [⟨some 16, none, .mv (.t 2), []⟩,
 ⟨some 17, none, .mv (.t 3), []⟩,
 ⟨some 2, none, .mv (.t 16), []⟩,
 ⟨some 3, none, .mv (.t 17), []⟩,
 ⟨some 4, none, .mv (.c (.int .i64 0)), []⟩])
 .ret)))))⟩
theorem F88_code : cfgA.code 88 = some F88 := by kernel_rfl

/-- slices.Clone[[]int,int] -/
noncomputable def F89 : AFn := ⟨8, [.tmp 2], (.seq
 (.ops 0 [⟨some 2, none, .mv (.c (.nils)), []⟩])
 (.seq
 (.seq
 (.ops 1 [⟨some 3, none, .mv (.t 0), []⟩,
 ⟨some 4, none, .eqn .slice false (.t 3), []⟩])
 (.cond (.t 4)
 (.seq
 (.ops 2 [⟨some 2, none, .mv (.c (.nils)), []⟩])
 .ret)
 .skip))
 (.seq
 (.ops 3 [⟨some 5, none, .bslice [.int .i64 0] 1 0 [] false false, []⟩,
 ⟨some 6, none, .mv (.t 0), []⟩,
 ⟨some 7, none, .app 1 8 (.t 5) (.t 6) true, []⟩,
 ⟨some 2, none, .mv (.t 7), []⟩])
 .ret)))⟩
theorem F89_code : cfgA.code 89 = some F89 := by kernel_rfl

/-- ticketline/slot.Next -/
noncomputable def F90 : AFn := ⟨9, [.tmp 2], (.seq
 (.ops 0 [⟨some 1, none, .box 128 (.t 0) false, []⟩,
 ⟨some 2, none, .mv (.c (.int .i64 0)), []⟩])
 (.seq
 (.seq
 (.ops 1 [⟨some 3, none, .ld 128 true (.t 1), []⟩,
 ⟨some 4, none, .call 133 [.t 3], []⟩,
 ⟨some 5, none, .un .not (.t 4), []⟩])
 (.cond (.t 5)
 (.seq
 (.ops 2 [⟨some 2, none, .mv (.c (.int .i64 0)), []⟩])
 .ret)
 .skip))
 (.seq
 (.ops 3 [⟨some 6, none, .ixa (some 128) 1 (.t 1) (.c (.int .i64 10)), []⟩,
 ⟨some 7, none, .ld 1 false (.t 6), []⟩,
 ⟨some 8, none, .cvi .i64 (.t 7), []⟩,
 ⟨some 2, none, .mv (.t 8), []⟩])
 .ret)))⟩
theorem F90_code : cfgA.code 90 = some F90 := by kernel_rfl

/-- ticketline/couple.acquire -/
noncomputable def F91 : AFn := ⟨36, [.tmp 8], (.seq
 (.ops 0 [⟨some 4, none, .box 2 (.t 0) false, []⟩,
 ⟨some 8, none, .mv (.c (.nili)), []⟩])
 (.seq
 (.ops 1 [⟨some 16, none, .ld 2 true (.t 4), []⟩,
 ⟨some 17, none, .call 102 [.t 16], []⟩,
 ⟨some 15, none, .mv (.t 17), []⟩,
 ⟨some 18, none, .ext (.t 15) 0, []⟩,
 ⟨some 19, none, .ext (.t 15) 1, []⟩,
 ⟨some 9, none, .mv (.t 18), []⟩,
 ⟨some 10, none, .mv (.t 19), []⟩])
 (.seq
 (.ops 2 [⟨some 21, none, .ld 2 true (.t 4), []⟩,
 ⟨some 22, none, .mv (.t 2), []⟩,
 ⟨some 23, none, .call 103 [.t 21, .t 22], []⟩,
 ⟨some 20, none, .mv (.t 23), []⟩,
 ⟨some 24, none, .ext (.t 20) 0, []⟩,
 ⟨some 25, none, .ext (.t 20) 1, []⟩,
 ⟨some 11, none, .mv (.t 24), []⟩,
 ⟨some 12, none, .mv (.t 25), []⟩])
 (.seq
 (.ops 3 [⟨some 27, none, .mv (.t 9), []⟩,
 ⟨some 28, none, .mv (.t 11), []⟩,
 ⟨some 29, none, .mv (.t 1), []⟩,
 ⟨some 30, none, .mv (.t 3), []⟩,
 ⟨some 31, none, .call 129 [.t 27, .t 28, .t 29, .t 30], []⟩,
 ⟨some 26, none, .mv (.t 31), []⟩,
 ⟨some 32, none, .ext (.t 26) 0, []⟩,
 ⟨some 33, none, .ext (.t 26) 1, []⟩,
 ⟨some 13, none, .mv (.t 32), []⟩,
 ⟨some 14, none, .mv (.t 33), []⟩])
 (.seq
 (.ops 4 [⟨some 34, none, .mv (.t 13), []⟩,
 ⟨some 35, none, .mki 186 (.t 34), []⟩,
 ⟨some 8, none, .mv (.t 35), []⟩])
 .ret)))))⟩
theorem F91_code : cfgA.code 91 = some F91 := by kernel_rfl

/-- ticketline/descend.Words -/
noncomputable def F92 : AFn := ⟨14, [.tmp 2, .tmp 3], (.seq
 (.ops 0 [⟨some 1, none, .box 2 (.t 0) false, []⟩,
 ⟨some 2, none, .mv (.c (.int .i64 0)), []⟩,
 ⟨some 3, none, .mv (.c (.int .i64 0)), []⟩])
 (.seq
 (.seq
 (.ops 1 [⟨some 4, none, .ld 2 true (.t 1), []⟩,
 ⟨some 5, none, .call 143 [.t 4], []⟩,
 ⟨some 6, none, .un .not (.t 5), []⟩])
 (.cond (.t 6)
 (.seq
 (.ops 2 [⟨some 2, none, .mv (.c (.int .i64 0)), []⟩,
 ⟨some 3, none, .mv (.c (.int .i64 2)), []⟩])
 .ret)
 .skip))
 (.seq
 (.ops 3 [⟨some 7, none, .ld 2 true (.t 1), []⟩,
 ⟨some 9, none, .fld 1 (.t 1), []⟩,
 ⟨some 10, none, .ld 1 false (.t 9), []⟩,
 ⟨some 11, none, .bin .mul (.t 10) (.c (.int .i64 2)), []⟩,
 ⟨some 12, none, .bin .mul (.t 11) (.c (.int .i64 3)), []⟩,
 ⟨some 8, none, .call 144 [.t 7], [(10, .ld 1 false (.t 9))]⟩,
 ⟨some 13, none, .bin .add (.t 8) (.t 12), []⟩,
 ⟨some 2, none, .mv (.t 13), []⟩,
 ⟨some 3, none, .mv (.c (.int .i64 0)), []⟩])
 .ret)))⟩
theorem F92_code : cfgA.code 92 = some F92 := by kernel_rfl

/-- ticketline/arena.Format: the round 0 -/
noncomputable def B93x0 : AC := (.seq
 (.ops 7 [⟨some 35, none, .bin .lss (.t 34) (.t 33), []⟩])
 (.seq
 (.cond (.t 35)
 .skip
 (.exit 1))
 (.seq
 (.block 2
 (.seq
 (.ops 8 [⟨some 36, none, .mv (.t 34), []⟩,
 ⟨some 7, none, .mv (.t 36), []⟩])
 (.ops 9 [⟨some 37, none, .ld 1 true (.t 6), []⟩,
 ⟨some 38, none, .mv (.t 7), []⟩,
 ⟨some 39, none, .call 147 [.t 37, .t 38, .c (.int .u64 0)], []⟩])))
 (.ops 10 [⟨some 40, none, .bin .add (.t 34) (.c (.int .i64 1)), []⟩,
 ⟨some 34, none, .mv (.t 40), []⟩]))))
/-- ticketline/arena.Format: the round 1 -/
noncomputable def B93x1 : AC := (.seq
 (.seq
 (.ops 15 [⟨some 49, none, .mv (.t 8), []⟩,
 ⟨some 50, none, .mv (.t 1), []⟩,
 ⟨some 51, none, .bin .lss (.t 49) (.t 50), []⟩])
 (.cond (.t 51)
 .skip
 (.exit 3)))
 (.seq
 (.block 4
 (.ops 17 [⟨some 54, none, .ld 1 true (.t 6), []⟩,
 ⟨some 55, none, .mv (.t 8), []⟩,
 ⟨some 57, none, .mv (.t 8), []⟩,
 ⟨some 58, none, .bin .add (.t 57) (.c (.int .i64 1)), []⟩,
 ⟨some 59, none, .cvi .u64 (.t 58), []⟩,
 ⟨some 56, none, .call 106 [.t 55, .c (.int .i64 10)], [(54, .ld 1 true (.t 6))]⟩,
 ⟨some 60, none, .call 147 [.t 54, .t 56, .t 59], []⟩]))
 (.ops 16 [⟨some 52, none, .mv (.t 8), []⟩,
 ⟨some 53, none, .bin .add (.t 52) (.c (.int .i64 1)), []⟩,
 ⟨some 8, none, .mv (.t 53), []⟩])))
/-- ticketline/arena.Format -/
noncomputable def F93 : AFn := ⟨64, [.tmp 4, .tmp 5], (.seq
 (.ops 0 [⟨some 4, none, .mv (.c (.nilp)), []⟩,
 ⟨some 5, none, .mv (.c (.int .i64 0)), []⟩])
 (.seq
 (.block 0
 (.seq
 (.ops 1 [⟨some 10, none, .mv (.t 0), []⟩,
 ⟨some 11, none, .call 145 [.t 10], []⟩,
 ⟨some 12, none, .bin .eql (.t 11) (.c (.int .i64 0)), []⟩,
 ⟨some 9, none, .mv (.t 12), []⟩])
 (.cond (.t 9)
 (.seq
 (.ops 2 [⟨some 4, none, .mv (.c (.nilp)), []⟩,
 ⟨some 5, none, .mv (.c (.int .i64 1)), []⟩])
 .ret)
 (.seq
 (.ops 3 [⟨some 14, none, .mv (.t 1), []⟩,
 ⟨some 15, none, .bin .lss (.t 14) (.c (.int .i64 1)), []⟩,
 ⟨some 16, none, .mv (.t 15), []⟩,
 ⟨some 17, some (16, false), .mv (.t 1), []⟩,
 ⟨some 18, some (16, false), .bin .gtr (.t 17) (.c (.int .i64 511)), []⟩,
 ⟨some 19, none, .pick (.t 16) (.c (.bool true)) (.t 18), []⟩,
 ⟨some 20, none, .mv (.t 19), []⟩,
 ⟨some 21, some (20, false), .mv (.t 1), []⟩,
 ⟨some 22, some (20, false), .bin .add (.t 21) (.c (.int .i64 1)), []⟩,
 ⟨some 23, some (20, false), .call 106 [.t 22, .c (.int .i64 0)], []⟩,
 ⟨some 24, some (20, false), .mv (.t 0), []⟩,
 ⟨some 25, some (20, false), .call 145 [.t 24], []⟩,
 ⟨some 26, some (20, false), .bin .gtr (.t 23) (.t 25), []⟩,
 ⟨some 27, none, .pick (.t 20) (.c (.bool true)) (.t 26), []⟩,
 ⟨some 13, none, .mv (.t 27), []⟩])
 (.cond (.t 13)
 (.seq
 (.ops 4 [⟨some 4, none, .mv (.c (.nilp)), []⟩,
 ⟨some 5, none, .mv (.c (.int .i64 2)), []⟩])
 .ret)
 .skip)))))
 (.seq
 (.ops 5 [⟨some 28, none, .mv (.t 0), []⟩,
 ⟨some 29, none, .call 146 [.t 28], []⟩,
 ⟨some 30, none, .build [.nilp] [(0, 1, (.t 29))], []⟩,
 ⟨some 6, none, .alloc [.nilp] false, []⟩,
 ⟨none, none, .st 1 (.t 6) (.t 30), []⟩])
 (.seq
 (.seq
 (.ops 6 [⟨some 31, none, .mv (.t 1), []⟩,
 ⟨some 32, none, .bin .add (.t 31) (.c (.int .i64 1)), []⟩,
 ⟨some 33, none, .call 106 [.t 32, .c (.int .i64 0)], []⟩,
 ⟨some 34, none, .mv (.c (.int .i64 0)), []⟩])
 (.block 1
 (.loop [] B93x0)))
 (.seq
 (.ops 11 [⟨some 41, none, .ld 1 true (.t 6), []⟩,
 ⟨some 42, none, .mv (.t 1), []⟩,
 ⟨some 43, none, .cvi .u64 (.t 42), []⟩,
 ⟨some 44, none, .call 147 [.t 41, .c (.int .i64 0), .t 43], []⟩])
 (.seq
 (.ops 12 [⟨some 45, none, .ld 1 true (.t 6), []⟩,
 ⟨some 46, none, .call 147 [.t 45, .c (.int .i64 1), .c (.int .u64 1)], []⟩])
 (.seq
 (.ops 13 [⟨some 47, none, .ld 1 true (.t 6), []⟩,
 ⟨some 48, none, .call 147 [.t 47, .c (.int .i64 4), .c (.int .u64 1)], []⟩])
 (.seq
 (.seq
 (.ops 14 [⟨some 8, none, .mv (.c (.int .i64 1)), []⟩])
 (.block 3
 (.loop [] B93x1)))
 (.seq
 (.ops 18 [⟨some 61, none, .ld 1 true (.t 6), []⟩,
 ⟨some 62, none, .build [.nilp] [(0, 1, (.t 61))], []⟩,
 ⟨some 63, none, .box 1 (.t 62) true, []⟩,
 ⟨some 4, none, .mv (.t 63), []⟩,
 ⟨some 5, none, .mv (.c (.int .i64 0)), []⟩])
 .ret)))))))))⟩
theorem F93_code : cfgA.code 93 = some F93 := by kernel_rfl

/-- ticketline/slot.Make -/
noncomputable def F94 : AFn := ⟨57, [.cell 6 128 true, .tmp 7], (.seq
 (.ops 0 [⟨some 6, none, .alloc (List.replicate 128 (.int .u64 0)) false, []⟩,
 ⟨some 7, none, .mv (.c (.int .i64 0)), []⟩])
 (.seq
 (.block 0
 (.seq
 (.ops 1 [⟨some 12, none, .mv (.t 0), []⟩,
 ⟨some 13, none, .bin .lss (.t 12) (.c (.int .i64 0)), []⟩,
 ⟨some 14, none, .mv (.t 13), []⟩,
 ⟨some 15, some (14, false), .mv (.t 0), []⟩,
 ⟨some 16, some (14, false), .bin .geq (.t 15) (.c (.int .i64 6)), []⟩,
 ⟨some 17, none, .pick (.t 14) (.c (.bool true)) (.t 16), []⟩,
 ⟨some 11, none, .mv (.t 17), []⟩])
 (.cond (.t 11)
 (.seq
 (.ops 2 [⟨some 18, none, .build (List.replicate 128 (.int .u64 0)) [], []⟩,
 ⟨none, none, .st 128 (.t 6) (.t 18), []⟩,
 ⟨some 7, none, .mv (.c (.int .i64 2)), []⟩])
 .ret)
 (.seq
 (.ops 3 [⟨some 20, none, .mv (.t 1), []⟩,
 ⟨some 21, none, .len .string (.t 20), []⟩,
 ⟨some 22, none, .bin .gtr (.t 21) (.c (.int .i64 24)), []⟩,
 ⟨some 23, none, .mv (.t 22), []⟩,
 ⟨some 24, some (23, false), .mv (.t 2), []⟩,
 ⟨some 25, some (23, false), .len .string (.t 24), []⟩,
 ⟨some 26, some (23, false), .bin .gtr (.t 25) (.c (.int .i64 24)), []⟩,
 ⟨some 27, none, .pick (.t 23) (.c (.bool true)) (.t 26), []⟩,
 ⟨some 19, none, .mv (.t 27), []⟩])
 (.cond (.t 19)
 (.seq
 (.ops 4 [⟨some 28, none, .build (List.replicate 128 (.int .u64 0)) [], []⟩,
 ⟨none, none, .st 128 (.t 6) (.t 28), []⟩,
 ⟨some 7, none, .mv (.c (.int .i64 5)), []⟩])
 .ret)
 (.seq
 (.ops 5 [⟨some 30, none, .mv (.t 2), []⟩,
 ⟨some 31, none, .bin .neq (.t 30) (.c (.str [])), []⟩,
 ⟨some 32, none, .mv (.t 31), []⟩,
 ⟨some 33, some (32, true), .mv (.t 1), []⟩,
 ⟨some 34, some (32, true), .mv (.t 2), []⟩,
 ⟨some 35, some (32, true), .call 148 [.t 33, .t 34], []⟩,
 ⟨some 36, some (32, true), .bin .geq (.t 35) (.c (.int .i64 0)), []⟩,
 ⟨some 37, none, .pick (.t 32) (.t 36) (.c (.bool false)), []⟩,
 ⟨some 29, none, .mv (.t 37), []⟩])
 (.cond (.t 29)
 (.seq
 (.ops 6 [⟨some 38, none, .build (List.replicate 128 (.int .u64 0)) [], []⟩,
 ⟨none, none, .st 128 (.t 6) (.t 38), []⟩,
 ⟨some 7, none, .mv (.c (.int .i64 13)), []⟩])
 .ret)
 .skip)))))))
 (.seq
 (.ops 7 [⟨some 8, none, .alloc (List.replicate 128 (.int .u64 0)) false, []⟩])
 (.seq
 (.ops 8 [⟨some 39, none, .mv (.t 0), []⟩,
 ⟨some 40, none, .bin .add (.c (.int .i64 1)) (.t 39), []⟩,
 ⟨some 41, none, .cvi .u64 (.t 40), []⟩,
 ⟨some 42, none, .ixa (some 128) 1 (.t 8) (.c (.int .i64 8)), []⟩,
 ⟨none, none, .st 1 (.t 42) (.t 41), []⟩,
 ⟨some 43, none, .ixa (some 128) 1 (.t 8) (.c (.int .i64 11)), []⟩,
 ⟨none, none, .st 1 (.t 43) (.c (.int .u64 128)), []⟩])
 (.seq
 (.seq
 (.ops 9 [⟨some 44, none, .mv (.t 1), []⟩,
 ⟨some 45, none, .call 149 [.t 8, .c (.int .i64 12), .t 44], []⟩,
 ⟨some 9, none, .mv (.t 45), []⟩])
 (.seq
 (.ops 10 [⟨some 46, none, .mv (.t 9), []⟩,
 ⟨some 47, none, .bin .neq (.t 46) (.c (.int .i64 0)), []⟩])
 (.cond (.t 47)
 (.seq
 (.ops 11 [⟨some 48, none, .build (List.replicate 128 (.int .u64 0)) [], []⟩,
 ⟨some 49, none, .mv (.t 9), []⟩,
 ⟨none, none, .st 128 (.t 6) (.t 48), []⟩,
 ⟨some 7, none, .mv (.t 49), []⟩])
 .ret)
 .skip)))
 (.seq
 (.seq
 (.ops 12 [⟨some 50, none, .mv (.t 2), []⟩,
 ⟨some 51, none, .call 149 [.t 8, .c (.int .i64 16), .t 50], []⟩,
 ⟨some 10, none, .mv (.t 51), []⟩])
 (.seq
 (.ops 13 [⟨some 52, none, .mv (.t 10), []⟩,
 ⟨some 53, none, .bin .neq (.t 52) (.c (.int .i64 0)), []⟩])
 (.cond (.t 53)
 (.seq
 (.ops 14 [⟨some 54, none, .build (List.replicate 128 (.int .u64 0)) [], []⟩,
 ⟨some 55, none, .mv (.t 10), []⟩,
 ⟨none, none, .st 128 (.t 6) (.t 54), []⟩,
 ⟨some 7, none, .mv (.t 55), []⟩])
 .ret)
 .skip)))
 (.seq
 (.ops 15 [⟨some 56, none, .ld 128 true (.t 8), []⟩,
 ⟨none, none, .st 128 (.t 6) (.t 56), []⟩,
 ⟨some 7, none, .mv (.c (.int .i64 0)), []⟩])
 .ret)))))))⟩
theorem F94_code : cfgA.code 94 = some F94 := by kernel_rfl

/-- (*ticketline/arena.Arena).Alloc -/
noncomputable def F95 : AFn := ⟨39, [.tmp 4, .tmp 5], (.seq
 (.ops 0 [⟨some 3, none, .box 128 (.t 1) false, []⟩,
 ⟨some 4, none, .mv (.c (.int .i64 0)), []⟩,
 ⟨some 5, none, .mv (.c (.int .i64 0)), []⟩])
 (.seq
 (.block 0
 (.seq
 (.ops 1 [⟨some 8, none, .mv (.t 0), []⟩,
 ⟨some 9, none, .call 150 [.t 8], []⟩,
 ⟨some 7, none, .mv (.t 9), []⟩])
 (.cond (.t 7)
 (.seq
 (.ops 2 [⟨some 4, none, .mv (.c (.int .i64 0)), []⟩,
 ⟨some 5, none, .mv (.c (.int .i64 1)), []⟩])
 .ret)
 (.seq
 (.ops 3 [⟨some 11, none, .ld 128 true (.t 3), []⟩,
 ⟨some 12, none, .call 133 [.t 11], []⟩,
 ⟨some 13, none, .un .not (.t 12), []⟩,
 ⟨some 10, none, .mv (.t 13), []⟩])
 (.cond (.t 10)
 (.seq
 (.ops 4 [⟨some 4, none, .mv (.c (.int .i64 0)), []⟩,
 ⟨some 5, none, .mv (.c (.int .i64 12)), []⟩])
 .ret)
 .skip)))))
 (.seq
 (.ops 5 [⟨some 14, none, .mv (.t 0), []⟩,
 ⟨some 15, none, .nilc (.t 14) (mok Tryz.prog), []⟩,
 ⟨some 16, none, .fld 0 (.t 15), []⟩,
 ⟨some 17, none, .ld 1 true (.t 16), []⟩,
 ⟨some 18, none, .call 151 [.t 17, .c (.int .i64 1)], []⟩,
 ⟨some 19, none, .cvi .i64 (.t 18), []⟩,
 ⟨some 6, none, .mv (.t 19), []⟩])
 (.seq
 (.seq
 (.ops 6 [⟨some 20, none, .mv (.t 6), []⟩,
 ⟨some 21, none, .bin .eql (.t 20) (.c (.int .i64 0)), []⟩])
 (.cond (.t 21)
 (.seq
 (.ops 7 [⟨some 4, none, .mv (.c (.int .i64 0)), []⟩,
 ⟨some 5, none, .mv (.c (.int .i64 7)), []⟩])
 .ret)
 .skip))
 (.seq
 (.ops 8 [⟨some 22, none, .mv (.t 0), []⟩,
 ⟨some 23, none, .nilc (.t 22) (mok Tryz.prog), []⟩,
 ⟨some 24, none, .fld 0 (.t 23), []⟩,
 ⟨some 25, none, .ld 1 true (.t 24), []⟩,
 ⟨some 26, none, .mv (.t 0), []⟩,
 ⟨some 27, none, .nilc (.t 26) (mok Tryz.prog), []⟩,
 ⟨some 28, none, .fld 0 (.t 27), []⟩,
 ⟨some 29, none, .ld 1 true (.t 28), []⟩,
 ⟨some 30, none, .mv (.t 6), []⟩,
 ⟨some 31, none, .call 106 [.t 30, .c (.int .i64 10)], [(25, .ld 1 true (.t 24)), (29, .ld 1 true (.t 28))]⟩,
 ⟨some 32, none, .call 151 [.t 29, .t 31], [(25, .ld 1 true (.t 24))]⟩,
 ⟨some 33, none, .call 147 [.t 25, .c (.int .i64 1), .t 32], []⟩])
 (.seq
 (.ops 9 [⟨some 34, none, .mv (.t 0), []⟩,
 ⟨some 35, none, .mv (.t 6), []⟩,
 ⟨some 36, none, .ld 128 true (.t 3), []⟩,
 ⟨some 37, none, .call 152 [.t 34, .t 35, .t 36], []⟩])
 (.seq
 (.ops 10 [⟨some 38, none, .mv (.t 6), []⟩,
 ⟨some 4, none, .mv (.t 38), []⟩,
 ⟨some 5, none, .mv (.c (.int .i64 0)), []⟩])
 .ret)))))))⟩
theorem F95_code : cfgA.code 95 = some F95 := by kernel_rfl

/-- (*ticketline/arena.Arena).SetRoot -/
noncomputable def F96 : AFn := ⟨23, [.tmp 4], (.seq
 (.ops 0 [⟨some 4, none, .mv (.c (.int .i64 0)), []⟩])
 (.seq
 (.seq
 (.ops 1 [⟨some 6, none, .mv (.t 0), []⟩,
 ⟨some 7, none, .call 150 [.t 6], []⟩])
 (.cond (.t 7)
 (.seq
 (.ops 2 [⟨some 4, none, .mv (.c (.int .i64 1)), []⟩])
 .ret)
 .skip))
 (.seq
 (.seq
 (.ops 3 [⟨some 8, none, .mv (.t 1), []⟩,
 ⟨some 9, none, .bin .neq (.t 8) (.c (.int .i64 0)), []⟩])
 (.cond (.t 9)
 (.seq
 (.ops 4 [⟨some 10, none, .mv (.t 0), []⟩,
 ⟨some 11, none, .mv (.t 1), []⟩,
 ⟨some 12, none, .call 153 [.t 10, .t 11, .c (.bool false)], []⟩,
 ⟨some 5, none, .mv (.t 12), []⟩])
 (.seq
 (.ops 5 [⟨some 13, none, .mv (.t 5), []⟩,
 ⟨some 14, none, .bin .neq (.t 13) (.c (.int .i64 0)), []⟩])
 (.cond (.t 14)
 (.seq
 (.ops 6 [⟨some 15, none, .mv (.t 5), []⟩,
 ⟨some 4, none, .mv (.t 15), []⟩])
 .ret)
 .skip)))
 .skip))
 (.seq
 (.ops 7 [⟨some 16, none, .mv (.t 0), []⟩,
 ⟨some 17, none, .nilc (.t 16) (mok Tryz.prog), []⟩,
 ⟨some 18, none, .fld 0 (.t 17), []⟩,
 ⟨some 19, none, .ld 1 true (.t 18), []⟩,
 ⟨some 20, none, .mv (.t 1), []⟩,
 ⟨some 21, none, .cvi .u64 (.t 20), []⟩,
 ⟨some 22, none, .call 147 [.t 19, .c (.int .i64 3), .t 21], []⟩])
 (.seq
 (.ops 8 [⟨some 4, none, .mv (.c (.int .i64 0)), []⟩])
 .ret)))))⟩
theorem F96_code : cfgA.code 96 = some F96 := by kernel_rfl

/-- (*ticketline/arena.Arena).Mem -/
noncomputable def F97 : AFn := ⟨11, [.tmp 2], (.seq
 (.ops 0 [⟨some 2, none, .mv (.c (.nilp)), []⟩])
 (.seq
 (.seq
 (.ops 1 [⟨some 3, none, .mv (.t 0), []⟩,
 ⟨some 4, none, .call 150 [.t 3], []⟩])
 (.cond (.t 4)
 (.seq
 (.ops 2 [⟨some 2, none, .mv (.c (.nilp)), []⟩])
 .ret)
 .skip))
 (.seq
 (.ops 3 [⟨some 5, none, .mv (.t 0), []⟩,
 ⟨some 6, none, .nilc (.t 5) (mok Tryz.prog), []⟩,
 ⟨some 7, none, .fld 0 (.t 6), []⟩,
 ⟨some 8, none, .fld 0 (.t 7), []⟩,
 ⟨some 9, none, .ld 1 false (.t 8), []⟩,
 ⟨some 10, none, .call 146 [.t 9], []⟩,
 ⟨some 2, none, .mv (.t 10), []⟩])
 .ret)))⟩
theorem F97_code : cfgA.code 97 = some F97 := by kernel_rfl

/-- ticketline/couple.allowed -/
noncomputable def F98 : AFn := ⟨27, [.tmp 6], (.seq
 (.ops 0 [⟨some 3, none, .box 2 (.t 0) false, []⟩,
 ⟨some 6, none, .mv (.c (.bool false)), []⟩])
 (.seq
 (.ops 1 [⟨some 10, none, .ld 2 true (.t 3), []⟩,
 ⟨some 11, none, .mv (.t 2), []⟩,
 ⟨some 12, none, .call 103 [.t 10, .t 11], []⟩,
 ⟨some 9, none, .mv (.t 12), []⟩,
 ⟨some 13, none, .ext (.t 9) 0, []⟩,
 ⟨some 14, none, .ext (.t 9) 1, []⟩,
 ⟨some 7, none, .mv (.t 13), []⟩,
 ⟨some 8, none, .mv (.t 14), []⟩])
 (.seq
 (.ops 2 [⟨some 15, none, .mv (.t 8), []⟩,
 ⟨some 16, none, .bin .eql (.t 15) (.c (.int .i64 0)), []⟩,
 ⟨some 17, none, .mv (.t 16), []⟩,
 ⟨some 18, some (17, true), .mv (.t 1), []⟩,
 ⟨some 19, some (17, true), .bin .geq (.t 18) (.c (.int .i64 0)), []⟩,
 ⟨some 20, none, .pick (.t 17) (.t 19) (.c (.bool false)), []⟩,
 ⟨some 21, none, .mv (.t 20), []⟩,
 ⟨some 22, some (21, true), .mv (.t 1), []⟩,
 ⟨some 23, some (21, true), .fld 1 (.t 3), []⟩,
 ⟨some 24, some (21, true), .ld 1 false (.t 23), []⟩,
 ⟨some 25, some (21, true), .bin .lss (.t 22) (.t 24), []⟩,
 ⟨some 26, none, .pick (.t 21) (.t 25) (.c (.bool false)), []⟩,
 ⟨some 6, none, .mv (.t 26), []⟩])
 .ret)))⟩
theorem F98_code : cfgA.code 98 = some F98 := by kernel_rfl

/-- ticketline/keys.ValidKey -/
noncomputable def F99 : AFn := ⟨11, [.tmp 2], (.seq
 (.ops 0 [⟨some 2, none, .mv (.c (.bool false)), []⟩])
 (.seq
 (.ops 1 [⟨some 3, none, .mv (.t 0), []⟩,
 ⟨some 4, none, .len .string (.t 3), []⟩,
 ⟨some 5, none, .bin .geq (.t 4) (.c (.int .i64 1)), []⟩,
 ⟨some 6, none, .mv (.t 5), []⟩,
 ⟨some 7, some (6, true), .mv (.t 0), []⟩,
 ⟨some 8, some (6, true), .len .string (.t 7), []⟩,
 ⟨some 9, some (6, true), .bin .leq (.t 8) (.c (.int .i64 24)), []⟩,
 ⟨some 10, none, .pick (.t 6) (.t 9) (.c (.bool false)), []⟩,
 ⟨some 2, none, .mv (.t 10), []⟩])
 .ret))⟩
theorem F99_code : cfgA.code 99 = some F99 := by kernel_rfl

/-- ticketline/couple.start -/
noncomputable def F100 : AFn := ⟨18, [.cell 8 140 true], (.seq
 (.ops 0 [⟨some 4, none, .box 2 (.t 0) false, []⟩,
 ⟨some 8, none, .alloc [.int .i64 0, .int .i64 0, .int .i64 0, .str [], .int .i64 0, .int .i64 0, .int .i64 0, .int .i64 0, .nili, .nilp, .int .i64 0, .int .u64 0, .int .u64 0, .int .u64 0, .int .u64 0, .int .u64 0, .int .u64 0, .int .u64 0, .int .u64 0, .int .u64 0, .int .u64 0, .int .u64 0, .int .u64 0, .int .u64 0, .int .u64 0, .int .u64 0, .int .u64 0, .int .u64 0, .int .u64 0, .int .u64 0, .int .u64 0, .int .u64 0, .int .u64 0, .int .u64 0, .int .u64 0, .int .u64 0, .int .u64 0, .int .u64 0, .int .u64 0, .int .u64 0, .int .u64 0, .int .u64 0, .int .u64 0, .int .u64 0, .int .u64 0, .int .u64 0, .int .u64 0, .int .u64 0, .int .u64 0, .int .u64 0, .int .u64 0, .int .u64 0, .int .u64 0, .int .u64 0, .int .u64 0, .int .u64 0, .int .u64 0, .int .u64 0, .int .u64 0, .int .u64 0, .int .u64 0, .int .u64 0, .int .u64 0, .int .u64 0, .int .u64 0, .int .u64 0, .int .u64 0, .int .u64 0, .int .u64 0, .int .u64 0, .int .u64 0, .int .u64 0, .int .u64 0, .int .u64 0, .int .u64 0, .int .u64 0, .int .u64 0, .int .u64 0, .int .u64 0, .int .u64 0, .int .u64 0, .int .u64 0, .int .u64 0, .int .u64 0, .int .u64 0, .int .u64 0, .int .u64 0, .int .u64 0, .int .u64 0, .int .u64 0, .int .u64 0, .int .u64 0, .int .u64 0, .int .u64 0, .int .u64 0, .int .u64 0, .int .u64 0, .int .u64 0, .int .u64 0, .int .u64 0, .int .u64 0, .int .u64 0, .int .u64 0, .int .u64 0, .int .u64 0, .int .u64 0, .int .u64 0, .int .u64 0, .int .u64 0, .int .u64 0, .int .u64 0, .int .u64 0, .int .u64 0, .int .u64 0, .int .u64 0, .int .u64 0, .int .u64 0, .int .u64 0, .int .u64 0, .int .u64 0, .int .u64 0, .int .u64 0, .int .u64 0, .int .u64 0, .int .u64 0, .int .u64 0, .int .u64 0, .int .u64 0, .int .u64 0, .int .u64 0, .int .u64 0, .int .u64 0, .int .u64 0, .int .u64 0, .int .u64 0, .int .u64 0, .int .u64 0, .int .u64 0, .int .u64 0, .int .u64 0] false, []⟩])
 (.seq
 (.ops 1 [⟨some 9, none, .ld 2 true (.t 4), []⟩,
 ⟨some 10, none, .mv (.t 1), []⟩,
 ⟨some 11, none, .mv (.t 2), []⟩,
 ⟨some 12, none, .mv (.t 3), []⟩,
 ⟨some 13, none, .ld 2 true (.t 4), []⟩,
 ⟨some 14, none, .mv (.t 1), []⟩,
 ⟨some 15, none, .mv (.t 3), []⟩,
 ⟨some 16, none, .call 91 [.t 13, .t 14, .c (.int .i64 0), .t 15], [(9, .ld 2 true (.t 4))]⟩,
 ⟨some 17, none, .build [.int .i64 0, .int .i64 0, .int .i64 0, .str [], .int .i64 0, .int .i64 0, .int .i64 0, .int .i64 0, .nili, .nilp, .int .i64 0, .int .u64 0, .int .u64 0, .int .u64 0, .int .u64 0, .int .u64 0, .int .u64 0, .int .u64 0, .int .u64 0, .int .u64 0, .int .u64 0, .int .u64 0, .int .u64 0, .int .u64 0, .int .u64 0, .int .u64 0, .int .u64 0, .int .u64 0, .int .u64 0, .int .u64 0, .int .u64 0, .int .u64 0, .int .u64 0, .int .u64 0, .int .u64 0, .int .u64 0, .int .u64 0, .int .u64 0, .int .u64 0, .int .u64 0, .int .u64 0, .int .u64 0, .int .u64 0, .int .u64 0, .int .u64 0, .int .u64 0, .int .u64 0, .int .u64 0, .int .u64 0, .int .u64 0, .int .u64 0, .int .u64 0, .int .u64 0, .int .u64 0, .int .u64 0, .int .u64 0, .int .u64 0, .int .u64 0, .int .u64 0, .int .u64 0, .int .u64 0, .int .u64 0, .int .u64 0, .int .u64 0, .int .u64 0, .int .u64 0, .int .u64 0, .int .u64 0, .int .u64 0, .int .u64 0, .int .u64 0, .int .u64 0, .int .u64 0, .int .u64 0, .int .u64 0, .int .u64 0, .int .u64 0, .int .u64 0, .int .u64 0, .int .u64 0, .int .u64 0, .int .u64 0, .int .u64 0, .int .u64 0, .int .u64 0, .int .u64 0, .int .u64 0, .int .u64 0, .int .u64 0, .int .u64 0, .int .u64 0, .int .u64 0, .int .u64 0, .int .u64 0, .int .u64 0, .int .u64 0, .int .u64 0, .int .u64 0, .int .u64 0, .int .u64 0, .int .u64 0, .int .u64 0, .int .u64 0, .int .u64 0, .int .u64 0, .int .u64 0, .int .u64 0, .int .u64 0, .int .u64 0, .int .u64 0, .int .u64 0, .int .u64 0, .int .u64 0, .int .u64 0, .int .u64 0, .int .u64 0, .int .u64 0, .int .u64 0, .int .u64 0, .int .u64 0, .int .u64 0, .int .u64 0, .int .u64 0, .int .u64 0, .int .u64 0, .int .u64 0, .int .u64 0, .int .u64 0, .int .u64 0, .int .u64 0, .int .u64 0, .int .u64 0, .int .u64 0, .int .u64 0, .int .u64 0, .int .u64 0, .int .u64 0, .int .u64 0, .int .u64 0, .int .u64 0] [(0, 2, (.t 9)), (2, 1, (.t 10)), (3, 1, (.t 11)), (4, 1, (.t 12)), (5, 1, (.c (.int .i64 1))), (8, 1, (.t 16))], []⟩,
 ⟨none, none, .st 140 (.t 8) (.t 17), []⟩])
 .ret))⟩
theorem F100_code : cfgA.code 100 = some F100 := by kernel_rfl

/-- ticketline/ticketlinelaw28.step -/
noncomputable def F101 : AFn := ⟨25, [.tmp 4, .tmp 5], (.seq
 (.ops 0 [⟨some 4, none, .mv (.c (.bool false)), []⟩,
 ⟨some 5, none, .mv (.c (.bool false)), []⟩])
 (.seq
 (.ops 1 [⟨some 9, none, .mv (.t 1), []⟩,
 ⟨some 10, none, .call 154 [.t 9], []⟩,
 ⟨some 8, none, .mv (.t 10), []⟩,
 ⟨some 11, none, .ext (.t 8) 0, []⟩,
 ⟨some 12, none, .ext (.t 8) 1, []⟩,
 ⟨some 6, none, .mv (.t 11), []⟩,
 ⟨some 7, none, .mv (.t 12), []⟩])
 (.seq
 (.seq
 (.ops 2 [⟨some 13, none, .mv (.t 7), []⟩,
 ⟨some 14, none, .bin .neq (.t 13) (.c (.int .i64 0)), []⟩])
 (.cond (.t 14)
 (.seq
 (.ops 3 [⟨some 4, none, .mv (.c (.bool false)), []⟩,
 ⟨some 5, none, .mv (.c (.bool true)), []⟩])
 .ret)
 .skip))
 (.seq
 (.ops 4 [⟨some 16, none, .mv (.t 0), []⟩,
 ⟨some 17, none, .mv (.t 6), []⟩,
 ⟨some 18, none, .mki 210 (.t 17), []⟩,
 ⟨some 19, none, .invk (.t 16) "Step" [.t 18], []⟩,
 ⟨some 15, none, .mv (.t 19), []⟩,
 ⟨some 20, none, .ext (.t 15) 0, []⟩,
 ⟨some 21, none, .ext (.t 15) 1, []⟩,
 ⟨some 4, none, .mv (.t 20), []⟩,
 ⟨some 7, none, .mv (.t 21), []⟩])
 (.seq
 (.ops 5 [⟨some 22, none, .mv (.t 4), []⟩,
 ⟨some 23, none, .mv (.t 7), []⟩,
 ⟨some 24, none, .bin .neq (.t 23) (.c (.int .i64 0)), []⟩,
 ⟨some 4, none, .mv (.t 22), []⟩,
 ⟨some 5, none, .mv (.t 24), []⟩])
 .ret)))))⟩
theorem F101_code : cfgA.code 101 = some F101 := by kernel_rfl

/-- ticketline/descend.Nodes -/
noncomputable def F102 : AFn := ⟨14, [.tmp 2, .tmp 3], (.seq
 (.ops 0 [⟨some 1, none, .box 2 (.t 0) false, []⟩,
 ⟨some 2, none, .mv (.c (.nilp)), []⟩,
 ⟨some 3, none, .mv (.c (.int .i64 0)), []⟩])
 (.seq
 (.seq
 (.ops 1 [⟨some 4, none, .ld 2 true (.t 1), []⟩,
 ⟨some 5, none, .call 143 [.t 4], []⟩,
 ⟨some 6, none, .un .not (.t 5), []⟩])
 (.cond (.t 6)
 (.seq
 (.ops 2 [⟨some 2, none, .mv (.c (.nilp)), []⟩,
 ⟨some 3, none, .mv (.c (.int .i64 2)), []⟩])
 .ret)
 .skip))
 (.seq
 (.ops 3 [⟨some 7, none, .ld 2 true (.t 1), []⟩,
 ⟨some 9, none, .fld 1 (.t 1), []⟩,
 ⟨some 10, none, .ld 1 false (.t 9), []⟩,
 ⟨some 8, none, .call 144 [.t 7], [(10, .ld 1 false (.t 9))]⟩,
 ⟨some 11, none, .call 155 [.t 8, .t 10], []⟩,
 ⟨some 12, none, .ext (.t 11) 0, []⟩,
 ⟨some 13, none, .ext (.t 11) 1, []⟩,
 ⟨some 2, none, .mv (.t 12), []⟩,
 ⟨some 3, none, .mv (.t 13), []⟩])
 .ret)))⟩
theorem F102_code : cfgA.code 102 = some F102 := by kernel_rfl

/-- ticketline/descend.At -/
noncomputable def F103 : AFn := ⟨26, [.tmp 4, .tmp 5], (.seq
 (.ops 0 [⟨some 2, none, .box 2 (.t 0) false, []⟩,
 ⟨some 4, none, .mv (.c (.int .i64 0)), []⟩,
 ⟨some 5, none, .mv (.c (.int .i64 0)), []⟩])
 (.seq
 (.block 0
 (.seq
 (.ops 1 [⟨some 7, none, .ld 2 true (.t 2), []⟩,
 ⟨some 8, none, .call 143 [.t 7], []⟩,
 ⟨some 9, none, .un .not (.t 8), []⟩,
 ⟨some 6, none, .mv (.t 9), []⟩])
 (.cond (.t 6)
 (.seq
 (.ops 2 [⟨some 4, none, .mv (.c (.int .i64 0)), []⟩,
 ⟨some 5, none, .mv (.c (.int .i64 2)), []⟩])
 .ret)
 (.seq
 (.ops 3 [⟨some 11, none, .mv (.t 1), []⟩,
 ⟨some 12, none, .bin .lss (.t 11) (.c (.int .i64 0)), []⟩,
 ⟨some 13, none, .mv (.t 12), []⟩,
 ⟨some 14, some (13, false), .mv (.t 1), []⟩,
 ⟨some 15, some (13, false), .fld 0 (.t 2), []⟩,
 ⟨some 16, some (13, false), .ld 1 false (.t 15), []⟩,
 ⟨some 17, some (13, false), .bin .gtr (.t 14) (.t 16), []⟩,
 ⟨some 18, none, .pick (.t 13) (.c (.bool true)) (.t 17), []⟩,
 ⟨some 10, none, .mv (.t 18), []⟩])
 (.cond (.t 10)
 (.seq
 (.ops 4 [⟨some 4, none, .mv (.c (.int .i64 0)), []⟩,
 ⟨some 5, none, .mv (.c (.int .i64 3)), []⟩])
 .ret)
 (.seq
 (.ops 5 [⟨some 20, none, .mv (.t 1), []⟩,
 ⟨some 21, none, .bin .eql (.t 20) (.c (.int .i64 0)), []⟩,
 ⟨some 19, none, .mv (.t 21), []⟩])
 (.cond (.t 19)
 (.seq
 (.ops 6 [⟨some 4, none, .mv (.c (.int .i64 8)), []⟩,
 ⟨some 5, none, .mv (.c (.int .i64 0)), []⟩])
 .ret)
 .skip)))))))
 (.seq
 (.ops 7 [⟨some 22, none, .mv (.t 1), []⟩,
 ⟨some 23, none, .call 59 [.t 22, .c (.int .i64 0)], []⟩,
 ⟨some 24, none, .ext (.t 23) 0, []⟩,
 ⟨some 25, none, .ext (.t 23) 1, []⟩,
 ⟨some 4, none, .mv (.t 24), []⟩,
 ⟨some 5, none, .mv (.t 25), []⟩])
 .ret)))⟩
theorem F103_code : cfgA.code 103 = some F103 := by kernel_rfl

/-- ticketline/latch.Look: the round 0 -/
noncomputable def B104x0 : AC := (.seq
 (.ops 8 [⟨some 40, none, .bin .lss (.t 39) (.c (.int .i64 2)), []⟩])
 (.seq
 (.cond (.t 40)
 .skip
 (.exit 0))
 (.seq
 (.block 1
 (.seq
 (.ops 9 [⟨some 41, none, .mv (.t 39), []⟩,
 ⟨some 10, none, .mv (.t 41), []⟩])
 (.seq
 (.ops 10 [⟨some 43, none, .mv (.t 0), []⟩,
 ⟨some 44, none, .mv (.t 2), []⟩,
 ⟨some 45, none, .bin .add (.t 44) (.c (.int .i64 1)), []⟩,
 ⟨some 46, none, .mv (.t 10), []⟩,
 ⟨some 47, none, .bin .add (.t 45) (.t 46), []⟩,
 ⟨some 48, none, .invk (.t 43) "Load" [.t 47], []⟩,
 ⟨some 42, none, .mv (.t 48), []⟩,
 ⟨some 49, none, .ext (.t 42) 0, []⟩,
 ⟨some 50, none, .ext (.t 42) 1, []⟩,
 ⟨some 11, none, .mv (.t 49), []⟩,
 ⟨some 12, none, .mv (.t 50), []⟩])
 (.seq
 (.seq
 (.ops 11 [⟨some 51, none, .mv (.t 12), []⟩,
 ⟨some 52, none, .bin .neq (.t 51) (.c (.int .i64 0)), []⟩])
 (.cond (.t 52)
 (.seq
 (.ops 12 [⟨some 53, none, .build [.nils, .int .i64 0, .int .i64 0, .int .i64 0, .int .i64 0, .nils] [], []⟩,
 ⟨some 54, none, .mv (.t 12), []⟩,
 ⟨none, none, .st 6 (.t 6) (.t 53), []⟩,
 ⟨some 7, none, .mv (.t 54), []⟩])
 .ret)
 .skip))
 (.ops 13 [⟨some 55, none, .mv (.t 10), []⟩,
 ⟨some 56, none, .mv (.t 11), []⟩,
 ⟨some 57, none, .ixa (some 2) 1 (.t 9) (.t 55), []⟩,
 ⟨none, none, .st 1 (.t 57) (.t 56), []⟩])))))
 (.ops 14 [⟨some 58, none, .bin .add (.t 39) (.c (.int .i64 1)), []⟩,
 ⟨some 39, none, .mv (.t 58), []⟩]))))
/-- ticketline/latch.Look: the round 1 -/
noncomputable def B104x1 : AC := (.seq
 (.seq
 (.ops 20 [⟨some 90, none, .mv (.t 14), []⟩,
 ⟨some 91, none, .bin .geq (.t 90) (.c (.int .i64 0)), []⟩])
 (.cond (.t 91)
 .skip
 (.exit 2)))
 (.block 3
 (.seq
 (.ops 21 [⟨some 93, none, .mv (.t 1), []⟩,
 ⟨some 94, none, .mv (.t 19), []⟩,
 ⟨some 95, none, .call 161 [.t 93, .t 94], []⟩,
 ⟨some 92, none, .mv (.t 95), []⟩,
 ⟨some 96, none, .ext (.t 92) 0, []⟩,
 ⟨some 97, none, .ext (.t 92) 1, []⟩,
 ⟨some 20, none, .mv (.t 96), []⟩,
 ⟨some 21, none, .mv (.t 97), []⟩])
 (.seq
 (.seq
 (.ops 22 [⟨some 98, none, .mv (.t 21), []⟩,
 ⟨some 99, none, .un .not (.t 98), []⟩,
 ⟨some 100, none, .mv (.t 99), []⟩,
 ⟨some 101, some (100, false), .fld 5 (.t 13), []⟩,
 ⟨some 102, some (100, false), .ld 1 false (.t 101), []⟩,
 ⟨some 103, some (100, false), .len .slice (.t 102), []⟩,
 ⟨some 104, some (100, false), .mv (.t 1), []⟩,
 ⟨some 105, some (100, false), .call 156 [.t 104], [(102, .ld 1 false (.t 101)), (103, .len .slice (.t 102))]⟩,
 ⟨some 106, some (100, false), .bin .geq (.t 103) (.t 105), []⟩,
 ⟨some 107, none, .pick (.t 100) (.c (.bool true)) (.t 106), []⟩])
 (.cond (.t 107)
 (.seq
 (.ops 23 [⟨some 108, none, .build [.nils, .int .i64 0, .int .i64 0, .int .i64 0, .int .i64 0, .nils] [], []⟩,
 ⟨none, none, .st 6 (.t 6) (.t 108), []⟩,
 ⟨some 7, none, .mv (.c (.int .i64 12)), []⟩])
 .ret)
 .skip))
 (.seq
 (.ops 24 [⟨some 110, none, .mv (.t 0), []⟩,
 ⟨some 111, none, .mv (.t 1), []⟩,
 ⟨some 112, none, .mv (.t 20), []⟩,
 ⟨some 114, none, .mkv "Load" (.t 110), []⟩,
 ⟨some 115, none, .nilc (.t 114) (mok Tryz.prog), []⟩,
 ⟨some 116, none, .mv (.t 110), []⟩,
 ⟨some 113, none, .call 162 [.t 111, .t 112], []⟩,
 ⟨some 117, none, .invk (.t 116) "Load" [.t 113], []⟩,
 ⟨some 109, none, .mv (.t 117), []⟩,
 ⟨some 118, none, .ext (.t 109) 0, []⟩,
 ⟨some 119, none, .ext (.t 109) 1, []⟩,
 ⟨some 22, none, .mv (.t 118), []⟩,
 ⟨some 23, none, .mv (.t 119), []⟩])
 (.seq
 (.seq
 (.ops 25 [⟨some 120, none, .mv (.t 23), []⟩,
 ⟨some 121, none, .bin .neq (.t 120) (.c (.int .i64 0)), []⟩])
 (.cond (.t 121)
 (.seq
 (.ops 26 [⟨some 122, none, .build [.nils, .int .i64 0, .int .i64 0, .int .i64 0, .int .i64 0, .nils] [], []⟩,
 ⟨some 123, none, .mv (.t 23), []⟩,
 ⟨none, none, .st 6 (.t 6) (.t 122), []⟩,
 ⟨some 7, none, .mv (.t 123), []⟩])
 .ret)
 .skip))
 (.seq
 (.seq
 (.ops 27 [⟨some 124, none, .mv (.t 22), []⟩,
 ⟨some 125, none, .bin .eql (.t 124) (.c (.int .u64 0)), []⟩,
 ⟨some 126, none, .mv (.t 125), []⟩,
 ⟨some 127, some (126, false), .mv (.t 22), []⟩,
 ⟨some 128, some (126, false), .bin .gtr (.t 127) (.c (.int .u64 3)), []⟩,
 ⟨some 129, none, .pick (.t 126) (.c (.bool true)) (.t 128), []⟩])
 (.cond (.t 129)
 (.seq
 (.ops 28 [⟨some 130, none, .build [.nils, .int .i64 0, .int .i64 0, .int .i64 0, .int .i64 0, .nils] [], []⟩,
 ⟨none, none, .st 6 (.t 6) (.t 130), []⟩,
 ⟨some 7, none, .mv (.c (.int .i64 12)), []⟩])
 .ret)
 .skip))
 (.seq
 (.ops 29 [⟨some 131, none, .fld 5 (.t 13), []⟩,
 ⟨some 132, none, .ld 1 false (.t 131), []⟩,
 ⟨some 133, none, .mv (.t 20), []⟩,
 ⟨some 134, none, .bin .quo (.t 133) (.c (.int .i64 2)), []⟩,
 ⟨some 135, none, .mv (.t 22), []⟩,
 ⟨some 136, none, .cvi .i64 (.t 135), []⟩,
 ⟨some 137, none, .build [.int .i64 0, .int .i64 0] [(0, 1, (.t 134)), (1, 1, (.t 136))], []⟩,
 ⟨some 138, none, .bslice [.int .i64 0, .int .i64 0] 2 1 [(0, (.t 137))] false false, []⟩,
 ⟨some 139, none, .app 2 16 (.t 132) (.t 138) true, []⟩,
 ⟨some 140, none, .fld 5 (.t 13), []⟩,
 ⟨none, none, .st 1 (.t 140) (.t 139), []⟩])
 (.seq
 (.seq
 (.ops 30 [⟨some 141, none, .mv (.t 20), []⟩,
 ⟨some 142, none, .mv (.t 15), []⟩,
 ⟨some 143, none, .bin .eql (.t 141) (.t 142), []⟩])
 (.cond (.t 143)
 (.exit 2)
 .skip))
 (.seq
 (.ops 31 [⟨some 145, none, .mv (.t 0), []⟩,
 ⟨some 146, none, .mv (.t 1), []⟩,
 ⟨some 147, none, .mv (.t 20), []⟩,
 ⟨some 149, none, .mkv "Load" (.t 145), []⟩,
 ⟨some 150, none, .nilc (.t 149) (mok Tryz.prog), []⟩,
 ⟨some 151, none, .mv (.t 145), []⟩,
 ⟨some 148, none, .call 163 [.t 146, .t 147], []⟩,
 ⟨some 152, none, .invk (.t 151) "Load" [.t 148], []⟩,
 ⟨some 144, none, .mv (.t 152), []⟩,
 ⟨some 153, none, .ext (.t 144) 0, []⟩,
 ⟨some 154, none, .ext (.t 144) 1, []⟩,
 ⟨some 19, none, .mv (.t 153), []⟩,
 ⟨some 23, none, .mv (.t 154), []⟩])
 (.seq
 (.ops 32 [⟨some 155, none, .mv (.t 23), []⟩,
 ⟨some 156, none, .bin .neq (.t 155) (.c (.int .i64 0)), []⟩])
 (.cond (.t 156)
 (.seq
 (.ops 33 [⟨some 157, none, .build [.nils, .int .i64 0, .int .i64 0, .int .i64 0, .int .i64 0, .nils] [], []⟩,
 ⟨some 158, none, .mv (.t 23), []⟩,
 ⟨none, none, .st 6 (.t 6) (.t 157), []⟩,
 ⟨some 7, none, .mv (.t 158), []⟩])
 .ret)
 .skip))))))))))))
/-- ticketline/latch.Look -/
noncomputable def F104 : AFn := ⟨160, [.cell 6 6 true, .tmp 7], (.seq
 (.ops 0 [⟨some 6, none, .alloc [.nils, .int .i64 0, .int .i64 0, .int .i64 0, .int .i64 0, .nils] false, []⟩,
 ⟨some 7, none, .mv (.c (.int .i64 0)), []⟩])
 (.seq
 (.seq
 (.ops 1 [⟨some 24, none, .mv (.t 1), []⟩,
 ⟨some 25, none, .call 156 [.t 24], []⟩,
 ⟨some 26, none, .bin .eql (.t 25) (.c (.int .i64 0)), []⟩,
 ⟨some 27, none, .mv (.t 26), []⟩,
 ⟨some 28, some (27, false), .mv (.t 0), []⟩,
 ⟨some 29, some (27, false), .eqn .iface false (.t 28), []⟩,
 ⟨some 30, none, .pick (.t 27) (.c (.bool true)) (.t 29), []⟩])
 (.cond (.t 30)
 (.seq
 (.ops 2 [⟨some 31, none, .build [.nils, .int .i64 0, .int .i64 0, .int .i64 0, .int .i64 0, .nils] [], []⟩,
 ⟨none, none, .st 6 (.t 6) (.t 31), []⟩,
 ⟨some 7, none, .mv (.c (.int .i64 1)), []⟩])
 .ret)
 .skip))
 (.seq
 (.seq
 (.ops 3 [⟨some 32, none, .mv (.t 1), []⟩,
 ⟨some 33, none, .mv (.t 2), []⟩,
 ⟨some 34, none, .call 157 [.t 32, .t 33], []⟩,
 ⟨some 8, none, .mv (.t 34), []⟩])
 (.seq
 (.ops 4 [⟨some 35, none, .mv (.t 8), []⟩,
 ⟨some 36, none, .bin .neq (.t 35) (.c (.int .i64 0)), []⟩])
 (.cond (.t 36)
 (.seq
 (.ops 5 [⟨some 37, none, .build [.nils, .int .i64 0, .int .i64 0, .int .i64 0, .int .i64 0, .nils] [], []⟩,
 ⟨some 38, none, .mv (.t 8), []⟩,
 ⟨none, none, .st 6 (.t 6) (.t 37), []⟩,
 ⟨some 7, none, .mv (.t 38), []⟩])
 .ret)
 .skip)))
 (.seq
 (.ops 6 [⟨some 9, none, .alloc [.int .u64 0, .int .u64 0] false, []⟩])
 (.seq
 (.seq
 (.ops 7 [⟨some 39, none, .mv (.c (.int .i64 0)), []⟩])
 (.block 0
 (.loop [] B104x0)))
 (.seq
 (.ops 15 [⟨some 60, none, .ld 2 true (.t 9), []⟩,
 ⟨some 61, none, .call 158 [.t 60], []⟩,
 ⟨some 59, none, .mv (.t 61), []⟩,
 ⟨some 62, none, .ext (.t 59) 0, []⟩,
 ⟨some 63, none, .ext (.t 59) 1, []⟩,
 ⟨some 64, none, .ext (.t 59) 2, []⟩,
 ⟨some 65, none, .ext (.t 59) 3, []⟩,
 ⟨some 13, none, .alloc [.nils, .int .i64 0, .int .i64 0, .int .i64 0, .int .i64 0, .nils] false, []⟩,
 ⟨none, none, .st 6 (.t 13) (.t 62), []⟩,
 ⟨some 14, none, .mv (.t 63), []⟩,
 ⟨some 15, none, .mv (.t 64), []⟩,
 ⟨some 16, none, .mv (.t 65), []⟩])
 (.seq
 (.seq
 (.ops 16 [⟨some 67, none, .ixa (some 2) 1 (.t 9) (.c (.int .i64 0)), []⟩,
 ⟨some 68, none, .ld 1 false (.t 67), []⟩,
 ⟨some 69, none, .ixa (some 2) 1 (.t 9) (.c (.int .i64 1)), []⟩,
 ⟨some 70, none, .ld 1 false (.t 69), []⟩,
 ⟨some 71, none, .call 159 [.t 68, .t 70], []⟩,
 ⟨some 66, none, .mv (.t 71), []⟩,
 ⟨some 72, none, .ext (.t 66) 0, []⟩,
 ⟨some 73, none, .ext (.t 66) 1, []⟩,
 ⟨some 17, none, .alloc [.int .u64 0, .int .u64 0, .int .u64 0, .int .u64 0, .int .u64 0, .int .u64 0, .int .u64 0] false, []⟩,
 ⟨none, none, .st 7 (.t 17) (.t 72), []⟩,
 ⟨some 18, none, .mv (.t 73), []⟩])
 (.seq
 (.ops 17 [⟨some 74, none, .mv (.t 16), []⟩,
 ⟨some 75, none, .bin .neq (.t 74) (.c (.int .i64 0)), []⟩,
 ⟨some 76, none, .mv (.t 75), []⟩,
 ⟨some 77, some (76, false), .mv (.t 18), []⟩,
 ⟨some 78, some (76, false), .un .not (.t 77), []⟩,
 ⟨some 79, none, .pick (.t 76) (.c (.bool true)) (.t 78), []⟩,
 ⟨some 80, none, .mv (.t 79), []⟩,
 ⟨some 81, some (80, false), .ld 7 true (.t 17), []⟩,
 ⟨some 82, some (80, false), .mv (.t 1), []⟩,
 ⟨some 83, some (80, false), .call 160 [.t 81, .t 82], []⟩,
 ⟨some 84, some (80, false), .un .not (.t 83), []⟩,
 ⟨some 85, none, .pick (.t 80) (.c (.bool true)) (.t 84), []⟩])
 (.cond (.t 85)
 (.seq
 (.ops 18 [⟨some 86, none, .build [.nils, .int .i64 0, .int .i64 0, .int .i64 0, .int .i64 0, .nils] [], []⟩,
 ⟨none, none, .st 6 (.t 6) (.t 86), []⟩,
 ⟨some 7, none, .mv (.c (.int .i64 12)), []⟩])
 .ret)
 .skip)))
 (.seq
 (.seq
 (.ops 19 [⟨some 87, none, .mv (.t 14), []⟩,
 ⟨some 88, none, .cvi .u64 (.t 87), []⟩,
 ⟨some 89, none, .bin .add (.t 88) (.c (.int .u64 1)), []⟩,
 ⟨some 19, none, .mv (.t 89), []⟩])
 (.block 2
 (.loop [] B104x1)))
 (.seq
 (.ops 34 [⟨some 159, none, .ld 6 true (.t 13), []⟩,
 ⟨none, none, .st 6 (.t 6) (.t 159), []⟩,
 ⟨some 7, none, .mv (.c (.int .i64 0)), []⟩])
 .ret)))))))))⟩
theorem F104_code : cfgA.code 104 = some F104 := by kernel_rfl

/-- ticketline/thread.Chain: the round 0 -/
noncomputable def B105x0 : AC := (.seq
 (.ops 3 [⟨some 13, none, .bin .lss (.t 12) (.t 11), []⟩])
 (.seq
 (.cond (.t 13)
 .skip
 (.exit 0))
 (.seq
 (.block 1
 (.seq
 (.ops 4 [⟨some 14, none, .ixa none 1 (.t 10) (.t 12), []⟩,
 ⟨some 15, none, .ld 1 false (.t 14), []⟩,
 ⟨some 6, none, .mv (.t 15), []⟩])
 (.seq
 (.ops 5 [⟨some 16, none, .mv (.t 6), []⟩,
 ⟨some 17, none, .call 164 [.t 16], []⟩,
 ⟨some 7, none, .mv (.t 17), []⟩])
 (.seq
 (.seq
 (.ops 6 [⟨some 18, none, .mv (.t 7), []⟩,
 ⟨some 19, none, .eqn .iface false (.t 18), []⟩])
 (.cond (.t 19)
 (.seq
 (.ops 7 [⟨some 2, none, .mv (.c (.nili)), []⟩,
 ⟨some 3, none, .mv (.c (.int .i64 1)), []⟩])
 .ret)
 .skip))
 (.ops 8 [⟨some 20, none, .mv (.t 4), []⟩,
 ⟨some 21, none, .mv (.t 4), []⟩,
 ⟨some 22, none, .nilc (.t 21) (mok Tryz.prog), []⟩,
 ⟨some 23, none, .fld 0 (.t 22), []⟩,
 ⟨some 24, none, .ld 1 false (.t 23), []⟩,
 ⟨some 25, none, .mv (.t 7), []⟩,
 ⟨some 26, none, .bslice [.nili] 1 1 [(0, (.t 25))] true false, []⟩,
 ⟨some 27, none, .app 1 16 (.t 24) (.t 26) true, []⟩,
 ⟨some 28, none, .nilc (.t 20) (mok Tryz.prog), []⟩,
 ⟨some 29, none, .fld 0 (.t 28), []⟩,
 ⟨none, none, .st 1 (.t 29) (.t 27), []⟩])))))
 (.ops 9 [⟨some 30, none, .bin .add (.t 12) (.c (.int .i64 1)), []⟩,
 ⟨some 12, none, .mv (.t 30), []⟩]))))
/-- ticketline/thread.Chain -/
noncomputable def F105 : AFn := ⟨41, [.tmp 2, .tmp 3], (.seq
 (.ops 0 [⟨some 2, none, .mv (.c (.nili)), []⟩,
 ⟨some 3, none, .mv (.c (.int .i64 0)), []⟩])
 (.seq
 (.ops 1 [⟨some 8, none, .build [.nils] [], []⟩,
 ⟨some 9, none, .box 1 (.t 8) true, []⟩,
 ⟨some 4, none, .mv (.t 9), []⟩])
 (.seq
 (.seq
 (.ops 2 [⟨some 10, none, .mv (.t 0), []⟩,
 ⟨some 11, none, .len .slice (.t 10), []⟩,
 ⟨some 12, none, .mv (.c (.int .i64 0)), []⟩])
 (.block 0
 (.loop [] B105x0)))
 (.seq
 (.seq
 (.ops 10 [⟨some 31, none, .mv (.t 4), []⟩,
 ⟨some 32, none, .nilc (.t 31) (mok Tryz.prog), []⟩,
 ⟨some 33, none, .fld 0 (.t 32), []⟩,
 ⟨some 34, none, .ld 1 false (.t 33), []⟩,
 ⟨some 35, none, .len .slice (.t 34), []⟩,
 ⟨some 36, none, .bin .eql (.t 35) (.c (.int .i64 0)), []⟩])
 (.cond (.t 36)
 (.seq
 (.ops 11 [⟨some 2, none, .mv (.c (.nili)), []⟩,
 ⟨some 3, none, .mv (.c (.int .i64 2)), []⟩])
 .ret)
 .skip))
 (.seq
 (.ops 12 [⟨some 37, none, .mv (.t 4), []⟩,
 ⟨some 38, none, .call 165 [.t 37], []⟩])
 (.seq
 (.ops 13 [⟨some 39, none, .mv (.t 4), []⟩,
 ⟨some 40, none, .mki 227 (.t 39), []⟩,
 ⟨some 2, none, .mv (.t 40), []⟩,
 ⟨some 3, none, .mv (.c (.int .i64 0)), []⟩])
 .ret))))))⟩
theorem F105_code : cfgA.code 105 = some F105 := by kernel_rfl

/-- ticketline/arena.place -/
noncomputable def F106 : AFn := ⟨11, [.tmp 4], (.seq
 (.ops 0 [⟨some 4, none, .mv (.c (.int .i64 0)), []⟩])
 (.seq
 (.ops 1 [⟨some 5, none, .mv (.t 0), []⟩,
 ⟨some 6, none, .bin .sub (.t 5) (.c (.int .i64 1)), []⟩,
 ⟨some 7, none, .bin .mul (.c (.int .i64 128)) (.t 6), []⟩,
 ⟨some 8, none, .bin .add (.c (.int .i64 16)) (.t 7), []⟩,
 ⟨some 9, none, .mv (.t 1), []⟩,
 ⟨some 10, none, .bin .add (.t 8) (.t 9), []⟩,
 ⟨some 4, none, .mv (.t 10), []⟩])
 .ret))⟩
theorem F106_code : cfgA.code 106 = some F106 := by kernel_rfl

/-- (*ticketline/qnode.Nodes).Of -/
noncomputable def F107 : AFn := ⟨34, [.tmp 6, .tmp 7], (.seq
 (.ops 0 [⟨some 6, none, .mv (.c (.int .i64 0)), []⟩,
 ⟨some 7, none, .mv (.c (.int .i64 0)), []⟩])
 (.seq
 (.block 0
 (.seq
 (.ops 1 [⟨some 9, none, .mv (.t 0), []⟩,
 ⟨some 10, none, .call 166 [.t 9], []⟩,
 ⟨some 8, none, .mv (.t 10), []⟩])
 (.cond (.t 8)
 (.seq
 (.ops 2 [⟨some 6, none, .mv (.c (.int .i64 0)), []⟩,
 ⟨some 7, none, .mv (.c (.int .i64 1)), []⟩])
 .ret)
 (.seq
 (.ops 3 [⟨some 12, none, .mv (.t 1), []⟩,
 ⟨some 13, none, .bin .lss (.t 12) (.c (.int .i64 0)), []⟩,
 ⟨some 14, none, .mv (.t 13), []⟩,
 ⟨some 15, some (14, false), .mv (.t 1), []⟩,
 ⟨some 16, some (14, false), .mv (.t 0), []⟩,
 ⟨some 17, some (14, false), .nilc (.t 16) (mok Tryz.prog), []⟩,
 ⟨some 18, some (14, false), .fld 1 (.t 17), []⟩,
 ⟨some 19, some (14, false), .ld 1 false (.t 18), []⟩,
 ⟨some 20, some (14, false), .bin .geq (.t 15) (.t 19), []⟩,
 ⟨some 21, none, .pick (.t 14) (.c (.bool true)) (.t 20), []⟩,
 ⟨some 22, none, .mv (.t 21), []⟩,
 ⟨some 23, some (22, false), .mv (.t 2), []⟩,
 ⟨some 24, some (22, false), .bin .neq (.t 23) (.c (.int .i64 0)), []⟩,
 ⟨some 25, some (22, false), .mv (.t 24), []⟩,
 ⟨some 26, some (25, true), .mv (.t 2), []⟩,
 ⟨some 27, some (25, true), .bin .neq (.t 26) (.c (.int .i64 1)), []⟩,
 ⟨some 28, some (22, false), .pick (.t 25) (.t 27) (.c (.bool false)), []⟩,
 ⟨some 29, none, .pick (.t 22) (.c (.bool true)) (.t 28), []⟩,
 ⟨some 11, none, .mv (.t 29), []⟩])
 (.cond (.t 11)
 (.seq
 (.ops 4 [⟨some 6, none, .mv (.c (.int .i64 0)), []⟩,
 ⟨some 7, none, .mv (.c (.int .i64 2)), []⟩])
 .ret)
 .skip)))))
 (.seq
 (.ops 5 [⟨some 30, none, .mv (.t 1), []⟩,
 ⟨some 31, none, .bin .mul (.t 30) (.c (.int .i64 2)), []⟩,
 ⟨some 32, none, .mv (.t 2), []⟩,
 ⟨some 33, none, .bin .add (.t 31) (.t 32), []⟩,
 ⟨some 6, none, .mv (.t 33), []⟩,
 ⟨some 7, none, .mv (.c (.int .i64 0)), []⟩])
 .ret)))⟩
theorem F107_code : cfgA.code 107 = some F107 := by kernel_rfl

/-- ticketline/mcs.NewRelease -/
noncomputable def F108 : AFn := ⟨23, [.tmp 6, .tmp 7], (.seq
 (.ops 0 [⟨some 6, none, .mv (.c (.nilp)), []⟩,
 ⟨some 7, none, .mv (.c (.int .i64 0)), []⟩])
 (.seq
 (.ops 1 [⟨some 11, none, .mv (.t 0), []⟩,
 ⟨some 12, none, .mv (.t 1), []⟩,
 ⟨some 13, none, .mv (.t 2), []⟩,
 ⟨some 14, none, .call 167 [.t 11, .t 12, .t 13], []⟩,
 ⟨some 10, none, .mv (.t 14), []⟩,
 ⟨some 15, none, .ext (.t 10) 0, []⟩,
 ⟨some 16, none, .ext (.t 10) 1, []⟩,
 ⟨some 8, none, .alloc [.nilp, .int .i64 0, .int .i64 0, .int .i64 0, .int .u64 0, .bool false] false, []⟩,
 ⟨none, none, .st 6 (.t 8) (.t 15), []⟩,
 ⟨some 9, none, .mv (.t 16), []⟩])
 (.seq
 (.seq
 (.ops 2 [⟨some 17, none, .mv (.t 9), []⟩,
 ⟨some 18, none, .bin .neq (.t 17) (.c (.int .i64 0)), []⟩])
 (.cond (.t 18)
 (.seq
 (.ops 3 [⟨some 19, none, .mv (.t 9), []⟩,
 ⟨some 6, none, .mv (.c (.nilp)), []⟩,
 ⟨some 7, none, .mv (.t 19), []⟩])
 .ret)
 .skip))
 (.seq
 (.ops 4 [⟨some 20, none, .ld 6 true (.t 8), []⟩,
 ⟨some 21, none, .build [.nilp, .int .i64 0, .int .i64 0, .int .i64 0, .int .u64 0, .bool false] [(0, 6, (.t 20))], []⟩,
 ⟨some 22, none, .box 6 (.t 21) true, []⟩,
 ⟨some 6, none, .mv (.t 22), []⟩,
 ⟨some 7, none, .mv (.c (.int .i64 0)), []⟩])
 .ret))))⟩
theorem F108_code : cfgA.code 108 = some F108 := by kernel_rfl

/-- ticketline/keys.Words -/
noncomputable def F124 : AFn := ⟨9, [.tmp 2], (.seq
 (.ops 0 [⟨some 2, none, .mv (.c (.int .i64 0)), []⟩])
 (.seq
 (.seq
 (.ops 1 [⟨some 3, none, .mv (.t 0), []⟩,
 ⟨some 4, none, .bin .leq (.t 3) (.c (.int .i64 0)), []⟩])
 (.cond (.t 4)
 (.seq
 (.ops 2 [⟨some 2, none, .mv (.c (.int .i64 0)), []⟩])
 .ret)
 .skip))
 (.seq
 (.ops 3 [⟨some 5, none, .mv (.t 0), []⟩,
 ⟨some 6, none, .bin .sub (.t 5) (.c (.int .i64 1)), []⟩,
 ⟨some 7, none, .bin .quo (.t 6) (.c (.int .i64 8)), []⟩,
 ⟨some 8, none, .bin .add (.t 7) (.c (.int .i64 1)), []⟩,
 ⟨some 2, none, .mv (.t 8), []⟩])
 .ret)))⟩
theorem F124_code : cfgA.code 124 = some F124 := by kernel_rfl

/-- ticketline/keys.Pack: the round 0 -/
noncomputable def B125x0 : AC := (.seq
 (.ops 9 [⟨some 19, none, .bin .lss (.t 18) (.c (.int .i64 8)), []⟩])
 (.seq
 (.cond (.t 19)
 .skip
 (.exit 2))
 (.seq
 (.block 3
 (.seq
 (.ops 10 [⟨some 20, none, .mv (.t 18), []⟩,
 ⟨some 7, none, .mv (.t 20), []⟩])
 (.seq
 (.ops 11 [⟨some 21, none, .mv (.t 6), []⟩,
 ⟨some 22, none, .bin .shl (.t 21) (.c (.int .u64 8)), []⟩,
 ⟨some 6, none, .mv (.t 22), []⟩])
 (.seq
 (.ops 12 [⟨some 23, none, .mv (.t 5), []⟩,
 ⟨some 24, none, .bin .mul (.t 23) (.c (.int .i64 8)), []⟩,
 ⟨some 25, none, .mv (.t 7), []⟩,
 ⟨some 26, none, .bin .add (.t 24) (.t 25), []⟩,
 ⟨some 8, none, .mv (.t 26), []⟩])
 (.seq
 (.ops 13 [⟨some 27, none, .mv (.t 8), []⟩,
 ⟨some 28, none, .mv (.t 0), []⟩,
 ⟨some 29, none, .len .string (.t 28), []⟩,
 ⟨some 30, none, .bin .lss (.t 27) (.t 29), []⟩])
 (.cond (.t 30)
 (.ops 14 [⟨some 31, none, .mv (.t 6), []⟩,
 ⟨some 32, none, .mv (.t 0), []⟩,
 ⟨some 33, none, .mv (.t 8), []⟩,
 ⟨some 34, none, .ixs (.t 32) (.t 33), []⟩,
 ⟨some 35, none, .cvi .u64 (.t 34), []⟩,
 ⟨some 36, none, .bin .or (.t 31) (.t 35), []⟩,
 ⟨some 6, none, .mv (.t 36), []⟩])
 .skip))))))
 (.ops 15 [⟨some 37, none, .bin .add (.t 18) (.c (.int .i64 1)), []⟩,
 ⟨some 18, none, .mv (.t 37), []⟩]))))
/-- ticketline/keys.Pack: the round 1 -/
noncomputable def B125x1 : AC := (.seq
 (.ops 5 [⟨some 16, none, .bin .lss (.t 15) (.t 14), []⟩])
 (.seq
 (.cond (.t 16)
 .skip
 (.exit 0))
 (.seq
 (.block 1
 (.seq
 (.ops 6 [⟨some 17, none, .mv (.t 15), []⟩,
 ⟨some 5, none, .mv (.t 17), []⟩])
 (.seq
 (.ops 7 [⟨some 6, none, .mv (.c (.int .u64 0)), []⟩])
 (.seq
 (.seq
 (.ops 8 [⟨some 18, none, .mv (.c (.int .i64 0)), []⟩])
 (.block 2
 (.loop [] B125x0)))
 (.ops 16 [⟨some 38, none, .mv (.t 4), []⟩,
 ⟨some 39, none, .mv (.t 6), []⟩,
 ⟨some 40, none, .bslice [.int .u64 0] 1 1 [(0, (.t 39))] false false, []⟩,
 ⟨some 41, none, .app 1 8 (.t 38) (.t 40) false, []⟩,
 ⟨some 4, none, .mv (.t 41), []⟩])))))
 (.ops 17 [⟨some 42, none, .bin .add (.t 15) (.c (.int .i64 1)), []⟩,
 ⟨some 15, none, .mv (.t 42), []⟩]))))
/-- ticketline/keys.Pack -/
noncomputable def F125 : AFn := ⟨44, [.tmp 2, .tmp 3], (.seq
 (.ops 0 [⟨some 2, none, .mv (.c (.nils)), []⟩,
 ⟨some 3, none, .mv (.c (.int .i64 0)), []⟩])
 (.seq
 (.seq
 (.ops 1 [⟨some 9, none, .mv (.t 0), []⟩,
 ⟨some 10, none, .call 179 [.t 9], []⟩,
 ⟨some 11, none, .un .not (.t 10), []⟩])
 (.cond (.t 11)
 (.seq
 (.ops 2 [⟨some 2, none, .mv (.c (.nils)), []⟩,
 ⟨some 3, none, .mv (.c (.int .i64 5)), []⟩])
 .ret)
 .skip))
 (.seq
 (.ops 3 [⟨some 4, none, .mv (.c (.nils)), []⟩])
 (.seq
 (.seq
 (.ops 4 [⟨some 12, none, .mv (.t 0), []⟩,
 ⟨some 13, none, .len .string (.t 12), []⟩,
 ⟨some 14, none, .call 124 [.t 13], []⟩,
 ⟨some 15, none, .mv (.c (.int .i64 0)), []⟩])
 (.block 0
 (.loop [] B125x1)))
 (.seq
 (.ops 18 [⟨some 43, none, .mv (.t 4), []⟩,
 ⟨some 2, none, .mv (.t 43), []⟩,
 ⟨some 3, none, .mv (.c (.int .i64 0)), []⟩])
 .ret)))))⟩
theorem F125_code : cfgA.code 125 = some F125 := by kernel_rfl

/-- ticketline/latch.NewAcquire -/
noncomputable def F129 : AFn := ⟨17, [.tmp 8, .tmp 9], (.seq
 (.ops 0 [⟨some 8, none, .mv (.c (.nilp)), []⟩,
 ⟨some 9, none, .mv (.c (.int .i64 0)), []⟩])
 (.seq
 (.ops 1 [⟨some 10, none, .mv (.t 0), []⟩,
 ⟨some 11, none, .mv (.t 1), []⟩,
 ⟨some 12, none, .mv (.t 2), []⟩,
 ⟨some 13, none, .mv (.t 3), []⟩,
 ⟨some 14, none, .call 183 [.t 10, .t 11, .t 12, .c (.int .i64 1), .t 13], []⟩,
 ⟨some 15, none, .ext (.t 14) 0, []⟩,
 ⟨some 16, none, .ext (.t 14) 1, []⟩,
 ⟨some 8, none, .mv (.t 15), []⟩,
 ⟨some 9, none, .mv (.t 16), []⟩])
 .ret))⟩
theorem F129_code : cfgA.code 129 = some F129 := by kernel_rfl

/-- ticketline/slot.Valid -/
noncomputable def F133 : AFn := ⟨10, [.tmp 2], (.seq
 (.ops 0 [⟨some 1, none, .box 128 (.t 0) false, []⟩,
 ⟨some 2, none, .mv (.c (.bool false)), []⟩])
 (.seq
 (.ops 1 [⟨some 6, none, .call 141 [.t 1], []⟩,
 ⟨some 5, none, .mv (.t 6), []⟩,
 ⟨some 7, none, .ext (.t 5) 0, []⟩,
 ⟨some 8, none, .ext (.t 5) 1, []⟩,
 ⟨some 3, none, .mv (.t 7), []⟩,
 ⟨some 4, none, .mv (.t 8), []⟩])
 (.seq
 (.ops 2 [⟨some 9, none, .mv (.t 4), []⟩,
 ⟨some 2, none, .mv (.t 9), []⟩])
 .ret)))⟩
theorem F133_code : cfgA.code 133 = some F133 := by kernel_rfl

/-- (*ticketline/couple.path).get -/
noncomputable def F138 : AFn := ⟨35, [], (.seq
 (.ops 0 [⟨some 4, none, .mv (.t 0), []⟩,
 ⟨some 5, none, .mv (.t 0), []⟩,
 ⟨some 6, none, .mv (.t 0), []⟩,
 ⟨some 7, none, .nilc (.t 6) (mok Tryz.prog), []⟩,
 ⟨some 8, none, .fld 6 (.t 7), []⟩,
 ⟨some 9, none, .ld 1 false (.t 8), []⟩,
 ⟨some 10, none, .mv (.t 1), []⟩,
 ⟨some 11, none, .nilc (.t 4) (mok Tryz.prog), []⟩,
 ⟨some 12, none, .fld 7 (.t 11), []⟩,
 ⟨none, none, .st 1 (.t 12) (.t 9), []⟩,
 ⟨some 13, none, .nilc (.t 5) (mok Tryz.prog), []⟩,
 ⟨some 14, none, .fld 6 (.t 13), []⟩,
 ⟨none, none, .st 1 (.t 14) (.t 10), []⟩])
 (.ops 1 [⟨some 15, none, .mv (.t 0), []⟩,
 ⟨some 16, none, .mv (.t 0), []⟩,
 ⟨some 17, none, .mv (.t 0), []⟩,
 ⟨some 18, none, .nilc (.t 17) (mok Tryz.prog), []⟩,
 ⟨some 19, none, .fld 0 (.t 18), []⟩,
 ⟨some 20, none, .ld 2 true (.t 19), []⟩,
 ⟨some 21, none, .mv (.t 0), []⟩,
 ⟨some 22, none, .nilc (.t 21) (mok Tryz.prog), []⟩,
 ⟨some 23, none, .fld 2 (.t 22), []⟩,
 ⟨some 24, none, .ld 1 false (.t 23), []⟩,
 ⟨some 25, none, .mv (.t 1), []⟩,
 ⟨some 26, none, .mv (.t 0), []⟩,
 ⟨some 27, none, .nilc (.t 26) (mok Tryz.prog), []⟩,
 ⟨some 28, none, .fld 4 (.t 27), []⟩,
 ⟨some 29, none, .ld 1 false (.t 28), []⟩,
 ⟨some 30, none, .call 91 [.t 20, .t 24, .t 25, .t 29], []⟩,
 ⟨some 31, none, .nilc (.t 15) (mok Tryz.prog), []⟩,
 ⟨some 32, none, .fld 8 (.t 31), []⟩,
 ⟨none, none, .st 1 (.t 32) (.t 30), []⟩,
 ⟨some 33, none, .nilc (.t 16) (mok Tryz.prog), []⟩,
 ⟨some 34, none, .fld 5 (.t 33), []⟩,
 ⟨none, none, .st 1 (.t 34) (.c (.int .i64 3)), []⟩]))⟩
theorem F138_code : cfgA.code 138 = some F138 := by kernel_rfl

/-- ticketline/latch.NewRelease -/
noncomputable def F140 : AFn := ⟨14, [.tmp 6, .tmp 7], (.seq
 (.ops 0 [⟨some 6, none, .mv (.c (.nilp)), []⟩,
 ⟨some 7, none, .mv (.c (.int .i64 0)), []⟩])
 (.seq
 (.ops 1 [⟨some 8, none, .mv (.t 0), []⟩,
 ⟨some 9, none, .mv (.t 1), []⟩,
 ⟨some 10, none, .mv (.t 2), []⟩,
 ⟨some 11, none, .call 183 [.t 8, .t 9, .t 10, .c (.int .i64 2), .c (.int .i64 0)], []⟩,
 ⟨some 12, none, .ext (.t 11) 0, []⟩,
 ⟨some 13, none, .ext (.t 11) 1, []⟩,
 ⟨some 6, none, .mv (.t 12), []⟩,
 ⟨some 7, none, .mv (.t 13), []⟩])
 .ret))⟩
theorem F140_code : cfgA.code 140 = some F140 := by kernel_rfl

/-- ticketline/slot.list: the round 0 -/
noncomputable def B141x0 : AC := (.seq
 (.seq
 (.ops 15 [⟨some 68, none, .mv (.t 10), []⟩,
 ⟨some 69, none, .fld 2 (.t 7), []⟩,
 ⟨some 70, none, .ld 1 false (.t 69), []⟩,
 ⟨some 71, none, .bin .lss (.t 68) (.t 70), []⟩])
 (.cond (.t 71)
 .skip
 (.exit 2)))
 (.seq
 (.block 3
 (.seq
 (.seq
 (.ops 17 [⟨some 74, none, .mv (.t 10), []⟩,
 ⟨some 75, none, .ixa (some 128) 1 (.t 5) (.t 74), []⟩,
 ⟨some 76, none, .ld 1 false (.t 75), []⟩])
 (.cond (.t 76)
 (.seq
 (.ops 18 [⟨some 2, none, .mv (.c (.nils)), []⟩,
 ⟨some 3, none, .mv (.c (.bool false)), []⟩])
 .ret)
 .skip))
 (.ops 19 [⟨some 77, none, .mv (.t 10), []⟩,
 ⟨some 78, none, .ixa (some 128) 1 (.t 5) (.t 77), []⟩,
 ⟨none, none, .st 1 (.t 78) (.c (.bool true)), []⟩])))
 (.ops 16 [⟨some 72, none, .mv (.t 10), []⟩,
 ⟨some 73, none, .bin .add (.t 72) (.c (.int .i64 1)), []⟩,
 ⟨some 10, none, .mv (.t 73), []⟩])))
/-- ticketline/slot.list: the round 1 -/
noncomputable def B141x1 : AC := (.seq
 (.ops 6 [⟨some 20, none, .bin .lss (.t 19) (.t 18), []⟩])
 (.seq
 (.cond (.t 20)
 .skip
 (.exit 0))
 (.seq
 (.block 1
 (.seq
 (.ops 7 [⟨some 21, none, .mv (.t 19), []⟩,
 ⟨some 6, none, .mv (.t 21), []⟩])
 (.seq
 (.seq
 (.ops 8 [⟨some 22, none, .mv (.t 0), []⟩,
 ⟨some 23, none, .mv (.t 6), []⟩,
 ⟨some 24, none, .call 187 [.t 22, .t 23], []⟩,
 ⟨some 25, none, .un .not (.t 24), []⟩])
 (.cond (.t 25)
 (.seq
 (.ops 9 [⟨some 2, none, .mv (.c (.nils)), []⟩,
 ⟨some 3, none, .mv (.c (.bool false)), []⟩])
 .ret)
 .skip))
 (.seq
 (.ops 10 [⟨some 26, none, .mv (.t 0), []⟩,
 ⟨some 27, none, .mv (.t 6), []⟩,
 ⟨some 28, none, .bin .add (.c (.int .i64 20)) (.t 27), []⟩,
 ⟨some 29, none, .nilc (.t 26) (mok Tryz.prog), []⟩,
 ⟨some 30, none, .ixa (some 128) 1 (.t 29) (.t 28), []⟩,
 ⟨some 31, none, .ld 1 false (.t 30), []⟩,
 ⟨some 32, none, .call 184 [.t 31], []⟩,
 ⟨some 7, none, .alloc [.int .i64 0, .int .i64 0, .int .i64 0, .int .i64 0, .int .i64 0] false, []⟩,
 ⟨none, none, .st 5 (.t 7) (.t 32), []⟩])
 (.seq
 (.ops 11 [⟨some 34, none, .mv (.t 0), []⟩,
 ⟨some 35, none, .ld 5 true (.t 7), []⟩,
 ⟨some 36, none, .call 188 [.t 34, .t 35], []⟩,
 ⟨some 33, none, .mv (.t 36), []⟩,
 ⟨some 37, none, .ext (.t 33) 0, []⟩,
 ⟨some 38, none, .ext (.t 33) 1, []⟩,
 ⟨some 8, none, .alloc [.str [], .str []] false, []⟩,
 ⟨none, none, .st 2 (.t 8) (.t 37), []⟩,
 ⟨some 9, none, .mv (.t 38), []⟩])
 (.seq
 (.seq
 (.ops 12 [⟨some 39, none, .mv (.t 9), []⟩,
 ⟨some 40, none, .bin .neq (.t 39) (.c (.int .i64 0)), []⟩,
 ⟨some 41, none, .mv (.t 40), []⟩,
 ⟨some 42, some (41, false), .mv (.t 0), []⟩,
 ⟨some 43, some (41, false), .nilc (.t 42) (mok Tryz.prog), []⟩,
 ⟨some 44, some (41, false), .ixa (some 128) 1 (.t 43) (.c (.int .i64 8)), []⟩,
 ⟨some 45, some (41, false), .ld 1 false (.t 44), []⟩,
 ⟨some 46, some (41, false), .bin .gtr (.t 45) (.c (.int .u64 1)), []⟩,
 ⟨some 47, some (41, false), .mv (.t 46), []⟩,
 ⟨some 48, some (47, true), .mv (.t 0), []⟩,
 ⟨some 49, some (47, true), .fld 1 (.t 7), []⟩,
 ⟨some 50, some (47, true), .ld 1 false (.t 49), []⟩,
 ⟨some 51, some (47, true), .nilc (.t 48) (mok Tryz.prog), []⟩,
 ⟨some 52, some (47, true), .ixa (some 128) 1 (.t 51) (.t 50), []⟩,
 ⟨some 53, some (47, true), .ld 1 false (.t 52), []⟩,
 ⟨some 54, some (47, true), .bin .lss (.t 53) (.c (.int .u64 1)), []⟩,
 ⟨some 55, some (47, true), .mv (.t 54), []⟩,
 ⟨some 56, some (55, false), .mv (.t 0), []⟩,
 ⟨some 57, some (55, false), .fld 1 (.t 7), []⟩,
 ⟨some 58, some (55, false), .ld 1 false (.t 57), []⟩,
 ⟨some 59, some (55, false), .nilc (.t 56) (mok Tryz.prog), []⟩,
 ⟨some 60, some (55, false), .ixa (some 128) 1 (.t 59) (.t 58), []⟩,
 ⟨some 61, some (55, false), .ld 1 false (.t 60), []⟩,
 ⟨some 62, some (55, false), .bin .gtr (.t 61) (.c (.int .u64 511)), []⟩,
 ⟨some 63, some (47, true), .pick (.t 55) (.c (.bool true)) (.t 62), []⟩,
 ⟨some 64, some (41, false), .pick (.t 47) (.t 63) (.c (.bool false)), []⟩,
 ⟨some 65, none, .pick (.t 41) (.c (.bool true)) (.t 64), []⟩])
 (.cond (.t 65)
 (.seq
 (.ops 13 [⟨some 2, none, .mv (.c (.nils)), []⟩,
 ⟨some 3, none, .mv (.c (.bool false)), []⟩])
 .ret)
 .skip))
 (.seq
 (.seq
 (.ops 14 [⟨some 66, none, .fld 0 (.t 7), []⟩,
 ⟨some 67, none, .ld 1 false (.t 66), []⟩,
 ⟨some 10, none, .mv (.t 67), []⟩])
 (.block 2
 (.loop [] B141x0)))
 (.ops 20 [⟨some 79, none, .mv (.t 4), []⟩,
 ⟨some 80, none, .ld 2 true (.t 8), []⟩,
 ⟨some 81, none, .bslice [.str [], .str []] 2 1 [(0, (.t 80))] false false, []⟩,
 ⟨some 82, none, .app 2 32 (.t 79) (.t 81) false, []⟩,
 ⟨some 4, none, .mv (.t 82), []⟩]))))))))
 (.ops 21 [⟨some 83, none, .bin .add (.t 19) (.c (.int .i64 1)), []⟩,
 ⟨some 19, none, .mv (.t 83), []⟩]))))
/-- ticketline/slot.list -/
noncomputable def F141 : AFn := ⟨85, [.tmp 2, .tmp 3], (.seq
 (.ops 0 [⟨some 2, none, .mv (.c (.nils)), []⟩,
 ⟨some 3, none, .mv (.c (.bool false)), []⟩])
 (.seq
 (.seq
 (.ops 1 [⟨some 11, none, .mv (.t 0), []⟩,
 ⟨some 12, none, .call 186 [.t 11], []⟩,
 ⟨some 13, none, .un .not (.t 12), []⟩])
 (.cond (.t 13)
 (.seq
 (.ops 2 [⟨some 2, none, .mv (.c (.nils)), []⟩,
 ⟨some 3, none, .mv (.c (.bool false)), []⟩])
 .ret)
 .skip))
 (.seq
 (.ops 3 [⟨some 4, none, .mv (.c (.nils)), []⟩])
 (.seq
 (.ops 4 [⟨some 5, none, .alloc (List.replicate 128 (.bool false)) false, []⟩])
 (.seq
 (.seq
 (.ops 5 [⟨some 14, none, .mv (.t 0), []⟩,
 ⟨some 15, none, .nilc (.t 14) (mok Tryz.prog), []⟩,
 ⟨some 16, none, .ixa (some 128) 1 (.t 15) (.c (.int .i64 9)), []⟩,
 ⟨some 17, none, .ld 1 false (.t 16), []⟩,
 ⟨some 18, none, .cvi .i64 (.t 17), []⟩,
 ⟨some 19, none, .mv (.c (.int .i64 0)), []⟩])
 (.block 0
 (.loop [] B141x1)))
 (.seq
 (.ops 22 [⟨some 84, none, .mv (.t 4), []⟩,
 ⟨some 2, none, .mv (.t 84), []⟩,
 ⟨some 3, none, .mv (.c (.bool true)), []⟩])
 .ret))))))⟩
theorem F141_code : cfgA.code 141 = some F141 := by kernel_rfl

/-- ticketline/slot.fence: the round 0 -/
noncomputable def B142x0 : AC := (.seq
 (.ops 6 [⟨some 35, none, .bin .lss (.t 34) (.t 33), []⟩])
 (.seq
 (.cond (.t 35)
 .skip
 (.exit 0))
 (.seq
 (.block 1
 (.seq
 (.ops 7 [⟨some 36, none, .ixa none 1 (.t 32) (.t 34), []⟩,
 ⟨some 37, none, .ld 1 false (.t 36), []⟩,
 ⟨some 9, none, .mv (.t 37), []⟩])
 (.seq
 (.ops 8 [⟨some 38, none, .mv (.t 9), []⟩,
 ⟨some 39, none, .bin .neq (.t 38) (.c (.int .u64 0)), []⟩])
 (.cond (.t 39)
 (.seq
 (.ops 9 [⟨some 4, none, .mv (.c (.str [])), []⟩,
 ⟨some 5, none, .mv (.c (.int .i64 12)), []⟩])
 .ret)
 .skip))))
 (.ops 10 [⟨some 40, none, .bin .add (.t 34) (.c (.int .i64 1)), []⟩,
 ⟨some 34, none, .mv (.t 40), []⟩]))))
/-- ticketline/slot.fence -/
noncomputable def F142 : AFn := ⟨51, [.tmp 4, .tmp 5], (.seq
 (.ops 0 [⟨some 4, none, .mv (.c (.str [])), []⟩,
 ⟨some 5, none, .mv (.c (.int .i64 0)), []⟩])
 (.seq
 (.seq
 (.ops 1 [⟨some 10, none, .mv (.t 0), []⟩,
 ⟨some 11, none, .mv (.t 1), []⟩,
 ⟨some 12, none, .nilc (.t 10) (mok Tryz.prog), []⟩,
 ⟨some 13, none, .ixa (some 128) 1 (.t 12) (.t 11), []⟩,
 ⟨some 14, none, .ld 1 false (.t 13), []⟩,
 ⟨some 15, none, .bin .gtr (.t 14) (.c (.int .u64 24)), []⟩])
 (.cond (.t 15)
 (.seq
 (.ops 2 [⟨some 4, none, .mv (.c (.str [])), []⟩,
 ⟨some 5, none, .mv (.c (.int .i64 12)), []⟩])
 .ret)
 .skip))
 (.seq
 (.ops 3 [⟨some 16, none, .mv (.t 0), []⟩,
 ⟨some 17, none, .mv (.t 1), []⟩,
 ⟨some 18, none, .nilc (.t 16) (mok Tryz.prog), []⟩,
 ⟨some 19, none, .ixa (some 128) 1 (.t 18) (.t 17), []⟩,
 ⟨some 20, none, .ld 1 false (.t 19), []⟩,
 ⟨some 21, none, .cvi .i64 (.t 20), []⟩,
 ⟨some 6, none, .mv (.t 21), []⟩])
 (.seq
 (.ops 4 [⟨some 22, none, .mv (.t 1), []⟩,
 ⟨some 23, none, .bin .add (.t 22) (.c (.int .i64 1)), []⟩,
 ⟨some 24, none, .mv (.t 6), []⟩,
 ⟨some 25, none, .call 124 [.t 24], []⟩,
 ⟨some 26, none, .bin .add (.t 23) (.t 25), []⟩,
 ⟨some 7, none, .mv (.t 26), []⟩])
 (.seq
 (.seq
 (.ops 5 [⟨some 27, none, .mv (.t 0), []⟩,
 ⟨some 28, none, .nilc (.t 27) (mok Tryz.prog), []⟩,
 ⟨some 29, none, .mv (.t 7), []⟩,
 ⟨some 30, none, .mv (.t 1), []⟩,
 ⟨some 31, none, .bin .add (.t 30) (.c (.int .i64 4)), []⟩,
 ⟨some 32, none, .slc (some 128) 1 (.t 28) (some (.t 29)) (some (.t 31)), []⟩,
 ⟨some 33, none, .len .slice (.t 32), []⟩,
 ⟨some 34, none, .mv (.c (.int .i64 0)), []⟩])
 (.block 0
 (.loop [] B142x0)))
 (.seq
 (.ops 11 [⟨some 41, none, .mv (.t 0), []⟩,
 ⟨some 42, none, .nilc (.t 41) (mok Tryz.prog), []⟩,
 ⟨some 43, none, .mv (.t 1), []⟩,
 ⟨some 44, none, .bin .add (.t 43) (.c (.int .i64 1)), []⟩,
 ⟨some 45, none, .mv (.t 7), []⟩,
 ⟨some 46, none, .slc (some 128) 1 (.t 42) (some (.t 44)) (some (.t 45)), []⟩,
 ⟨some 47, none, .mv (.t 6), []⟩,
 ⟨some 48, none, .call 189 [.t 46, .t 47], []⟩,
 ⟨some 49, none, .ext (.t 48) 0, []⟩,
 ⟨some 50, none, .ext (.t 48) 1, []⟩,
 ⟨some 4, none, .mv (.t 49), []⟩,
 ⟨some 5, none, .mv (.t 50), []⟩])
 .ret))))))⟩
theorem F142_code : cfgA.code 142 = some F142 := by kernel_rfl

/-- ticketline/descend.valid -/
noncomputable def F143 : AFn := ⟨21, [.tmp 2], (.seq
 (.ops 0 [⟨some 1, none, .box 2 (.t 0) false, []⟩,
 ⟨some 2, none, .mv (.c (.bool false)), []⟩])
 (.seq
 (.ops 1 [⟨some 3, none, .fld 0 (.t 1), []⟩,
 ⟨some 4, none, .ld 1 false (.t 3), []⟩,
 ⟨some 5, none, .bin .geq (.t 4) (.c (.int .i64 1)), []⟩,
 ⟨some 6, none, .mv (.t 5), []⟩,
 ⟨some 7, some (6, true), .fld 0 (.t 1), []⟩,
 ⟨some 8, some (6, true), .ld 1 false (.t 7), []⟩,
 ⟨some 9, some (6, true), .bin .leq (.t 8) (.c (.int .i64 511)), []⟩,
 ⟨some 10, none, .pick (.t 6) (.t 9) (.c (.bool false)), []⟩,
 ⟨some 11, none, .mv (.t 10), []⟩,
 ⟨some 12, some (11, true), .fld 1 (.t 1), []⟩,
 ⟨some 13, some (11, true), .ld 1 false (.t 12), []⟩,
 ⟨some 14, some (11, true), .bin .geq (.t 13) (.c (.int .i64 1)), []⟩,
 ⟨some 15, none, .pick (.t 11) (.t 14) (.c (.bool false)), []⟩,
 ⟨some 16, none, .mv (.t 15), []⟩,
 ⟨some 17, some (16, true), .fld 1 (.t 1), []⟩,
 ⟨some 18, some (16, true), .ld 1 false (.t 17), []⟩,
 ⟨some 19, some (16, true), .bin .leq (.t 18) (.c (.int .i64 17)), []⟩,
 ⟨some 20, none, .pick (.t 16) (.t 19) (.c (.bool false)), []⟩,
 ⟨some 2, none, .mv (.t 20), []⟩])
 .ret))⟩
theorem F143_code : cfgA.code 143 = some F143 := by kernel_rfl

/-- ticketline/descend.nodes -/
noncomputable def F144 : AFn := ⟨7, [.tmp 2], (.seq
 (.ops 0 [⟨some 1, none, .box 2 (.t 0) false, []⟩,
 ⟨some 2, none, .mv (.c (.int .i64 0)), []⟩])
 (.seq
 (.ops 1 [⟨some 3, none, .fld 0 (.t 1), []⟩,
 ⟨some 4, none, .ld 1 false (.t 3), []⟩,
 ⟨some 5, none, .bin .mul (.c (.int .i64 128)) (.t 4), []⟩,
 ⟨some 6, none, .bin .add (.c (.int .i64 16)) (.t 5), []⟩,
 ⟨some 2, none, .mv (.t 6), []⟩])
 .ret))⟩
theorem F144_code : cfgA.code 144 = some F144 := by kernel_rfl

/-- (*ticketline/mem.Mem).Len -/
noncomputable def F145 : AFn := ⟨10, [.tmp 2], (.seq
 (.ops 0 [⟨some 2, none, .mv (.c (.int .i64 0)), []⟩])
 (.seq
 (.seq
 (.ops 1 [⟨some 3, none, .mv (.t 0), []⟩,
 ⟨some 4, none, .call 174 [.t 3], []⟩])
 (.cond (.t 4)
 (.seq
 (.ops 2 [⟨some 2, none, .mv (.c (.int .i64 0)), []⟩])
 .ret)
 .skip))
 (.seq
 (.ops 3 [⟨some 5, none, .mv (.t 0), []⟩,
 ⟨some 6, none, .nilc (.t 5) (mok Tryz.prog), []⟩,
 ⟨some 7, none, .fld 0 (.t 6), []⟩,
 ⟨some 8, none, .ld 1 false (.t 7), []⟩,
 ⟨some 9, none, .len .slice (.t 8), []⟩,
 ⟨some 2, none, .mv (.t 9), []⟩])
 .ret)))⟩
theorem F145_code : cfgA.code 145 = some F145 := by kernel_rfl

/-- (*ticketline/mem.Mem).Copy -/
noncomputable def F146 : AFn := ⟨12, [.tmp 2], (.seq
 (.ops 0 [⟨some 2, none, .mv (.c (.nilp)), []⟩])
 (.seq
 (.seq
 (.ops 1 [⟨some 3, none, .mv (.t 0), []⟩,
 ⟨some 4, none, .call 174 [.t 3], []⟩])
 (.cond (.t 4)
 (.seq
 (.ops 2 [⟨some 2, none, .mv (.c (.nilp)), []⟩])
 .ret)
 .skip))
 (.seq
 (.ops 3 [⟨some 5, none, .mv (.t 0), []⟩,
 ⟨some 6, none, .nilc (.t 5) (mok Tryz.prog), []⟩,
 ⟨some 7, none, .fld 0 (.t 6), []⟩,
 ⟨some 8, none, .ld 1 false (.t 7), []⟩,
 ⟨some 9, none, .call 173 [.t 8], []⟩,
 ⟨some 10, none, .build [.nils] [(0, 1, (.t 9))], []⟩,
 ⟨some 11, none, .box 1 (.t 10) true, []⟩,
 ⟨some 2, none, .mv (.t 11), []⟩])
 .ret)))⟩
theorem F146_code : cfgA.code 146 = some F146 := by kernel_rfl

/-- (ticketline/arena.words).set -/
noncomputable def F147 : AFn := ⟨11, [], (.seq
 (.ops 0 [⟨some 3, none, .box 1 (.t 0) false, []⟩])
 (.ops 1 [⟨some 6, none, .fld 0 (.t 3), []⟩,
 ⟨some 7, none, .ld 1 false (.t 6), []⟩,
 ⟨some 8, none, .mv (.t 1), []⟩,
 ⟨some 9, none, .mv (.t 2), []⟩,
 ⟨some 10, none, .call 190 [.t 7, .t 8, .t 9], []⟩]))⟩
theorem F147_code : cfgA.code 147 = some F147 := by kernel_rfl

/-- ticketline/slot.setFence -/
noncomputable def F149 : AFn := ⟨33, [.tmp 6], (.seq
 (.ops 0 [⟨some 6, none, .mv (.c (.int .i64 0)), []⟩])
 (.seq
 (.ops 1 [⟨some 10, none, .mv (.t 2), []⟩,
 ⟨some 11, none, .call 125 [.t 10], []⟩,
 ⟨some 9, none, .mv (.t 11), []⟩,
 ⟨some 12, none, .ext (.t 9) 0, []⟩,
 ⟨some 13, none, .ext (.t 9) 1, []⟩,
 ⟨some 7, none, .mv (.t 12), []⟩,
 ⟨some 8, none, .mv (.t 13), []⟩])
 (.seq
 (.seq
 (.ops 2 [⟨some 14, none, .mv (.t 8), []⟩,
 ⟨some 15, none, .bin .neq (.t 14) (.c (.int .i64 0)), []⟩])
 (.cond (.t 15)
 (.seq
 (.ops 3 [⟨some 16, none, .mv (.t 8), []⟩,
 ⟨some 6, none, .mv (.t 16), []⟩])
 .ret)
 .skip))
 (.seq
 (.ops 4 [⟨some 17, none, .mv (.t 0), []⟩,
 ⟨some 18, none, .mv (.t 1), []⟩,
 ⟨some 19, none, .mv (.t 2), []⟩,
 ⟨some 20, none, .len .string (.t 19), []⟩,
 ⟨some 21, none, .cvi .u64 (.t 20), []⟩,
 ⟨some 22, none, .nilc (.t 17) (mok Tryz.prog), []⟩,
 ⟨some 23, none, .ixa (some 128) 1 (.t 22) (.t 18), []⟩,
 ⟨none, none, .st 1 (.t 23) (.t 21), []⟩])
 (.seq
 (.ops 5 [⟨some 24, none, .mv (.t 0), []⟩,
 ⟨some 25, none, .nilc (.t 24) (mok Tryz.prog), []⟩,
 ⟨some 26, none, .mv (.t 1), []⟩,
 ⟨some 27, none, .bin .add (.t 26) (.c (.int .i64 1)), []⟩,
 ⟨some 28, none, .mv (.t 1), []⟩,
 ⟨some 29, none, .bin .add (.t 28) (.c (.int .i64 4)), []⟩,
 ⟨some 30, none, .slc (some 128) 1 (.t 25) (some (.t 27)) (some (.t 29)), []⟩,
 ⟨some 31, none, .mv (.t 7), []⟩,
 ⟨some 32, none, .cpy 1 (.t 30) (.t 31), []⟩])
 (.seq
 (.ops 6 [⟨some 6, none, .mv (.c (.int .i64 0)), []⟩])
 .ret))))))⟩
theorem F149_code : cfgA.code 149 = some F149 := by kernel_rfl

/-- (*ticketline/arena.Arena).none -/
noncomputable def F150 : AFn := ⟨13, [.tmp 2], (.seq
 (.ops 0 [⟨some 2, none, .mv (.c (.bool false)), []⟩])
 (.seq
 (.ops 1 [⟨some 3, none, .mv (.t 0), []⟩,
 ⟨some 4, none, .eqn .ptr false (.t 3), []⟩,
 ⟨some 5, none, .mv (.t 4), []⟩,
 ⟨some 6, some (5, false), .mv (.t 0), []⟩,
 ⟨some 7, some (5, false), .nilc (.t 6) (mok Tryz.prog), []⟩,
 ⟨some 8, some (5, false), .fld 0 (.t 7), []⟩,
 ⟨some 9, some (5, false), .fld 0 (.t 8), []⟩,
 ⟨some 10, some (5, false), .ld 1 false (.t 9), []⟩,
 ⟨some 11, some (5, false), .eqn .ptr false (.t 10), []⟩,
 ⟨some 12, none, .pick (.t 5) (.c (.bool true)) (.t 11), []⟩,
 ⟨some 2, none, .mv (.t 12), []⟩])
 .ret))⟩
theorem F150_code : cfgA.code 150 = some F150 := by kernel_rfl

/-- (ticketline/arena.words).get -/
noncomputable def F151 : AFn := ⟨15, [.tmp 4], (.seq
 (.ops 0 [⟨some 2, none, .box 1 (.t 0) false, []⟩,
 ⟨some 4, none, .mv (.c (.int .u64 0)), []⟩])
 (.seq
 (.ops 1 [⟨some 8, none, .fld 0 (.t 2), []⟩,
 ⟨some 9, none, .ld 1 false (.t 8), []⟩,
 ⟨some 10, none, .mv (.t 1), []⟩,
 ⟨some 11, none, .call 192 [.t 9, .t 10], []⟩,
 ⟨some 7, none, .mv (.t 11), []⟩,
 ⟨some 12, none, .ext (.t 7) 0, []⟩,
 ⟨some 13, none, .ext (.t 7) 1, []⟩,
 ⟨some 5, none, .mv (.t 12), []⟩,
 ⟨some 6, none, .mv (.t 13), []⟩])
 (.seq
 (.ops 2 [⟨some 14, none, .mv (.t 5), []⟩,
 ⟨some 4, none, .mv (.t 14), []⟩])
 .ret)))⟩
theorem F151_code : cfgA.code 151 = some F151 := by kernel_rfl

/-- (*ticketline/arena.Arena).put: the round 0 -/
noncomputable def B152x0 : AC := (.seq
 (.seq
 (.ops 2 [⟨some 7, none, .mv (.t 6), []⟩,
 ⟨some 8, none, .bin .lss (.t 7) (.c (.int .i64 128)), []⟩])
 (.cond (.t 8)
 .skip
 (.exit 0)))
 (.seq
 (.block 1
 (.ops 4 [⟨some 11, none, .mv (.t 0), []⟩,
 ⟨some 12, none, .nilc (.t 11) (mok Tryz.prog), []⟩,
 ⟨some 13, none, .fld 0 (.t 12), []⟩,
 ⟨some 14, none, .ld 1 true (.t 13), []⟩,
 ⟨some 15, none, .mv (.t 1), []⟩,
 ⟨some 16, none, .mv (.t 6), []⟩,
 ⟨some 18, none, .mv (.t 6), []⟩,
 ⟨some 19, none, .ixa (some 128) 1 (.t 5) (.t 18), []⟩,
 ⟨some 20, none, .ld 1 false (.t 19), []⟩,
 ⟨some 17, none, .call 106 [.t 15, .t 16], [(14, .ld 1 true (.t 13)), (20, .ld 1 false (.t 19))]⟩,
 ⟨some 21, none, .call 147 [.t 14, .t 17, .t 20], []⟩]))
 (.ops 3 [⟨some 9, none, .mv (.t 6), []⟩,
 ⟨some 10, none, .bin .add (.t 9) (.c (.int .i64 1)), []⟩,
 ⟨some 6, none, .mv (.t 10), []⟩])))
/-- (*ticketline/arena.Arena).put -/
noncomputable def F152 : AFn := ⟨22, [], (.seq
 (.ops 0 [⟨some 5, none, .box 128 (.t 2) false, []⟩])
 (.seq
 (.ops 1 [⟨some 6, none, .mv (.c (.int .i64 8)), []⟩])
 (.block 0
 (.loop [] B152x0))))⟩
theorem F152_code : cfgA.code 152 = some F152 := by kernel_rfl

/-- (*ticketline/arena.Arena).busy -/
noncomputable def F153 : AFn := ⟨28, [.tmp 6], (.seq
 (.ops 0 [⟨some 6, none, .mv (.c (.int .i64 0)), []⟩])
 (.seq
 (.ops 1 [⟨some 8, none, .mv (.t 0), []⟩,
 ⟨some 9, none, .mv (.t 1), []⟩,
 ⟨some 10, none, .call 193 [.t 8, .t 9], []⟩,
 ⟨some 7, none, .mv (.t 10), []⟩])
 (.seq
 (.block 0
 (.seq
 (.ops 2 [⟨some 12, none, .mv (.t 7), []⟩,
 ⟨some 13, none, .bin .neq (.t 12) (.c (.int .i64 0)), []⟩,
 ⟨some 11, none, .mv (.t 13), []⟩])
 (.cond (.t 11)
 (.seq
 (.ops 3 [⟨some 14, none, .mv (.t 7), []⟩,
 ⟨some 6, none, .mv (.t 14), []⟩])
 .ret)
 (.seq
 (.ops 4 [⟨some 16, none, .mv (.t 0), []⟩,
 ⟨some 17, none, .mv (.t 1), []⟩,
 ⟨some 18, none, .call 194 [.t 16, .t 17], []⟩,
 ⟨some 19, none, .un .not (.t 18), []⟩,
 ⟨some 15, none, .mv (.t 19), []⟩])
 (.cond (.t 15)
 (.seq
 (.ops 5 [⟨some 6, none, .mv (.c (.int .i64 8)), []⟩])
 .ret)
 (.seq
 (.ops 6 [⟨some 21, none, .mv (.t 2), []⟩,
 ⟨some 22, none, .mv (.t 21), []⟩,
 ⟨some 23, some (22, true), .mv (.t 0), []⟩,
 ⟨some 24, some (22, true), .call 195 [.t 23], []⟩,
 ⟨some 25, some (22, true), .mv (.t 1), []⟩,
 ⟨some 26, some (22, true), .bin .eql (.t 24) (.t 25), []⟩,
 ⟨some 27, none, .pick (.t 22) (.t 26) (.c (.bool false)), []⟩,
 ⟨some 20, none, .mv (.t 27), []⟩])
 (.cond (.t 20)
 (.seq
 (.ops 7 [⟨some 6, none, .mv (.c (.int .i64 11)), []⟩])
 .ret)
 .skip)))))))
 (.seq
 (.ops 8 [⟨some 6, none, .mv (.c (.int .i64 0)), []⟩])
 .ret))))⟩
theorem F153_code : cfgA.code 153 = some F153 := by kernel_rfl

/-- ticketline/mem.NewOnce -/
noncomputable def F154 : AFn := ⟨9, [.tmp 2, .tmp 3], (.seq
 (.ops 0 [⟨some 2, none, .mv (.c (.nilp)), []⟩,
 ⟨some 3, none, .mv (.c (.int .i64 0)), []⟩])
 (.seq
 (.seq
 (.ops 1 [⟨some 4, none, .mv (.t 0), []⟩,
 ⟨some 5, none, .call 174 [.t 4], []⟩])
 (.cond (.t 5)
 (.seq
 (.ops 2 [⟨some 2, none, .mv (.c (.nilp)), []⟩,
 ⟨some 3, none, .mv (.c (.int .i64 1)), []⟩])
 .ret)
 .skip))
 (.seq
 (.ops 3 [⟨some 6, none, .mv (.t 0), []⟩,
 ⟨some 7, none, .build [.nilp, .int .i64 0, .int .i64 0, .int .u64 0, .int .u64 0] [(0, 1, (.t 6))], []⟩,
 ⟨some 8, none, .box 5 (.t 7) true, []⟩,
 ⟨some 2, none, .mv (.t 8), []⟩,
 ⟨some 3, none, .mv (.c (.int .i64 0)), []⟩])
 .ret)))⟩
theorem F154_code : cfgA.code 154 = some F154 := by kernel_rfl

/-- ticketline/qnode.New -/
noncomputable def F155 : AFn := ⟨28, [.tmp 4, .tmp 5], (.seq
 (.ops 0 [⟨some 4, none, .mv (.c (.nilp)), []⟩,
 ⟨some 5, none, .mv (.c (.int .i64 0)), []⟩])
 (.seq
 (.seq
 (.ops 1 [⟨some 6, none, .mv (.t 0), []⟩,
 ⟨some 7, none, .bin .lss (.t 6) (.c (.int .i64 0)), []⟩,
 ⟨some 8, none, .mv (.t 7), []⟩,
 ⟨some 9, some (8, false), .mv (.t 1), []⟩,
 ⟨some 10, some (8, false), .bin .lss (.t 9) (.c (.int .i64 1)), []⟩,
 ⟨some 11, none, .pick (.t 8) (.c (.bool true)) (.t 10), []⟩,
 ⟨some 12, none, .mv (.t 11), []⟩,
 ⟨some 13, some (12, false), .mv (.t 1), []⟩,
 ⟨some 14, some (12, false), .bin .gtr (.t 13) (.c (.int .i64 64)), []⟩,
 ⟨some 15, none, .pick (.t 12) (.c (.bool true)) (.t 14), []⟩,
 ⟨some 16, none, .mv (.t 15), []⟩,
 ⟨some 17, some (16, false), .mv (.t 0), []⟩,
 ⟨some 18, some (16, false), .mv (.t 1), []⟩,
 ⟨some 19, some (16, false), .bin .mul (.t 18) (.c (.int .i64 2)), []⟩,
 ⟨some 20, some (16, false), .bin .mul (.t 19) (.c (.int .i64 3)), []⟩,
 ⟨some 21, some (16, false), .bin .sub (.c (.int .i64 65536)) (.t 20), []⟩,
 ⟨some 22, some (16, false), .bin .gtr (.t 17) (.t 21), []⟩,
 ⟨some 23, none, .pick (.t 16) (.c (.bool true)) (.t 22), []⟩])
 (.cond (.t 23)
 (.seq
 (.ops 2 [⟨some 4, none, .mv (.c (.nilp)), []⟩,
 ⟨some 5, none, .mv (.c (.int .i64 2)), []⟩])
 .ret)
 .skip))
 (.seq
 (.ops 3 [⟨some 24, none, .mv (.t 0), []⟩,
 ⟨some 25, none, .mv (.t 1), []⟩,
 ⟨some 26, none, .build [.int .i64 0, .int .i64 0] [(0, 1, (.t 24)), (1, 1, (.t 25))], []⟩,
 ⟨some 27, none, .box 2 (.t 26) true, []⟩,
 ⟨some 4, none, .mv (.t 27), []⟩,
 ⟨some 5, none, .mv (.c (.int .i64 0)), []⟩])
 .ret)))⟩
theorem F155_code : cfgA.code 155 = some F155 := by kernel_rfl

/-- (*ticketline/qnode.Nodes).Threads -/
noncomputable def F156 : AFn := ⟨6, [.tmp 2], (.seq
 (.ops 0 [⟨some 2, none, .mv (.c (.int .i64 0)), []⟩])
 (.seq
 (.ops 1 [⟨some 3, none, .mv (.t 0), []⟩,
 ⟨some 4, none, .call 196 [.t 3], []⟩,
 ⟨some 5, none, .bin .quo (.t 4) (.c (.int .i64 2)), []⟩,
 ⟨some 2, none, .mv (.t 5), []⟩])
 .ret))⟩
theorem F156_code : cfgA.code 156 = some F156 := by kernel_rfl

/-- ticketline/latch.apart -/
noncomputable def F157 : AFn := ⟨32, [.tmp 4], (.seq
 (.ops 0 [⟨some 4, none, .mv (.c (.int .i64 0)), []⟩])
 (.seq
 (.block 0
 (.seq
 (.ops 1 [⟨some 6, none, .mv (.t 0), []⟩,
 ⟨some 7, none, .call 156 [.t 6], []⟩,
 ⟨some 8, none, .bin .eql (.t 7) (.c (.int .i64 0)), []⟩,
 ⟨some 5, none, .mv (.t 8), []⟩])
 (.cond (.t 5)
 (.seq
 (.ops 2 [⟨some 4, none, .mv (.c (.int .i64 1)), []⟩])
 .ret)
 (.seq
 (.ops 3 [⟨some 10, none, .mv (.t 1), []⟩,
 ⟨some 11, none, .bin .lss (.t 10) (.c (.int .i64 0)), []⟩,
 ⟨some 12, none, .mv (.t 11), []⟩,
 ⟨some 13, some (12, false), .mv (.t 1), []⟩,
 ⟨some 14, some (12, false), .bin .gtr (.t 13) (.c (.int .i64 65533)), []⟩,
 ⟨some 15, none, .pick (.t 12) (.c (.bool true)) (.t 14), []⟩,
 ⟨some 16, none, .mv (.t 15), []⟩,
 ⟨some 17, some (16, false), .mv (.t 1), []⟩,
 ⟨some 18, some (16, false), .mv (.t 0), []⟩,
 ⟨some 19, some (16, false), .call 197 [.t 18], []⟩,
 ⟨some 20, some (16, false), .mv (.t 0), []⟩,
 ⟨some 21, some (16, false), .call 198 [.t 20], []⟩,
 ⟨some 22, some (16, false), .bin .add (.t 19) (.t 21), []⟩,
 ⟨some 23, some (16, false), .bin .lss (.t 17) (.t 22), []⟩,
 ⟨some 24, some (16, false), .mv (.t 23), []⟩,
 ⟨some 25, some (24, true), .mv (.t 1), []⟩,
 ⟨some 26, some (24, true), .bin .add (.t 25) (.c (.int .i64 3)), []⟩,
 ⟨some 27, some (24, true), .mv (.t 0), []⟩,
 ⟨some 28, some (24, true), .call 197 [.t 27], []⟩,
 ⟨some 29, some (24, true), .bin .gtr (.t 26) (.t 28), []⟩,
 ⟨some 30, some (16, false), .pick (.t 24) (.t 29) (.c (.bool false)), []⟩,
 ⟨some 31, none, .pick (.t 16) (.c (.bool true)) (.t 30), []⟩,
 ⟨some 9, none, .mv (.t 31), []⟩])
 (.cond (.t 9)
 (.seq
 (.ops 4 [⟨some 4, none, .mv (.c (.int .i64 2)), []⟩])
 .ret)
 .skip)))))
 (.seq
 (.ops 5 [⟨some 4, none, .mv (.c (.int .i64 0)), []⟩])
 .ret)))⟩
theorem F157_code : cfgA.code 157 = some F157 := by kernel_rfl

/-- ticketline/latch.Unpack: the round 0 -/
noncomputable def B158x0 : AC := (.seq
 (.ops 5 [⟨some 21, none, .bin .lss (.t 20) (.c (.int .i64 64)), []⟩])
 (.seq
 (.cond (.t 21)
 .skip
 (.exit 0))
 (.seq
 (.block 1
 (.seq
 (.ops 6 [⟨some 22, none, .mv (.t 20), []⟩,
 ⟨some 8, none, .mv (.t 22), []⟩])
 (.seq
 (.ops 7 [⟨some 23, none, .fld 0 (.t 6), []⟩,
 ⟨some 24, none, .ld 1 false (.t 23), []⟩,
 ⟨some 25, none, .mv (.t 8), []⟩,
 ⟨some 26, none, .bin .shr (.t 24) (.t 25), []⟩,
 ⟨some 27, none, .bin .and (.t 26) (.c (.int .u64 1)), []⟩,
 ⟨some 28, none, .bin .eql (.t 27) (.c (.int .u64 1)), []⟩])
 (.cond (.t 28)
 (.ops 8 [⟨some 29, none, .fld 0 (.t 2), []⟩,
 ⟨some 30, none, .ld 1 false (.t 29), []⟩,
 ⟨some 31, none, .mv (.t 8), []⟩,
 ⟨some 32, none, .bslice [.int .i64 0] 1 1 [(0, (.t 31))] false false, []⟩,
 ⟨some 33, none, .app 1 8 (.t 30) (.t 32) true, []⟩,
 ⟨some 34, none, .fld 0 (.t 2), []⟩,
 ⟨none, none, .st 1 (.t 34) (.t 33), []⟩])
 .skip))))
 (.ops 9 [⟨some 35, none, .bin .add (.t 20) (.c (.int .i64 1)), []⟩,
 ⟨some 20, none, .mv (.t 35), []⟩]))))
/-- ticketline/latch.Unpack -/
noncomputable def F158 : AFn := ⟨64, [.cell 2 6 true, .tmp 3, .tmp 4, .tmp 5], (.seq
 (.ops 0 [⟨some 1, none, .box 2 (.t 0) false, []⟩,
 ⟨some 2, none, .alloc [.nils, .int .i64 0, .int .i64 0, .int .i64 0, .int .i64 0, .nils] false, []⟩,
 ⟨some 3, none, .mv (.c (.int .i64 0)), []⟩,
 ⟨some 4, none, .mv (.c (.int .i64 0)), []⟩,
 ⟨some 5, none, .mv (.c (.int .i64 0)), []⟩])
 (.seq
 (.ops 1 [⟨some 10, none, .ixa (some 2) 1 (.t 1) (.c (.int .i64 0)), []⟩,
 ⟨some 11, none, .ld 1 false (.t 10), []⟩,
 ⟨some 12, none, .ixa (some 2) 1 (.t 1) (.c (.int .i64 1)), []⟩,
 ⟨some 13, none, .ld 1 false (.t 12), []⟩,
 ⟨some 14, none, .call 159 [.t 11, .t 13], []⟩,
 ⟨some 9, none, .mv (.t 14), []⟩,
 ⟨some 15, none, .ext (.t 9) 0, []⟩,
 ⟨some 16, none, .ext (.t 9) 1, []⟩,
 ⟨some 6, none, .alloc [.int .u64 0, .int .u64 0, .int .u64 0, .int .u64 0, .int .u64 0, .int .u64 0, .int .u64 0] false, []⟩,
 ⟨none, none, .st 7 (.t 6) (.t 15), []⟩,
 ⟨some 7, none, .mv (.t 16), []⟩])
 (.seq
 (.seq
 (.ops 2 [⟨some 17, none, .mv (.t 7), []⟩,
 ⟨some 18, none, .un .not (.t 17), []⟩])
 (.cond (.t 18)
 (.seq
 (.ops 3 [⟨some 19, none, .build [.nils, .int .i64 0, .int .i64 0, .int .i64 0, .int .i64 0, .nils] [], []⟩,
 ⟨none, none, .st 6 (.t 2) (.t 19), []⟩,
 ⟨some 3, none, .mv (.c (.int .i64 0)), []⟩,
 ⟨some 4, none, .mv (.c (.int .i64 0)), []⟩,
 ⟨some 5, none, .mv (.c (.int .i64 12)), []⟩])
 .ret)
 .skip))
 (.seq
 (.seq
 (.ops 4 [⟨some 20, none, .mv (.c (.int .i64 0)), []⟩])
 (.block 0
 (.loop [] B158x0)))
 (.seq
 (.ops 10 [⟨some 36, none, .fld 1 (.t 6), []⟩,
 ⟨some 37, none, .ld 1 false (.t 36), []⟩,
 ⟨some 38, none, .cvi .i64 (.t 37), []⟩,
 ⟨some 39, none, .bin .sub (.t 38) (.c (.int .i64 1)), []⟩,
 ⟨some 40, none, .fld 2 (.t 6), []⟩,
 ⟨some 41, none, .ld 1 false (.t 40), []⟩,
 ⟨some 42, none, .cvi .i64 (.t 41), []⟩,
 ⟨some 43, none, .bin .sub (.t 42) (.c (.int .i64 1)), []⟩,
 ⟨some 44, none, .fld 3 (.t 6), []⟩,
 ⟨some 45, none, .ld 1 false (.t 44), []⟩,
 ⟨some 46, none, .cvi .i64 (.t 45), []⟩,
 ⟨some 47, none, .bin .sub (.t 46) (.c (.int .i64 1)), []⟩,
 ⟨some 48, none, .fld 6 (.t 6), []⟩,
 ⟨some 49, none, .ld 1 false (.t 48), []⟩,
 ⟨some 50, none, .cvi .i64 (.t 49), []⟩,
 ⟨some 51, none, .fld 1 (.t 2), []⟩,
 ⟨none, none, .st 1 (.t 51) (.t 39), [(41, .ld 1 false (.t 40)), (45, .ld 1 false (.t 44)), (49, .ld 1 false (.t 48))]⟩,
 ⟨some 52, none, .fld 2 (.t 2), []⟩,
 ⟨none, none, .st 1 (.t 52) (.t 43), [(45, .ld 1 false (.t 44)), (49, .ld 1 false (.t 48))]⟩,
 ⟨some 53, none, .fld 3 (.t 2), []⟩,
 ⟨none, none, .st 1 (.t 53) (.t 47), [(49, .ld 1 false (.t 48))]⟩,
 ⟨some 54, none, .fld 4 (.t 2), []⟩,
 ⟨none, none, .st 1 (.t 54) (.t 50), []⟩])
 (.seq
 (.ops 11 [⟨some 55, none, .ld 6 true (.t 2), []⟩,
 ⟨some 56, none, .fld 4 (.t 6), []⟩,
 ⟨some 57, none, .ld 1 false (.t 56), []⟩,
 ⟨some 58, none, .cvi .i64 (.t 57), []⟩,
 ⟨some 59, none, .bin .sub (.t 58) (.c (.int .i64 1)), []⟩,
 ⟨some 60, none, .fld 5 (.t 6), []⟩,
 ⟨some 61, none, .ld 1 false (.t 60), []⟩,
 ⟨some 62, none, .cvi .i64 (.t 61), []⟩,
 ⟨some 63, none, .bin .sub (.t 62) (.c (.int .i64 1)), []⟩,
 ⟨none, none, .st 6 (.t 2) (.t 55), [(57, .ld 1 false (.t 56)), (61, .ld 1 false (.t 60))]⟩,
 ⟨some 3, none, .mv (.t 59), []⟩,
 ⟨some 4, none, .mv (.t 63), []⟩,
 ⟨some 5, none, .mv (.c (.int .i64 0)), []⟩])
 .ret))))))⟩
theorem F158_code : cfgA.code 158 = some F158 := by kernel_rfl

end Den
