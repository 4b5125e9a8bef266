/- Functions of the program, as den reads them. -/
import Derived.Test.YtnfmadnnbfidgaaGreatDoorA
namespace Den
open Go Go.Proofs
set_option maxRecDepth 1000000

/-- ticketline/ticketlinelaw29.GrowNone: the round 0 -/
noncomputable def B4x0 : AC := (.seq
 (.ops 9 [⟨some 42, none, .bin .lss (.t 41) (.t 40), []⟩])
 (.seq
 (.cond (.t 42)
 .skip
 (.exit 0))
 (.seq
 (.block 1
 (.seq
 (.ops 10 [⟨some 43, none, .ixa none 1 (.t 39) (.t 41), []⟩,
 ⟨some 44, none, .ld 1 false (.t 43), []⟩,
 ⟨some 8, none, .mv (.t 44), []⟩])
 (.seq
 (.ops 11 [⟨some 46, none, .mv (.t 8), []⟩,
 ⟨some 47, none, .mv (.t 1), []⟩,
 ⟨some 48, none, .mki 22 (.t 47), []⟩,
 ⟨some 49, none, .call 22 [.t 46, .t 48], []⟩,
 ⟨some 45, none, .mv (.t 49), []⟩,
 ⟨some 50, none, .ext (.t 45) 0, []⟩,
 ⟨some 51, none, .ext (.t 45) 1, []⟩,
 ⟨some 9, none, .mv (.t 50), []⟩,
 ⟨some 10, none, .mv (.t 51), []⟩])
 (.seq
 (.ops 12 [⟨some 52, none, .mv (.t 10), []⟩,
 ⟨some 53, none, .bin .neq (.t 52) (.c (.int .i64 1)), []⟩,
 ⟨some 54, none, .mv (.t 53), []⟩,
 ⟨some 55, some (54, false), .mv (.t 8), []⟩,
 ⟨some 56, some (54, false), .call 23 [.t 55], []⟩,
 ⟨some 57, some (54, false), .un .not (.t 56), []⟩,
 ⟨some 58, none, .pick (.t 54) (.c (.bool true)) (.t 57), []⟩,
 ⟨some 59, none, .mv (.t 58), []⟩,
 ⟨some 60, some (59, false), .mv (.t 8), []⟩,
 ⟨some 61, some (59, false), .call 24 [.t 60], []⟩,
 ⟨some 62, some (59, false), .bin .neq (.t 61) (.c (.int .u64 0)), []⟩,
 ⟨some 63, none, .pick (.t 59) (.c (.bool true)) (.t 62), []⟩,
 ⟨some 64, none, .mv (.t 63), []⟩,
 ⟨some 65, some (64, false), .mv (.t 8), []⟩,
 ⟨some 66, some (64, false), .call 25 [.t 65], []⟩,
 ⟨some 67, some (64, false), .eqn .iface true (.t 66), []⟩,
 ⟨some 68, none, .pick (.t 64) (.c (.bool true)) (.t 67), []⟩])
 (.cond (.t 68)
 (.seq
 (.ops 13 [⟨some 0, none, .mv (.c (.bool false)), []⟩])
 .ret)
 .skip)))))
 (.ops 14 [⟨some 69, none, .bin .add (.t 41) (.c (.int .i64 1)), []⟩,
 ⟨some 41, none, .mv (.t 69), []⟩]))))
/-- ticketline/ticketlinelaw29.GrowNone: the round 1 -/
noncomputable def B4x1 : AC := (.seq
 (.ops 16 [⟨some 76, none, .bin .lss (.t 75) (.t 74), []⟩])
 (.seq
 (.cond (.t 76)
 .skip
 (.exit 2))
 (.seq
 (.block 3
 (.seq
 (.ops 17 [⟨some 77, none, .ixa none 1 (.t 73) (.t 75), []⟩,
 ⟨some 78, none, .ld 1 false (.t 77), []⟩,
 ⟨some 12, none, .mv (.t 78), []⟩])
 (.seq
 (.ops 18 [⟨some 80, none, .mv (.t 12), []⟩,
 ⟨some 81, none, .call 26 [.t 80], []⟩,
 ⟨some 79, none, .mv (.t 81), []⟩,
 ⟨some 82, none, .ext (.t 79) 0, []⟩,
 ⟨some 83, none, .ext (.t 79) 1, []⟩,
 ⟨some 84, none, .ext (.t 79) 2, []⟩,
 ⟨some 13, none, .alloc [.int .i64 0, .int .u64 0, .int .u64 0, .int .u64 0, .int .u64 0, .int .u64 0, .int .u64 0, .int .u64 0, .int .u64 0, .int .u64 0, .int .u64 0, .int .u64 0, .int .u64 0, .int .u64 0, .int .u64 0, .int .u64 0, .int .u64 0, .int .u64 0, .int .u64 0, .int .u64 0, .int .u64 0, .int .u64 0, .int .u64 0, .int .u64 0, .int .u64 0, .int .u64 0, .int .u64 0, .int .u64 0, .int .u64 0, .int .u64 0, .int .u64 0, .int .u64 0, .int .u64 0, .int .u64 0, .int .u64 0, .int .u64 0, .int .u64 0, .int .u64 0, .int .u64 0, .int .u64 0, .int .u64 0, .int .u64 0, .int .u64 0, .int .u64 0, .int .u64 0, .int .u64 0, .int .u64 0, .int .u64 0, .int .u64 0, .int .u64 0, .int .u64 0, .int .u64 0, .int .u64 0, .int .u64 0, .int .u64 0, .int .u64 0, .int .u64 0, .int .u64 0, .int .u64 0, .int .u64 0, .int .u64 0, .int .u64 0, .int .u64 0, .int .u64 0, .int .u64 0, .int .u64 0, .int .u64 0, .int .u64 0, .int .u64 0, .int .u64 0, .int .u64 0, .int .u64 0, .int .u64 0, .int .u64 0, .int .u64 0, .int .u64 0, .int .u64 0, .int .u64 0, .int .u64 0, .int .u64 0, .int .u64 0, .int .u64 0, .int .u64 0, .int .u64 0, .int .u64 0, .int .u64 0, .int .u64 0, .int .u64 0, .int .u64 0, .int .u64 0, .int .u64 0, .int .u64 0, .int .u64 0, .int .u64 0, .int .u64 0, .int .u64 0, .int .u64 0, .int .u64 0, .int .u64 0, .int .u64 0, .int .u64 0, .int .u64 0, .int .u64 0, .int .u64 0, .int .u64 0, .int .u64 0, .int .u64 0, .int .u64 0, .int .u64 0, .int .u64 0, .int .u64 0, .int .u64 0, .int .u64 0, .int .u64 0, .int .u64 0, .int .u64 0, .int .u64 0, .int .u64 0, .int .u64 0, .int .u64 0, .int .u64 0, .int .u64 0, .int .u64 0, .int .u64 0, .int .u64 0, .int .u64 0, .int .u64 0, .int .u64 0, .int .u64 0, .int .u64 0] false, []⟩,
 ⟨some 14, none, .alloc [.int .i64 0, .int .u64 0, .int .u64 0, .int .u64 0, .int .u64 0, .int .u64 0, .int .u64 0, .int .u64 0, .int .u64 0, .int .u64 0, .int .u64 0, .int .u64 0, .int .u64 0, .int .u64 0, .int .u64 0, .int .u64 0, .int .u64 0, .int .u64 0, .int .u64 0, .int .u64 0, .int .u64 0, .int .u64 0, .int .u64 0, .int .u64 0, .int .u64 0, .int .u64 0, .int .u64 0, .int .u64 0, .int .u64 0, .int .u64 0, .int .u64 0, .int .u64 0, .int .u64 0, .int .u64 0, .int .u64 0, .int .u64 0, .int .u64 0, .int .u64 0, .int .u64 0, .int .u64 0, .int .u64 0, .int .u64 0, .int .u64 0, .int .u64 0, .int .u64 0, .int .u64 0, .int .u64 0, .int .u64 0, .int .u64 0, .int .u64 0, .int .u64 0, .int .u64 0, .int .u64 0, .int .u64 0, .int .u64 0, .int .u64 0, .int .u64 0, .int .u64 0, .int .u64 0, .int .u64 0, .int .u64 0, .int .u64 0, .int .u64 0, .int .u64 0, .int .u64 0, .int .u64 0, .int .u64 0, .int .u64 0, .int .u64 0, .int .u64 0, .int .u64 0, .int .u64 0, .int .u64 0, .int .u64 0, .int .u64 0, .int .u64 0, .int .u64 0, .int .u64 0, .int .u64 0, .int .u64 0, .int .u64 0, .int .u64 0, .int .u64 0, .int .u64 0, .int .u64 0, .int .u64 0, .int .u64 0, .int .u64 0, .int .u64 0, .int .u64 0, .int .u64 0, .int .u64 0, .int .u64 0, .int .u64 0, .int .u64 0, .int .u64 0, .int .u64 0, .int .u64 0, .int .u64 0, .int .u64 0, .int .u64 0, .int .u64 0, .int .u64 0, .int .u64 0, .int .u64 0, .int .u64 0, .int .u64 0, .int .u64 0, .int .u64 0, .int .u64 0, .int .u64 0, .int .u64 0, .int .u64 0, .int .u64 0, .int .u64 0, .int .u64 0, .int .u64 0, .int .u64 0, .int .u64 0, .int .u64 0, .int .u64 0, .int .u64 0, .int .u64 0, .int .u64 0, .int .u64 0, .int .u64 0, .int .u64 0, .int .u64 0, .int .u64 0, .int .u64 0] false, []⟩,
 ⟨some 15, none, .alloc [.int .i64 0, .int .u64 0, .int .u64 0, .int .u64 0, .int .u64 0, .int .u64 0, .int .u64 0, .int .u64 0, .int .u64 0, .int .u64 0, .int .u64 0, .int .u64 0, .int .u64 0, .int .u64 0, .int .u64 0, .int .u64 0, .int .u64 0, .int .u64 0, .int .u64 0, .int .u64 0, .int .u64 0, .int .u64 0, .int .u64 0, .int .u64 0, .int .u64 0, .int .u64 0, .int .u64 0, .int .u64 0, .int .u64 0, .int .u64 0, .int .u64 0, .int .u64 0, .int .u64 0, .int .u64 0, .int .u64 0, .int .u64 0, .int .u64 0, .int .u64 0, .int .u64 0, .int .u64 0, .int .u64 0, .int .u64 0, .int .u64 0, .int .u64 0, .int .u64 0, .int .u64 0, .int .u64 0, .int .u64 0, .int .u64 0, .int .u64 0, .int .u64 0, .int .u64 0, .int .u64 0, .int .u64 0, .int .u64 0, .int .u64 0, .int .u64 0, .int .u64 0, .int .u64 0, .int .u64 0, .int .u64 0, .int .u64 0, .int .u64 0, .int .u64 0, .int .u64 0, .int .u64 0, .int .u64 0, .int .u64 0, .int .u64 0, .int .u64 0, .int .u64 0, .int .u64 0, .int .u64 0, .int .u64 0, .int .u64 0, .int .u64 0, .int .u64 0, .int .u64 0, .int .u64 0, .int .u64 0, .int .u64 0, .int .u64 0, .int .u64 0, .int .u64 0, .int .u64 0, .int .u64 0, .int .u64 0, .int .u64 0, .int .u64 0, .int .u64 0, .int .u64 0, .int .u64 0, .int .u64 0, .int .u64 0, .int .u64 0, .int .u64 0, .int .u64 0, .int .u64 0, .int .u64 0, .int .u64 0, .int .u64 0, .int .u64 0, .int .u64 0, .int .u64 0, .int .u64 0, .int .u64 0, .int .u64 0, .int .u64 0, .int .u64 0, .int .u64 0, .int .u64 0, .int .u64 0, .int .u64 0, .int .u64 0, .int .u64 0, .int .u64 0, .int .u64 0, .int .u64 0, .int .u64 0, .int .u64 0, .int .u64 0, .int .u64 0, .int .u64 0, .int .u64 0, .int .u64 0, .int .u64 0, .int .u64 0, .int .u64 0, .int .u64 0, .int .u64 0] false, []⟩,
 ⟨none, none, .st 130 (.t 13) (.t 82), []⟩,
 ⟨none, none, .st 130 (.t 14) (.t 83), []⟩,
 ⟨none, none, .st 130 (.t 15) (.t 84), []⟩])
 (.seq
 (.ops 19 [⟨some 86, none, .mv (.t 12), []⟩,
 ⟨some 87, none, .mv (.t 1), []⟩,
 ⟨some 88, none, .mki 22 (.t 87), []⟩,
 ⟨some 89, none, .call 27 [.t 86, .t 88], []⟩,
 ⟨some 85, none, .mv (.t 89), []⟩,
 ⟨some 90, none, .ext (.t 85) 0, []⟩,
 ⟨some 91, none, .ext (.t 85) 1, []⟩,
 ⟨some 16, none, .mv (.t 90), []⟩,
 ⟨some 17, none, .mv (.t 91), []⟩])
 (.seq
 (.ops 20 [⟨some 92, none, .mv (.t 17), []⟩,
 ⟨some 93, none, .bin .neq (.t 92) (.c (.int .i64 1)), []⟩,
 ⟨some 94, none, .mv (.t 93), []⟩,
 ⟨some 95, some (94, false), .mv (.t 12), []⟩,
 ⟨some 96, some (94, false), .call 28 [.t 95], []⟩,
 ⟨some 97, some (94, false), .un .not (.t 96), []⟩,
 ⟨some 98, none, .pick (.t 94) (.c (.bool true)) (.t 97), []⟩,
 ⟨some 99, none, .mv (.t 98), []⟩,
 ⟨some 100, some (99, false), .mv (.t 12), []⟩,
 ⟨some 101, some (99, false), .call 29 [.t 100], []⟩,
 ⟨some 102, some (99, false), .bin .neq (.t 101) (.c (.int .u64 0)), []⟩,
 ⟨some 103, none, .pick (.t 99) (.c (.bool true)) (.t 102), []⟩,
 ⟨some 104, none, .mv (.t 103), []⟩,
 ⟨some 105, some (104, false), .mv (.t 12), []⟩,
 ⟨some 106, some (104, false), .call 30 [.t 105], []⟩,
 ⟨some 107, some (104, false), .eqn .iface true (.t 106), []⟩,
 ⟨some 108, none, .pick (.t 104) (.c (.bool true)) (.t 107), []⟩,
 ⟨some 109, none, .mv (.t 108), []⟩,
 ⟨some 110, some (109, false), .ld 130 true (.t 13), []⟩,
 ⟨some 111, some (109, false), .ld 130 true (.t 6), []⟩,
 ⟨some 112, some (109, false), .eqs true [.int, .int, .int, .int, .int, .int, .int, .int, .int, .int, .int, .int, .int, .int, .int, .int, .int, .int, .int, .int, .int, .int, .int, .int, .int, .int, .int, .int, .int, .int, .int, .int, .int, .int, .int, .int, .int, .int, .int, .int, .int, .int, .int, .int, .int, .int, .int, .int, .int, .int, .int, .int, .int, .int, .int, .int, .int, .int, .int, .int, .int, .int, .int, .int, .int, .int, .int, .int, .int, .int, .int, .int, .int, .int, .int, .int, .int, .int, .int, .int, .int, .int, .int, .int, .int, .int, .int, .int, .int, .int, .int, .int, .int, .int, .int, .int, .int, .int, .int, .int, .int, .int, .int, .int, .int, .int, .int, .int, .int, .int, .int, .int, .int, .int, .int, .int, .int, .int, .int, .int, .int, .int, .int, .int, .int, .int, .int, .int, .int, .int] (.t 110) (.t 111), []⟩,
 ⟨some 113, none, .pick (.t 109) (.c (.bool true)) (.t 112), []⟩,
 ⟨some 114, none, .mv (.t 113), []⟩,
 ⟨some 115, some (114, false), .ld 130 true (.t 14), []⟩,
 ⟨some 116, some (114, false), .ld 130 true (.t 6), []⟩,
 ⟨some 117, some (114, false), .eqs true [.int, .int, .int, .int, .int, .int, .int, .int, .int, .int, .int, .int, .int, .int, .int, .int, .int, .int, .int, .int, .int, .int, .int, .int, .int, .int, .int, .int, .int, .int, .int, .int, .int, .int, .int, .int, .int, .int, .int, .int, .int, .int, .int, .int, .int, .int, .int, .int, .int, .int, .int, .int, .int, .int, .int, .int, .int, .int, .int, .int, .int, .int, .int, .int, .int, .int, .int, .int, .int, .int, .int, .int, .int, .int, .int, .int, .int, .int, .int, .int, .int, .int, .int, .int, .int, .int, .int, .int, .int, .int, .int, .int, .int, .int, .int, .int, .int, .int, .int, .int, .int, .int, .int, .int, .int, .int, .int, .int, .int, .int, .int, .int, .int, .int, .int, .int, .int, .int, .int, .int, .int, .int, .int, .int, .int, .int, .int, .int, .int, .int] (.t 115) (.t 116), []⟩,
 ⟨some 118, none, .pick (.t 114) (.c (.bool true)) (.t 117), []⟩,
 ⟨some 119, none, .mv (.t 118), []⟩,
 ⟨some 120, some (119, false), .ld 130 true (.t 15), []⟩,
 ⟨some 121, some (119, false), .ld 130 true (.t 6), []⟩,
 ⟨some 122, some (119, false), .eqs true [.int, .int, .int, .int, .int, .int, .int, .int, .int, .int, .int, .int, .int, .int, .int, .int, .int, .int, .int, .int, .int, .int, .int, .int, .int, .int, .int, .int, .int, .int, .int, .int, .int, .int, .int, .int, .int, .int, .int, .int, .int, .int, .int, .int, .int, .int, .int, .int, .int, .int, .int, .int, .int, .int, .int, .int, .int, .int, .int, .int, .int, .int, .int, .int, .int, .int, .int, .int, .int, .int, .int, .int, .int, .int, .int, .int, .int, .int, .int, .int, .int, .int, .int, .int, .int, .int, .int, .int, .int, .int, .int, .int, .int, .int, .int, .int, .int, .int, .int, .int, .int, .int, .int, .int, .int, .int, .int, .int, .int, .int, .int, .int, .int, .int, .int, .int, .int, .int, .int, .int, .int, .int, .int, .int, .int, .int, .int, .int, .int, .int] (.t 120) (.t 121), []⟩,
 ⟨some 123, none, .pick (.t 119) (.c (.bool true)) (.t 122), []⟩])
 (.cond (.t 123)
 (.seq
 (.ops 21 [⟨some 0, none, .mv (.c (.bool false)), []⟩])
 .ret)
 .skip))))))
 (.ops 22 [⟨some 124, none, .bin .add (.t 75) (.c (.int .i64 1)), []⟩,
 ⟨some 75, none, .mv (.t 124), []⟩]))))
/-- ticketline/ticketlinelaw29.GrowNone: the round 2 -/
noncomputable def B4x2 : AC := (.seq
 (.ops 24 [⟨some 131, none, .bin .lss (.t 130) (.t 129), []⟩])
 (.seq
 (.cond (.t 131)
 .skip
 (.exit 4))
 (.seq
 (.block 5
 (.seq
 (.ops 25 [⟨some 132, none, .ixa none 1 (.t 128) (.t 130), []⟩,
 ⟨some 133, none, .ld 1 false (.t 132), []⟩,
 ⟨some 19, none, .mv (.t 133), []⟩])
 (.seq
 (.ops 26 [⟨some 135, none, .mv (.t 19), []⟩,
 ⟨some 136, none, .call 31 [.t 135], []⟩,
 ⟨some 134, none, .mv (.t 136), []⟩,
 ⟨some 137, none, .ext (.t 134) 0, []⟩,
 ⟨some 138, none, .ext (.t 134) 1, []⟩,
 ⟨some 139, none, .ext (.t 134) 2, []⟩,
 ⟨some 20, none, .alloc [.int .i64 0, .int .u64 0, .int .u64 0, .int .u64 0, .int .u64 0, .int .u64 0, .int .u64 0, .int .u64 0, .int .u64 0, .int .u64 0, .int .u64 0, .int .u64 0, .int .u64 0, .int .u64 0, .int .u64 0, .int .u64 0, .int .u64 0, .int .u64 0, .int .u64 0, .int .u64 0, .int .u64 0, .int .u64 0, .int .u64 0, .int .u64 0, .int .u64 0, .int .u64 0, .int .u64 0, .int .u64 0, .int .u64 0, .int .u64 0, .int .u64 0, .int .u64 0, .int .u64 0, .int .u64 0, .int .u64 0, .int .u64 0, .int .u64 0, .int .u64 0, .int .u64 0, .int .u64 0, .int .u64 0, .int .u64 0, .int .u64 0, .int .u64 0, .int .u64 0, .int .u64 0, .int .u64 0, .int .u64 0, .int .u64 0, .int .u64 0, .int .u64 0, .int .u64 0, .int .u64 0, .int .u64 0, .int .u64 0, .int .u64 0, .int .u64 0, .int .u64 0, .int .u64 0, .int .u64 0, .int .u64 0, .int .u64 0, .int .u64 0, .int .u64 0, .int .u64 0, .int .u64 0, .int .u64 0, .int .u64 0, .int .u64 0, .int .u64 0, .int .u64 0, .int .u64 0, .int .u64 0, .int .u64 0, .int .u64 0, .int .u64 0, .int .u64 0, .int .u64 0, .int .u64 0, .int .u64 0, .int .u64 0, .int .u64 0, .int .u64 0, .int .u64 0, .int .u64 0, .int .u64 0, .int .u64 0, .int .u64 0, .int .u64 0, .int .u64 0, .int .u64 0, .int .u64 0, .int .u64 0, .int .u64 0, .int .u64 0, .int .u64 0, .int .u64 0, .int .u64 0, .int .u64 0, .int .u64 0, .int .u64 0, .int .u64 0, .int .u64 0, .int .u64 0, .int .u64 0, .int .u64 0, .int .u64 0, .int .u64 0, .int .u64 0, .int .u64 0, .int .u64 0, .int .u64 0, .int .u64 0, .int .u64 0, .int .u64 0, .int .u64 0, .int .u64 0, .int .u64 0, .int .u64 0, .int .u64 0, .int .u64 0, .int .u64 0, .int .u64 0, .int .u64 0, .int .u64 0, .int .u64 0, .int .u64 0, .int .u64 0, .int .u64 0, .int .u64 0] false, []⟩,
 ⟨some 21, none, .alloc [.int .i64 0, .int .u64 0, .int .u64 0, .int .u64 0, .int .u64 0, .int .u64 0, .int .u64 0, .int .u64 0, .int .u64 0, .int .u64 0, .int .u64 0, .int .u64 0, .int .u64 0, .int .u64 0, .int .u64 0, .int .u64 0, .int .u64 0, .int .u64 0, .int .u64 0, .int .u64 0, .int .u64 0, .int .u64 0, .int .u64 0, .int .u64 0, .int .u64 0, .int .u64 0, .int .u64 0, .int .u64 0, .int .u64 0, .int .u64 0, .int .u64 0, .int .u64 0, .int .u64 0, .int .u64 0, .int .u64 0, .int .u64 0, .int .u64 0, .int .u64 0, .int .u64 0, .int .u64 0, .int .u64 0, .int .u64 0, .int .u64 0, .int .u64 0, .int .u64 0, .int .u64 0, .int .u64 0, .int .u64 0, .int .u64 0, .int .u64 0, .int .u64 0, .int .u64 0, .int .u64 0, .int .u64 0, .int .u64 0, .int .u64 0, .int .u64 0, .int .u64 0, .int .u64 0, .int .u64 0, .int .u64 0, .int .u64 0, .int .u64 0, .int .u64 0, .int .u64 0, .int .u64 0, .int .u64 0, .int .u64 0, .int .u64 0, .int .u64 0, .int .u64 0, .int .u64 0, .int .u64 0, .int .u64 0, .int .u64 0, .int .u64 0, .int .u64 0, .int .u64 0, .int .u64 0, .int .u64 0, .int .u64 0, .int .u64 0, .int .u64 0, .int .u64 0, .int .u64 0, .int .u64 0, .int .u64 0, .int .u64 0, .int .u64 0, .int .u64 0, .int .u64 0, .int .u64 0, .int .u64 0, .int .u64 0, .int .u64 0, .int .u64 0, .int .u64 0, .int .u64 0, .int .u64 0, .int .u64 0, .int .u64 0, .int .u64 0, .int .u64 0, .int .u64 0, .int .u64 0, .int .u64 0, .int .u64 0, .int .u64 0, .int .u64 0, .int .u64 0, .int .u64 0, .int .u64 0, .int .u64 0, .int .u64 0, .int .u64 0, .int .u64 0, .int .u64 0, .int .u64 0, .int .u64 0, .int .u64 0, .int .u64 0, .int .u64 0, .int .u64 0, .int .u64 0, .int .u64 0, .int .u64 0, .int .u64 0, .int .u64 0, .int .u64 0, .int .u64 0] false, []⟩,
 ⟨some 22, none, .alloc [.int .i64 0, .int .u64 0, .int .u64 0, .int .u64 0, .int .u64 0, .int .u64 0, .int .u64 0, .int .u64 0, .int .u64 0, .int .u64 0, .int .u64 0, .int .u64 0, .int .u64 0, .int .u64 0, .int .u64 0, .int .u64 0, .int .u64 0, .int .u64 0, .int .u64 0, .int .u64 0, .int .u64 0, .int .u64 0, .int .u64 0, .int .u64 0, .int .u64 0, .int .u64 0, .int .u64 0, .int .u64 0, .int .u64 0, .int .u64 0, .int .u64 0, .int .u64 0, .int .u64 0, .int .u64 0, .int .u64 0, .int .u64 0, .int .u64 0, .int .u64 0, .int .u64 0, .int .u64 0, .int .u64 0, .int .u64 0, .int .u64 0, .int .u64 0, .int .u64 0, .int .u64 0, .int .u64 0, .int .u64 0, .int .u64 0, .int .u64 0, .int .u64 0, .int .u64 0, .int .u64 0, .int .u64 0, .int .u64 0, .int .u64 0, .int .u64 0, .int .u64 0, .int .u64 0, .int .u64 0, .int .u64 0, .int .u64 0, .int .u64 0, .int .u64 0, .int .u64 0, .int .u64 0, .int .u64 0, .int .u64 0, .int .u64 0, .int .u64 0, .int .u64 0, .int .u64 0, .int .u64 0, .int .u64 0, .int .u64 0, .int .u64 0, .int .u64 0, .int .u64 0, .int .u64 0, .int .u64 0, .int .u64 0, .int .u64 0, .int .u64 0, .int .u64 0, .int .u64 0, .int .u64 0, .int .u64 0, .int .u64 0, .int .u64 0, .int .u64 0, .int .u64 0, .int .u64 0, .int .u64 0, .int .u64 0, .int .u64 0, .int .u64 0, .int .u64 0, .int .u64 0, .int .u64 0, .int .u64 0, .int .u64 0, .int .u64 0, .int .u64 0, .int .u64 0, .int .u64 0, .int .u64 0, .int .u64 0, .int .u64 0, .int .u64 0, .int .u64 0, .int .u64 0, .int .u64 0, .int .u64 0, .int .u64 0, .int .u64 0, .int .u64 0, .int .u64 0, .int .u64 0, .int .u64 0, .int .u64 0, .int .u64 0, .int .u64 0, .int .u64 0, .int .u64 0, .int .u64 0, .int .u64 0, .int .u64 0, .int .u64 0, .int .u64 0, .int .u64 0] false, []⟩,
 ⟨none, none, .st 130 (.t 20) (.t 137), []⟩,
 ⟨none, none, .st 130 (.t 21) (.t 138), []⟩,
 ⟨none, none, .st 130 (.t 22) (.t 139), []⟩])
 (.seq
 (.ops 27 [⟨some 141, none, .mv (.t 19), []⟩,
 ⟨some 142, none, .mv (.t 1), []⟩,
 ⟨some 143, none, .mki 22 (.t 142), []⟩,
 ⟨some 144, none, .call 32 [.t 141, .t 143], []⟩,
 ⟨some 140, none, .mv (.t 144), []⟩,
 ⟨some 145, none, .ext (.t 140) 0, []⟩,
 ⟨some 146, none, .ext (.t 140) 1, []⟩,
 ⟨some 23, none, .mv (.t 145), []⟩,
 ⟨some 24, none, .mv (.t 146), []⟩])
 (.seq
 (.ops 28 [⟨some 147, none, .mv (.t 24), []⟩,
 ⟨some 148, none, .bin .neq (.t 147) (.c (.int .i64 1)), []⟩,
 ⟨some 149, none, .mv (.t 148), []⟩,
 ⟨some 150, some (149, false), .mv (.t 19), []⟩,
 ⟨some 151, some (149, false), .call 33 [.t 150], []⟩,
 ⟨some 152, some (149, false), .un .not (.t 151), []⟩,
 ⟨some 153, none, .pick (.t 149) (.c (.bool true)) (.t 152), []⟩,
 ⟨some 154, none, .mv (.t 153), []⟩,
 ⟨some 155, some (154, false), .mv (.t 19), []⟩,
 ⟨some 156, some (154, false), .call 34 [.t 155], []⟩,
 ⟨some 157, some (154, false), .bin .neq (.t 156) (.c (.int .u64 0)), []⟩,
 ⟨some 158, none, .pick (.t 154) (.c (.bool true)) (.t 157), []⟩,
 ⟨some 159, none, .mv (.t 158), []⟩,
 ⟨some 160, some (159, false), .mv (.t 19), []⟩,
 ⟨some 161, some (159, false), .call 35 [.t 160], []⟩,
 ⟨some 162, some (159, false), .eqn .iface true (.t 161), []⟩,
 ⟨some 163, none, .pick (.t 159) (.c (.bool true)) (.t 162), []⟩,
 ⟨some 164, none, .mv (.t 163), []⟩,
 ⟨some 165, some (164, false), .ld 130 true (.t 20), []⟩,
 ⟨some 166, some (164, false), .ld 130 true (.t 6), []⟩,
 ⟨some 167, some (164, false), .eqs true [.int, .int, .int, .int, .int, .int, .int, .int, .int, .int, .int, .int, .int, .int, .int, .int, .int, .int, .int, .int, .int, .int, .int, .int, .int, .int, .int, .int, .int, .int, .int, .int, .int, .int, .int, .int, .int, .int, .int, .int, .int, .int, .int, .int, .int, .int, .int, .int, .int, .int, .int, .int, .int, .int, .int, .int, .int, .int, .int, .int, .int, .int, .int, .int, .int, .int, .int, .int, .int, .int, .int, .int, .int, .int, .int, .int, .int, .int, .int, .int, .int, .int, .int, .int, .int, .int, .int, .int, .int, .int, .int, .int, .int, .int, .int, .int, .int, .int, .int, .int, .int, .int, .int, .int, .int, .int, .int, .int, .int, .int, .int, .int, .int, .int, .int, .int, .int, .int, .int, .int, .int, .int, .int, .int, .int, .int, .int, .int, .int, .int] (.t 165) (.t 166), []⟩,
 ⟨some 168, none, .pick (.t 164) (.c (.bool true)) (.t 167), []⟩,
 ⟨some 169, none, .mv (.t 168), []⟩,
 ⟨some 170, some (169, false), .ld 130 true (.t 21), []⟩,
 ⟨some 171, some (169, false), .ld 130 true (.t 6), []⟩,
 ⟨some 172, some (169, false), .eqs true [.int, .int, .int, .int, .int, .int, .int, .int, .int, .int, .int, .int, .int, .int, .int, .int, .int, .int, .int, .int, .int, .int, .int, .int, .int, .int, .int, .int, .int, .int, .int, .int, .int, .int, .int, .int, .int, .int, .int, .int, .int, .int, .int, .int, .int, .int, .int, .int, .int, .int, .int, .int, .int, .int, .int, .int, .int, .int, .int, .int, .int, .int, .int, .int, .int, .int, .int, .int, .int, .int, .int, .int, .int, .int, .int, .int, .int, .int, .int, .int, .int, .int, .int, .int, .int, .int, .int, .int, .int, .int, .int, .int, .int, .int, .int, .int, .int, .int, .int, .int, .int, .int, .int, .int, .int, .int, .int, .int, .int, .int, .int, .int, .int, .int, .int, .int, .int, .int, .int, .int, .int, .int, .int, .int, .int, .int, .int, .int, .int, .int] (.t 170) (.t 171), []⟩,
 ⟨some 173, none, .pick (.t 169) (.c (.bool true)) (.t 172), []⟩,
 ⟨some 174, none, .mv (.t 173), []⟩,
 ⟨some 175, some (174, false), .ld 130 true (.t 22), []⟩,
 ⟨some 176, some (174, false), .ld 130 true (.t 6), []⟩,
 ⟨some 177, some (174, false), .eqs true [.int, .int, .int, .int, .int, .int, .int, .int, .int, .int, .int, .int, .int, .int, .int, .int, .int, .int, .int, .int, .int, .int, .int, .int, .int, .int, .int, .int, .int, .int, .int, .int, .int, .int, .int, .int, .int, .int, .int, .int, .int, .int, .int, .int, .int, .int, .int, .int, .int, .int, .int, .int, .int, .int, .int, .int, .int, .int, .int, .int, .int, .int, .int, .int, .int, .int, .int, .int, .int, .int, .int, .int, .int, .int, .int, .int, .int, .int, .int, .int, .int, .int, .int, .int, .int, .int, .int, .int, .int, .int, .int, .int, .int, .int, .int, .int, .int, .int, .int, .int, .int, .int, .int, .int, .int, .int, .int, .int, .int, .int, .int, .int, .int, .int, .int, .int, .int, .int, .int, .int, .int, .int, .int, .int, .int, .int, .int, .int, .int, .int] (.t 175) (.t 176), []⟩,
 ⟨some 178, none, .pick (.t 174) (.c (.bool true)) (.t 177), []⟩])
 (.cond (.t 178)
 (.seq
 (.ops 29 [⟨some 0, none, .mv (.c (.bool false)), []⟩])
 .ret)
 .skip))))))
 (.ops 30 [⟨some 179, none, .bin .add (.t 130) (.c (.int .i64 1)), []⟩,
 ⟨some 130, none, .mv (.t 179), []⟩]))))
/-- ticketline/ticketlinelaw29.GrowNone -/
noncomputable def F4 : AFn := ⟨181, [.tmp 0], (.seq
 (.ops 0 [⟨some 0, none, .mv (.c (.bool false)), []⟩])
 (.seq
 (.ops 1 [⟨some 26, none, .call 5 [.c (.int .i64 9)], []⟩,
 ⟨some 25, none, .mv (.t 26), []⟩,
 ⟨some 27, none, .ext (.t 25) 0, []⟩,
 ⟨some 28, none, .ext (.t 25) 1, []⟩,
 ⟨some 1, none, .mv (.t 27), []⟩,
 ⟨some 2, none, .mv (.t 28), []⟩])
 (.seq
 (.seq
 (.ops 2 [⟨some 29, none, .mv (.t 1), []⟩,
 ⟨some 30, none, .eqn .ptr false (.t 29), []⟩,
 ⟨some 31, none, .mv (.t 30), []⟩,
 ⟨some 32, some (31, false), .mv (.t 2), []⟩,
 ⟨some 33, some (31, false), .bin .neq (.t 32) (.c (.int .i64 0)), []⟩,
 ⟨some 34, none, .pick (.t 31) (.c (.bool true)) (.t 33), []⟩])
 (.cond (.t 34)
 (.seq
 (.ops 3 [⟨some 0, none, .mv (.c (.bool false)), []⟩])
 .ret)
 .skip))
 (.seq
 (.ops 4 [⟨some 3, none, .mv (.c (.nilp)), []⟩])
 (.seq
 (.ops 5 [⟨some 4, none, .mv (.c (.nilp)), []⟩])
 (.seq
 (.ops 6 [⟨some 5, none, .mv (.c (.nilp)), []⟩])
 (.seq
 (.ops 7 [⟨some 35, none, .build [.int .i64 0, .int .u64 0, .int .u64 0, .int .u64 0, .int .u64 0, .int .u64 0, .int .u64 0, .int .u64 0, .int .u64 0, .int .u64 0, .int .u64 0, .int .u64 0, .int .u64 0, .int .u64 0, .int .u64 0, .int .u64 0, .int .u64 0, .int .u64 0, .int .u64 0, .int .u64 0, .int .u64 0, .int .u64 0, .int .u64 0, .int .u64 0, .int .u64 0, .int .u64 0, .int .u64 0, .int .u64 0, .int .u64 0, .int .u64 0, .int .u64 0, .int .u64 0, .int .u64 0, .int .u64 0, .int .u64 0, .int .u64 0, .int .u64 0, .int .u64 0, .int .u64 0, .int .u64 0, .int .u64 0, .int .u64 0, .int .u64 0, .int .u64 0, .int .u64 0, .int .u64 0, .int .u64 0, .int .u64 0, .int .u64 0, .int .u64 0, .int .u64 0, .int .u64 0, .int .u64 0, .int .u64 0, .int .u64 0, .int .u64 0, .int .u64 0, .int .u64 0, .int .u64 0, .int .u64 0, .int .u64 0, .int .u64 0, .int .u64 0, .int .u64 0, .int .u64 0, .int .u64 0, .int .u64 0, .int .u64 0, .int .u64 0, .int .u64 0, .int .u64 0, .int .u64 0, .int .u64 0, .int .u64 0, .int .u64 0, .int .u64 0, .int .u64 0, .int .u64 0, .int .u64 0, .int .u64 0, .int .u64 0, .int .u64 0, .int .u64 0, .int .u64 0, .int .u64 0, .int .u64 0, .int .u64 0, .int .u64 0, .int .u64 0, .int .u64 0, .int .u64 0, .int .u64 0, .int .u64 0, .int .u64 0, .int .u64 0, .int .u64 0, .int .u64 0, .int .u64 0, .int .u64 0, .int .u64 0, .int .u64 0, .int .u64 0, .int .u64 0, .int .u64 0, .int .u64 0, .int .u64 0, .int .u64 0, .int .u64 0, .int .u64 0, .int .u64 0, .int .u64 0, .int .u64 0, .int .u64 0, .int .u64 0, .int .u64 0, .int .u64 0, .int .u64 0, .int .u64 0, .int .u64 0, .int .u64 0, .int .u64 0, .int .u64 0, .int .u64 0, .int .u64 0, .int .u64 0, .int .u64 0, .int .u64 0, .int .u64 0, .int .u64 0, .int .u64 0] [], []⟩,
 ⟨some 6, none, .alloc [.int .i64 0, .int .u64 0, .int .u64 0, .int .u64 0, .int .u64 0, .int .u64 0, .int .u64 0, .int .u64 0, .int .u64 0, .int .u64 0, .int .u64 0, .int .u64 0, .int .u64 0, .int .u64 0, .int .u64 0, .int .u64 0, .int .u64 0, .int .u64 0, .int .u64 0, .int .u64 0, .int .u64 0, .int .u64 0, .int .u64 0, .int .u64 0, .int .u64 0, .int .u64 0, .int .u64 0, .int .u64 0, .int .u64 0, .int .u64 0, .int .u64 0, .int .u64 0, .int .u64 0, .int .u64 0, .int .u64 0, .int .u64 0, .int .u64 0, .int .u64 0, .int .u64 0, .int .u64 0, .int .u64 0, .int .u64 0, .int .u64 0, .int .u64 0, .int .u64 0, .int .u64 0, .int .u64 0, .int .u64 0, .int .u64 0, .int .u64 0, .int .u64 0, .int .u64 0, .int .u64 0, .int .u64 0, .int .u64 0, .int .u64 0, .int .u64 0, .int .u64 0, .int .u64 0, .int .u64 0, .int .u64 0, .int .u64 0, .int .u64 0, .int .u64 0, .int .u64 0, .int .u64 0, .int .u64 0, .int .u64 0, .int .u64 0, .int .u64 0, .int .u64 0, .int .u64 0, .int .u64 0, .int .u64 0, .int .u64 0, .int .u64 0, .int .u64 0, .int .u64 0, .int .u64 0, .int .u64 0, .int .u64 0, .int .u64 0, .int .u64 0, .int .u64 0, .int .u64 0, .int .u64 0, .int .u64 0, .int .u64 0, .int .u64 0, .int .u64 0, .int .u64 0, .int .u64 0, .int .u64 0, .int .u64 0, .int .u64 0, .int .u64 0, .int .u64 0, .int .u64 0, .int .u64 0, .int .u64 0, .int .u64 0, .int .u64 0, .int .u64 0, .int .u64 0, .int .u64 0, .int .u64 0, .int .u64 0, .int .u64 0, .int .u64 0, .int .u64 0, .int .u64 0, .int .u64 0, .int .u64 0, .int .u64 0, .int .u64 0, .int .u64 0, .int .u64 0, .int .u64 0, .int .u64 0, .int .u64 0, .int .u64 0, .int .u64 0, .int .u64 0, .int .u64 0, .int .u64 0, .int .u64 0, .int .u64 0, .int .u64 0, .int .u64 0, .int .u64 0] false, []⟩,
 ⟨none, none, .st 130 (.t 6) (.t 35), []⟩])
 (.seq
 (.seq
 (.ops 8 [⟨some 36, none, .mv (.t 3), []⟩,
 ⟨some 37, none, .build [.int .i64 0, .int .i64 0, .int .i64 0, .int .i64 0, .nili, .int .u64 0, .int .u64 0] [], []⟩,
 ⟨some 38, none, .box 7 (.t 37) false, []⟩,
 ⟨some 39, none, .bslice [.nilp] 1 2 [(0, (.t 36)), (1, (.t 38))] true false, []⟩,
 ⟨some 40, none, .len .slice (.t 39), []⟩,
 ⟨some 41, none, .mv (.c (.int .i64 0)), []⟩])
 (.block 0
 (.loop [] B4x0)))
 (.seq
 (.seq
 (.ops 15 [⟨some 70, none, .mv (.t 4), []⟩,
 ⟨some 71, none, .build [.int .i64 0, .int .i64 0, .int .i64 0, .int .i64 0, .int .u64 0, .int .u64 0, .int .u64 0, .int .u64 0, .int .u64 0, .int .u64 0, .int .u64 0, .int .u64 0, .int .u64 0, .int .u64 0, .int .u64 0, .int .u64 0, .int .u64 0, .int .u64 0, .int .u64 0, .int .u64 0, .int .u64 0, .int .u64 0, .int .u64 0, .int .u64 0, .int .u64 0, .int .u64 0, .int .u64 0, .int .u64 0, .int .u64 0, .int .u64 0, .int .u64 0, .int .u64 0, .int .u64 0, .int .u64 0, .int .u64 0, .int .u64 0, .int .u64 0, .int .u64 0, .int .u64 0, .int .u64 0, .int .u64 0, .int .u64 0, .int .u64 0, .int .u64 0, .int .u64 0, .int .u64 0, .int .u64 0, .int .u64 0, .int .u64 0, .int .u64 0, .int .u64 0, .int .u64 0, .int .u64 0, .int .u64 0, .int .u64 0, .int .u64 0, .int .u64 0, .int .u64 0, .int .u64 0, .int .u64 0, .int .u64 0, .int .u64 0, .int .u64 0, .int .u64 0, .int .u64 0, .int .u64 0, .int .u64 0, .int .u64 0, .int .u64 0, .int .u64 0, .int .u64 0, .int .u64 0, .int .u64 0, .int .u64 0, .int .u64 0, .int .u64 0, .int .u64 0, .int .u64 0, .int .u64 0, .int .u64 0, .int .u64 0, .int .u64 0, .int .u64 0, .int .u64 0, .int .u64 0, .int .u64 0, .int .u64 0, .int .u64 0, .int .u64 0, .int .u64 0, .int .u64 0, .int .u64 0, .int .u64 0, .int .u64 0, .int .u64 0, .int .u64 0, .int .u64 0, .int .u64 0, .int .u64 0, .int .u64 0, .int .u64 0, .int .u64 0, .int .u64 0, .int .u64 0, .int .u64 0, .int .u64 0, .int .u64 0, .int .u64 0, .int .u64 0, .int .u64 0, .int .u64 0, .int .u64 0, .int .u64 0, .int .u64 0, .int .u64 0, .int .u64 0, .int .u64 0, .int .u64 0, .int .u64 0, .int .u64 0, .int .u64 0, .int .u64 0, .int .u64 0, .int .u64 0, .int .u64 0, .int .u64 0, .int .u64 0, .int .u64 0, .int .u64 0, .int .u64 0, .int .u64 0, .int .u64 0, .int .u64 0, .int .i64 0, .int .u64 0, .int .u64 0, .int .u64 0, .int .u64 0, .int .u64 0, .int .u64 0, .int .u64 0, .int .u64 0, .int .u64 0, .int .u64 0, .int .u64 0, .int .u64 0, .int .u64 0, .int .u64 0, .int .u64 0, .int .u64 0, .int .u64 0, .int .u64 0, .int .u64 0, .int .u64 0, .int .u64 0, .int .u64 0, .int .u64 0, .int .u64 0, .int .u64 0, .int .u64 0, .int .u64 0, .int .u64 0, .int .u64 0, .int .u64 0, .int .u64 0, .int .u64 0, .int .u64 0, .int .u64 0, .int .u64 0, .int .u64 0, .int .u64 0, .int .u64 0, .int .u64 0, .int .u64 0, .int .u64 0, .int .u64 0, .int .u64 0, .int .u64 0, .int .u64 0, .int .u64 0, .int .u64 0, .int .u64 0, .int .u64 0, .int .u64 0, .int .u64 0, .int .u64 0, .int .u64 0, .int .u64 0, .int .u64 0, .int .u64 0, .int .u64 0, .int .u64 0, .int .u64 0, .int .u64 0, .int .u64 0, .int .u64 0, .int .u64 0, .int .u64 0, .int .u64 0, .int .u64 0, .int .u64 0, .int .u64 0, .int .u64 0, .int .u64 0, .int .u64 0, .int .u64 0, .int .u64 0, .int .u64 0, .int .u64 0, .int .u64 0, .int .u64 0, .int .u64 0, .int .u64 0, .int .u64 0, .int .u64 0, .int .u64 0, .int .u64 0, .int .u64 0, .int .u64 0, .int .u64 0, .int .u64 0, .int .u64 0, .int .u64 0, .int .u64 0, .int .u64 0, .int .u64 0, .int .u64 0, .int .u64 0, .int .u64 0, .int .u64 0, .int .u64 0, .int .u64 0, .int .u64 0, .int .u64 0, .int .u64 0, .int .u64 0, .int .u64 0, .int .u64 0, .int .u64 0, .int .u64 0, .int .u64 0, .int .u64 0, .int .u64 0, .int .u64 0, .int .u64 0, .int .u64 0, .int .u64 0, .int .u64 0, .int .u64 0, .int .u64 0, .int .u64 0, .int .u64 0, .int .u64 0, .int .u64 0, .int .u64 0, .int .u64 0, .int .u64 0, .int .u64 0, .int .u64 0, .int .u64 0, .int .u64 0, .int .u64 0, .int .u64 0, .int .i64 0, .int .u64 0, .int .u64 0, .int .u64 0, .int .u64 0, .int .u64 0, .int .u64 0, .int .u64 0, .int .u64 0, .int .u64 0, .int .u64 0, .int .u64 0, .int .u64 0, .int .u64 0, .int .u64 0, .int .u64 0, .int .u64 0, .int .u64 0, .int .u64 0, .int .u64 0, .int .u64 0, .int .u64 0, .int .u64 0, .int .u64 0, .int .u64 0, .int .u64 0, .int .u64 0, .int .u64 0, .int .u64 0, .int .u64 0, .int .u64 0, .int .u64 0, .int .u64 0, .int .u64 0, .int .u64 0, .int .u64 0, .int .u64 0, .int .u64 0, .int .u64 0, .int .u64 0, .int .u64 0, .int .u64 0, .int .u64 0, .int .u64 0, .int .u64 0, .int .u64 0, .int .u64 0, .int .u64 0, .int .u64 0, .int .u64 0, .int .u64 0, .int .u64 0, .int .u64 0, .int .u64 0, .int .u64 0, .int .u64 0, .int .u64 0, .int .u64 0, .int .u64 0, .int .u64 0, .int .u64 0, .int .u64 0, .int .u64 0, .int .u64 0, .int .u64 0, .int .u64 0, .int .u64 0, .int .u64 0, .int .u64 0, .int .u64 0, .int .u64 0, .int .u64 0, .int .u64 0, .int .u64 0, .int .u64 0, .int .u64 0, .int .u64 0, .int .u64 0, .int .u64 0, .int .u64 0, .int .u64 0, .int .u64 0, .int .u64 0, .int .u64 0, .int .u64 0, .int .u64 0, .int .u64 0, .int .u64 0, .int .u64 0, .int .u64 0, .int .u64 0, .int .u64 0, .int .u64 0, .int .u64 0, .int .u64 0, .int .u64 0, .int .u64 0, .int .u64 0, .int .u64 0, .int .u64 0, .int .u64 0, .int .u64 0, .int .u64 0, .int .u64 0, .int .u64 0, .int .u64 0, .int .u64 0, .int .u64 0, .int .u64 0, .int .u64 0, .int .u64 0, .int .u64 0, .int .u64 0, .int .u64 0, .int .u64 0, .int .u64 0, .int .u64 0, .int .u64 0, .int .u64 0, .int .u64 0, .int .u64 0, .int .u64 0, .int .u64 0, .int .u64 0, .int .u64 0, .int .u64 0, .int .u64 0, .int .u64 0, .int .u64 0, .int .u64 0, .int .i64 0, .nili, .int .i64 0] [], []⟩,
 ⟨some 72, none, .box 396 (.t 71) false, []⟩,
 ⟨some 73, none, .bslice [.nilp] 1 2 [(0, (.t 70)), (1, (.t 72))] true false, []⟩,
 ⟨some 74, none, .len .slice (.t 73), []⟩,
 ⟨some 75, none, .mv (.c (.int .i64 0)), []⟩])
 (.block 2
 (.loop [] B4x1)))
 (.seq
 (.seq
 (.ops 23 [⟨some 125, none, .mv (.t 5), []⟩,
 ⟨some 126, none, .build [.int .i64 0, .int .i64 0, .int .i64 0, .int .i64 0, .int .u64 0, .int .u64 0, .int .u64 0, .int .u64 0, .int .u64 0, .int .u64 0, .int .u64 0, .int .u64 0, .int .u64 0, .int .u64 0, .int .u64 0, .int .u64 0, .int .u64 0, .int .u64 0, .int .u64 0, .int .u64 0, .int .u64 0, .int .u64 0, .int .u64 0, .int .u64 0, .int .u64 0, .int .u64 0, .int .u64 0, .int .u64 0, .int .u64 0, .int .u64 0, .int .u64 0, .int .u64 0, .int .u64 0, .int .u64 0, .int .u64 0, .int .u64 0, .int .u64 0, .int .u64 0, .int .u64 0, .int .u64 0, .int .u64 0, .int .u64 0, .int .u64 0, .int .u64 0, .int .u64 0, .int .u64 0, .int .u64 0, .int .u64 0, .int .u64 0, .int .u64 0, .int .u64 0, .int .u64 0, .int .u64 0, .int .u64 0, .int .u64 0, .int .u64 0, .int .u64 0, .int .u64 0, .int .u64 0, .int .u64 0, .int .u64 0, .int .u64 0, .int .u64 0, .int .u64 0, .int .u64 0, .int .u64 0, .int .u64 0, .int .u64 0, .int .u64 0, .int .u64 0, .int .u64 0, .int .u64 0, .int .u64 0, .int .u64 0, .int .u64 0, .int .u64 0, .int .u64 0, .int .u64 0, .int .u64 0, .int .u64 0, .int .u64 0, .int .u64 0, .int .u64 0, .int .u64 0, .int .u64 0, .int .u64 0, .int .u64 0, .int .u64 0, .int .u64 0, .int .u64 0, .int .u64 0, .int .u64 0, .int .u64 0, .int .u64 0, .int .u64 0, .int .u64 0, .int .u64 0, .int .u64 0, .int .u64 0, .int .u64 0, .int .u64 0, .int .u64 0, .int .u64 0, .int .u64 0, .int .u64 0, .int .u64 0, .int .u64 0, .int .u64 0, .int .u64 0, .int .u64 0, .int .u64 0, .int .u64 0, .int .u64 0, .int .u64 0, .int .u64 0, .int .u64 0, .int .u64 0, .int .u64 0, .int .u64 0, .int .u64 0, .int .u64 0, .int .u64 0, .int .u64 0, .int .u64 0, .int .u64 0, .int .u64 0, .int .u64 0, .int .u64 0, .int .u64 0, .int .u64 0, .int .u64 0, .int .u64 0, .int .u64 0, .int .i64 0, .int .u64 0, .int .u64 0, .int .u64 0, .int .u64 0, .int .u64 0, .int .u64 0, .int .u64 0, .int .u64 0, .int .u64 0, .int .u64 0, .int .u64 0, .int .u64 0, .int .u64 0, .int .u64 0, .int .u64 0, .int .u64 0, .int .u64 0, .int .u64 0, .int .u64 0, .int .u64 0, .int .u64 0, .int .u64 0, .int .u64 0, .int .u64 0, .int .u64 0, .int .u64 0, .int .u64 0, .int .u64 0, .int .u64 0, .int .u64 0, .int .u64 0, .int .u64 0, .int .u64 0, .int .u64 0, .int .u64 0, .int .u64 0, .int .u64 0, .int .u64 0, .int .u64 0, .int .u64 0, .int .u64 0, .int .u64 0, .int .u64 0, .int .u64 0, .int .u64 0, .int .u64 0, .int .u64 0, .int .u64 0, .int .u64 0, .int .u64 0, .int .u64 0, .int .u64 0, .int .u64 0, .int .u64 0, .int .u64 0, .int .u64 0, .int .u64 0, .int .u64 0, .int .u64 0, .int .u64 0, .int .u64 0, .int .u64 0, .int .u64 0, .int .u64 0, .int .u64 0, .int .u64 0, .int .u64 0, .int .u64 0, .int .u64 0, .int .u64 0, .int .u64 0, .int .u64 0, .int .u64 0, .int .u64 0, .int .u64 0, .int .u64 0, .int .u64 0, .int .u64 0, .int .u64 0, .int .u64 0, .int .u64 0, .int .u64 0, .int .u64 0, .int .u64 0, .int .u64 0, .int .u64 0, .int .u64 0, .int .u64 0, .int .u64 0, .int .u64 0, .int .u64 0, .int .u64 0, .int .u64 0, .int .u64 0, .int .u64 0, .int .u64 0, .int .u64 0, .int .u64 0, .int .u64 0, .int .u64 0, .int .u64 0, .int .u64 0, .int .u64 0, .int .u64 0, .int .u64 0, .int .u64 0, .int .u64 0, .int .u64 0, .int .u64 0, .int .u64 0, .int .u64 0, .int .u64 0, .int .u64 0, .int .u64 0, .int .u64 0, .int .u64 0, .int .u64 0, .int .u64 0, .int .u64 0, .int .u64 0, .int .u64 0, .int .u64 0, .int .u64 0, .int .u64 0, .int .u64 0, .int .u64 0, .int .u64 0, .int .u64 0, .int .u64 0, .int .i64 0, .int .u64 0, .int .u64 0, .int .u64 0, .int .u64 0, .int .u64 0, .int .u64 0, .int .u64 0, .int .u64 0, .int .u64 0, .int .u64 0, .int .u64 0, .int .u64 0, .int .u64 0, .int .u64 0, .int .u64 0, .int .u64 0, .int .u64 0, .int .u64 0, .int .u64 0, .int .u64 0, .int .u64 0, .int .u64 0, .int .u64 0, .int .u64 0, .int .u64 0, .int .u64 0, .int .u64 0, .int .u64 0, .int .u64 0, .int .u64 0, .int .u64 0, .int .u64 0, .int .u64 0, .int .u64 0, .int .u64 0, .int .u64 0, .int .u64 0, .int .u64 0, .int .u64 0, .int .u64 0, .int .u64 0, .int .u64 0, .int .u64 0, .int .u64 0, .int .u64 0, .int .u64 0, .int .u64 0, .int .u64 0, .int .u64 0, .int .u64 0, .int .u64 0, .int .u64 0, .int .u64 0, .int .u64 0, .int .u64 0, .int .u64 0, .int .u64 0, .int .u64 0, .int .u64 0, .int .u64 0, .int .u64 0, .int .u64 0, .int .u64 0, .int .u64 0, .int .u64 0, .int .u64 0, .int .u64 0, .int .u64 0, .int .u64 0, .int .u64 0, .int .u64 0, .int .u64 0, .int .u64 0, .int .u64 0, .int .u64 0, .int .u64 0, .int .u64 0, .int .u64 0, .int .u64 0, .int .u64 0, .int .u64 0, .int .u64 0, .int .u64 0, .int .u64 0, .int .u64 0, .int .u64 0, .int .u64 0, .int .u64 0, .int .u64 0, .int .u64 0, .int .u64 0, .int .u64 0, .int .u64 0, .int .u64 0, .int .u64 0, .int .u64 0, .int .u64 0, .int .u64 0, .int .u64 0, .int .u64 0, .int .u64 0, .int .u64 0, .int .u64 0, .int .u64 0, .int .u64 0, .int .u64 0, .int .u64 0, .int .u64 0, .int .u64 0, .int .u64 0, .int .u64 0, .int .u64 0, .int .u64 0, .int .u64 0, .int .u64 0, .int .u64 0, .int .u64 0, .int .u64 0, .int .u64 0, .int .u64 0, .int .u64 0, .int .u64 0, .int .u64 0, .int .u64 0, .int .u64 0, .int .u64 0, .int .u64 0, .int .u64 0, .int .u64 0, .int .i64 0, .nili, .int .i64 0, .int .i64 0] [], []⟩,
 ⟨some 127, none, .box 397 (.t 126) false, []⟩,
 ⟨some 128, none, .bslice [.nilp] 1 2 [(0, (.t 125)), (1, (.t 127))] true false, []⟩,
 ⟨some 129, none, .len .slice (.t 128), []⟩,
 ⟨some 130, none, .mv (.c (.int .i64 0)), []⟩])
 (.block 4
 (.loop [] B4x2)))
 (.seq
 (.ops 31 [⟨some 180, none, .call 36 [], []⟩,
 ⟨some 0, none, .mv (.t 180), []⟩])
 .ret)))))))))))⟩
theorem F4_code : cfgA.code 4 = some F4 := by kernel_rfl

/-- ticketline/mem.New -/
noncomputable def F5 : AFn := ⟨14, [.tmp 2, .tmp 3], (.seq
 (.ops 0 [⟨some 2, none, .mv (.c (.nilp)), []⟩,
 ⟨some 3, none, .mv (.c (.int .i64 0)), []⟩])
 (.seq
 (.seq
 (.ops 1 [⟨some 4, none, .mv (.t 0), []⟩,
 ⟨some 5, none, .bin .lss (.t 4) (.c (.int .i64 1)), []⟩,
 ⟨some 6, none, .mv (.t 5), []⟩,
 ⟨some 7, some (6, false), .mv (.t 0), []⟩,
 ⟨some 8, some (6, false), .bin .gtr (.t 7) (.c (.int .i64 65536)), []⟩,
 ⟨some 9, none, .pick (.t 6) (.c (.bool true)) (.t 8), []⟩])
 (.cond (.t 9)
 (.seq
 (.ops 2 [⟨some 2, none, .mv (.c (.nilp)), []⟩,
 ⟨some 3, none, .mv (.c (.int .i64 2)), []⟩])
 .ret)
 .skip))
 (.seq
 (.ops 3 [⟨some 10, none, .mv (.t 0), []⟩,
 ⟨some 11, none, .mks [.int .u64 0] 1 8 (.t 10) (.t 10) true, []⟩,
 ⟨some 12, none, .build [.nils] [(0, 1, (.t 11))], []⟩,
 ⟨some 13, none, .box 1 (.t 12) true, []⟩,
 ⟨some 2, none, .mv (.t 13), []⟩,
 ⟨some 3, none, .mv (.c (.int .i64 0)), []⟩])
 .ret)))⟩
theorem F5_code : cfgA.code 5 = some F5 := by kernel_rfl

/-- (*ticketline/grow.Take).Step -/
noncomputable def F22 : AFn := ⟨130, [.tmp 4, .tmp 5], (.seq
 (.ops 0 [⟨some 4, none, .mv (.c (.bool false)), []⟩,
 ⟨some 5, none, .mv (.c (.int .i64 0)), []⟩])
 (.seq
 (.seq
 (.ops 1 [⟨some 15, none, .mv (.t 0), []⟩,
 ⟨some 16, none, .call 57 [.t 15], []⟩,
 ⟨some 17, none, .mv (.t 16), []⟩,
 ⟨some 18, some (17, false), .mv (.t 1), []⟩,
 ⟨some 19, some (17, false), .eqn .iface false (.t 18), []⟩,
 ⟨some 20, none, .pick (.t 17) (.c (.bool true)) (.t 19), []⟩])
 (.cond (.t 20)
 (.seq
 (.ops 2 [⟨some 4, none, .mv (.c (.bool false)), []⟩,
 ⟨some 5, none, .mv (.c (.int .i64 1)), []⟩])
 .ret)
 .skip))
 (.seq
 (.seq
 (.ops 3 [⟨some 21, none, .mv (.t 0), []⟩,
 ⟨some 22, none, .nilc (.t 21) (mok Tryz.prog), []⟩,
 ⟨some 23, none, .fld 3 (.t 22), []⟩,
 ⟨some 24, none, .ld 1 false (.t 23), []⟩])
 (.block 0
 (.seq
 (.ops 4 [⟨some 26, none, .bin .eql (.t 24) (.c (.int .i64 2)), []⟩,
 ⟨some 25, none, .mv (.t 26), []⟩])
 (.cond (.t 25)
 (.seq
 (.ops 5 [⟨some 28, none, .mv (.t 1), []⟩,
 ⟨some 29, none, .invk (.t 28) "Load" [.c (.int .i64 1)], []⟩,
 ⟨some 27, none, .mv (.t 29), []⟩,
 ⟨some 30, none, .ext (.t 27) 0, []⟩,
 ⟨some 31, none, .ext (.t 27) 1, []⟩,
 ⟨some 6, none, .mv (.t 30), []⟩,
 ⟨some 7, none, .mv (.t 31), []⟩])
 (.seq
 (.seq
 (.ops 6 [⟨some 32, none, .mv (.t 7), []⟩,
 ⟨some 33, none, .bin .eql (.t 32) (.c (.int .i64 0)), []⟩])
 (.cond (.t 33)
 (.ops 7 [⟨some 34, none, .mv (.t 0), []⟩,
 ⟨some 35, none, .mv (.t 6), []⟩,
 ⟨some 36, none, .call 58 [.t 34, .t 35], []⟩,
 ⟨some 7, none, .mv (.t 36), []⟩])
 .skip))
 (.seq
 (.ops 8 [⟨some 37, none, .mv (.t 7), []⟩,
 ⟨some 4, none, .mv (.c (.bool false)), []⟩,
 ⟨some 5, none, .mv (.t 37), []⟩])
 .ret)))
 (.seq
 (.ops 9 [⟨some 39, none, .bin .eql (.t 24) (.c (.int .i64 3)), []⟩,
 ⟨some 38, none, .mv (.t 39), []⟩])
 (.cond (.t 38)
 (.seq
 (.ops 10 [⟨some 41, none, .mv (.t 0), []⟩,
 ⟨some 42, none, .nilc (.t 41) (mok Tryz.prog), []⟩,
 ⟨some 43, none, .fld 5 (.t 42), []⟩,
 ⟨some 44, none, .ld 1 false (.t 43), []⟩,
 ⟨some 45, none, .cvi .i64 (.t 44), []⟩,
 ⟨some 46, none, .call 59 [.t 45, .c (.int .i64 10)], []⟩,
 ⟨some 40, none, .mv (.t 46), []⟩,
 ⟨some 47, none, .ext (.t 40) 0, []⟩,
 ⟨some 48, none, .ext (.t 40) 1, []⟩,
 ⟨some 8, none, .mv (.t 47), []⟩,
 ⟨some 9, none, .mv (.t 48), []⟩])
 (.seq
 (.ops 11 [⟨some 50, none, .mv (.t 1), []⟩,
 ⟨some 51, none, .mv (.t 8), []⟩,
 ⟨some 52, none, .invk (.t 50) "Load" [.t 51], []⟩,
 ⟨some 49, none, .mv (.t 52), []⟩,
 ⟨some 53, none, .ext (.t 49) 0, []⟩,
 ⟨some 54, none, .ext (.t 49) 1, []⟩,
 ⟨some 10, none, .mv (.t 53), []⟩,
 ⟨some 11, none, .mv (.t 54), []⟩])
 (.seq
 (.seq
 (.ops 12 [⟨some 55, none, .mv (.t 11), []⟩,
 ⟨some 56, none, .bin .eql (.t 55) (.c (.int .i64 0)), []⟩])
 (.cond (.t 56)
 (.ops 13 [⟨some 57, none, .mv (.t 0), []⟩,
 ⟨some 58, none, .mv (.t 0), []⟩,
 ⟨some 59, none, .mv (.t 10), []⟩,
 ⟨some 60, none, .nilc (.t 57) (mok Tryz.prog), []⟩,
 ⟨some 61, none, .fld 6 (.t 60), []⟩,
 ⟨none, none, .st 1 (.t 61) (.t 59), []⟩,
 ⟨some 62, none, .nilc (.t 58) (mok Tryz.prog), []⟩,
 ⟨some 63, none, .fld 3 (.t 62), []⟩,
 ⟨none, none, .st 1 (.t 63) (.c (.int .i64 4)), []⟩])
 .skip))
 (.seq
 (.ops 14 [⟨some 64, none, .mv (.t 11), []⟩,
 ⟨some 4, none, .mv (.c (.bool false)), []⟩,
 ⟨some 5, none, .mv (.t 64), []⟩])
 .ret))))
 (.seq
 (.ops 15 [⟨some 66, none, .bin .eql (.t 24) (.c (.int .i64 4)), []⟩,
 ⟨some 65, none, .mv (.t 66), []⟩])
 (.cond (.t 65)
 (.seq
 (.ops 16 [⟨some 67, none, .mv (.t 1), []⟩,
 ⟨some 68, none, .mv (.t 0), []⟩,
 ⟨some 69, none, .nilc (.t 68) (mok Tryz.prog), []⟩,
 ⟨some 70, none, .fld 6 (.t 69), []⟩,
 ⟨some 71, none, .ld 1 false (.t 70), []⟩,
 ⟨some 72, none, .mkv "Store" (.t 67), []⟩,
 ⟨some 73, none, .nilc (.t 72) (mok Tryz.prog), []⟩,
 ⟨some 74, none, .mv (.t 67), []⟩,
 ⟨some 75, none, .invk (.t 74) "Store" [.c (.int .i64 1), .t 71], []⟩,
 ⟨some 12, none, .mv (.t 75), []⟩])
 (.seq
 (.seq
 (.ops 17 [⟨some 76, none, .mv (.t 12), []⟩,
 ⟨some 77, none, .bin .eql (.t 76) (.c (.int .i64 0)), []⟩])
 (.cond (.t 77)
 (.ops 18 [⟨some 78, none, .mv (.t 0), []⟩,
 ⟨some 79, none, .mv (.t 0), []⟩,
 ⟨some 80, none, .mv (.t 0), []⟩,
 ⟨some 81, none, .nilc (.t 80) (mok Tryz.prog), []⟩,
 ⟨some 82, none, .fld 0 (.t 81), []⟩,
 ⟨some 83, none, .ld 2 true (.t 82), []⟩,
 ⟨some 84, none, .mv (.t 0), []⟩,
 ⟨some 85, none, .nilc (.t 84) (mok Tryz.prog), []⟩,
 ⟨some 86, none, .fld 2 (.t 85), []⟩,
 ⟨some 87, none, .ld 1 false (.t 86), []⟩,
 ⟨some 88, none, .call 60 [.t 83, .t 87], []⟩,
 ⟨some 89, none, .nilc (.t 78) (mok Tryz.prog), []⟩,
 ⟨some 90, none, .fld 4 (.t 89), []⟩,
 ⟨none, none, .st 1 (.t 90) (.t 88), []⟩,
 ⟨some 91, none, .nilc (.t 79) (mok Tryz.prog), []⟩,
 ⟨some 92, none, .fld 3 (.t 91), []⟩,
 ⟨none, none, .st 1 (.t 92) (.c (.int .i64 7)), []⟩])
 .skip))
 (.seq
 (.ops 19 [⟨some 93, none, .mv (.t 12), []⟩,
 ⟨some 4, none, .mv (.c (.bool false)), []⟩,
 ⟨some 5, none, .mv (.t 93), []⟩])
 .ret)))
 (.seq
 (.ops 20 [⟨some 95, none, .bin .eql (.t 24) (.c (.int .i64 17)), []⟩,
 ⟨some 94, none, .mv (.t 95), []⟩])
 (.cond (.t 94)
 (.seq
 (.ops 21 [⟨some 4, none, .mv (.c (.bool false)), []⟩,
 ⟨some 5, none, .mv (.c (.int .i64 17)), []⟩])
 .ret)
 .skip))))))))))
 (.seq
 (.ops 22 [⟨some 97, none, .mv (.t 0), []⟩,
 ⟨some 98, none, .nilc (.t 97) (mok Tryz.prog), []⟩,
 ⟨some 99, none, .fld 4 (.t 98), []⟩,
 ⟨some 100, none, .ld 1 false (.t 99), []⟩,
 ⟨some 101, none, .mv (.t 1), []⟩,
 ⟨some 102, none, .invk (.t 100) "Step" [.t 101], []⟩,
 ⟨some 96, none, .mv (.t 102), []⟩,
 ⟨some 103, none, .ext (.t 96) 0, []⟩,
 ⟨some 104, none, .ext (.t 96) 1, []⟩,
 ⟨some 13, none, .mv (.t 103), []⟩,
 ⟨some 14, none, .mv (.t 104), []⟩])
 (.seq
 (.block 1
 (.seq
 (.ops 24 [⟨some 109, none, .mv (.t 14), []⟩,
 ⟨some 110, none, .bin .neq (.t 109) (.c (.int .i64 0)), []⟩,
 ⟨some 111, none, .mv (.t 110), []⟩,
 ⟨some 112, some (111, false), .mv (.t 0), []⟩,
 ⟨some 113, some (111, false), .nilc (.t 112) (mok Tryz.prog), []⟩,
 ⟨some 114, some (111, false), .fld 4 (.t 113), []⟩,
 ⟨some 115, some (111, false), .ld 1 false (.t 114), []⟩,
 ⟨some 116, some (111, false), .invk (.t 115) "Done" [], []⟩,
 ⟨some 117, some (111, false), .un .not (.t 116), []⟩,
 ⟨some 118, none, .pick (.t 111) (.c (.bool true)) (.t 117), []⟩,
 ⟨some 108, none, .mv (.t 118), []⟩])
 (.cond (.t 108)
 .skip
 (.seq
 (.ops 25 [⟨some 120, none, .mv (.t 0), []⟩,
 ⟨some 121, none, .nilc (.t 120) (mok Tryz.prog), []⟩,
 ⟨some 122, none, .fld 3 (.t 121), []⟩,
 ⟨some 123, none, .ld 1 false (.t 122), []⟩,
 ⟨some 124, none, .bin .eql (.t 123) (.c (.int .i64 1)), []⟩,
 ⟨some 119, none, .mv (.t 124), []⟩])
 (.cond (.t 119)
 (.ops 26 [⟨some 125, none, .mv (.t 0), []⟩,
 ⟨some 126, none, .nilc (.t 125) (mok Tryz.prog), []⟩,
 ⟨some 127, none, .fld 3 (.t 126), []⟩,
 ⟨none, none, .st 1 (.t 127) (.c (.int .i64 2)), []⟩])
 (.ops 23 [⟨some 105, none, .mv (.t 0), []⟩,
 ⟨some 106, none, .nilc (.t 105) (mok Tryz.prog), []⟩,
 ⟨some 107, none, .fld 3 (.t 106), []⟩,
 ⟨none, none, .st 1 (.t 107) (.c (.int .i64 17)), []⟩]))))))
 (.seq
 (.ops 27 [⟨some 128, none, .mv (.t 13), []⟩,
 ⟨some 129, none, .mv (.t 14), []⟩,
 ⟨some 4, none, .mv (.t 128), []⟩,
 ⟨some 5, none, .mv (.t 129), []⟩])
 .ret))))))⟩
theorem F22_code : cfgA.code 22 = some F22 := by kernel_rfl

/-- (*ticketline/grow.Take).Done -/
noncomputable def F23 : AFn := ⟨12, [.tmp 2], (.seq
 (.ops 0 [⟨some 2, none, .mv (.c (.bool false)), []⟩])
 (.seq
 (.ops 1 [⟨some 3, none, .mv (.t 0), []⟩,
 ⟨some 4, none, .call 57 [.t 3], []⟩,
 ⟨some 5, none, .mv (.t 4), []⟩,
 ⟨some 6, some (5, false), .mv (.t 0), []⟩,
 ⟨some 7, some (5, false), .nilc (.t 6) (mok Tryz.prog), []⟩,
 ⟨some 8, some (5, false), .fld 3 (.t 7), []⟩,
 ⟨some 9, some (5, false), .ld 1 false (.t 8), []⟩,
 ⟨some 10, some (5, false), .bin .eql (.t 9) (.c (.int .i64 17)), []⟩,
 ⟨some 11, none, .pick (.t 5) (.c (.bool true)) (.t 10), []⟩,
 ⟨some 2, none, .mv (.t 11), []⟩])
 .ret))⟩
theorem F23_code : cfgA.code 23 = some F23 := by kernel_rfl

/-- (*ticketline/grow.Take).Result -/
noncomputable def F24 : AFn := ⟨10, [.tmp 2], (.seq
 (.ops 0 [⟨some 2, none, .mv (.c (.int .u64 0)), []⟩])
 (.seq
 (.seq
 (.ops 1 [⟨some 3, none, .mv (.t 0), []⟩,
 ⟨some 4, none, .call 61 [.t 3], []⟩,
 ⟨some 5, none, .un .not (.t 4), []⟩])
 (.cond (.t 5)
 (.seq
 (.ops 2 [⟨some 2, none, .mv (.c (.int .u64 0)), []⟩])
 .ret)
 .skip))
 (.seq
 (.ops 3 [⟨some 6, none, .mv (.t 0), []⟩,
 ⟨some 7, none, .nilc (.t 6) (mok Tryz.prog), []⟩,
 ⟨some 8, none, .fld 5 (.t 7), []⟩,
 ⟨some 9, none, .ld 1 false (.t 8), []⟩,
 ⟨some 2, none, .mv (.t 9), []⟩])
 .ret)))⟩
theorem F24_code : cfgA.code 24 = some F24 := by kernel_rfl

/-- (*ticketline/grow.Take).Copy -/
noncomputable def F25 : AFn := ⟨16, [.tmp 2], (.seq
 (.ops 0 [⟨some 2, none, .mv (.c (.nili)), []⟩])
 (.seq
 (.seq
 (.ops 1 [⟨some 4, none, .mv (.t 0), []⟩,
 ⟨some 5, none, .call 57 [.t 4], []⟩])
 (.cond (.t 5)
 (.seq
 (.ops 2 [⟨some 2, none, .mv (.c (.nili)), []⟩])
 .ret)
 .skip))
 (.seq
 (.ops 3 [⟨some 6, none, .mv (.t 0), []⟩,
 ⟨some 7, none, .nilc (.t 6) (mok Tryz.prog), []⟩,
 ⟨some 8, none, .ld 7 true (.t 7), []⟩,
 ⟨some 3, none, .alloc [.int .i64 0, .int .i64 0, .int .i64 0, .int .i64 0, .nili, .int .u64 0, .int .u64 0] true, []⟩,
 ⟨none, none, .st 7 (.t 3) (.t 8), []⟩])
 (.seq
 (.ops 4 [⟨some 9, none, .mv (.t 0), []⟩,
 ⟨some 10, none, .nilc (.t 9) (mok Tryz.prog), []⟩,
 ⟨some 11, none, .fld 4 (.t 10), []⟩,
 ⟨some 12, none, .ld 1 false (.t 11), []⟩,
 ⟨some 13, none, .call 62 [.t 12], []⟩,
 ⟨some 14, none, .fld 4 (.t 3), []⟩,
 ⟨none, none, .st 1 (.t 14) (.t 13), []⟩])
 (.seq
 (.ops 5 [⟨some 15, none, .mki 60 (.t 3), []⟩,
 ⟨some 2, none, .mv (.t 15), []⟩])
 .ret)))))⟩
theorem F25_code : cfgA.code 25 = some F25 := by kernel_rfl

/-- (*ticketline/grow.Split).Pages -/
noncomputable def F26 : AFn := ⟨23, [.cell 2 130 true, .cell 3 130 true, .cell 4 130 true], (.seq
 (.ops 0 [⟨some 2, none, .alloc [.int .i64 0, .int .u64 0, .int .u64 0, .int .u64 0, .int .u64 0, .int .u64 0, .int .u64 0, .int .u64 0, .int .u64 0, .int .u64 0, .int .u64 0, .int .u64 0, .int .u64 0, .int .u64 0, .int .u64 0, .int .u64 0, .int .u64 0, .int .u64 0, .int .u64 0, .int .u64 0, .int .u64 0, .int .u64 0, .int .u64 0, .int .u64 0, .int .u64 0, .int .u64 0, .int .u64 0, .int .u64 0, .int .u64 0, .int .u64 0, .int .u64 0, .int .u64 0, .int .u64 0, .int .u64 0, .int .u64 0, .int .u64 0, .int .u64 0, .int .u64 0, .int .u64 0, .int .u64 0, .int .u64 0, .int .u64 0, .int .u64 0, .int .u64 0, .int .u64 0, .int .u64 0, .int .u64 0, .int .u64 0, .int .u64 0, .int .u64 0, .int .u64 0, .int .u64 0, .int .u64 0, .int .u64 0, .int .u64 0, .int .u64 0, .int .u64 0, .int .u64 0, .int .u64 0, .int .u64 0, .int .u64 0, .int .u64 0, .int .u64 0, .int .u64 0, .int .u64 0, .int .u64 0, .int .u64 0, .int .u64 0, .int .u64 0, .int .u64 0, .int .u64 0, .int .u64 0, .int .u64 0, .int .u64 0, .int .u64 0, .int .u64 0, .int .u64 0, .int .u64 0, .int .u64 0, .int .u64 0, .int .u64 0, .int .u64 0, .int .u64 0, .int .u64 0, .int .u64 0, .int .u64 0, .int .u64 0, .int .u64 0, .int .u64 0, .int .u64 0, .int .u64 0, .int .u64 0, .int .u64 0, .int .u64 0, .int .u64 0, .int .u64 0, .int .u64 0, .int .u64 0, .int .u64 0, .int .u64 0, .int .u64 0, .int .u64 0, .int .u64 0, .int .u64 0, .int .u64 0, .int .u64 0, .int .u64 0, .int .u64 0, .int .u64 0, .int .u64 0, .int .u64 0, .int .u64 0, .int .u64 0, .int .u64 0, .int .u64 0, .int .u64 0, .int .u64 0, .int .u64 0, .int .u64 0, .int .u64 0, .int .u64 0, .int .u64 0, .int .u64 0, .int .u64 0, .int .u64 0, .int .u64 0, .int .u64 0, .int .u64 0, .int .u64 0, .int .u64 0] false, []⟩,
 ⟨some 3, none, .alloc [.int .i64 0, .int .u64 0, .int .u64 0, .int .u64 0, .int .u64 0, .int .u64 0, .int .u64 0, .int .u64 0, .int .u64 0, .int .u64 0, .int .u64 0, .int .u64 0, .int .u64 0, .int .u64 0, .int .u64 0, .int .u64 0, .int .u64 0, .int .u64 0, .int .u64 0, .int .u64 0, .int .u64 0, .int .u64 0, .int .u64 0, .int .u64 0, .int .u64 0, .int .u64 0, .int .u64 0, .int .u64 0, .int .u64 0, .int .u64 0, .int .u64 0, .int .u64 0, .int .u64 0, .int .u64 0, .int .u64 0, .int .u64 0, .int .u64 0, .int .u64 0, .int .u64 0, .int .u64 0, .int .u64 0, .int .u64 0, .int .u64 0, .int .u64 0, .int .u64 0, .int .u64 0, .int .u64 0, .int .u64 0, .int .u64 0, .int .u64 0, .int .u64 0, .int .u64 0, .int .u64 0, .int .u64 0, .int .u64 0, .int .u64 0, .int .u64 0, .int .u64 0, .int .u64 0, .int .u64 0, .int .u64 0, .int .u64 0, .int .u64 0, .int .u64 0, .int .u64 0, .int .u64 0, .int .u64 0, .int .u64 0, .int .u64 0, .int .u64 0, .int .u64 0, .int .u64 0, .int .u64 0, .int .u64 0, .int .u64 0, .int .u64 0, .int .u64 0, .int .u64 0, .int .u64 0, .int .u64 0, .int .u64 0, .int .u64 0, .int .u64 0, .int .u64 0, .int .u64 0, .int .u64 0, .int .u64 0, .int .u64 0, .int .u64 0, .int .u64 0, .int .u64 0, .int .u64 0, .int .u64 0, .int .u64 0, .int .u64 0, .int .u64 0, .int .u64 0, .int .u64 0, .int .u64 0, .int .u64 0, .int .u64 0, .int .u64 0, .int .u64 0, .int .u64 0, .int .u64 0, .int .u64 0, .int .u64 0, .int .u64 0, .int .u64 0, .int .u64 0, .int .u64 0, .int .u64 0, .int .u64 0, .int .u64 0, .int .u64 0, .int .u64 0, .int .u64 0, .int .u64 0, .int .u64 0, .int .u64 0, .int .u64 0, .int .u64 0, .int .u64 0, .int .u64 0, .int .u64 0, .int .u64 0, .int .u64 0, .int .u64 0, .int .u64 0, .int .u64 0] false, []⟩,
 ⟨some 4, none, .alloc [.int .i64 0, .int .u64 0, .int .u64 0, .int .u64 0, .int .u64 0, .int .u64 0, .int .u64 0, .int .u64 0, .int .u64 0, .int .u64 0, .int .u64 0, .int .u64 0, .int .u64 0, .int .u64 0, .int .u64 0, .int .u64 0, .int .u64 0, .int .u64 0, .int .u64 0, .int .u64 0, .int .u64 0, .int .u64 0, .int .u64 0, .int .u64 0, .int .u64 0, .int .u64 0, .int .u64 0, .int .u64 0, .int .u64 0, .int .u64 0, .int .u64 0, .int .u64 0, .int .u64 0, .int .u64 0, .int .u64 0, .int .u64 0, .int .u64 0, .int .u64 0, .int .u64 0, .int .u64 0, .int .u64 0, .int .u64 0, .int .u64 0, .int .u64 0, .int .u64 0, .int .u64 0, .int .u64 0, .int .u64 0, .int .u64 0, .int .u64 0, .int .u64 0, .int .u64 0, .int .u64 0, .int .u64 0, .int .u64 0, .int .u64 0, .int .u64 0, .int .u64 0, .int .u64 0, .int .u64 0, .int .u64 0, .int .u64 0, .int .u64 0, .int .u64 0, .int .u64 0, .int .u64 0, .int .u64 0, .int .u64 0, .int .u64 0, .int .u64 0, .int .u64 0, .int .u64 0, .int .u64 0, .int .u64 0, .int .u64 0, .int .u64 0, .int .u64 0, .int .u64 0, .int .u64 0, .int .u64 0, .int .u64 0, .int .u64 0, .int .u64 0, .int .u64 0, .int .u64 0, .int .u64 0, .int .u64 0, .int .u64 0, .int .u64 0, .int .u64 0, .int .u64 0, .int .u64 0, .int .u64 0, .int .u64 0, .int .u64 0, .int .u64 0, .int .u64 0, .int .u64 0, .int .u64 0, .int .u64 0, .int .u64 0, .int .u64 0, .int .u64 0, .int .u64 0, .int .u64 0, .int .u64 0, .int .u64 0, .int .u64 0, .int .u64 0, .int .u64 0, .int .u64 0, .int .u64 0, .int .u64 0, .int .u64 0, .int .u64 0, .int .u64 0, .int .u64 0, .int .u64 0, .int .u64 0, .int .u64 0, .int .u64 0, .int .u64 0, .int .u64 0, .int .u64 0, .int .u64 0, .int .u64 0, .int .u64 0, .int .u64 0, .int .u64 0, .int .u64 0] false, []⟩])
 (.seq
 (.seq
 (.ops 1 [⟨some 5, none, .mv (.t 0), []⟩,
 ⟨some 6, none, .call 63 [.t 5], []⟩,
 ⟨some 7, none, .un .not (.t 6), []⟩])
 (.cond (.t 7)
 (.seq
 (.ops 2 [⟨some 8, none, .ld 130 true (.t 2), []⟩,
 ⟨some 9, none, .ld 130 true (.t 3), []⟩,
 ⟨some 10, none, .ld 130 true (.t 4), []⟩,
 ⟨none, none, .st 130 (.t 2) (.t 8), [(9, .ld 130 true (.t 3)), (10, .ld 130 true (.t 4))]⟩,
 ⟨none, none, .st 130 (.t 3) (.t 9), [(10, .ld 130 true (.t 4))]⟩,
 ⟨none, none, .st 130 (.t 4) (.t 10), []⟩])
 .ret)
 .skip))
 (.seq
 (.ops 3 [⟨some 11, none, .mv (.t 0), []⟩,
 ⟨some 12, none, .nilc (.t 11) (mok Tryz.prog), []⟩,
 ⟨some 13, none, .fld 3 (.t 12), []⟩,
 ⟨some 14, none, .ld 130 true (.t 13), []⟩,
 ⟨some 15, none, .mv (.t 0), []⟩,
 ⟨some 16, none, .nilc (.t 15) (mok Tryz.prog), []⟩,
 ⟨some 17, none, .fld 133 (.t 16), []⟩,
 ⟨some 18, none, .ld 130 true (.t 17), []⟩,
 ⟨some 19, none, .mv (.t 0), []⟩,
 ⟨some 20, none, .nilc (.t 19) (mok Tryz.prog), []⟩,
 ⟨some 21, none, .fld 263 (.t 20), []⟩,
 ⟨some 22, none, .ld 130 true (.t 21), []⟩,
 ⟨none, none, .st 130 (.t 2) (.t 14), [(18, .ld 130 true (.t 17)), (22, .ld 130 true (.t 21))]⟩,
 ⟨none, none, .st 130 (.t 3) (.t 18), [(22, .ld 130 true (.t 21))]⟩,
 ⟨none, none, .st 130 (.t 4) (.t 22), []⟩])
 .ret)))⟩
theorem F26_code : cfgA.code 26 = some F26 := by kernel_rfl

/-- (*ticketline/grow.Split).Step -/
noncomputable def F27 : AFn := ⟨43, [.tmp 4, .tmp 5], (.seq
 (.ops 0 [⟨some 4, none, .mv (.c (.bool false)), []⟩,
 ⟨some 5, none, .mv (.c (.int .i64 0)), []⟩])
 (.seq
 (.block 0
 (.seq
 (.ops 1 [⟨some 9, none, .mv (.t 0), []⟩,
 ⟨some 10, none, .call 64 [.t 9], []⟩,
 ⟨some 11, none, .mv (.t 10), []⟩,
 ⟨some 12, some (11, false), .mv (.t 1), []⟩,
 ⟨some 13, some (11, false), .eqn .iface false (.t 12), []⟩,
 ⟨some 14, none, .pick (.t 11) (.c (.bool true)) (.t 13), []⟩,
 ⟨some 8, none, .mv (.t 14), []⟩])
 (.cond (.t 8)
 (.seq
 (.ops 2 [⟨some 4, none, .mv (.c (.bool false)), []⟩,
 ⟨some 5, none, .mv (.c (.int .i64 1)), []⟩])
 .ret)
 (.seq
 (.ops 3 [⟨some 16, none, .mv (.t 0), []⟩,
 ⟨some 17, none, .nilc (.t 16) (mok Tryz.prog), []⟩,
 ⟨some 18, none, .fld 393 (.t 17), []⟩,
 ⟨some 19, none, .ld 1 false (.t 18), []⟩,
 ⟨some 20, none, .bin .eql (.t 19) (.c (.int .i64 17)), []⟩,
 ⟨some 15, none, .mv (.t 20), []⟩])
 (.cond (.t 15)
 (.seq
 (.ops 4 [⟨some 4, none, .mv (.c (.bool false)), []⟩,
 ⟨some 5, none, .mv (.c (.int .i64 17)), []⟩])
 .ret)
 .skip)))))
 (.seq
 (.ops 5 [⟨some 22, none, .mv (.t 0), []⟩,
 ⟨some 23, none, .nilc (.t 22) (mok Tryz.prog), []⟩,
 ⟨some 24, none, .fld 394 (.t 23), []⟩,
 ⟨some 25, none, .ld 1 false (.t 24), []⟩,
 ⟨some 26, none, .mv (.t 1), []⟩,
 ⟨some 27, none, .invk (.t 25) "Step" [.t 26], []⟩,
 ⟨some 21, none, .mv (.t 27), []⟩,
 ⟨some 28, none, .ext (.t 21) 0, []⟩,
 ⟨some 29, none, .ext (.t 21) 1, []⟩,
 ⟨some 6, none, .mv (.t 28), []⟩,
 ⟨some 7, none, .mv (.t 29), []⟩])
 (.seq
 (.seq
 (.ops 6 [⟨some 30, none, .mv (.t 7), []⟩,
 ⟨some 31, none, .bin .eql (.t 30) (.c (.int .i64 0)), []⟩,
 ⟨some 32, none, .mv (.t 31), []⟩,
 ⟨some 33, some (32, true), .mv (.t 0), []⟩,
 ⟨some 34, some (32, true), .nilc (.t 33) (mok Tryz.prog), []⟩,
 ⟨some 35, some (32, true), .fld 394 (.t 34), []⟩,
 ⟨some 36, some (32, true), .ld 1 false (.t 35), []⟩,
 ⟨some 37, some (32, true), .invk (.t 36) "Done" [], []⟩,
 ⟨some 38, none, .pick (.t 32) (.t 37) (.c (.bool false)), []⟩])
 (.cond (.t 38)
 (.ops 7 [⟨some 39, none, .mv (.t 0), []⟩,
 ⟨some 40, none, .call 65 [.t 39], []⟩,
 ⟨some 7, none, .mv (.t 40), []⟩])
 .skip))
 (.seq
 (.ops 8 [⟨some 41, none, .mv (.t 6), []⟩,
 ⟨some 42, none, .mv (.t 7), []⟩,
 ⟨some 4, none, .mv (.t 41), []⟩,
 ⟨some 5, none, .mv (.t 42), []⟩])
 .ret)))))⟩
theorem F27_code : cfgA.code 27 = some F27 := by kernel_rfl

/-- (*ticketline/grow.Split).Done -/
noncomputable def F28 : AFn := ⟨12, [.tmp 2], (.seq
 (.ops 0 [⟨some 2, none, .mv (.c (.bool false)), []⟩])
 (.seq
 (.ops 1 [⟨some 3, none, .mv (.t 0), []⟩,
 ⟨some 4, none, .call 64 [.t 3], []⟩,
 ⟨some 5, none, .mv (.t 4), []⟩,
 ⟨some 6, some (5, false), .mv (.t 0), []⟩,
 ⟨some 7, some (5, false), .nilc (.t 6) (mok Tryz.prog), []⟩,
 ⟨some 8, some (5, false), .fld 393 (.t 7), []⟩,
 ⟨some 9, some (5, false), .ld 1 false (.t 8), []⟩,
 ⟨some 10, some (5, false), .bin .eql (.t 9) (.c (.int .i64 17)), []⟩,
 ⟨some 11, none, .pick (.t 5) (.c (.bool true)) (.t 10), []⟩,
 ⟨some 2, none, .mv (.t 11), []⟩])
 .ret))⟩
theorem F28_code : cfgA.code 28 = some F28 := by kernel_rfl

/-- (*ticketline/grow.Split).Result -/
noncomputable def F29 : AFn := ⟨11, [.tmp 2], (.seq
 (.ops 0 [⟨some 2, none, .mv (.c (.int .u64 0)), []⟩])
 (.seq
 (.seq
 (.ops 1 [⟨some 3, none, .mv (.t 0), []⟩,
 ⟨some 4, none, .call 63 [.t 3], []⟩,
 ⟨some 5, none, .un .not (.t 4), []⟩])
 (.cond (.t 5)
 (.seq
 (.ops 2 [⟨some 2, none, .mv (.c (.int .u64 0)), []⟩])
 .ret)
 .skip))
 (.seq
 (.ops 3 [⟨some 6, none, .mv (.t 0), []⟩,
 ⟨some 7, none, .nilc (.t 6) (mok Tryz.prog), []⟩,
 ⟨some 8, none, .fld 395 (.t 7), []⟩,
 ⟨some 9, none, .ld 1 false (.t 8), []⟩,
 ⟨some 10, none, .cvi .u64 (.t 9), []⟩,
 ⟨some 2, none, .mv (.t 10), []⟩])
 .ret)))⟩
theorem F29_code : cfgA.code 29 = some F29 := by kernel_rfl

/-- (*ticketline/grow.Split).Copy -/
noncomputable def F30 : AFn := ⟨16, [.tmp 2], (.seq
 (.ops 0 [⟨some 2, none, .mv (.c (.nili)), []⟩])
 (.seq
 (.seq
 (.ops 1 [⟨some 4, none, .mv (.t 0), []⟩,
 ⟨some 5, none, .call 64 [.t 4], []⟩])
 (.cond (.t 5)
 (.seq
 (.ops 2 [⟨some 2, none, .mv (.c (.nili)), []⟩])
 .ret)
 .skip))
 (.seq
 (.ops 3 [⟨some 6, none, .mv (.t 0), []⟩,
 ⟨some 7, none, .nilc (.t 6) (mok Tryz.prog), []⟩,
 ⟨some 8, none, .ld 396 true (.t 7), []⟩,
 ⟨some 3, none, .alloc [.int .i64 0, .int .i64 0, .int .i64 0, .int .i64 0, .int .u64 0, .int .u64 0, .int .u64 0, .int .u64 0, .int .u64 0, .int .u64 0, .int .u64 0, .int .u64 0, .int .u64 0, .int .u64 0, .int .u64 0, .int .u64 0, .int .u64 0, .int .u64 0, .int .u64 0, .int .u64 0, .int .u64 0, .int .u64 0, .int .u64 0, .int .u64 0, .int .u64 0, .int .u64 0, .int .u64 0, .int .u64 0, .int .u64 0, .int .u64 0, .int .u64 0, .int .u64 0, .int .u64 0, .int .u64 0, .int .u64 0, .int .u64 0, .int .u64 0, .int .u64 0, .int .u64 0, .int .u64 0, .int .u64 0, .int .u64 0, .int .u64 0, .int .u64 0, .int .u64 0, .int .u64 0, .int .u64 0, .int .u64 0, .int .u64 0, .int .u64 0, .int .u64 0, .int .u64 0, .int .u64 0, .int .u64 0, .int .u64 0, .int .u64 0, .int .u64 0, .int .u64 0, .int .u64 0, .int .u64 0, .int .u64 0, .int .u64 0, .int .u64 0, .int .u64 0, .int .u64 0, .int .u64 0, .int .u64 0, .int .u64 0, .int .u64 0, .int .u64 0, .int .u64 0, .int .u64 0, .int .u64 0, .int .u64 0, .int .u64 0, .int .u64 0, .int .u64 0, .int .u64 0, .int .u64 0, .int .u64 0, .int .u64 0, .int .u64 0, .int .u64 0, .int .u64 0, .int .u64 0, .int .u64 0, .int .u64 0, .int .u64 0, .int .u64 0, .int .u64 0, .int .u64 0, .int .u64 0, .int .u64 0, .int .u64 0, .int .u64 0, .int .u64 0, .int .u64 0, .int .u64 0, .int .u64 0, .int .u64 0, .int .u64 0, .int .u64 0, .int .u64 0, .int .u64 0, .int .u64 0, .int .u64 0, .int .u64 0, .int .u64 0, .int .u64 0, .int .u64 0, .int .u64 0, .int .u64 0, .int .u64 0, .int .u64 0, .int .u64 0, .int .u64 0, .int .u64 0, .int .u64 0, .int .u64 0, .int .u64 0, .int .u64 0, .int .u64 0, .int .u64 0, .int .u64 0, .int .u64 0, .int .u64 0, .int .u64 0, .int .u64 0, .int .u64 0, .int .u64 0, .int .u64 0, .int .u64 0, .int .u64 0, .int .i64 0, .int .u64 0, .int .u64 0, .int .u64 0, .int .u64 0, .int .u64 0, .int .u64 0, .int .u64 0, .int .u64 0, .int .u64 0, .int .u64 0, .int .u64 0, .int .u64 0, .int .u64 0, .int .u64 0, .int .u64 0, .int .u64 0, .int .u64 0, .int .u64 0, .int .u64 0, .int .u64 0, .int .u64 0, .int .u64 0, .int .u64 0, .int .u64 0, .int .u64 0, .int .u64 0, .int .u64 0, .int .u64 0, .int .u64 0, .int .u64 0, .int .u64 0, .int .u64 0, .int .u64 0, .int .u64 0, .int .u64 0, .int .u64 0, .int .u64 0, .int .u64 0, .int .u64 0, .int .u64 0, .int .u64 0, .int .u64 0, .int .u64 0, .int .u64 0, .int .u64 0, .int .u64 0, .int .u64 0, .int .u64 0, .int .u64 0, .int .u64 0, .int .u64 0, .int .u64 0, .int .u64 0, .int .u64 0, .int .u64 0, .int .u64 0, .int .u64 0, .int .u64 0, .int .u64 0, .int .u64 0, .int .u64 0, .int .u64 0, .int .u64 0, .int .u64 0, .int .u64 0, .int .u64 0, .int .u64 0, .int .u64 0, .int .u64 0, .int .u64 0, .int .u64 0, .int .u64 0, .int .u64 0, .int .u64 0, .int .u64 0, .int .u64 0, .int .u64 0, .int .u64 0, .int .u64 0, .int .u64 0, .int .u64 0, .int .u64 0, .int .u64 0, .int .u64 0, .int .u64 0, .int .u64 0, .int .u64 0, .int .u64 0, .int .u64 0, .int .u64 0, .int .u64 0, .int .u64 0, .int .u64 0, .int .u64 0, .int .u64 0, .int .u64 0, .int .u64 0, .int .u64 0, .int .u64 0, .int .u64 0, .int .u64 0, .int .u64 0, .int .u64 0, .int .u64 0, .int .u64 0, .int .u64 0, .int .u64 0, .int .u64 0, .int .u64 0, .int .u64 0, .int .u64 0, .int .u64 0, .int .u64 0, .int .u64 0, .int .u64 0, .int .u64 0, .int .u64 0, .int .u64 0, .int .u64 0, .int .u64 0, .int .u64 0, .int .u64 0, .int .u64 0, .int .u64 0, .int .u64 0, .int .u64 0, .int .u64 0, .int .u64 0, .int .u64 0, .int .i64 0, .int .u64 0, .int .u64 0, .int .u64 0, .int .u64 0, .int .u64 0, .int .u64 0, .int .u64 0, .int .u64 0, .int .u64 0, .int .u64 0, .int .u64 0, .int .u64 0, .int .u64 0, .int .u64 0, .int .u64 0, .int .u64 0, .int .u64 0, .int .u64 0, .int .u64 0, .int .u64 0, .int .u64 0, .int .u64 0, .int .u64 0, .int .u64 0, .int .u64 0, .int .u64 0, .int .u64 0, .int .u64 0, .int .u64 0, .int .u64 0, .int .u64 0, .int .u64 0, .int .u64 0, .int .u64 0, .int .u64 0, .int .u64 0, .int .u64 0, .int .u64 0, .int .u64 0, .int .u64 0, .int .u64 0, .int .u64 0, .int .u64 0, .int .u64 0, .int .u64 0, .int .u64 0, .int .u64 0, .int .u64 0, .int .u64 0, .int .u64 0, .int .u64 0, .int .u64 0, .int .u64 0, .int .u64 0, .int .u64 0, .int .u64 0, .int .u64 0, .int .u64 0, .int .u64 0, .int .u64 0, .int .u64 0, .int .u64 0, .int .u64 0, .int .u64 0, .int .u64 0, .int .u64 0, .int .u64 0, .int .u64 0, .int .u64 0, .int .u64 0, .int .u64 0, .int .u64 0, .int .u64 0, .int .u64 0, .int .u64 0, .int .u64 0, .int .u64 0, .int .u64 0, .int .u64 0, .int .u64 0, .int .u64 0, .int .u64 0, .int .u64 0, .int .u64 0, .int .u64 0, .int .u64 0, .int .u64 0, .int .u64 0, .int .u64 0, .int .u64 0, .int .u64 0, .int .u64 0, .int .u64 0, .int .u64 0, .int .u64 0, .int .u64 0, .int .u64 0, .int .u64 0, .int .u64 0, .int .u64 0, .int .u64 0, .int .u64 0, .int .u64 0, .int .u64 0, .int .u64 0, .int .u64 0, .int .u64 0, .int .u64 0, .int .u64 0, .int .u64 0, .int .u64 0, .int .u64 0, .int .u64 0, .int .u64 0, .int .u64 0, .int .u64 0, .int .u64 0, .int .u64 0, .int .u64 0, .int .u64 0, .int .u64 0, .int .u64 0, .int .u64 0, .int .u64 0, .int .u64 0, .int .u64 0, .int .u64 0, .int .u64 0, .int .u64 0, .int .i64 0, .nili, .int .i64 0] true, []⟩,
 ⟨none, none, .st 396 (.t 3) (.t 8), []⟩])
 (.seq
 (.ops 4 [⟨some 9, none, .mv (.t 0), []⟩,
 ⟨some 10, none, .nilc (.t 9) (mok Tryz.prog), []⟩,
 ⟨some 11, none, .fld 394 (.t 10), []⟩,
 ⟨some 12, none, .ld 1 false (.t 11), []⟩,
 ⟨some 13, none, .call 62 [.t 12], []⟩,
 ⟨some 14, none, .fld 394 (.t 3), []⟩,
 ⟨none, none, .st 1 (.t 14) (.t 13), []⟩])
 (.seq
 (.ops 5 [⟨some 15, none, .mki 61 (.t 3), []⟩,
 ⟨some 2, none, .mv (.t 15), []⟩])
 .ret)))))⟩
theorem F30_code : cfgA.code 30 = some F30 := by kernel_rfl

/-- (*ticketline/grow.Root).Pages -/
noncomputable def F31 : AFn := ⟨30, [.cell 2 130 true, .cell 3 130 true, .cell 4 130 true], (.seq
 (.ops 0 [⟨some 2, none, .alloc [.int .i64 0, .int .u64 0, .int .u64 0, .int .u64 0, .int .u64 0, .int .u64 0, .int .u64 0, .int .u64 0, .int .u64 0, .int .u64 0, .int .u64 0, .int .u64 0, .int .u64 0, .int .u64 0, .int .u64 0, .int .u64 0, .int .u64 0, .int .u64 0, .int .u64 0, .int .u64 0, .int .u64 0, .int .u64 0, .int .u64 0, .int .u64 0, .int .u64 0, .int .u64 0, .int .u64 0, .int .u64 0, .int .u64 0, .int .u64 0, .int .u64 0, .int .u64 0, .int .u64 0, .int .u64 0, .int .u64 0, .int .u64 0, .int .u64 0, .int .u64 0, .int .u64 0, .int .u64 0, .int .u64 0, .int .u64 0, .int .u64 0, .int .u64 0, .int .u64 0, .int .u64 0, .int .u64 0, .int .u64 0, .int .u64 0, .int .u64 0, .int .u64 0, .int .u64 0, .int .u64 0, .int .u64 0, .int .u64 0, .int .u64 0, .int .u64 0, .int .u64 0, .int .u64 0, .int .u64 0, .int .u64 0, .int .u64 0, .int .u64 0, .int .u64 0, .int .u64 0, .int .u64 0, .int .u64 0, .int .u64 0, .int .u64 0, .int .u64 0, .int .u64 0, .int .u64 0, .int .u64 0, .int .u64 0, .int .u64 0, .int .u64 0, .int .u64 0, .int .u64 0, .int .u64 0, .int .u64 0, .int .u64 0, .int .u64 0, .int .u64 0, .int .u64 0, .int .u64 0, .int .u64 0, .int .u64 0, .int .u64 0, .int .u64 0, .int .u64 0, .int .u64 0, .int .u64 0, .int .u64 0, .int .u64 0, .int .u64 0, .int .u64 0, .int .u64 0, .int .u64 0, .int .u64 0, .int .u64 0, .int .u64 0, .int .u64 0, .int .u64 0, .int .u64 0, .int .u64 0, .int .u64 0, .int .u64 0, .int .u64 0, .int .u64 0, .int .u64 0, .int .u64 0, .int .u64 0, .int .u64 0, .int .u64 0, .int .u64 0, .int .u64 0, .int .u64 0, .int .u64 0, .int .u64 0, .int .u64 0, .int .u64 0, .int .u64 0, .int .u64 0, .int .u64 0, .int .u64 0, .int .u64 0, .int .u64 0, .int .u64 0, .int .u64 0, .int .u64 0] false, []⟩,
 ⟨some 3, none, .alloc [.int .i64 0, .int .u64 0, .int .u64 0, .int .u64 0, .int .u64 0, .int .u64 0, .int .u64 0, .int .u64 0, .int .u64 0, .int .u64 0, .int .u64 0, .int .u64 0, .int .u64 0, .int .u64 0, .int .u64 0, .int .u64 0, .int .u64 0, .int .u64 0, .int .u64 0, .int .u64 0, .int .u64 0, .int .u64 0, .int .u64 0, .int .u64 0, .int .u64 0, .int .u64 0, .int .u64 0, .int .u64 0, .int .u64 0, .int .u64 0, .int .u64 0, .int .u64 0, .int .u64 0, .int .u64 0, .int .u64 0, .int .u64 0, .int .u64 0, .int .u64 0, .int .u64 0, .int .u64 0, .int .u64 0, .int .u64 0, .int .u64 0, .int .u64 0, .int .u64 0, .int .u64 0, .int .u64 0, .int .u64 0, .int .u64 0, .int .u64 0, .int .u64 0, .int .u64 0, .int .u64 0, .int .u64 0, .int .u64 0, .int .u64 0, .int .u64 0, .int .u64 0, .int .u64 0, .int .u64 0, .int .u64 0, .int .u64 0, .int .u64 0, .int .u64 0, .int .u64 0, .int .u64 0, .int .u64 0, .int .u64 0, .int .u64 0, .int .u64 0, .int .u64 0, .int .u64 0, .int .u64 0, .int .u64 0, .int .u64 0, .int .u64 0, .int .u64 0, .int .u64 0, .int .u64 0, .int .u64 0, .int .u64 0, .int .u64 0, .int .u64 0, .int .u64 0, .int .u64 0, .int .u64 0, .int .u64 0, .int .u64 0, .int .u64 0, .int .u64 0, .int .u64 0, .int .u64 0, .int .u64 0, .int .u64 0, .int .u64 0, .int .u64 0, .int .u64 0, .int .u64 0, .int .u64 0, .int .u64 0, .int .u64 0, .int .u64 0, .int .u64 0, .int .u64 0, .int .u64 0, .int .u64 0, .int .u64 0, .int .u64 0, .int .u64 0, .int .u64 0, .int .u64 0, .int .u64 0, .int .u64 0, .int .u64 0, .int .u64 0, .int .u64 0, .int .u64 0, .int .u64 0, .int .u64 0, .int .u64 0, .int .u64 0, .int .u64 0, .int .u64 0, .int .u64 0, .int .u64 0, .int .u64 0, .int .u64 0, .int .u64 0, .int .u64 0, .int .u64 0] false, []⟩,
 ⟨some 4, none, .alloc [.int .i64 0, .int .u64 0, .int .u64 0, .int .u64 0, .int .u64 0, .int .u64 0, .int .u64 0, .int .u64 0, .int .u64 0, .int .u64 0, .int .u64 0, .int .u64 0, .int .u64 0, .int .u64 0, .int .u64 0, .int .u64 0, .int .u64 0, .int .u64 0, .int .u64 0, .int .u64 0, .int .u64 0, .int .u64 0, .int .u64 0, .int .u64 0, .int .u64 0, .int .u64 0, .int .u64 0, .int .u64 0, .int .u64 0, .int .u64 0, .int .u64 0, .int .u64 0, .int .u64 0, .int .u64 0, .int .u64 0, .int .u64 0, .int .u64 0, .int .u64 0, .int .u64 0, .int .u64 0, .int .u64 0, .int .u64 0, .int .u64 0, .int .u64 0, .int .u64 0, .int .u64 0, .int .u64 0, .int .u64 0, .int .u64 0, .int .u64 0, .int .u64 0, .int .u64 0, .int .u64 0, .int .u64 0, .int .u64 0, .int .u64 0, .int .u64 0, .int .u64 0, .int .u64 0, .int .u64 0, .int .u64 0, .int .u64 0, .int .u64 0, .int .u64 0, .int .u64 0, .int .u64 0, .int .u64 0, .int .u64 0, .int .u64 0, .int .u64 0, .int .u64 0, .int .u64 0, .int .u64 0, .int .u64 0, .int .u64 0, .int .u64 0, .int .u64 0, .int .u64 0, .int .u64 0, .int .u64 0, .int .u64 0, .int .u64 0, .int .u64 0, .int .u64 0, .int .u64 0, .int .u64 0, .int .u64 0, .int .u64 0, .int .u64 0, .int .u64 0, .int .u64 0, .int .u64 0, .int .u64 0, .int .u64 0, .int .u64 0, .int .u64 0, .int .u64 0, .int .u64 0, .int .u64 0, .int .u64 0, .int .u64 0, .int .u64 0, .int .u64 0, .int .u64 0, .int .u64 0, .int .u64 0, .int .u64 0, .int .u64 0, .int .u64 0, .int .u64 0, .int .u64 0, .int .u64 0, .int .u64 0, .int .u64 0, .int .u64 0, .int .u64 0, .int .u64 0, .int .u64 0, .int .u64 0, .int .u64 0, .int .u64 0, .int .u64 0, .int .u64 0, .int .u64 0, .int .u64 0, .int .u64 0, .int .u64 0, .int .u64 0, .int .u64 0, .int .u64 0] false, []⟩])
 (.seq
 (.seq
 (.ops 1 [⟨some 5, none, .mv (.t 0), []⟩,
 ⟨some 6, none, .call 66 [.t 5], []⟩,
 ⟨some 7, none, .un .not (.t 6), []⟩,
 ⟨some 8, none, .mv (.t 7), []⟩,
 ⟨some 9, some (8, false), .mv (.t 0), []⟩,
 ⟨some 10, some (8, false), .nilc (.t 9) (mok Tryz.prog), []⟩,
 ⟨some 11, some (8, false), .fld 396 (.t 10), []⟩,
 ⟨some 12, some (8, false), .ld 1 false (.t 11), []⟩,
 ⟨some 13, some (8, false), .bin .eql (.t 12) (.c (.int .i64 0)), []⟩,
 ⟨some 14, none, .pick (.t 8) (.c (.bool true)) (.t 13), []⟩])
 (.cond (.t 14)
 (.seq
 (.ops 2 [⟨some 15, none, .ld 130 true (.t 2), []⟩,
 ⟨some 16, none, .ld 130 true (.t 3), []⟩,
 ⟨some 17, none, .ld 130 true (.t 4), []⟩,
 ⟨none, none, .st 130 (.t 2) (.t 15), [(16, .ld 130 true (.t 3)), (17, .ld 130 true (.t 4))]⟩,
 ⟨none, none, .st 130 (.t 3) (.t 16), [(17, .ld 130 true (.t 4))]⟩,
 ⟨none, none, .st 130 (.t 4) (.t 17), []⟩])
 .ret)
 .skip))
 (.seq
 (.ops 3 [⟨some 18, none, .mv (.t 0), []⟩,
 ⟨some 19, none, .nilc (.t 18) (mok Tryz.prog), []⟩,
 ⟨some 20, none, .fld 3 (.t 19), []⟩,
 ⟨some 21, none, .ld 130 true (.t 20), []⟩,
 ⟨some 22, none, .mv (.t 0), []⟩,
 ⟨some 23, none, .nilc (.t 22) (mok Tryz.prog), []⟩,
 ⟨some 24, none, .fld 133 (.t 23), []⟩,
 ⟨some 25, none, .ld 130 true (.t 24), []⟩,
 ⟨some 26, none, .mv (.t 0), []⟩,
 ⟨some 27, none, .nilc (.t 26) (mok Tryz.prog), []⟩,
 ⟨some 28, none, .fld 263 (.t 27), []⟩,
 ⟨some 29, none, .ld 130 true (.t 28), []⟩,
 ⟨none, none, .st 130 (.t 2) (.t 21), [(25, .ld 130 true (.t 24)), (29, .ld 130 true (.t 28))]⟩,
 ⟨none, none, .st 130 (.t 3) (.t 25), [(29, .ld 130 true (.t 28))]⟩,
 ⟨none, none, .st 130 (.t 4) (.t 29), []⟩])
 .ret)))⟩
theorem F31_code : cfgA.code 31 = some F31 := by kernel_rfl

/-- (*ticketline/grow.Root).Step -/
noncomputable def F32 : AFn := ⟨43, [.tmp 4, .tmp 5], (.seq
 (.ops 0 [⟨some 4, none, .mv (.c (.bool false)), []⟩,
 ⟨some 5, none, .mv (.c (.int .i64 0)), []⟩])
 (.seq
 (.block 0
 (.seq
 (.ops 1 [⟨some 9, none, .mv (.t 0), []⟩,
 ⟨some 10, none, .call 67 [.t 9], []⟩,
 ⟨some 11, none, .mv (.t 10), []⟩,
 ⟨some 12, some (11, false), .mv (.t 1), []⟩,
 ⟨some 13, some (11, false), .eqn .iface false (.t 12), []⟩,
 ⟨some 14, none, .pick (.t 11) (.c (.bool true)) (.t 13), []⟩,
 ⟨some 8, none, .mv (.t 14), []⟩])
 (.cond (.t 8)
 (.seq
 (.ops 2 [⟨some 4, none, .mv (.c (.bool false)), []⟩,
 ⟨some 5, none, .mv (.c (.int .i64 1)), []⟩])
 .ret)
 (.seq
 (.ops 3 [⟨some 16, none, .mv (.t 0), []⟩,
 ⟨some 17, none, .nilc (.t 16) (mok Tryz.prog), []⟩,
 ⟨some 18, none, .fld 393 (.t 17), []⟩,
 ⟨some 19, none, .ld 1 false (.t 18), []⟩,
 ⟨some 20, none, .bin .eql (.t 19) (.c (.int .i64 17)), []⟩,
 ⟨some 15, none, .mv (.t 20), []⟩])
 (.cond (.t 15)
 (.seq
 (.ops 4 [⟨some 4, none, .mv (.c (.bool false)), []⟩,
 ⟨some 5, none, .mv (.c (.int .i64 17)), []⟩])
 .ret)
 .skip)))))
 (.seq
 (.ops 5 [⟨some 22, none, .mv (.t 0), []⟩,
 ⟨some 23, none, .nilc (.t 22) (mok Tryz.prog), []⟩,
 ⟨some 24, none, .fld 394 (.t 23), []⟩,
 ⟨some 25, none, .ld 1 false (.t 24), []⟩,
 ⟨some 26, none, .mv (.t 1), []⟩,
 ⟨some 27, none, .invk (.t 25) "Step" [.t 26], []⟩,
 ⟨some 21, none, .mv (.t 27), []⟩,
 ⟨some 28, none, .ext (.t 21) 0, []⟩,
 ⟨some 29, none, .ext (.t 21) 1, []⟩,
 ⟨some 6, none, .mv (.t 28), []⟩,
 ⟨some 7, none, .mv (.t 29), []⟩])
 (.seq
 (.seq
 (.ops 6 [⟨some 30, none, .mv (.t 7), []⟩,
 ⟨some 31, none, .bin .eql (.t 30) (.c (.int .i64 0)), []⟩,
 ⟨some 32, none, .mv (.t 31), []⟩,
 ⟨some 33, some (32, true), .mv (.t 0), []⟩,
 ⟨some 34, some (32, true), .nilc (.t 33) (mok Tryz.prog), []⟩,
 ⟨some 35, some (32, true), .fld 394 (.t 34), []⟩,
 ⟨some 36, some (32, true), .ld 1 false (.t 35), []⟩,
 ⟨some 37, some (32, true), .invk (.t 36) "Done" [], []⟩,
 ⟨some 38, none, .pick (.t 32) (.t 37) (.c (.bool false)), []⟩])
 (.cond (.t 38)
 (.ops 7 [⟨some 39, none, .mv (.t 0), []⟩,
 ⟨some 40, none, .call 68 [.t 39], []⟩,
 ⟨some 7, none, .mv (.t 40), []⟩])
 .skip))
 (.seq
 (.ops 8 [⟨some 41, none, .mv (.t 6), []⟩,
 ⟨some 42, none, .mv (.t 7), []⟩,
 ⟨some 4, none, .mv (.t 41), []⟩,
 ⟨some 5, none, .mv (.t 42), []⟩])
 .ret)))))⟩
theorem F32_code : cfgA.code 32 = some F32 := by kernel_rfl

/-- (*ticketline/grow.Root).Done -/
noncomputable def F33 : AFn := ⟨12, [.tmp 2], (.seq
 (.ops 0 [⟨some 2, none, .mv (.c (.bool false)), []⟩])
 (.seq
 (.ops 1 [⟨some 3, none, .mv (.t 0), []⟩,
 ⟨some 4, none, .call 67 [.t 3], []⟩,
 ⟨some 5, none, .mv (.t 4), []⟩,
 ⟨some 6, some (5, false), .mv (.t 0), []⟩,
 ⟨some 7, some (5, false), .nilc (.t 6) (mok Tryz.prog), []⟩,
 ⟨some 8, some (5, false), .fld 393 (.t 7), []⟩,
 ⟨some 9, some (5, false), .ld 1 false (.t 8), []⟩,
 ⟨some 10, some (5, false), .bin .eql (.t 9) (.c (.int .i64 17)), []⟩,
 ⟨some 11, none, .pick (.t 5) (.c (.bool true)) (.t 10), []⟩,
 ⟨some 2, none, .mv (.t 11), []⟩])
 .ret))⟩
theorem F33_code : cfgA.code 33 = some F33 := by kernel_rfl

/-- (*ticketline/grow.Root).Result -/
noncomputable def F34 : AFn := ⟨11, [.tmp 2], (.seq
 (.ops 0 [⟨some 2, none, .mv (.c (.int .u64 0)), []⟩])
 (.seq
 (.seq
 (.ops 1 [⟨some 3, none, .mv (.t 0), []⟩,
 ⟨some 4, none, .call 66 [.t 3], []⟩,
 ⟨some 5, none, .un .not (.t 4), []⟩])
 (.cond (.t 5)
 (.seq
 (.ops 2 [⟨some 2, none, .mv (.c (.int .u64 0)), []⟩])
 .ret)
 .skip))
 (.seq
 (.ops 3 [⟨some 6, none, .mv (.t 0), []⟩,
 ⟨some 7, none, .nilc (.t 6) (mok Tryz.prog), []⟩,
 ⟨some 8, none, .fld 396 (.t 7), []⟩,
 ⟨some 9, none, .ld 1 false (.t 8), []⟩,
 ⟨some 10, none, .cvi .u64 (.t 9), []⟩,
 ⟨some 2, none, .mv (.t 10), []⟩])
 .ret)))⟩
theorem F34_code : cfgA.code 34 = some F34 := by kernel_rfl

/-- (*ticketline/grow.Root).Copy -/
noncomputable def F35 : AFn := ⟨16, [.tmp 2], (.seq
 (.ops 0 [⟨some 2, none, .mv (.c (.nili)), []⟩])
 (.seq
 (.seq
 (.ops 1 [⟨some 4, none, .mv (.t 0), []⟩,
 ⟨some 5, none, .call 67 [.t 4], []⟩])
 (.cond (.t 5)
 (.seq
 (.ops 2 [⟨some 2, none, .mv (.c (.nili)), []⟩])
 .ret)
 .skip))
 (.seq
 (.ops 3 [⟨some 6, none, .mv (.t 0), []⟩,
 ⟨some 7, none, .nilc (.t 6) (mok Tryz.prog), []⟩,
 ⟨some 8, none, .ld 397 true (.t 7), []⟩,
 ⟨some 3, none, .alloc [.int .i64 0, .int .i64 0, .int .i64 0, .int .i64 0, .int .u64 0, .int .u64 0, .int .u64 0, .int .u64 0, .int .u64 0, .int .u64 0, .int .u64 0, .int .u64 0, .int .u64 0, .int .u64 0, .int .u64 0, .int .u64 0, .int .u64 0, .int .u64 0, .int .u64 0, .int .u64 0, .int .u64 0, .int .u64 0, .int .u64 0, .int .u64 0, .int .u64 0, .int .u64 0, .int .u64 0, .int .u64 0, .int .u64 0, .int .u64 0, .int .u64 0, .int .u64 0, .int .u64 0, .int .u64 0, .int .u64 0, .int .u64 0, .int .u64 0, .int .u64 0, .int .u64 0, .int .u64 0, .int .u64 0, .int .u64 0, .int .u64 0, .int .u64 0, .int .u64 0, .int .u64 0, .int .u64 0, .int .u64 0, .int .u64 0, .int .u64 0, .int .u64 0, .int .u64 0, .int .u64 0, .int .u64 0, .int .u64 0, .int .u64 0, .int .u64 0, .int .u64 0, .int .u64 0, .int .u64 0, .int .u64 0, .int .u64 0, .int .u64 0, .int .u64 0, .int .u64 0, .int .u64 0, .int .u64 0, .int .u64 0, .int .u64 0, .int .u64 0, .int .u64 0, .int .u64 0, .int .u64 0, .int .u64 0, .int .u64 0, .int .u64 0, .int .u64 0, .int .u64 0, .int .u64 0, .int .u64 0, .int .u64 0, .int .u64 0, .int .u64 0, .int .u64 0, .int .u64 0, .int .u64 0, .int .u64 0, .int .u64 0, .int .u64 0, .int .u64 0, .int .u64 0, .int .u64 0, .int .u64 0, .int .u64 0, .int .u64 0, .int .u64 0, .int .u64 0, .int .u64 0, .int .u64 0, .int .u64 0, .int .u64 0, .int .u64 0, .int .u64 0, .int .u64 0, .int .u64 0, .int .u64 0, .int .u64 0, .int .u64 0, .int .u64 0, .int .u64 0, .int .u64 0, .int .u64 0, .int .u64 0, .int .u64 0, .int .u64 0, .int .u64 0, .int .u64 0, .int .u64 0, .int .u64 0, .int .u64 0, .int .u64 0, .int .u64 0, .int .u64 0, .int .u64 0, .int .u64 0, .int .u64 0, .int .u64 0, .int .u64 0, .int .u64 0, .int .u64 0, .int .u64 0, .int .u64 0, .int .u64 0, .int .i64 0, .int .u64 0, .int .u64 0, .int .u64 0, .int .u64 0, .int .u64 0, .int .u64 0, .int .u64 0, .int .u64 0, .int .u64 0, .int .u64 0, .int .u64 0, .int .u64 0, .int .u64 0, .int .u64 0, .int .u64 0, .int .u64 0, .int .u64 0, .int .u64 0, .int .u64 0, .int .u64 0, .int .u64 0, .int .u64 0, .int .u64 0, .int .u64 0, .int .u64 0, .int .u64 0, .int .u64 0, .int .u64 0, .int .u64 0, .int .u64 0, .int .u64 0, .int .u64 0, .int .u64 0, .int .u64 0, .int .u64 0, .int .u64 0, .int .u64 0, .int .u64 0, .int .u64 0, .int .u64 0, .int .u64 0, .int .u64 0, .int .u64 0, .int .u64 0, .int .u64 0, .int .u64 0, .int .u64 0, .int .u64 0, .int .u64 0, .int .u64 0, .int .u64 0, .int .u64 0, .int .u64 0, .int .u64 0, .int .u64 0, .int .u64 0, .int .u64 0, .int .u64 0, .int .u64 0, .int .u64 0, .int .u64 0, .int .u64 0, .int .u64 0, .int .u64 0, .int .u64 0, .int .u64 0, .int .u64 0, .int .u64 0, .int .u64 0, .int .u64 0, .int .u64 0, .int .u64 0, .int .u64 0, .int .u64 0, .int .u64 0, .int .u64 0, .int .u64 0, .int .u64 0, .int .u64 0, .int .u64 0, .int .u64 0, .int .u64 0, .int .u64 0, .int .u64 0, .int .u64 0, .int .u64 0, .int .u64 0, .int .u64 0, .int .u64 0, .int .u64 0, .int .u64 0, .int .u64 0, .int .u64 0, .int .u64 0, .int .u64 0, .int .u64 0, .int .u64 0, .int .u64 0, .int .u64 0, .int .u64 0, .int .u64 0, .int .u64 0, .int .u64 0, .int .u64 0, .int .u64 0, .int .u64 0, .int .u64 0, .int .u64 0, .int .u64 0, .int .u64 0, .int .u64 0, .int .u64 0, .int .u64 0, .int .u64 0, .int .u64 0, .int .u64 0, .int .u64 0, .int .u64 0, .int .u64 0, .int .u64 0, .int .u64 0, .int .u64 0, .int .u64 0, .int .u64 0, .int .u64 0, .int .u64 0, .int .u64 0, .int .u64 0, .int .u64 0, .int .i64 0, .int .u64 0, .int .u64 0, .int .u64 0, .int .u64 0, .int .u64 0, .int .u64 0, .int .u64 0, .int .u64 0, .int .u64 0, .int .u64 0, .int .u64 0, .int .u64 0, .int .u64 0, .int .u64 0, .int .u64 0, .int .u64 0, .int .u64 0, .int .u64 0, .int .u64 0, .int .u64 0, .int .u64 0, .int .u64 0, .int .u64 0, .int .u64 0, .int .u64 0, .int .u64 0, .int .u64 0, .int .u64 0, .int .u64 0, .int .u64 0, .int .u64 0, .int .u64 0, .int .u64 0, .int .u64 0, .int .u64 0, .int .u64 0, .int .u64 0, .int .u64 0, .int .u64 0, .int .u64 0, .int .u64 0, .int .u64 0, .int .u64 0, .int .u64 0, .int .u64 0, .int .u64 0, .int .u64 0, .int .u64 0, .int .u64 0, .int .u64 0, .int .u64 0, .int .u64 0, .int .u64 0, .int .u64 0, .int .u64 0, .int .u64 0, .int .u64 0, .int .u64 0, .int .u64 0, .int .u64 0, .int .u64 0, .int .u64 0, .int .u64 0, .int .u64 0, .int .u64 0, .int .u64 0, .int .u64 0, .int .u64 0, .int .u64 0, .int .u64 0, .int .u64 0, .int .u64 0, .int .u64 0, .int .u64 0, .int .u64 0, .int .u64 0, .int .u64 0, .int .u64 0, .int .u64 0, .int .u64 0, .int .u64 0, .int .u64 0, .int .u64 0, .int .u64 0, .int .u64 0, .int .u64 0, .int .u64 0, .int .u64 0, .int .u64 0, .int .u64 0, .int .u64 0, .int .u64 0, .int .u64 0, .int .u64 0, .int .u64 0, .int .u64 0, .int .u64 0, .int .u64 0, .int .u64 0, .int .u64 0, .int .u64 0, .int .u64 0, .int .u64 0, .int .u64 0, .int .u64 0, .int .u64 0, .int .u64 0, .int .u64 0, .int .u64 0, .int .u64 0, .int .u64 0, .int .u64 0, .int .u64 0, .int .u64 0, .int .u64 0, .int .u64 0, .int .u64 0, .int .u64 0, .int .u64 0, .int .u64 0, .int .u64 0, .int .u64 0, .int .u64 0, .int .u64 0, .int .u64 0, .int .u64 0, .int .u64 0, .int .u64 0, .int .u64 0, .int .i64 0, .nili, .int .i64 0, .int .i64 0] true, []⟩,
 ⟨none, none, .st 397 (.t 3) (.t 8), []⟩])
 (.seq
 (.ops 4 [⟨some 9, none, .mv (.t 0), []⟩,
 ⟨some 10, none, .nilc (.t 9) (mok Tryz.prog), []⟩,
 ⟨some 11, none, .fld 394 (.t 10), []⟩,
 ⟨some 12, none, .ld 1 false (.t 11), []⟩,
 ⟨some 13, none, .call 62 [.t 12], []⟩,
 ⟨some 14, none, .fld 394 (.t 3), []⟩,
 ⟨none, none, .st 1 (.t 14) (.t 13), []⟩])
 (.seq
 (.ops 5 [⟨some 15, none, .mki 62 (.t 3), []⟩,
 ⟨some 2, none, .mv (.t 15), []⟩])
 .ret)))))⟩
theorem F35_code : cfgA.code 35 = some F35 := by kernel_rfl

/-- ticketline/ticketlinelaw29.known: the round 0 -/
noncomputable def B36x0 : AC := (.seq
 (.ops 9 [⟨some 78, none, .bin .lss (.t 77) (.t 76), []⟩])
 (.seq
 (.cond (.t 78)
 .skip
 (.exit 0))
 (.seq
 (.block 1
 (.seq
 (.ops 10 [⟨some 79, none, .ixa none 1 (.t 75) (.t 77), []⟩,
 ⟨some 80, none, .ld 1 false (.t 79), []⟩,
 ⟨some 9, none, .mv (.t 80), []⟩])
 (.seq
 (.ops 11 [⟨some 82, none, .fld 1 (.t 7), []⟩,
 ⟨some 83, none, .ld 128 true (.t 82), []⟩,
 ⟨some 84, none, .mv (.t 9), []⟩,
 ⟨some 85, none, .call 72 [.t 83, .t 84, .c (.str [])], []⟩,
 ⟨some 81, none, .mv (.t 85), []⟩,
 ⟨some 86, none, .ext (.t 81) 0, []⟩,
 ⟨some 87, none, .ext (.t 81) 1, []⟩,
 ⟨some 88, none, .fld 1 (.t 7), []⟩,
 ⟨none, none, .st 128 (.t 88) (.t 86), []⟩,
 ⟨some 3, none, .mv (.t 87), []⟩])
 (.seq
 (.ops 12 [⟨some 89, none, .mv (.t 3), []⟩,
 ⟨some 90, none, .bin .neq (.t 89) (.c (.int .i64 0)), []⟩])
 (.cond (.t 90)
 (.seq
 (.ops 13 [⟨some 0, none, .mv (.c (.bool false)), []⟩])
 .ret)
 .skip)))))
 (.ops 14 [⟨some 91, none, .bin .add (.t 77) (.c (.int .i64 1)), []⟩,
 ⟨some 77, none, .mv (.t 91), []⟩]))))
/-- ticketline/ticketlinelaw29.known -/
noncomputable def F36 : AFn := ⟨247, [.tmp 0], (.seq
 (.ops 0 [⟨some 0, none, .mv (.c (.bool false)), []⟩])
 (.seq
 (.ops 1 [⟨some 23, none, .call 69 [], []⟩,
 ⟨some 1, none, .alloc [.int .i64 0, .int .i64 0] false, []⟩,
 ⟨none, none, .st 2 (.t 1) (.t 23), []⟩])
 (.seq
 (.ops 2 [⟨some 25, none, .ld 2 true (.t 1), []⟩,
 ⟨some 26, none, .call 49 [.t 25], []⟩,
 ⟨some 24, none, .mv (.t 26), []⟩,
 ⟨some 27, none, .ext (.t 24) 0, []⟩,
 ⟨some 28, none, .ext (.t 24) 1, []⟩,
 ⟨some 2, none, .mv (.t 27), []⟩,
 ⟨some 3, none, .mv (.t 28), []⟩])
 (.seq
 (.ops 3 [⟨some 30, none, .ld 2 true (.t 1), []⟩,
 ⟨some 31, none, .call 49 [.t 30], []⟩,
 ⟨some 29, none, .mv (.t 31), []⟩,
 ⟨some 32, none, .ext (.t 29) 0, []⟩,
 ⟨some 33, none, .ext (.t 29) 1, []⟩,
 ⟨some 4, none, .mv (.t 32), []⟩,
 ⟨some 5, none, .mv (.t 33), []⟩])
 (.seq
 (.seq
 (.ops 4 [⟨some 34, none, .mv (.t 2), []⟩,
 ⟨some 35, none, .eqn .ptr false (.t 34), []⟩,
 ⟨some 36, none, .mv (.t 35), []⟩,
 ⟨some 37, some (36, false), .mv (.t 4), []⟩,
 ⟨some 38, some (36, false), .eqn .ptr false (.t 37), []⟩,
 ⟨some 39, none, .pick (.t 36) (.c (.bool true)) (.t 38), []⟩,
 ⟨some 40, none, .mv (.t 39), []⟩,
 ⟨some 41, some (40, false), .mv (.t 3), []⟩,
 ⟨some 42, some (40, false), .bin .neq (.t 41) (.c (.int .i64 0)), []⟩,
 ⟨some 43, none, .pick (.t 40) (.c (.bool true)) (.t 42), []⟩,
 ⟨some 44, none, .mv (.t 43), []⟩,
 ⟨some 45, some (44, false), .mv (.t 5), []⟩,
 ⟨some 46, some (44, false), .bin .neq (.t 45) (.c (.int .i64 0)), []⟩,
 ⟨some 47, none, .pick (.t 44) (.c (.bool true)) (.t 46), []⟩,
 ⟨some 48, none, .mv (.t 47), []⟩,
 ⟨some 49, some (48, false), .ld 2 true (.t 1), []⟩,
 ⟨some 50, some (48, false), .mv (.t 2), []⟩,
 ⟨some 51, some (48, false), .call 70 [.t 49, .t 50, .c (.int .i64 0)], []⟩,
 ⟨some 52, some (48, false), .bin .neq (.t 51) (.c (.int .i64 2)), []⟩,
 ⟨some 53, none, .pick (.t 48) (.c (.bool true)) (.t 52), []⟩,
 ⟨some 54, none, .mv (.t 53), []⟩,
 ⟨some 55, some (54, false), .ld 2 true (.t 1), []⟩,
 ⟨some 56, some (54, false), .mv (.t 2), []⟩,
 ⟨some 57, some (54, false), .call 70 [.t 55, .t 56, .c (.int .i64 0)], []⟩,
 ⟨some 58, some (54, false), .bin .neq (.t 57) (.c (.int .i64 3)), []⟩,
 ⟨some 59, none, .pick (.t 54) (.c (.bool true)) (.t 58), []⟩,
 ⟨some 60, none, .mv (.t 59), []⟩,
 ⟨some 61, some (60, false), .ld 2 true (.t 1), []⟩,
 ⟨some 62, some (60, false), .mv (.t 2), []⟩,
 ⟨some 63, some (60, false), .call 70 [.t 61, .t 62, .c (.int .i64 0)], []⟩,
 ⟨some 64, some (60, false), .bin .neq (.t 63) (.c (.int .i64 4)), []⟩,
 ⟨some 65, none, .pick (.t 60) (.c (.bool true)) (.t 64), []⟩,
 ⟨some 66, none, .mv (.t 65), []⟩,
 ⟨some 67, some (66, false), .ld 2 true (.t 1), []⟩,
 ⟨some 68, some (66, false), .mv (.t 2), []⟩,
 ⟨some 69, some (66, false), .call 70 [.t 67, .t 68, .c (.int .i64 0)], []⟩,
 ⟨some 70, some (66, false), .bin .neq (.t 69) (.c (.int .i64 0)), []⟩,
 ⟨some 71, none, .pick (.t 66) (.c (.bool true)) (.t 70), []⟩])
 (.cond (.t 71)
 (.seq
 (.ops 5 [⟨some 0, none, .mv (.c (.bool false)), []⟩])
 .ret)
 .skip))
 (.seq
 (.ops 6 [⟨some 72, none, .mv (.t 4), []⟩,
 ⟨some 73, none, .call 71 [.t 72, .c (.int .i64 1)], []⟩,
 ⟨some 6, none, .alloc [.int .i64 0, .int .u64 0, .int .u64 0, .int .u64 0, .int .u64 0, .int .u64 0, .int .u64 0, .int .u64 0, .int .u64 0, .int .u64 0, .int .u64 0, .int .u64 0, .int .u64 0, .int .u64 0, .int .u64 0, .int .u64 0, .int .u64 0, .int .u64 0, .int .u64 0, .int .u64 0, .int .u64 0, .int .u64 0, .int .u64 0, .int .u64 0, .int .u64 0, .int .u64 0, .int .u64 0, .int .u64 0, .int .u64 0, .int .u64 0, .int .u64 0, .int .u64 0, .int .u64 0, .int .u64 0, .int .u64 0, .int .u64 0, .int .u64 0, .int .u64 0, .int .u64 0, .int .u64 0, .int .u64 0, .int .u64 0, .int .u64 0, .int .u64 0, .int .u64 0, .int .u64 0, .int .u64 0, .int .u64 0, .int .u64 0, .int .u64 0, .int .u64 0, .int .u64 0, .int .u64 0, .int .u64 0, .int .u64 0, .int .u64 0, .int .u64 0, .int .u64 0, .int .u64 0, .int .u64 0, .int .u64 0, .int .u64 0, .int .u64 0, .int .u64 0, .int .u64 0, .int .u64 0, .int .u64 0, .int .u64 0, .int .u64 0, .int .u64 0, .int .u64 0, .int .u64 0, .int .u64 0, .int .u64 0, .int .u64 0, .int .u64 0, .int .u64 0, .int .u64 0, .int .u64 0, .int .u64 0, .int .u64 0, .int .u64 0, .int .u64 0, .int .u64 0, .int .u64 0, .int .u64 0, .int .u64 0, .int .u64 0, .int .u64 0, .int .u64 0, .int .u64 0, .int .u64 0, .int .u64 0, .int .u64 0, .int .u64 0, .int .u64 0, .int .u64 0, .int .u64 0, .int .u64 0, .int .u64 0, .int .u64 0, .int .u64 0, .int .u64 0, .int .u64 0, .int .u64 0, .int .u64 0, .int .u64 0, .int .u64 0, .int .u64 0, .int .u64 0, .int .u64 0, .int .u64 0, .int .u64 0, .int .u64 0, .int .u64 0, .int .u64 0, .int .u64 0, .int .u64 0, .int .u64 0, .int .u64 0, .int .u64 0, .int .u64 0, .int .u64 0, .int .u64 0, .int .u64 0, .int .u64 0, .int .u64 0, .int .u64 0, .int .u64 0, .int .u64 0] false, []⟩,
 ⟨none, none, .st 130 (.t 6) (.t 73), []⟩])
 (.seq
 (.ops 7 [⟨some 74, none, .ld 130 true (.t 6), []⟩,
 ⟨some 7, none, .alloc [.int .i64 0, .int .u64 0, .int .u64 0, .int .u64 0, .int .u64 0, .int .u64 0, .int .u64 0, .int .u64 0, .int .u64 0, .int .u64 0, .int .u64 0, .int .u64 0, .int .u64 0, .int .u64 0, .int .u64 0, .int .u64 0, .int .u64 0, .int .u64 0, .int .u64 0, .int .u64 0, .int .u64 0, .int .u64 0, .int .u64 0, .int .u64 0, .int .u64 0, .int .u64 0, .int .u64 0, .int .u64 0, .int .u64 0, .int .u64 0, .int .u64 0, .int .u64 0, .int .u64 0, .int .u64 0, .int .u64 0, .int .u64 0, .int .u64 0, .int .u64 0, .int .u64 0, .int .u64 0, .int .u64 0, .int .u64 0, .int .u64 0, .int .u64 0, .int .u64 0, .int .u64 0, .int .u64 0, .int .u64 0, .int .u64 0, .int .u64 0, .int .u64 0, .int .u64 0, .int .u64 0, .int .u64 0, .int .u64 0, .int .u64 0, .int .u64 0, .int .u64 0, .int .u64 0, .int .u64 0, .int .u64 0, .int .u64 0, .int .u64 0, .int .u64 0, .int .u64 0, .int .u64 0, .int .u64 0, .int .u64 0, .int .u64 0, .int .u64 0, .int .u64 0, .int .u64 0, .int .u64 0, .int .u64 0, .int .u64 0, .int .u64 0, .int .u64 0, .int .u64 0, .int .u64 0, .int .u64 0, .int .u64 0, .int .u64 0, .int .u64 0, .int .u64 0, .int .u64 0, .int .u64 0, .int .u64 0, .int .u64 0, .int .u64 0, .int .u64 0, .int .u64 0, .int .u64 0, .int .u64 0, .int .u64 0, .int .u64 0, .int .u64 0, .int .u64 0, .int .u64 0, .int .u64 0, .int .u64 0, .int .u64 0, .int .u64 0, .int .u64 0, .int .u64 0, .int .u64 0, .int .u64 0, .int .u64 0, .int .u64 0, .int .u64 0, .int .u64 0, .int .u64 0, .int .u64 0, .int .u64 0, .int .u64 0, .int .u64 0, .int .u64 0, .int .u64 0, .int .u64 0, .int .u64 0, .int .u64 0, .int .u64 0, .int .u64 0, .int .u64 0, .int .u64 0, .int .u64 0, .int .u64 0, .int .u64 0, .int .u64 0, .int .u64 0, .int .u64 0] false, []⟩,
 ⟨none, none, .st 130 (.t 7) (.t 74), []⟩])
 (.seq
 (.seq
 (.ops 8 [⟨some 75, none, .bslice [.str []] 1 3 [(0, (.c (.str [97]))), (1, (.c (.str [98]))), (2, (.c (.str [99])))] false false, []⟩,
 ⟨some 76, none, .len .slice (.t 75), []⟩,
 ⟨some 77, none, .mv (.c (.int .i64 0)), []⟩])
 (.block 0
 (.loop [] B36x0)))
 (.seq
 (.ops 15 [⟨some 93, none, .ld 2 true (.t 1), []⟩,
 ⟨some 94, none, .fld 1 (.t 7), []⟩,
 ⟨some 95, none, .ld 128 true (.t 94), []⟩,
 ⟨some 96, none, .call 73 [.t 93, .c (.int .i64 1), .t 95], []⟩,
 ⟨some 92, none, .mv (.t 96), []⟩,
 ⟨some 97, none, .ext (.t 92) 0, []⟩,
 ⟨some 98, none, .ext (.t 92) 1, []⟩,
 ⟨some 10, none, .mv (.t 97), []⟩,
 ⟨some 3, none, .mv (.t 98), []⟩])
 (.seq
 (.seq
 (.ops 16 [⟨some 99, none, .mv (.t 10), []⟩,
 ⟨some 100, none, .eqn .iface false (.t 99), []⟩,
 ⟨some 101, none, .mv (.t 100), []⟩,
 ⟨some 102, some (101, false), .mv (.t 3), []⟩,
 ⟨some 103, some (101, false), .bin .neq (.t 102) (.c (.int .i64 0)), []⟩,
 ⟨some 104, none, .pick (.t 101) (.c (.bool true)) (.t 103), []⟩,
 ⟨some 105, none, .mv (.t 104), []⟩,
 ⟨some 106, some (105, false), .ld 2 true (.t 1), []⟩,
 ⟨some 107, some (105, false), .mv (.t 4), []⟩,
 ⟨some 108, some (105, false), .bslice [.int .i64 0] 1 2 [(0, (.c (.int .i64 0))), (1, (.c (.int .i64 1)))] false false, []⟩,
 ⟨some 109, some (105, false), .call 74 [.t 106, .t 107, .c (.int .i64 1), .t 108], []⟩,
 ⟨some 110, some (105, false), .un .not (.t 109), []⟩,
 ⟨some 111, none, .pick (.t 105) (.c (.bool true)) (.t 110), []⟩])
 (.cond (.t 111)
 (.seq
 (.ops 17 [⟨some 0, none, .mv (.c (.bool false)), []⟩])
 .ret)
 .skip))
 (.seq
 (.ops 18 [⟨some 113, none, .mv (.t 10), []⟩,
 ⟨some 114, none, .mv (.t 4), []⟩,
 ⟨some 115, none, .call 75 [.t 113, .t 114, .c (.int .i64 300)], []⟩,
 ⟨some 112, none, .mv (.t 115), []⟩,
 ⟨some 116, none, .ext (.t 112) 0, []⟩,
 ⟨some 117, none, .ext (.t 112) 1, []⟩,
 ⟨some 11, none, .mv (.t 116), []⟩,
 ⟨some 12, none, .mv (.t 117), []⟩])
 (.seq
 (.ops 19 [⟨some 119, none, .ld 2 true (.t 1), []⟩,
 ⟨some 120, none, .ld 130 true (.t 7), []⟩,
 ⟨some 121, none, .call 76 [.t 119, .c (.int .i64 1), .t 120], []⟩,
 ⟨some 118, none, .mv (.t 121), []⟩,
 ⟨some 122, none, .ext (.t 118) 0, []⟩,
 ⟨some 123, none, .ext (.t 118) 1, []⟩,
 ⟨some 13, none, .mv (.t 122), []⟩,
 ⟨some 3, none, .mv (.t 123), []⟩])
 (.seq
 (.seq
 (.ops 20 [⟨some 124, none, .mv (.t 11), []⟩,
 ⟨some 125, none, .un .not (.t 124), []⟩,
 ⟨some 126, none, .mv (.t 125), []⟩,
 ⟨some 127, some (126, false), .mv (.t 13), []⟩,
 ⟨some 128, some (126, false), .eqn .ptr false (.t 127), []⟩,
 ⟨some 129, none, .pick (.t 126) (.c (.bool true)) (.t 128), []⟩,
 ⟨some 130, none, .mv (.t 129), []⟩,
 ⟨some 131, some (130, false), .mv (.t 3), []⟩,
 ⟨some 132, some (130, false), .bin .neq (.t 131) (.c (.int .i64 0)), []⟩,
 ⟨some 133, none, .pick (.t 130) (.c (.bool true)) (.t 132), []⟩])
 (.cond (.t 133)
 (.seq
 (.ops 21 [⟨some 0, none, .mv (.c (.bool false)), []⟩])
 .ret)
 .skip))
 (.seq
 (.ops 22 [⟨some 135, none, .mv (.t 13), []⟩,
 ⟨some 136, none, .mki 62 (.t 135), []⟩,
 ⟨some 137, none, .mv (.t 4), []⟩,
 ⟨some 138, none, .call 75 [.t 136, .t 137, .c (.int .i64 2000)], []⟩,
 ⟨some 134, none, .mv (.t 138), []⟩,
 ⟨some 139, none, .ext (.t 134) 0, []⟩,
 ⟨some 140, none, .ext (.t 134) 1, []⟩,
 ⟨some 14, none, .mv (.t 139), []⟩,
 ⟨some 15, none, .mv (.t 140), []⟩])
 (.seq
 (.ops 23 [⟨some 142, none, .mv (.t 13), []⟩,
 ⟨some 143, none, .call 31 [.t 142], []⟩,
 ⟨some 141, none, .mv (.t 143), []⟩,
 ⟨some 144, none, .ext (.t 141) 0, []⟩,
 ⟨some 145, none, .ext (.t 141) 1, []⟩,
 ⟨some 146, none, .ext (.t 141) 2, []⟩,
 ⟨some 16, none, .alloc [.int .i64 0, .int .u64 0, .int .u64 0, .int .u64 0, .int .u64 0, .int .u64 0, .int .u64 0, .int .u64 0, .int .u64 0, .int .u64 0, .int .u64 0, .int .u64 0, .int .u64 0, .int .u64 0, .int .u64 0, .int .u64 0, .int .u64 0, .int .u64 0, .int .u64 0, .int .u64 0, .int .u64 0, .int .u64 0, .int .u64 0, .int .u64 0, .int .u64 0, .int .u64 0, .int .u64 0, .int .u64 0, .int .u64 0, .int .u64 0, .int .u64 0, .int .u64 0, .int .u64 0, .int .u64 0, .int .u64 0, .int .u64 0, .int .u64 0, .int .u64 0, .int .u64 0, .int .u64 0, .int .u64 0, .int .u64 0, .int .u64 0, .int .u64 0, .int .u64 0, .int .u64 0, .int .u64 0, .int .u64 0, .int .u64 0, .int .u64 0, .int .u64 0, .int .u64 0, .int .u64 0, .int .u64 0, .int .u64 0, .int .u64 0, .int .u64 0, .int .u64 0, .int .u64 0, .int .u64 0, .int .u64 0, .int .u64 0, .int .u64 0, .int .u64 0, .int .u64 0, .int .u64 0, .int .u64 0, .int .u64 0, .int .u64 0, .int .u64 0, .int .u64 0, .int .u64 0, .int .u64 0, .int .u64 0, .int .u64 0, .int .u64 0, .int .u64 0, .int .u64 0, .int .u64 0, .int .u64 0, .int .u64 0, .int .u64 0, .int .u64 0, .int .u64 0, .int .u64 0, .int .u64 0, .int .u64 0, .int .u64 0, .int .u64 0, .int .u64 0, .int .u64 0, .int .u64 0, .int .u64 0, .int .u64 0, .int .u64 0, .int .u64 0, .int .u64 0, .int .u64 0, .int .u64 0, .int .u64 0, .int .u64 0, .int .u64 0, .int .u64 0, .int .u64 0, .int .u64 0, .int .u64 0, .int .u64 0, .int .u64 0, .int .u64 0, .int .u64 0, .int .u64 0, .int .u64 0, .int .u64 0, .int .u64 0, .int .u64 0, .int .u64 0, .int .u64 0, .int .u64 0, .int .u64 0, .int .u64 0, .int .u64 0, .int .u64 0, .int .u64 0, .int .u64 0, .int .u64 0, .int .u64 0, .int .u64 0, .int .u64 0, .int .u64 0, .int .u64 0] false, []⟩,
 ⟨some 17, none, .alloc [.int .i64 0, .int .u64 0, .int .u64 0, .int .u64 0, .int .u64 0, .int .u64 0, .int .u64 0, .int .u64 0, .int .u64 0, .int .u64 0, .int .u64 0, .int .u64 0, .int .u64 0, .int .u64 0, .int .u64 0, .int .u64 0, .int .u64 0, .int .u64 0, .int .u64 0, .int .u64 0, .int .u64 0, .int .u64 0, .int .u64 0, .int .u64 0, .int .u64 0, .int .u64 0, .int .u64 0, .int .u64 0, .int .u64 0, .int .u64 0, .int .u64 0, .int .u64 0, .int .u64 0, .int .u64 0, .int .u64 0, .int .u64 0, .int .u64 0, .int .u64 0, .int .u64 0, .int .u64 0, .int .u64 0, .int .u64 0, .int .u64 0, .int .u64 0, .int .u64 0, .int .u64 0, .int .u64 0, .int .u64 0, .int .u64 0, .int .u64 0, .int .u64 0, .int .u64 0, .int .u64 0, .int .u64 0, .int .u64 0, .int .u64 0, .int .u64 0, .int .u64 0, .int .u64 0, .int .u64 0, .int .u64 0, .int .u64 0, .int .u64 0, .int .u64 0, .int .u64 0, .int .u64 0, .int .u64 0, .int .u64 0, .int .u64 0, .int .u64 0, .int .u64 0, .int .u64 0, .int .u64 0, .int .u64 0, .int .u64 0, .int .u64 0, .int .u64 0, .int .u64 0, .int .u64 0, .int .u64 0, .int .u64 0, .int .u64 0, .int .u64 0, .int .u64 0, .int .u64 0, .int .u64 0, .int .u64 0, .int .u64 0, .int .u64 0, .int .u64 0, .int .u64 0, .int .u64 0, .int .u64 0, .int .u64 0, .int .u64 0, .int .u64 0, .int .u64 0, .int .u64 0, .int .u64 0, .int .u64 0, .int .u64 0, .int .u64 0, .int .u64 0, .int .u64 0, .int .u64 0, .int .u64 0, .int .u64 0, .int .u64 0, .int .u64 0, .int .u64 0, .int .u64 0, .int .u64 0, .int .u64 0, .int .u64 0, .int .u64 0, .int .u64 0, .int .u64 0, .int .u64 0, .int .u64 0, .int .u64 0, .int .u64 0, .int .u64 0, .int .u64 0, .int .u64 0, .int .u64 0, .int .u64 0, .int .u64 0, .int .u64 0, .int .u64 0, .int .u64 0] false, []⟩,
 ⟨some 18, none, .alloc [.int .i64 0, .int .u64 0, .int .u64 0, .int .u64 0, .int .u64 0, .int .u64 0, .int .u64 0, .int .u64 0, .int .u64 0, .int .u64 0, .int .u64 0, .int .u64 0, .int .u64 0, .int .u64 0, .int .u64 0, .int .u64 0, .int .u64 0, .int .u64 0, .int .u64 0, .int .u64 0, .int .u64 0, .int .u64 0, .int .u64 0, .int .u64 0, .int .u64 0, .int .u64 0, .int .u64 0, .int .u64 0, .int .u64 0, .int .u64 0, .int .u64 0, .int .u64 0, .int .u64 0, .int .u64 0, .int .u64 0, .int .u64 0, .int .u64 0, .int .u64 0, .int .u64 0, .int .u64 0, .int .u64 0, .int .u64 0, .int .u64 0, .int .u64 0, .int .u64 0, .int .u64 0, .int .u64 0, .int .u64 0, .int .u64 0, .int .u64 0, .int .u64 0, .int .u64 0, .int .u64 0, .int .u64 0, .int .u64 0, .int .u64 0, .int .u64 0, .int .u64 0, .int .u64 0, .int .u64 0, .int .u64 0, .int .u64 0, .int .u64 0, .int .u64 0, .int .u64 0, .int .u64 0, .int .u64 0, .int .u64 0, .int .u64 0, .int .u64 0, .int .u64 0, .int .u64 0, .int .u64 0, .int .u64 0, .int .u64 0, .int .u64 0, .int .u64 0, .int .u64 0, .int .u64 0, .int .u64 0, .int .u64 0, .int .u64 0, .int .u64 0, .int .u64 0, .int .u64 0, .int .u64 0, .int .u64 0, .int .u64 0, .int .u64 0, .int .u64 0, .int .u64 0, .int .u64 0, .int .u64 0, .int .u64 0, .int .u64 0, .int .u64 0, .int .u64 0, .int .u64 0, .int .u64 0, .int .u64 0, .int .u64 0, .int .u64 0, .int .u64 0, .int .u64 0, .int .u64 0, .int .u64 0, .int .u64 0, .int .u64 0, .int .u64 0, .int .u64 0, .int .u64 0, .int .u64 0, .int .u64 0, .int .u64 0, .int .u64 0, .int .u64 0, .int .u64 0, .int .u64 0, .int .u64 0, .int .u64 0, .int .u64 0, .int .u64 0, .int .u64 0, .int .u64 0, .int .u64 0, .int .u64 0, .int .u64 0, .int .u64 0, .int .u64 0, .int .u64 0] false, []⟩,
 ⟨none, none, .st 130 (.t 16) (.t 144), []⟩,
 ⟨none, none, .st 130 (.t 17) (.t 145), []⟩,
 ⟨none, none, .st 130 (.t 18) (.t 146), []⟩])
 (.seq
 (.seq
 (.ops 24 [⟨some 147, none, .mv (.t 14), []⟩,
 ⟨some 148, none, .un .not (.t 147), []⟩,
 ⟨some 149, none, .mv (.t 148), []⟩,
 ⟨some 150, some (149, false), .mv (.t 13), []⟩,
 ⟨some 151, some (149, false), .call 34 [.t 150], []⟩,
 ⟨some 152, some (149, false), .bin .neq (.t 151) (.c (.int .u64 3)), []⟩,
 ⟨some 153, none, .pick (.t 149) (.c (.bool true)) (.t 152), []⟩,
 ⟨some 154, none, .mv (.t 153), []⟩,
 ⟨some 155, some (154, false), .fld 0 (.t 16), []⟩,
 ⟨some 156, some (154, false), .ld 1 false (.t 155), []⟩,
 ⟨some 157, some (154, false), .bin .neq (.t 156) (.c (.int .i64 3)), []⟩,
 ⟨some 158, none, .pick (.t 154) (.c (.bool true)) (.t 157), []⟩,
 ⟨some 159, none, .mv (.t 158), []⟩,
 ⟨some 160, some (159, false), .fld 1 (.t 16), []⟩,
 ⟨some 161, some (159, false), .ld 128 true (.t 160), []⟩,
 ⟨some 162, some (159, false), .call 77 [.t 161], []⟩,
 ⟨some 163, some (159, false), .bin .neq (.t 162) (.c (.int .i64 1)), []⟩,
 ⟨some 164, none, .pick (.t 159) (.c (.bool true)) (.t 163), []⟩,
 ⟨some 165, none, .mv (.t 164), []⟩,
 ⟨some 166, some (165, false), .fld 1 (.t 16), []⟩,
 ⟨some 167, some (165, false), .ld 128 true (.t 166), []⟩,
 ⟨some 168, some (165, false), .call 78 [.t 167, .c (.int .i64 0)], []⟩,
 ⟨some 169, some (165, false), .bin .neq (.t 168) (.c (.int .i64 1)), []⟩,
 ⟨some 170, none, .pick (.t 165) (.c (.bool true)) (.t 169), []⟩,
 ⟨some 171, none, .mv (.t 170), []⟩,
 ⟨some 172, some (171, false), .fld 1 (.t 16), []⟩,
 ⟨some 173, some (171, false), .ld 128 true (.t 172), []⟩,
 ⟨some 174, some (171, false), .call 78 [.t 173, .c (.int .i64 1)], []⟩,
 ⟨some 175, some (171, false), .bin .neq (.t 174) (.c (.int .i64 2)), []⟩,
 ⟨some 176, none, .pick (.t 171) (.c (.bool true)) (.t 175), []⟩,
 ⟨some 177, none, .mv (.t 176), []⟩,
 ⟨some 178, some (177, false), .ld 2 true (.t 1), []⟩,
 ⟨some 179, some (177, false), .mv (.t 4), []⟩,
 ⟨some 180, some (177, false), .call 79 [.t 178, .t 179, .c (.int .i64 1)], []⟩,
 ⟨some 181, some (177, false), .bin .neq (.t 180) (.c (.int .i64 1)), []⟩,
 ⟨some 182, none, .pick (.t 177) (.c (.bool true)) (.t 181), []⟩,
 ⟨some 183, none, .mv (.t 182), []⟩,
 ⟨some 184, some (183, false), .ld 2 true (.t 1), []⟩,
 ⟨some 185, some (183, false), .mv (.t 4), []⟩,
 ⟨some 186, some (183, false), .call 79 [.t 184, .t 185, .c (.int .i64 2)], []⟩,
 ⟨some 187, some (183, false), .bin .neq (.t 186) (.c (.int .i64 1)), []⟩,
 ⟨some 188, none, .pick (.t 183) (.c (.bool true)) (.t 187), []⟩,
 ⟨some 189, none, .mv (.t 188), []⟩,
 ⟨some 190, some (189, false), .ld 2 true (.t 1), []⟩,
 ⟨some 191, some (189, false), .mv (.t 4), []⟩,
 ⟨some 192, some (189, false), .call 79 [.t 190, .t 191, .c (.int .i64 3)], []⟩,
 ⟨some 193, some (189, false), .bin .neq (.t 192) (.c (.int .i64 1)), []⟩,
 ⟨some 194, none, .pick (.t 189) (.c (.bool true)) (.t 193), []⟩,
 ⟨some 195, none, .mv (.t 194), []⟩,
 ⟨some 196, some (195, false), .fld 1 (.t 17), []⟩,
 ⟨some 197, some (195, false), .ld 128 true (.t 196), []⟩,
 ⟨some 198, some (195, false), .call 80 [.t 197], []⟩,
 ⟨some 199, some (195, false), .bin .neq (.t 198) (.c (.str [97])), []⟩,
 ⟨some 200, none, .pick (.t 195) (.c (.bool true)) (.t 199), []⟩,
 ⟨some 201, none, .mv (.t 200), []⟩,
 ⟨some 202, some (201, false), .fld 1 (.t 18), []⟩,
 ⟨some 203, some (201, false), .ld 128 true (.t 202), []⟩,
 ⟨some 204, some (201, false), .call 80 [.t 203], []⟩,
 ⟨some 205, some (201, false), .bin .neq (.t 204) (.c (.str [98, 99])), []⟩,
 ⟨some 206, none, .pick (.t 201) (.c (.bool true)) (.t 205), []⟩])
 (.cond (.t 206)
 (.seq
 (.ops 25 [⟨some 0, none, .mv (.c (.bool false)), []⟩])
 .ret)
 .skip))
 (.seq
 (.ops 26 [⟨some 208, none, .ld 2 true (.t 1), []⟩,
 ⟨some 209, none, .ld 130 true (.t 6), []⟩,
 ⟨some 210, none, .call 76 [.t 208, .c (.int .i64 0), .t 209], []⟩,
 ⟨some 207, none, .mv (.t 210), []⟩,
 ⟨some 211, none, .ext (.t 207) 0, []⟩,
 ⟨some 212, none, .ext (.t 207) 1, []⟩,
 ⟨some 19, none, .mv (.t 211), []⟩,
 ⟨some 3, none, .mv (.t 212), []⟩])
 (.seq
 (.ops 27 [⟨some 214, none, .ld 2 true (.t 1), []⟩,
 ⟨some 215, none, .ld 130 true (.t 7), []⟩,
 ⟨some 216, none, .ld 130 true (.t 7), []⟩,
 ⟨some 217, none, .call 81 [.t 214, .c (.int .i64 0), .t 215, .t 216], []⟩,
 ⟨some 213, none, .mv (.t 217), []⟩,
 ⟨some 218, none, .ext (.t 213) 0, []⟩,
 ⟨some 219, none, .ext (.t 213) 1, []⟩,
 ⟨some 20, none, .mv (.t 218), []⟩,
 ⟨some 5, none, .mv (.t 219), []⟩])
 (.seq
 (.ops 28 [⟨some 221, none, .ld 2 true (.t 1), []⟩,
 ⟨some 222, none, .call 82 [.t 221, .c (.int .i64 2)], []⟩,
 ⟨some 220, none, .mv (.t 222), []⟩,
 ⟨some 223, none, .ext (.t 220) 0, []⟩,
 ⟨some 224, none, .ext (.t 220) 1, []⟩,
 ⟨some 21, none, .mv (.t 223), []⟩,
 ⟨some 22, none, .mv (.t 224), []⟩])
 (.seq
 (.ops 29 [⟨some 225, none, .mv (.t 19), []⟩,
 ⟨some 226, none, .eqn .ptr false (.t 225), []⟩,
 ⟨some 227, none, .mv (.t 226), []⟩,
 ⟨some 228, some (227, true), .mv (.t 20), []⟩,
 ⟨some 229, some (227, true), .eqn .ptr false (.t 228), []⟩,
 ⟨some 230, none, .pick (.t 227) (.t 229) (.c (.bool false)), []⟩,
 ⟨some 231, none, .mv (.t 230), []⟩,
 ⟨some 232, some (231, true), .mv (.t 21), []⟩,
 ⟨some 233, some (231, true), .eqn .ptr false (.t 232), []⟩,
 ⟨some 234, none, .pick (.t 231) (.t 233) (.c (.bool false)), []⟩,
 ⟨some 235, none, .mv (.t 234), []⟩,
 ⟨some 236, some (235, true), .mv (.t 3), []⟩,
 ⟨some 237, some (235, true), .bin .eql (.t 236) (.c (.int .i64 9)), []⟩,
 ⟨some 238, none, .pick (.t 235) (.t 237) (.c (.bool false)), []⟩,
 ⟨some 239, none, .mv (.t 238), []⟩,
 ⟨some 240, some (239, true), .mv (.t 5), []⟩,
 ⟨some 241, some (239, true), .bin .eql (.t 240) (.c (.int .i64 2)), []⟩,
 ⟨some 242, none, .pick (.t 239) (.t 241) (.c (.bool false)), []⟩,
 ⟨some 243, none, .mv (.t 242), []⟩,
 ⟨some 244, some (243, true), .mv (.t 22), []⟩,
 ⟨some 245, some (243, true), .bin .eql (.t 244) (.c (.int .i64 2)), []⟩,
 ⟨some 246, none, .pick (.t 243) (.t 245) (.c (.bool false)), []⟩,
 ⟨some 0, none, .mv (.t 246), []⟩])
 .ret))))))))))))))))))))⟩
theorem F36_code : cfgA.code 36 = some F36 := by kernel_rfl

/-- ticketline/descend.Format -/
noncomputable def F49 : AFn := ⟨61, [.tmp 2, .tmp 3], (.seq
 (.ops 0 [⟨some 1, none, .box 2 (.t 0) false, []⟩,
 ⟨some 2, none, .mv (.c (.nilp)), []⟩,
 ⟨some 3, none, .mv (.c (.int .i64 0)), []⟩])
 (.seq
 (.ops 1 [⟨some 12, none, .ld 2 true (.t 1), []⟩,
 ⟨some 13, none, .call 92 [.t 12], []⟩,
 ⟨some 11, none, .mv (.t 13), []⟩,
 ⟨some 14, none, .ext (.t 11) 0, []⟩,
 ⟨some 15, none, .ext (.t 11) 1, []⟩,
 ⟨some 4, none, .mv (.t 14), []⟩,
 ⟨some 5, none, .mv (.t 15), []⟩])
 (.seq
 (.seq
 (.ops 2 [⟨some 16, none, .mv (.t 5), []⟩,
 ⟨some 17, none, .bin .neq (.t 16) (.c (.int .i64 0)), []⟩])
 (.cond (.t 17)
 (.seq
 (.ops 3 [⟨some 18, none, .mv (.t 5), []⟩,
 ⟨some 2, none, .mv (.c (.nilp)), []⟩,
 ⟨some 3, none, .mv (.t 18), []⟩])
 .ret)
 .skip))
 (.seq
 (.ops 4 [⟨some 20, none, .mv (.t 4), []⟩,
 ⟨some 21, none, .call 5 [.t 20], []⟩,
 ⟨some 19, none, .mv (.t 21), []⟩,
 ⟨some 22, none, .ext (.t 19) 0, []⟩,
 ⟨some 23, none, .ext (.t 19) 1, []⟩,
 ⟨some 6, none, .mv (.t 22), []⟩,
 ⟨some 5, none, .mv (.t 23), []⟩])
 (.seq
 (.seq
 (.ops 5 [⟨some 24, none, .mv (.t 5), []⟩,
 ⟨some 25, none, .bin .neq (.t 24) (.c (.int .i64 0)), []⟩])
 (.cond (.t 25)
 (.seq
 (.ops 6 [⟨some 26, none, .mv (.t 5), []⟩,
 ⟨some 2, none, .mv (.c (.nilp)), []⟩,
 ⟨some 3, none, .mv (.t 26), []⟩])
 .ret)
 .skip))
 (.seq
 (.ops 7 [⟨some 28, none, .mv (.t 6), []⟩,
 ⟨some 29, none, .fld 0 (.t 1), []⟩,
 ⟨some 30, none, .ld 1 false (.t 29), []⟩,
 ⟨some 31, none, .call 93 [.t 28, .t 30], []⟩,
 ⟨some 27, none, .mv (.t 31), []⟩,
 ⟨some 32, none, .ext (.t 27) 0, []⟩,
 ⟨some 33, none, .ext (.t 27) 1, []⟩,
 ⟨some 7, none, .mv (.t 32), []⟩,
 ⟨some 5, none, .mv (.t 33), []⟩])
 (.seq
 (.seq
 (.ops 8 [⟨some 34, none, .mv (.t 5), []⟩,
 ⟨some 35, none, .bin .neq (.t 34) (.c (.int .i64 0)), []⟩])
 (.cond (.t 35)
 (.seq
 (.ops 9 [⟨some 36, none, .mv (.t 5), []⟩,
 ⟨some 2, none, .mv (.c (.nilp)), []⟩,
 ⟨some 3, none, .mv (.t 36), []⟩])
 .ret)
 .skip))
 (.seq
 (.ops 10 [⟨some 38, none, .call 94 [.c (.int .i64 0), .c (.str []), .c (.str [])], []⟩,
 ⟨some 37, none, .mv (.t 38), []⟩,
 ⟨some 39, none, .ext (.t 37) 0, []⟩,
 ⟨some 40, none, .ext (.t 37) 1, []⟩,
 ⟨some 8, none, .alloc (List.replicate 128 (.int .u64 0)) false, []⟩,
 ⟨none, none, .st 128 (.t 8) (.t 39), []⟩,
 ⟨some 5, none, .mv (.t 40), []⟩])
 (.seq
 (.seq
 (.ops 11 [⟨some 41, none, .mv (.t 5), []⟩,
 ⟨some 42, none, .bin .neq (.t 41) (.c (.int .i64 0)), []⟩])
 (.cond (.t 42)
 (.seq
 (.ops 12 [⟨some 43, none, .mv (.t 5), []⟩,
 ⟨some 2, none, .mv (.c (.nilp)), []⟩,
 ⟨some 3, none, .mv (.t 43), []⟩])
 .ret)
 .skip))
 (.seq
 (.ops 13 [⟨some 45, none, .mv (.t 7), []⟩,
 ⟨some 46, none, .ld 128 true (.t 8), []⟩,
 ⟨some 47, none, .call 95 [.t 45, .t 46], []⟩,
 ⟨some 44, none, .mv (.t 47), []⟩,
 ⟨some 48, none, .ext (.t 44) 0, []⟩,
 ⟨some 49, none, .ext (.t 44) 1, []⟩,
 ⟨some 9, none, .mv (.t 48), []⟩,
 ⟨some 5, none, .mv (.t 49), []⟩])
 (.seq
 (.seq
 (.ops 14 [⟨some 50, none, .mv (.t 5), []⟩,
 ⟨some 51, none, .bin .neq (.t 50) (.c (.int .i64 0)), []⟩])
 (.cond (.t 51)
 (.seq
 (.ops 15 [⟨some 52, none, .mv (.t 5), []⟩,
 ⟨some 2, none, .mv (.c (.nilp)), []⟩,
 ⟨some 3, none, .mv (.t 52), []⟩])
 .ret)
 .skip))
 (.seq
 (.seq
 (.ops 16 [⟨some 53, none, .mv (.t 7), []⟩,
 ⟨some 54, none, .mv (.t 9), []⟩,
 ⟨some 55, none, .call 96 [.t 53, .t 54], []⟩,
 ⟨some 10, none, .mv (.t 55), []⟩])
 (.seq
 (.ops 17 [⟨some 56, none, .mv (.t 10), []⟩,
 ⟨some 57, none, .bin .neq (.t 56) (.c (.int .i64 0)), []⟩])
 (.cond (.t 57)
 (.seq
 (.ops 18 [⟨some 58, none, .mv (.t 10), []⟩,
 ⟨some 2, none, .mv (.c (.nilp)), []⟩,
 ⟨some 3, none, .mv (.t 58), []⟩])
 .ret)
 .skip)))
 (.seq
 (.ops 19 [⟨some 59, none, .mv (.t 7), []⟩,
 ⟨some 60, none, .call 97 [.t 59], []⟩,
 ⟨some 2, none, .mv (.t 60), []⟩,
 ⟨some 3, none, .mv (.c (.int .i64 0)), []⟩])
 .ret)))))))))))))⟩
theorem F49_code : cfgA.code 49 = some F49 := by kernel_rfl

/-- (*ticketline/grow.Take).zero -/
noncomputable def F57 : AFn := ⟨12, [.tmp 2], (.seq
 (.ops 0 [⟨some 2, none, .mv (.c (.bool false)), []⟩])
 (.seq
 (.ops 1 [⟨some 3, none, .mv (.t 0), []⟩,
 ⟨some 4, none, .eqn .ptr false (.t 3), []⟩,
 ⟨some 5, none, .mv (.t 4), []⟩,
 ⟨some 6, some (5, false), .mv (.t 0), []⟩,
 ⟨some 7, some (5, false), .nilc (.t 6) (mok Tryz.prog), []⟩,
 ⟨some 8, some (5, false), .fld 3 (.t 7), []⟩,
 ⟨some 9, some (5, false), .ld 1 false (.t 8), []⟩,
 ⟨some 10, some (5, false), .bin .eql (.t 9) (.c (.int .i64 0)), []⟩,
 ⟨some 11, none, .pick (.t 5) (.c (.bool true)) (.t 10), []⟩,
 ⟨some 2, none, .mv (.t 11), []⟩])
 .ret))⟩
theorem F57_code : cfgA.code 57 = some F57 := by kernel_rfl

/-- (*ticketline/grow.Take).first -/
noncomputable def F58 : AFn := ⟨37, [.tmp 4], (.seq
 (.ops 0 [⟨some 4, none, .mv (.c (.int .i64 0)), []⟩])
 (.seq
 (.seq
 (.ops 1 [⟨some 5, none, .mv (.t 1), []⟩,
 ⟨some 6, none, .mv (.t 0), []⟩,
 ⟨some 7, none, .nilc (.t 6) (mok Tryz.prog), []⟩,
 ⟨some 8, none, .fld 0 (.t 7), []⟩,
 ⟨some 9, none, .fld 0 (.t 8), []⟩,
 ⟨some 10, none, .ld 1 false (.t 9), []⟩,
 ⟨some 11, none, .cvi .u64 (.t 10), []⟩,
 ⟨some 12, none, .bin .gtr (.t 5) (.t 11), []⟩])
 (.cond (.t 12)
 (.seq
 (.ops 2 [⟨some 4, none, .mv (.c (.int .i64 12)), []⟩])
 .ret)
 .skip))
 (.seq
 (.seq
 (.ops 3 [⟨some 13, none, .mv (.t 0), []⟩,
 ⟨some 14, none, .mv (.t 0), []⟩,
 ⟨some 15, none, .mv (.t 1), []⟩,
 ⟨some 16, none, .nilc (.t 13) (mok Tryz.prog), []⟩,
 ⟨some 17, none, .fld 5 (.t 16), []⟩,
 ⟨none, none, .st 1 (.t 17) (.t 15), []⟩,
 ⟨some 18, none, .nilc (.t 14) (mok Tryz.prog), []⟩,
 ⟨some 19, none, .fld 3 (.t 18), []⟩,
 ⟨none, none, .st 1 (.t 19) (.c (.int .i64 3)), []⟩])
 (.seq
 (.ops 4 [⟨some 20, none, .mv (.t 1), []⟩,
 ⟨some 21, none, .bin .eql (.t 20) (.c (.int .u64 0)), []⟩])
 (.cond (.t 21)
 (.ops 5 [⟨some 22, none, .mv (.t 0), []⟩,
 ⟨some 23, none, .mv (.t 0), []⟩,
 ⟨some 24, none, .mv (.t 0), []⟩,
 ⟨some 25, none, .nilc (.t 24) (mok Tryz.prog), []⟩,
 ⟨some 26, none, .fld 0 (.t 25), []⟩,
 ⟨some 27, none, .ld 2 true (.t 26), []⟩,
 ⟨some 28, none, .mv (.t 0), []⟩,
 ⟨some 29, none, .nilc (.t 28) (mok Tryz.prog), []⟩,
 ⟨some 30, none, .fld 2 (.t 29), []⟩,
 ⟨some 31, none, .ld 1 false (.t 30), []⟩,
 ⟨some 32, none, .call 60 [.t 27, .t 31], []⟩,
 ⟨some 33, none, .nilc (.t 22) (mok Tryz.prog), []⟩,
 ⟨some 34, none, .fld 4 (.t 33), []⟩,
 ⟨none, none, .st 1 (.t 34) (.t 32), []⟩,
 ⟨some 35, none, .nilc (.t 23) (mok Tryz.prog), []⟩,
 ⟨some 36, none, .fld 3 (.t 35), []⟩,
 ⟨none, none, .st 1 (.t 36) (.c (.int .i64 7)), []⟩])
 .skip)))
 (.seq
 (.ops 6 [⟨some 4, none, .mv (.c (.int .i64 0)), []⟩])
 .ret))))⟩
theorem F58_code : cfgA.code 58 = some F58 := by kernel_rfl

/-- ticketline/arena.Word -/
noncomputable def F59 : AFn := ⟨23, [.tmp 4, .tmp 5], (.seq
 (.ops 0 [⟨some 4, none, .mv (.c (.int .i64 0)), []⟩,
 ⟨some 5, none, .mv (.c (.int .i64 0)), []⟩])
 (.seq
 (.seq
 (.ops 1 [⟨some 6, none, .mv (.t 0), []⟩,
 ⟨some 7, none, .bin .lss (.t 6) (.c (.int .i64 1)), []⟩,
 ⟨some 8, none, .mv (.t 7), []⟩,
 ⟨some 9, some (8, false), .mv (.t 0), []⟩,
 ⟨some 10, some (8, false), .bin .gtr (.t 9) (.c (.int .i64 511)), []⟩,
 ⟨some 11, none, .pick (.t 8) (.c (.bool true)) (.t 10), []⟩,
 ⟨some 12, none, .mv (.t 11), []⟩,
 ⟨some 13, some (12, false), .mv (.t 1), []⟩,
 ⟨some 14, some (12, false), .bin .lss (.t 13) (.c (.int .i64 0)), []⟩,
 ⟨some 15, none, .pick (.t 12) (.c (.bool true)) (.t 14), []⟩,
 ⟨some 16, none, .mv (.t 15), []⟩,
 ⟨some 17, some (16, false), .mv (.t 1), []⟩,
 ⟨some 18, some (16, false), .bin .geq (.t 17) (.c (.int .i64 128)), []⟩,
 ⟨some 19, none, .pick (.t 16) (.c (.bool true)) (.t 18), []⟩])
 (.cond (.t 19)
 (.seq
 (.ops 2 [⟨some 4, none, .mv (.c (.int .i64 0)), []⟩,
 ⟨some 5, none, .mv (.c (.int .i64 3)), []⟩])
 .ret)
 .skip))
 (.seq
 (.ops 3 [⟨some 20, none, .mv (.t 0), []⟩,
 ⟨some 21, none, .mv (.t 1), []⟩,
 ⟨some 22, none, .call 106 [.t 20, .t 21], []⟩,
 ⟨some 4, none, .mv (.t 22), []⟩,
 ⟨some 5, none, .mv (.c (.int .i64 0)), []⟩])
 .ret)))⟩
theorem F59_code : cfgA.code 59 = some F59 := by kernel_rfl

/-- ticketline/grow.unlock -/
noncomputable def F60 : AFn := ⟨30, [.tmp 4], (.seq
 (.ops 0 [⟨some 2, none, .box 2 (.t 0) false, []⟩,
 ⟨some 4, none, .mv (.c (.nili)), []⟩])
 (.seq
 (.ops 1 [⟨some 12, none, .ld 2 true (.t 2), []⟩,
 ⟨some 13, none, .call 102 [.t 12], []⟩,
 ⟨some 11, none, .mv (.t 13), []⟩,
 ⟨some 14, none, .ext (.t 11) 0, []⟩,
 ⟨some 15, none, .ext (.t 11) 1, []⟩,
 ⟨some 5, none, .mv (.t 14), []⟩,
 ⟨some 6, none, .mv (.t 15), []⟩])
 (.seq
 (.ops 2 [⟨some 17, none, .mv (.t 5), []⟩,
 ⟨some 18, none, .mv (.t 1), []⟩,
 ⟨some 19, none, .call 107 [.t 17, .t 18, .c (.int .i64 0)], []⟩,
 ⟨some 16, none, .mv (.t 19), []⟩,
 ⟨some 20, none, .ext (.t 16) 0, []⟩,
 ⟨some 21, none, .ext (.t 16) 1, []⟩,
 ⟨some 7, none, .mv (.t 20), []⟩,
 ⟨some 8, none, .mv (.t 21), []⟩])
 (.seq
 (.ops 3 [⟨some 23, none, .mv (.t 5), []⟩,
 ⟨some 24, none, .mv (.t 7), []⟩,
 ⟨some 25, none, .call 108 [.t 23, .c (.int .i64 5), .t 24], []⟩,
 ⟨some 22, none, .mv (.t 25), []⟩,
 ⟨some 26, none, .ext (.t 22) 0, []⟩,
 ⟨some 27, none, .ext (.t 22) 1, []⟩,
 ⟨some 9, none, .mv (.t 26), []⟩,
 ⟨some 10, none, .mv (.t 27), []⟩])
 (.seq
 (.ops 4 [⟨some 28, none, .mv (.t 9), []⟩,
 ⟨some 29, none, .mki 161 (.t 28), []⟩,
 ⟨some 4, none, .mv (.t 29), []⟩])
 .ret)))))⟩
theorem F60_code : cfgA.code 60 = some F60 := by kernel_rfl

/-- (*ticketline/grow.Take).over -/
noncomputable def F61 : AFn := ⟨13, [.tmp 2], (.seq
 (.ops 0 [⟨some 2, none, .mv (.c (.bool false)), []⟩])
 (.seq
 (.ops 1 [⟨some 3, none, .mv (.t 0), []⟩,
 ⟨some 4, none, .call 57 [.t 3], []⟩,
 ⟨some 5, none, .un .not (.t 4), []⟩,
 ⟨some 6, none, .mv (.t 5), []⟩,
 ⟨some 7, some (6, true), .mv (.t 0), []⟩,
 ⟨some 8, some (6, true), .nilc (.t 7) (mok Tryz.prog), []⟩,
 ⟨some 9, some (6, true), .fld 3 (.t 8), []⟩,
 ⟨some 10, some (6, true), .ld 1 false (.t 9), []⟩,
 ⟨some 11, some (6, true), .bin .eql (.t 10) (.c (.int .i64 17)), []⟩,
 ⟨some 12, none, .pick (.t 6) (.t 11) (.c (.bool false)), []⟩,
 ⟨some 2, none, .mv (.t 12), []⟩])
 .ret))⟩
theorem F61_code : cfgA.code 61 = some F61 := by kernel_rfl

/-- (*ticketline/grow.Split).over -/
noncomputable def F63 : AFn := ⟨13, [.tmp 2], (.seq
 (.ops 0 [⟨some 2, none, .mv (.c (.bool false)), []⟩])
 (.seq
 (.ops 1 [⟨some 3, none, .mv (.t 0), []⟩,
 ⟨some 4, none, .call 64 [.t 3], []⟩,
 ⟨some 5, none, .un .not (.t 4), []⟩,
 ⟨some 6, none, .mv (.t 5), []⟩,
 ⟨some 7, some (6, true), .mv (.t 0), []⟩,
 ⟨some 8, some (6, true), .nilc (.t 7) (mok Tryz.prog), []⟩,
 ⟨some 9, some (6, true), .fld 393 (.t 8), []⟩,
 ⟨some 10, some (6, true), .ld 1 false (.t 9), []⟩,
 ⟨some 11, some (6, true), .bin .eql (.t 10) (.c (.int .i64 17)), []⟩,
 ⟨some 12, none, .pick (.t 6) (.t 11) (.c (.bool false)), []⟩,
 ⟨some 2, none, .mv (.t 12), []⟩])
 .ret))⟩
theorem F63_code : cfgA.code 63 = some F63 := by kernel_rfl

/-- (*ticketline/grow.Split).zero -/
noncomputable def F64 : AFn := ⟨12, [.tmp 2], (.seq
 (.ops 0 [⟨some 2, none, .mv (.c (.bool false)), []⟩])
 (.seq
 (.ops 1 [⟨some 3, none, .mv (.t 0), []⟩,
 ⟨some 4, none, .eqn .ptr false (.t 3), []⟩,
 ⟨some 5, none, .mv (.t 4), []⟩,
 ⟨some 6, some (5, false), .mv (.t 0), []⟩,
 ⟨some 7, some (5, false), .nilc (.t 6) (mok Tryz.prog), []⟩,
 ⟨some 8, some (5, false), .fld 393 (.t 7), []⟩,
 ⟨some 9, some (5, false), .ld 1 false (.t 8), []⟩,
 ⟨some 10, some (5, false), .bin .eql (.t 9) (.c (.int .i64 0)), []⟩,
 ⟨some 11, none, .pick (.t 5) (.c (.bool true)) (.t 10), []⟩,
 ⟨some 2, none, .mv (.t 11), []⟩])
 .ret))⟩
theorem F64_code : cfgA.code 64 = some F64 := by kernel_rfl

/-- (*ticketline/grow.Root).over -/
noncomputable def F66 : AFn := ⟨13, [.tmp 2], (.seq
 (.ops 0 [⟨some 2, none, .mv (.c (.bool false)), []⟩])
 (.seq
 (.ops 1 [⟨some 3, none, .mv (.t 0), []⟩,
 ⟨some 4, none, .call 67 [.t 3], []⟩,
 ⟨some 5, none, .un .not (.t 4), []⟩,
 ⟨some 6, none, .mv (.t 5), []⟩,
 ⟨some 7, some (6, true), .mv (.t 0), []⟩,
 ⟨some 8, some (6, true), .nilc (.t 7) (mok Tryz.prog), []⟩,
 ⟨some 9, some (6, true), .fld 393 (.t 8), []⟩,
 ⟨some 10, some (6, true), .ld 1 false (.t 9), []⟩,
 ⟨some 11, some (6, true), .bin .eql (.t 10) (.c (.int .i64 17)), []⟩,
 ⟨some 12, none, .pick (.t 6) (.t 11) (.c (.bool false)), []⟩,
 ⟨some 2, none, .mv (.t 12), []⟩])
 .ret))⟩
theorem F66_code : cfgA.code 66 = some F66 := by kernel_rfl

/-- (*ticketline/grow.Root).zero -/
noncomputable def F67 : AFn := ⟨12, [.tmp 2], (.seq
 (.ops 0 [⟨some 2, none, .mv (.c (.bool false)), []⟩])
 (.seq
 (.ops 1 [⟨some 3, none, .mv (.t 0), []⟩,
 ⟨some 4, none, .eqn .ptr false (.t 3), []⟩,
 ⟨some 5, none, .mv (.t 4), []⟩,
 ⟨some 6, some (5, false), .mv (.t 0), []⟩,
 ⟨some 7, some (5, false), .nilc (.t 6) (mok Tryz.prog), []⟩,
 ⟨some 8, some (5, false), .fld 393 (.t 7), []⟩,
 ⟨some 9, some (5, false), .ld 1 false (.t 8), []⟩,
 ⟨some 10, some (5, false), .bin .eql (.t 9) (.c (.int .i64 0)), []⟩,
 ⟨some 11, none, .pick (.t 5) (.c (.bool true)) (.t 10), []⟩,
 ⟨some 2, none, .mv (.t 11), []⟩])
 .ret))⟩
theorem F67_code : cfgA.code 67 = some F67 := by kernel_rfl

/-- (*ticketline/grow.Root).advance -/
noncomputable def F68 : AFn := ⟨76, [.tmp 2], (.seq
 (.ops 0 [⟨some 2, none, .mv (.c (.int .i64 0)), []⟩])
 (.seq
 (.seq
 (.ops 1 [⟨some 3, none, .mv (.t 0), []⟩,
 ⟨some 4, none, .nilc (.t 3) (mok Tryz.prog), []⟩,
 ⟨some 5, none, .fld 393 (.t 4), []⟩,
 ⟨some 6, none, .ld 1 false (.t 5), []⟩])
 (.block 0
 (.seq
 (.seq
 (.ops 3 [⟨some 11, none, .bin .eql (.t 6) (.c (.int .i64 8)), []⟩,
 ⟨some 10, none, .mv (.t 11), []⟩])
 (.cond (.t 10)
 .skip
 (.ops 4 [⟨some 12, none, .bin .eql (.t 6) (.c (.int .i64 9)), []⟩,
 ⟨some 10, none, .mv (.t 12), []⟩])))
 (.cond (.t 10)
 (.ops 5 [⟨some 13, none, .mv (.t 0), []⟩,
 ⟨some 14, none, .call 113 [.t 13], []⟩])
 (.seq
 (.ops 6 [⟨some 16, none, .bin .eql (.t 6) (.c (.int .i64 12)), []⟩,
 ⟨some 15, none, .mv (.t 16), []⟩])
 (.cond (.t 15)
 (.ops 7 [⟨some 17, none, .mv (.t 0), []⟩,
 ⟨some 18, none, .mv (.t 0), []⟩,
 ⟨some 19, none, .mv (.t 0), []⟩,
 ⟨some 20, none, .nilc (.t 19) (mok Tryz.prog), []⟩,
 ⟨some 21, none, .fld 0 (.t 20), []⟩,
 ⟨some 22, none, .ld 2 true (.t 21), []⟩,
 ⟨some 23, none, .mv (.t 0), []⟩,
 ⟨some 24, none, .nilc (.t 23) (mok Tryz.prog), []⟩,
 ⟨some 25, none, .fld 2 (.t 24), []⟩,
 ⟨some 26, none, .ld 1 false (.t 25), []⟩,
 ⟨some 27, none, .mv (.t 0), []⟩,
 ⟨some 28, none, .nilc (.t 27) (mok Tryz.prog), []⟩,
 ⟨some 29, none, .fld 395 (.t 28), []⟩,
 ⟨some 30, none, .ld 1 false (.t 29), []⟩,
 ⟨some 31, none, .call 109 [.t 22, .t 26, .t 30], []⟩,
 ⟨some 32, none, .nilc (.t 17) (mok Tryz.prog), []⟩,
 ⟨some 33, none, .fld 394 (.t 32), []⟩,
 ⟨none, none, .st 1 (.t 33) (.t 31), []⟩,
 ⟨some 34, none, .nilc (.t 18) (mok Tryz.prog), []⟩,
 ⟨some 35, none, .fld 393 (.t 34), []⟩,
 ⟨none, none, .st 1 (.t 35) (.c (.int .i64 11)), []⟩])
 (.seq
 (.ops 8 [⟨some 37, none, .bin .eql (.t 6) (.c (.int .i64 11)), []⟩,
 ⟨some 36, none, .mv (.t 37), []⟩])
 (.cond (.t 36)
 (.seq
 (.ops 9 [⟨some 38, none, .mv (.t 0), []⟩,
 ⟨some 39, none, .call 114 [.t 38], []⟩,
 ⟨some 2, none, .mv (.t 39), []⟩])
 .ret)
 (.seq
 (.ops 10 [⟨some 41, none, .bin .eql (.t 6) (.c (.int .i64 13)), []⟩,
 ⟨some 40, none, .mv (.t 41), []⟩])
 (.cond (.t 40)
 (.seq
 (.ops 11 [⟨some 42, none, .mv (.t 0), []⟩,
 ⟨some 43, none, .mv (.t 0), []⟩,
 ⟨some 44, none, .nilc (.t 43) (mok Tryz.prog), []⟩,
 ⟨some 45, none, .fld 133 (.t 44), []⟩,
 ⟨some 46, none, .ld 130 true (.t 45), []⟩,
 ⟨some 47, none, .call 115 [.t 42, .t 46, .c (.int .i64 14)], []⟩,
 ⟨some 2, none, .mv (.t 47), []⟩])
 .ret)
 (.seq
 (.ops 12 [⟨some 49, none, .bin .eql (.t 6) (.c (.int .i64 14)), []⟩,
 ⟨some 48, none, .mv (.t 49), []⟩])
 (.cond (.t 48)
 (.seq
 (.ops 13 [⟨some 50, none, .mv (.t 0), []⟩,
 ⟨some 51, none, .mv (.t 0), []⟩,
 ⟨some 52, none, .nilc (.t 51) (mok Tryz.prog), []⟩,
 ⟨some 53, none, .fld 3 (.t 52), []⟩,
 ⟨some 54, none, .ld 130 true (.t 53), []⟩,
 ⟨some 55, none, .call 115 [.t 50, .t 54, .c (.int .i64 15)], []⟩,
 ⟨some 2, none, .mv (.t 55), []⟩])
 .ret)
 (.seq
 (.ops 14 [⟨some 57, none, .bin .eql (.t 6) (.c (.int .i64 15)), []⟩,
 ⟨some 56, none, .mv (.t 57), []⟩])
 (.cond (.t 56)
 (.seq
 (.ops 15 [⟨some 59, none, .mv (.t 0), []⟩,
 ⟨some 60, none, .mv (.t 0), []⟩,
 ⟨some 61, none, .nilc (.t 60) (mok Tryz.prog), []⟩,
 ⟨some 62, none, .fld 396 (.t 61), []⟩,
 ⟨some 63, none, .ld 1 false (.t 62), []⟩,
 ⟨some 64, none, .cvi .u64 (.t 63), []⟩,
 ⟨some 65, none, .bslice [.int .u64 0] 1 1 [(0, (.t 64))] false false, []⟩,
 ⟨some 66, none, .call 116 [.c (.int .i64 11), .c (.int .i64 3), .t 65], []⟩,
 ⟨some 58, none, .mv (.t 66), []⟩,
 ⟨some 67, none, .ext (.t 58) 0, []⟩,
 ⟨some 68, none, .mki 169 (.t 67), []⟩,
 ⟨some 69, none, .ext (.t 58) 1, []⟩,
 ⟨some 70, none, .nilc (.t 59) (mok Tryz.prog), []⟩,
 ⟨some 71, none, .fld 394 (.t 70), []⟩,
 ⟨none, none, .st 1 (.t 71) (.t 68), []⟩,
 ⟨some 2, none, .mv (.t 69), []⟩])
 (.seq
 (.ops 16 [⟨some 72, none, .mv (.t 0), []⟩,
 ⟨some 73, none, .nilc (.t 72) (mok Tryz.prog), []⟩,
 ⟨some 74, none, .fld 393 (.t 73), []⟩,
 ⟨none, none, .st 1 (.t 74) (.c (.int .i64 16)), []⟩])
 (.seq
 (.ops 17 [⟨some 75, none, .mv (.t 2), []⟩,
 ⟨some 2, none, .mv (.t 75), []⟩])
 .ret)))
 (.ops 2 [⟨some 7, none, .mv (.t 0), []⟩,
 ⟨some 8, none, .nilc (.t 7) (mok Tryz.prog), []⟩,
 ⟨some 9, none, .fld 393 (.t 8), []⟩,
 ⟨none, none, .st 1 (.t 9) (.c (.int .i64 17)), []⟩])))))))))))))))
 (.seq
 (.ops 18 [⟨some 2, none, .mv (.c (.int .i64 0)), []⟩])
 .ret)))⟩
theorem F68_code : cfgA.code 68 = some F68 := by kernel_rfl

/-- ticketline/ticketlinelaw29.given -/
noncomputable def F69 : AFn := ⟨2, [.cell 0 2 true], (.seq
 (.ops 0 [⟨some 0, none, .alloc [.int .i64 0, .int .i64 0] false, []⟩])
 (.seq
 (.ops 1 [⟨some 1, none, .build [.int .i64 0, .int .i64 0] [(0, 1, (.c (.int .i64 4))), (1, 1, (.c (.int .i64 2)))], []⟩,
 ⟨none, none, .st 2 (.t 0) (.t 1), []⟩])
 .ret))⟩
theorem F69_code : cfgA.code 69 = some F69 := by kernel_rfl

/-- ticketline/ticketlinelaw29.taken -/
noncomputable def F70 : AFn := ⟨35, [.tmp 6], (.seq
 (.ops 0 [⟨some 3, none, .box 2 (.t 0) false, []⟩,
 ⟨some 6, none, .mv (.c (.int .i64 0)), []⟩])
 (.seq
 (.ops 1 [⟨some 12, none, .ld 2 true (.t 3), []⟩,
 ⟨some 13, none, .mv (.t 2), []⟩,
 ⟨some 14, none, .call 82 [.t 12, .t 13], []⟩,
 ⟨some 11, none, .mv (.t 14), []⟩,
 ⟨some 15, none, .ext (.t 11) 0, []⟩,
 ⟨some 16, none, .ext (.t 11) 1, []⟩,
 ⟨some 7, none, .mv (.t 15), []⟩,
 ⟨some 8, none, .mv (.t 16), []⟩])
 (.seq
 (.seq
 (.ops 2 [⟨some 17, none, .mv (.t 7), []⟩,
 ⟨some 18, none, .eqn .ptr false (.t 17), []⟩,
 ⟨some 19, none, .mv (.t 18), []⟩,
 ⟨some 20, some (19, false), .mv (.t 8), []⟩,
 ⟨some 21, some (19, false), .bin .neq (.t 20) (.c (.int .i64 0)), []⟩,
 ⟨some 22, none, .pick (.t 19) (.c (.bool true)) (.t 21), []⟩])
 (.cond (.t 22)
 (.seq
 (.ops 3 [⟨some 6, none, .mv (.c (.int .i64 (-1))), []⟩])
 .ret)
 .skip))
 (.seq
 (.seq
 (.ops 4 [⟨some 24, none, .mv (.t 7), []⟩,
 ⟨some 25, none, .mki 60 (.t 24), []⟩,
 ⟨some 26, none, .mv (.t 1), []⟩,
 ⟨some 27, none, .call 75 [.t 25, .t 26, .c (.int .i64 200)], []⟩,
 ⟨some 23, none, .mv (.t 27), []⟩,
 ⟨some 28, none, .ext (.t 23) 0, []⟩,
 ⟨some 29, none, .ext (.t 23) 1, []⟩,
 ⟨some 9, none, .mv (.t 28), []⟩,
 ⟨some 10, none, .mv (.t 29), []⟩])
 (.seq
 (.ops 5 [⟨some 30, none, .mv (.t 9), []⟩,
 ⟨some 31, none, .un .not (.t 30), []⟩])
 (.cond (.t 31)
 (.seq
 (.ops 6 [⟨some 6, none, .mv (.c (.int .i64 (-1))), []⟩])
 .ret)
 .skip)))
 (.seq
 (.ops 7 [⟨some 32, none, .mv (.t 7), []⟩,
 ⟨some 33, none, .call 24 [.t 32], []⟩,
 ⟨some 34, none, .cvi .i64 (.t 33), []⟩,
 ⟨some 6, none, .mv (.t 34), []⟩])
 .ret)))))⟩
theorem F70_code : cfgA.code 70 = some F70 := by kernel_rfl

/-- ticketline/ticketlinelaw29.leafOf: the round 0 -/
noncomputable def B71x0 : AC := (.seq
 (.seq
 (.ops 4 [⟨some 21, none, .mv (.t 8), []⟩,
 ⟨some 22, none, .mv (.t 6), []⟩,
 ⟨some 23, none, .len .slice (.t 22), []⟩,
 ⟨some 24, none, .bin .lss (.t 21) (.t 23), []⟩,
 ⟨some 25, none, .mv (.t 24), []⟩,
 ⟨some 26, some (25, true), .mv (.t 8), []⟩,
 ⟨some 27, some (25, true), .bin .lss (.t 26) (.c (.int .i64 128)), []⟩,
 ⟨some 28, none, .pick (.t 25) (.t 27) (.c (.bool false)), []⟩,
 ⟨some 29, none, .mv (.t 28), []⟩,
 ⟨some 30, some (29, true), .mv (.t 7), []⟩,
 ⟨some 31, some (29, true), .bin .eql (.t 30) (.c (.int .i64 0)), []⟩,
 ⟨some 32, none, .pick (.t 29) (.t 31) (.c (.bool false)), []⟩])
 (.cond (.t 32)
 .skip
 (.exit 0)))
 (.seq
 (.block 1
 (.ops 6 [⟨some 35, none, .mv (.t 8), []⟩,
 ⟨some 36, none, .mv (.t 6), []⟩,
 ⟨some 37, none, .mv (.t 8), []⟩,
 ⟨some 38, none, .ixa none 1 (.t 36) (.t 37), []⟩,
 ⟨some 39, none, .ld 1 false (.t 38), []⟩,
 ⟨some 40, none, .fld 1 (.t 5), []⟩,
 ⟨some 41, none, .ixa (some 128) 1 (.t 40) (.t 35), []⟩,
 ⟨none, none, .st 1 (.t 41) (.t 39), []⟩]))
 (.ops 5 [⟨some 33, none, .mv (.t 8), []⟩,
 ⟨some 34, none, .bin .add (.t 33) (.c (.int .i64 1)), []⟩,
 ⟨some 8, none, .mv (.t 34), []⟩])))
/-- ticketline/ticketlinelaw29.leafOf -/
noncomputable def F71 : AFn := ⟨43, [.cell 4 130 true], (.seq
 (.ops 0 [⟨some 4, none, .alloc [.int .i64 0, .int .u64 0, .int .u64 0, .int .u64 0, .int .u64 0, .int .u64 0, .int .u64 0, .int .u64 0, .int .u64 0, .int .u64 0, .int .u64 0, .int .u64 0, .int .u64 0, .int .u64 0, .int .u64 0, .int .u64 0, .int .u64 0, .int .u64 0, .int .u64 0, .int .u64 0, .int .u64 0, .int .u64 0, .int .u64 0, .int .u64 0, .int .u64 0, .int .u64 0, .int .u64 0, .int .u64 0, .int .u64 0, .int .u64 0, .int .u64 0, .int .u64 0, .int .u64 0, .int .u64 0, .int .u64 0, .int .u64 0, .int .u64 0, .int .u64 0, .int .u64 0, .int .u64 0, .int .u64 0, .int .u64 0, .int .u64 0, .int .u64 0, .int .u64 0, .int .u64 0, .int .u64 0, .int .u64 0, .int .u64 0, .int .u64 0, .int .u64 0, .int .u64 0, .int .u64 0, .int .u64 0, .int .u64 0, .int .u64 0, .int .u64 0, .int .u64 0, .int .u64 0, .int .u64 0, .int .u64 0, .int .u64 0, .int .u64 0, .int .u64 0, .int .u64 0, .int .u64 0, .int .u64 0, .int .u64 0, .int .u64 0, .int .u64 0, .int .u64 0, .int .u64 0, .int .u64 0, .int .u64 0, .int .u64 0, .int .u64 0, .int .u64 0, .int .u64 0, .int .u64 0, .int .u64 0, .int .u64 0, .int .u64 0, .int .u64 0, .int .u64 0, .int .u64 0, .int .u64 0, .int .u64 0, .int .u64 0, .int .u64 0, .int .u64 0, .int .u64 0, .int .u64 0, .int .u64 0, .int .u64 0, .int .u64 0, .int .u64 0, .int .u64 0, .int .u64 0, .int .u64 0, .int .u64 0, .int .u64 0, .int .u64 0, .int .u64 0, .int .u64 0, .int .u64 0, .int .u64 0, .int .u64 0, .int .u64 0, .int .u64 0, .int .u64 0, .int .u64 0, .int .u64 0, .int .u64 0, .int .u64 0, .int .u64 0, .int .u64 0, .int .u64 0, .int .u64 0, .int .u64 0, .int .u64 0, .int .u64 0, .int .u64 0, .int .u64 0, .int .u64 0, .int .u64 0, .int .u64 0, .int .u64 0, .int .u64 0, .int .u64 0, .int .u64 0] false, []⟩])
 (.seq
 (.ops 1 [⟨some 9, none, .mv (.t 1), []⟩,
 ⟨some 10, none, .build [.int .i64 0, .int .u64 0, .int .u64 0, .int .u64 0, .int .u64 0, .int .u64 0, .int .u64 0, .int .u64 0, .int .u64 0, .int .u64 0, .int .u64 0, .int .u64 0, .int .u64 0, .int .u64 0, .int .u64 0, .int .u64 0, .int .u64 0, .int .u64 0, .int .u64 0, .int .u64 0, .int .u64 0, .int .u64 0, .int .u64 0, .int .u64 0, .int .u64 0, .int .u64 0, .int .u64 0, .int .u64 0, .int .u64 0, .int .u64 0, .int .u64 0, .int .u64 0, .int .u64 0, .int .u64 0, .int .u64 0, .int .u64 0, .int .u64 0, .int .u64 0, .int .u64 0, .int .u64 0, .int .u64 0, .int .u64 0, .int .u64 0, .int .u64 0, .int .u64 0, .int .u64 0, .int .u64 0, .int .u64 0, .int .u64 0, .int .u64 0, .int .u64 0, .int .u64 0, .int .u64 0, .int .u64 0, .int .u64 0, .int .u64 0, .int .u64 0, .int .u64 0, .int .u64 0, .int .u64 0, .int .u64 0, .int .u64 0, .int .u64 0, .int .u64 0, .int .u64 0, .int .u64 0, .int .u64 0, .int .u64 0, .int .u64 0, .int .u64 0, .int .u64 0, .int .u64 0, .int .u64 0, .int .u64 0, .int .u64 0, .int .u64 0, .int .u64 0, .int .u64 0, .int .u64 0, .int .u64 0, .int .u64 0, .int .u64 0, .int .u64 0, .int .u64 0, .int .u64 0, .int .u64 0, .int .u64 0, .int .u64 0, .int .u64 0, .int .u64 0, .int .u64 0, .int .u64 0, .int .u64 0, .int .u64 0, .int .u64 0, .int .u64 0, .int .u64 0, .int .u64 0, .int .u64 0, .int .u64 0, .int .u64 0, .int .u64 0, .int .u64 0, .int .u64 0, .int .u64 0, .int .u64 0, .int .u64 0, .int .u64 0, .int .u64 0, .int .u64 0, .int .u64 0, .int .u64 0, .int .u64 0, .int .u64 0, .int .u64 0, .int .u64 0, .int .u64 0, .int .u64 0, .int .u64 0, .int .u64 0, .int .u64 0, .int .u64 0, .int .u64 0, .int .u64 0, .int .u64 0, .int .u64 0, .int .u64 0, .int .u64 0, .int .u64 0, .int .u64 0] [(0, 1, (.t 9))], []⟩,
 ⟨some 5, none, .alloc [.int .i64 0, .int .u64 0, .int .u64 0, .int .u64 0, .int .u64 0, .int .u64 0, .int .u64 0, .int .u64 0, .int .u64 0, .int .u64 0, .int .u64 0, .int .u64 0, .int .u64 0, .int .u64 0, .int .u64 0, .int .u64 0, .int .u64 0, .int .u64 0, .int .u64 0, .int .u64 0, .int .u64 0, .int .u64 0, .int .u64 0, .int .u64 0, .int .u64 0, .int .u64 0, .int .u64 0, .int .u64 0, .int .u64 0, .int .u64 0, .int .u64 0, .int .u64 0, .int .u64 0, .int .u64 0, .int .u64 0, .int .u64 0, .int .u64 0, .int .u64 0, .int .u64 0, .int .u64 0, .int .u64 0, .int .u64 0, .int .u64 0, .int .u64 0, .int .u64 0, .int .u64 0, .int .u64 0, .int .u64 0, .int .u64 0, .int .u64 0, .int .u64 0, .int .u64 0, .int .u64 0, .int .u64 0, .int .u64 0, .int .u64 0, .int .u64 0, .int .u64 0, .int .u64 0, .int .u64 0, .int .u64 0, .int .u64 0, .int .u64 0, .int .u64 0, .int .u64 0, .int .u64 0, .int .u64 0, .int .u64 0, .int .u64 0, .int .u64 0, .int .u64 0, .int .u64 0, .int .u64 0, .int .u64 0, .int .u64 0, .int .u64 0, .int .u64 0, .int .u64 0, .int .u64 0, .int .u64 0, .int .u64 0, .int .u64 0, .int .u64 0, .int .u64 0, .int .u64 0, .int .u64 0, .int .u64 0, .int .u64 0, .int .u64 0, .int .u64 0, .int .u64 0, .int .u64 0, .int .u64 0, .int .u64 0, .int .u64 0, .int .u64 0, .int .u64 0, .int .u64 0, .int .u64 0, .int .u64 0, .int .u64 0, .int .u64 0, .int .u64 0, .int .u64 0, .int .u64 0, .int .u64 0, .int .u64 0, .int .u64 0, .int .u64 0, .int .u64 0, .int .u64 0, .int .u64 0, .int .u64 0, .int .u64 0, .int .u64 0, .int .u64 0, .int .u64 0, .int .u64 0, .int .u64 0, .int .u64 0, .int .u64 0, .int .u64 0, .int .u64 0, .int .u64 0, .int .u64 0, .int .u64 0, .int .u64 0, .int .u64 0, .int .u64 0, .int .u64 0] false, []⟩,
 ⟨none, none, .st 130 (.t 5) (.t 10), []⟩])
 (.seq
 (.ops 2 [⟨some 12, none, .mv (.t 0), []⟩,
 ⟨some 13, none, .mv (.t 1), []⟩,
 ⟨some 14, none, .call 118 [.t 13], []⟩,
 ⟨some 15, none, .mv (.t 1), []⟩,
 ⟨some 16, none, .call 118 [.t 15], []⟩,
 ⟨some 17, none, .bin .add (.t 16) (.c (.int .i64 128)), []⟩,
 ⟨some 18, none, .call 117 [.t 12, .t 14, .t 17], []⟩,
 ⟨some 11, none, .mv (.t 18), []⟩,
 ⟨some 19, none, .ext (.t 11) 0, []⟩,
 ⟨some 20, none, .ext (.t 11) 1, []⟩,
 ⟨some 6, none, .mv (.t 19), []⟩,
 ⟨some 7, none, .mv (.t 20), []⟩])
 (.seq
 (.seq
 (.ops 3 [⟨some 8, none, .mv (.c (.int .i64 8)), []⟩])
 (.block 0
 (.loop [] B71x0)))
 (.seq
 (.ops 7 [⟨some 42, none, .ld 130 true (.t 5), []⟩,
 ⟨none, none, .st 130 (.t 4) (.t 42), []⟩])
 .ret)))))⟩
theorem F71_code : cfgA.code 71 = some F71 := by kernel_rfl

/-- ticketline/page.Put -/
noncomputable def F72 : AFn := ⟨109, [.cell 6 128 true, .tmp 7], (.seq
 (.ops 0 [⟨some 3, none, .box 128 (.t 0) false, []⟩,
 ⟨some 6, none, .alloc (List.replicate 128 (.int .u64 0)) false, []⟩,
 ⟨some 7, none, .mv (.c (.int .i64 0)), []⟩])
 (.seq
 (.ops 1 [⟨some 18, none, .ld 128 true (.t 3), []⟩,
 ⟨some 19, none, .mv (.t 1), []⟩,
 ⟨some 20, none, .mv (.t 2), []⟩,
 ⟨some 21, none, .call 119 [.t 18, .t 19, .t 20], []⟩,
 ⟨some 17, none, .mv (.t 21), []⟩,
 ⟨some 22, none, .ext (.t 17) 0, []⟩,
 ⟨some 23, none, .ext (.t 17) 1, []⟩,
 ⟨some 24, none, .ext (.t 17) 2, []⟩,
 ⟨some 8, none, .mv (.t 22), []⟩,
 ⟨some 9, none, .mv (.t 23), []⟩,
 ⟨some 10, none, .mv (.t 24), []⟩])
 (.seq
 (.seq
 (.ops 2 [⟨some 25, none, .mv (.t 10), []⟩,
 ⟨some 26, none, .bin .neq (.t 25) (.c (.int .i64 0)), []⟩])
 (.cond (.t 26)
 (.seq
 (.ops 3 [⟨some 27, none, .build (List.replicate 128 (.int .u64 0)) [], []⟩,
 ⟨some 28, none, .mv (.t 10), []⟩,
 ⟨none, none, .st 128 (.t 6) (.t 27), []⟩,
 ⟨some 7, none, .mv (.t 28), []⟩])
 .ret)
 .skip))
 (.seq
 (.seq
 (.ops 4 [⟨some 29, none, .mv (.t 9), []⟩,
 ⟨some 30, none, .un .not (.t 29), []⟩])
 (.cond (.t 30)
 (.seq
 (.ops 5 [⟨some 31, none, .ld 128 true (.t 3), []⟩,
 ⟨some 32, none, .mv (.t 1), []⟩,
 ⟨some 33, none, .mv (.t 2), []⟩,
 ⟨some 34, none, .call 120 [.t 31, .t 32, .t 33], []⟩,
 ⟨some 35, none, .ext (.t 34) 0, []⟩,
 ⟨some 36, none, .ext (.t 34) 1, []⟩,
 ⟨none, none, .st 128 (.t 6) (.t 35), []⟩,
 ⟨some 7, none, .mv (.t 36), []⟩])
 .ret)
 .skip))
 (.seq
 (.ops 6 [⟨some 38, none, .ld 128 true (.t 3), []⟩,
 ⟨some 39, none, .mv (.t 8), []⟩,
 ⟨some 40, none, .call 121 [.t 38, .t 39], []⟩,
 ⟨some 37, none, .mv (.t 40), []⟩,
 ⟨some 41, none, .ext (.t 37) 0, []⟩,
 ⟨some 42, none, .ext (.t 37) 1, []⟩,
 ⟨some 11, none, .mv (.t 41), []⟩,
 ⟨some 10, none, .mv (.t 42), []⟩])
 (.seq
 (.seq
 (.ops 7 [⟨some 43, none, .mv (.t 10), []⟩,
 ⟨some 44, none, .bin .neq (.t 43) (.c (.int .i64 0)), []⟩])
 (.cond (.t 44)
 (.seq
 (.ops 8 [⟨some 45, none, .build (List.replicate 128 (.int .u64 0)) [], []⟩,
 ⟨some 46, none, .mv (.t 10), []⟩,
 ⟨none, none, .st 128 (.t 6) (.t 45), []⟩,
 ⟨some 7, none, .mv (.t 46), []⟩])
 .ret)
 .skip))
 (.seq
 (.seq
 (.ops 9 [⟨some 47, none, .ld 128 true (.t 3), []⟩,
 ⟨some 48, none, .mv (.t 1), []⟩,
 ⟨some 49, none, .mv (.t 2), []⟩,
 ⟨some 50, none, .mv (.t 1), []⟩,
 ⟨some 51, none, .mv (.t 11), []⟩,
 ⟨some 52, none, .call 123 [.t 50, .t 51], [(47, .ld 128 true (.t 3))]⟩,
 ⟨some 53, none, .call 122 [.t 47, .t 48, .t 49, .t 52], []⟩,
 ⟨some 12, none, .mv (.t 53), []⟩])
 (.seq
 (.ops 10 [⟨some 54, none, .mv (.t 12), []⟩,
 ⟨some 55, none, .bin .neq (.t 54) (.c (.int .i64 0)), []⟩])
 (.cond (.t 55)
 (.seq
 (.ops 11 [⟨some 56, none, .build (List.replicate 128 (.int .u64 0)) [], []⟩,
 ⟨some 57, none, .mv (.t 12), []⟩,
 ⟨none, none, .st 128 (.t 6) (.t 56), []⟩,
 ⟨some 7, none, .mv (.t 57), []⟩])
 .ret)
 .skip)))
 (.seq
 (.seq
 (.ops 12 [⟨some 58, none, .mv (.t 11), []⟩,
 ⟨some 59, none, .len .string (.t 58), []⟩,
 ⟨some 60, none, .call 124 [.t 59], []⟩,
 ⟨some 61, none, .mv (.t 2), []⟩,
 ⟨some 62, none, .len .string (.t 61), []⟩,
 ⟨some 63, none, .call 124 [.t 62], []⟩,
 ⟨some 64, none, .bin .eql (.t 60) (.t 63), []⟩])
 (.cond (.t 64)
 (.seq
 (.ops 13 [⟨some 66, none, .mv (.t 2), []⟩,
 ⟨some 67, none, .call 125 [.t 66], []⟩,
 ⟨some 65, none, .mv (.t 67), []⟩,
 ⟨some 68, none, .ext (.t 65) 0, []⟩,
 ⟨some 69, none, .ext (.t 65) 1, []⟩,
 ⟨some 13, none, .mv (.t 68), []⟩,
 ⟨some 14, none, .mv (.t 69), []⟩])
 (.seq
 (.seq
 (.ops 14 [⟨some 70, none, .mv (.t 14), []⟩,
 ⟨some 71, none, .bin .neq (.t 70) (.c (.int .i64 0)), []⟩])
 (.cond (.t 71)
 (.seq
 (.ops 15 [⟨some 72, none, .build (List.replicate 128 (.int .u64 0)) [], []⟩,
 ⟨some 73, none, .mv (.t 14), []⟩,
 ⟨none, none, .st 128 (.t 6) (.t 72), []⟩,
 ⟨some 7, none, .mv (.t 73), []⟩])
 .ret)
 .skip))
 (.seq
 (.ops 16 [⟨some 74, none, .mv (.t 8), []⟩,
 ⟨some 75, none, .bin .add (.c (.int .i64 20)) (.t 74), []⟩,
 ⟨some 76, none, .ixa (some 128) 1 (.t 3) (.t 75), []⟩,
 ⟨some 77, none, .ld 1 false (.t 76), []⟩,
 ⟨some 15, none, .mv (.t 77), []⟩])
 (.seq
 (.ops 17 [⟨some 78, none, .mv (.t 15), []⟩,
 ⟨some 79, none, .bin .shr (.t 78) (.c (.int .u64 16)), []⟩,
 ⟨some 80, none, .cvi .i64 (.t 79), []⟩,
 ⟨some 81, none, .mv (.t 1), []⟩,
 ⟨some 82, none, .len .string (.t 81), []⟩,
 ⟨some 83, none, .call 124 [.t 82], []⟩,
 ⟨some 84, none, .bin .add (.t 80) (.t 83), []⟩,
 ⟨some 85, none, .slc (some 128) 1 (.t 3) (some (.t 84)) none, []⟩,
 ⟨some 86, none, .mv (.t 13), []⟩,
 ⟨some 87, none, .cpy 1 (.t 85) (.t 86), []⟩])
 (.seq
 (.ops 18 [⟨some 88, none, .mv (.t 8), []⟩,
 ⟨some 89, none, .bin .add (.c (.int .i64 20)) (.t 88), []⟩,
 ⟨some 90, none, .mv (.t 15), []⟩,
 ⟨some 91, none, .bin .andNot (.t 90) (.c (.int .u64 255)), []⟩,
 ⟨some 92, none, .mv (.t 2), []⟩,
 ⟨some 93, none, .len .string (.t 92), []⟩,
 ⟨some 94, none, .cvi .u64 (.t 93), []⟩,
 ⟨some 95, none, .bin .or (.t 91) (.t 94), []⟩,
 ⟨some 96, none, .ixa (some 128) 1 (.t 3) (.t 89), []⟩,
 ⟨none, none, .st 1 (.t 96) (.t 95), []⟩])
 (.seq
 (.ops 19 [⟨some 97, none, .ld 128 true (.t 3), []⟩,
 ⟨none, none, .st 128 (.t 6) (.t 97), []⟩,
 ⟨some 7, none, .mv (.c (.int .i64 0)), []⟩])
 .ret))))))
 .skip))
 (.seq
 (.ops 20 [⟨some 98, none, .mv (.t 8), []⟩,
 ⟨some 99, none, .call 126 [.t 3, .t 98], []⟩])
 (.seq
 (.seq
 (.ops 21 [⟨some 100, none, .mv (.t 8), []⟩,
 ⟨some 101, none, .mv (.t 1), []⟩,
 ⟨some 102, none, .mv (.t 2), []⟩,
 ⟨some 103, none, .call 127 [.t 3, .t 100, .t 101, .t 102], []⟩,
 ⟨some 16, none, .mv (.t 103), []⟩])
 (.seq
 (.ops 22 [⟨some 104, none, .mv (.t 16), []⟩,
 ⟨some 105, none, .bin .neq (.t 104) (.c (.int .i64 0)), []⟩])
 (.cond (.t 105)
 (.seq
 (.ops 23 [⟨some 106, none, .build (List.replicate 128 (.int .u64 0)) [], []⟩,
 ⟨some 107, none, .mv (.t 16), []⟩,
 ⟨none, none, .st 128 (.t 6) (.t 106), []⟩,
 ⟨some 7, none, .mv (.t 107), []⟩])
 .ret)
 .skip)))
 (.seq
 (.ops 24 [⟨some 108, none, .ld 128 true (.t 3), []⟩,
 ⟨none, none, .st 128 (.t 6) (.t 108), []⟩,
 ⟨some 7, none, .mv (.c (.int .i64 0)), []⟩])
 .ret)))))))))))⟩
theorem F72_code : cfgA.code 72 = some F72 := by kernel_rfl

/-- ticketline/couple.NewWrite -/
noncomputable def F73 : AFn := ⟨31, [.tmp 6, .tmp 7], (.seq
 (.ops 0 [⟨some 3, none, .box 2 (.t 0) false, []⟩,
 ⟨some 5, none, .box 128 (.t 2) false, []⟩,
 ⟨some 6, none, .mv (.c (.nili)), []⟩,
 ⟨some 7, none, .mv (.c (.int .i64 0)), []⟩])
 (.seq
 (.ops 1 [⟨some 11, none, .ld 2 true (.t 3), []⟩,
 ⟨some 12, none, .mv (.t 1), []⟩,
 ⟨some 13, none, .call 128 [.t 11, .t 12], []⟩,
 ⟨some 10, none, .mv (.t 13), []⟩,
 ⟨some 14, none, .ext (.t 10) 0, []⟩,
 ⟨some 15, none, .ext (.t 10) 1, []⟩,
 ⟨some 8, none, .mv (.t 14), []⟩,
 ⟨some 9, none, .mv (.t 15), []⟩])
 (.seq
 (.seq
 (.ops 2 [⟨some 16, none, .mv (.t 9), []⟩,
 ⟨some 17, none, .bin .neq (.t 16) (.c (.int .i64 0)), []⟩,
 ⟨some 18, none, .mv (.t 17), []⟩,
 ⟨some 19, some (18, false), .mv (.t 1), []⟩,
 ⟨some 20, some (18, false), .bin .eql (.t 19) (.c (.int .i64 0)), []⟩,
 ⟨some 21, none, .pick (.t 18) (.c (.bool true)) (.t 20), []⟩])
 (.cond (.t 21)
 (.seq
 (.ops 3 [⟨some 6, none, .mv (.c (.nili)), []⟩,
 ⟨some 7, none, .mv (.c (.int .i64 2)), []⟩])
 .ret)
 .skip))
 (.seq
 (.ops 4 [⟨some 22, none, .mv (.t 8), []⟩,
 ⟨some 23, none, .mv (.t 8), []⟩,
 ⟨some 24, none, .bin .sub (.t 23) (.c (.int .i64 3)), []⟩,
 ⟨some 25, none, .bin .add (.t 24) (.c (.int .i64 8)), []⟩,
 ⟨some 26, none, .slc (some 128) 1 (.t 5) (some (.c (.int .i64 8))) none, []⟩,
 ⟨some 27, none, .call 116 [.t 22, .t 25, .t 26], []⟩,
 ⟨some 28, none, .ext (.t 27) 0, []⟩,
 ⟨some 29, none, .ext (.t 27) 1, []⟩,
 ⟨some 30, none, .mki 169 (.t 28), []⟩,
 ⟨some 6, none, .mv (.t 30), []⟩,
 ⟨some 7, none, .mv (.t 29), []⟩])
 .ret))))⟩
theorem F73_code : cfgA.code 73 = some F73 := by kernel_rfl

/-- ticketline/ticketlinelaw29.holds: the round 0 -/
noncomputable def B74x0 : AC := (.seq
 (.seq
 (.ops 5 [⟨some 29, none, .mv (.t 11), []⟩,
 ⟨some 30, none, .mv (.t 3), []⟩,
 ⟨some 31, none, .len .slice (.t 30), []⟩,
 ⟨some 32, none, .bin .lss (.t 29) (.t 31), []⟩])
 (.cond (.t 32)
 .skip
 (.exit 0)))
 (.seq
 (.block 1
 (.seq
 (.ops 7 [⟨some 36, none, .ld 2 true (.t 4), []⟩,
 ⟨some 37, none, .mv (.t 3), []⟩,
 ⟨some 38, none, .mv (.t 11), []⟩,
 ⟨some 39, none, .ixa none 1 (.t 37) (.t 38), []⟩,
 ⟨some 40, none, .ld 1 false (.t 39), []⟩,
 ⟨some 41, none, .call 103 [.t 36, .t 40], []⟩,
 ⟨some 35, none, .mv (.t 41), []⟩,
 ⟨some 42, none, .ext (.t 35) 0, []⟩,
 ⟨some 43, none, .ext (.t 35) 1, []⟩,
 ⟨some 12, none, .mv (.t 42), []⟩,
 ⟨some 13, none, .mv (.t 43), []⟩])
 (.seq
 (.ops 8 [⟨some 45, none, .mv (.t 9), []⟩,
 ⟨some 46, none, .mv (.t 12), []⟩,
 ⟨some 47, none, .mv (.t 2), []⟩,
 ⟨some 48, none, .call 129 [.t 45, .t 46, .t 47, .c (.int .i64 3)], []⟩,
 ⟨some 44, none, .mv (.t 48), []⟩,
 ⟨some 49, none, .ext (.t 44) 0, []⟩,
 ⟨some 50, none, .ext (.t 44) 1, []⟩,
 ⟨some 14, none, .mv (.t 49), []⟩,
 ⟨some 15, none, .mv (.t 50), []⟩])
 (.seq
 (.seq
 (.ops 9 [⟨some 51, none, .mv (.t 14), []⟩,
 ⟨some 52, none, .eqn .ptr false (.t 51), []⟩,
 ⟨some 53, none, .mv (.t 52), []⟩,
 ⟨some 54, some (53, false), .mv (.t 13), []⟩,
 ⟨some 55, some (53, false), .bin .neq (.t 54) (.c (.int .i64 0)), []⟩,
 ⟨some 56, none, .pick (.t 53) (.c (.bool true)) (.t 55), []⟩,
 ⟨some 57, none, .mv (.t 56), []⟩,
 ⟨some 58, some (57, false), .mv (.t 15), []⟩,
 ⟨some 59, some (57, false), .bin .neq (.t 58) (.c (.int .i64 0)), []⟩,
 ⟨some 60, none, .pick (.t 57) (.c (.bool true)) (.t 59), []⟩])
 (.cond (.t 60)
 (.seq
 (.ops 10 [⟨some 8, none, .mv (.c (.bool false)), []⟩])
 .ret)
 .skip))
 (.seq
 (.ops 11 [⟨some 62, none, .mv (.t 14), []⟩,
 ⟨some 63, none, .mki 186 (.t 62), []⟩,
 ⟨some 64, none, .mv (.t 1), []⟩,
 ⟨some 65, none, .call 75 [.t 63, .t 64, .c (.int .i64 100)], []⟩,
 ⟨some 61, none, .mv (.t 65), []⟩,
 ⟨some 66, none, .ext (.t 61) 0, []⟩,
 ⟨some 67, none, .ext (.t 61) 1, []⟩,
 ⟨some 16, none, .mv (.t 66), []⟩,
 ⟨some 17, none, .mv (.t 67), []⟩])
 (.seq
 (.ops 12 [⟨some 68, none, .mv (.t 16), []⟩,
 ⟨some 69, none, .un .not (.t 68), []⟩,
 ⟨some 70, none, .mv (.t 69), []⟩,
 ⟨some 71, some (70, false), .mv (.t 14), []⟩,
 ⟨some 72, some (70, false), .call 130 [.t 71], []⟩,
 ⟨some 73, some (70, false), .bin .neq (.t 72) (.c (.int .u64 1)), []⟩,
 ⟨some 74, none, .pick (.t 70) (.c (.bool true)) (.t 73), []⟩])
 (.cond (.t 74)
 (.seq
 (.ops 13 [⟨some 8, none, .mv (.c (.bool false)), []⟩])
 .ret)
 .skip)))))))
 (.ops 6 [⟨some 33, none, .mv (.t 11), []⟩,
 ⟨some 34, none, .bin .add (.t 33) (.c (.int .i64 1)), []⟩,
 ⟨some 11, none, .mv (.t 34), []⟩])))
/-- ticketline/ticketlinelaw29.holds -/
noncomputable def F74 : AFn := ⟨75, [.tmp 8], (.seq
 (.ops 0 [⟨some 4, none, .box 2 (.t 0) false, []⟩,
 ⟨some 8, none, .mv (.c (.bool false)), []⟩])
 (.seq
 (.ops 1 [⟨some 19, none, .ld 2 true (.t 4), []⟩,
 ⟨some 20, none, .call 102 [.t 19], []⟩,
 ⟨some 18, none, .mv (.t 20), []⟩,
 ⟨some 21, none, .ext (.t 18) 0, []⟩,
 ⟨some 22, none, .ext (.t 18) 1, []⟩,
 ⟨some 9, none, .mv (.t 21), []⟩,
 ⟨some 10, none, .mv (.t 22), []⟩])
 (.seq
 (.seq
 (.ops 2 [⟨some 23, none, .mv (.t 9), []⟩,
 ⟨some 24, none, .eqn .ptr false (.t 23), []⟩,
 ⟨some 25, none, .mv (.t 24), []⟩,
 ⟨some 26, some (25, false), .mv (.t 10), []⟩,
 ⟨some 27, some (25, false), .bin .neq (.t 26) (.c (.int .i64 0)), []⟩,
 ⟨some 28, none, .pick (.t 25) (.c (.bool true)) (.t 27), []⟩])
 (.cond (.t 28)
 (.seq
 (.ops 3 [⟨some 8, none, .mv (.c (.bool false)), []⟩])
 .ret)
 .skip))
 (.seq
 (.seq
 (.ops 4 [⟨some 11, none, .mv (.c (.int .i64 0)), []⟩])
 (.block 0
 (.loop [] B74x0)))
 (.seq
 (.ops 14 [⟨some 8, none, .mv (.c (.bool true)), []⟩])
 .ret)))))⟩
theorem F74_code : cfgA.code 74 = some F74 := by kernel_rfl

/-- ticketline/ticketlinelaw29.run: the round 0 -/
noncomputable def B75x0 : AC := (.seq
 (.seq
 (.ops 2 [⟨some 11, none, .mv (.t 8), []⟩,
 ⟨some 12, none, .mv (.t 2), []⟩,
 ⟨some 13, none, .bin .lss (.t 11) (.t 12), []⟩,
 ⟨some 14, none, .mv (.t 13), []⟩,
 ⟨some 15, some (14, true), .mv (.t 0), []⟩,
 ⟨some 16, some (14, true), .invk (.t 15) "Done" [], []⟩,
 ⟨some 17, some (14, true), .un .not (.t 16), []⟩,
 ⟨some 18, none, .pick (.t 14) (.t 17) (.c (.bool false)), []⟩])
 (.cond (.t 18)
 .skip
 (.exit 0)))
 (.seq
 (.block 1
 (.seq
 (.ops 4 [⟨some 22, none, .mv (.t 0), []⟩,
 ⟨some 23, none, .mv (.t 1), []⟩,
 ⟨some 24, none, .call 131 [.t 22, .t 23], []⟩,
 ⟨some 21, none, .mv (.t 24), []⟩,
 ⟨some 25, none, .ext (.t 21) 0, []⟩,
 ⟨some 26, none, .ext (.t 21) 1, []⟩,
 ⟨some 9, none, .mv (.t 25), []⟩,
 ⟨some 10, none, .mv (.t 26), []⟩])
 (.seq
 (.seq
 (.ops 5 [⟨some 27, none, .mv (.t 10), []⟩])
 (.cond (.t 27)
 (.seq
 (.ops 6 [⟨some 6, none, .mv (.c (.bool false)), []⟩,
 ⟨some 7, none, .mv (.c (.bool false)), []⟩])
 .ret)
 .skip))
 (.ops 7 [⟨some 28, none, .mv (.t 9), []⟩,
 ⟨some 7, none, .mv (.t 28), []⟩]))))
 (.ops 3 [⟨some 19, none, .mv (.t 8), []⟩,
 ⟨some 20, none, .bin .add (.t 19) (.c (.int .i64 1)), []⟩,
 ⟨some 8, none, .mv (.t 20), []⟩])))
/-- ticketline/ticketlinelaw29.run -/
noncomputable def F75 : AFn := ⟨32, [.tmp 6, .tmp 7], (.seq
 (.ops 0 [⟨some 6, none, .mv (.c (.bool false)), []⟩,
 ⟨some 7, none, .mv (.c (.bool false)), []⟩])
 (.seq
 (.seq
 (.ops 1 [⟨some 8, none, .mv (.c (.int .i64 0)), []⟩])
 (.block 0
 (.loop [] B75x0)))
 (.seq
 (.ops 8 [⟨some 29, none, .mv (.t 0), []⟩,
 ⟨some 30, none, .invk (.t 29) "Done" [], []⟩,
 ⟨some 31, none, .mv (.t 7), []⟩,
 ⟨some 6, none, .mv (.t 30), []⟩,
 ⟨some 7, none, .mv (.t 31), []⟩])
 .ret)))⟩
theorem F75_code : cfgA.code 75 = some F75 := by kernel_rfl

/-- ticketline/grow.NewRoot -/
noncomputable def F76 : AFn := ⟨55, [.tmp 6, .tmp 7], (.seq
 (.ops 0 [⟨some 3, none, .box 2 (.t 0) false, []⟩,
 ⟨some 5, none, .box 130 (.t 2) false, []⟩,
 ⟨some 6, none, .mv (.c (.nilp)), []⟩,
 ⟨some 7, none, .mv (.c (.int .i64 0)), []⟩])
 (.seq
 (.seq
 (.ops 1 [⟨some 14, none, .ld 2 true (.t 3), []⟩,
 ⟨some 15, none, .mv (.t 1), []⟩,
 ⟨some 16, none, .fld 0 (.t 5), []⟩,
 ⟨some 17, none, .ld 1 false (.t 16), []⟩,
 ⟨some 18, none, .call 132 [.t 14, .t 15, .t 17], []⟩,
 ⟨some 19, none, .un .not (.t 18), []⟩,
 ⟨some 20, none, .mv (.t 19), []⟩,
 ⟨some 21, some (20, false), .fld 0 (.t 5), []⟩,
 ⟨some 22, some (20, false), .ld 1 false (.t 21), []⟩,
 ⟨some 23, some (20, false), .bin .eql (.t 22) (.c (.int .i64 0)), []⟩,
 ⟨some 24, none, .pick (.t 20) (.c (.bool true)) (.t 23), []⟩])
 (.cond (.t 24)
 (.seq
 (.ops 2 [⟨some 6, none, .mv (.c (.nilp)), []⟩,
 ⟨some 7, none, .mv (.c (.int .i64 2)), []⟩])
 .ret)
 .skip))
 (.seq
 (.seq
 (.ops 3 [⟨some 26, none, .ld 130 true (.t 5), []⟩,
 ⟨some 27, none, .call 110 [.t 26, .c (.int .i64 511)], []⟩,
 ⟨some 25, none, .mv (.t 27), []⟩,
 ⟨some 28, none, .ext (.t 25) 0, []⟩,
 ⟨some 29, none, .ext (.t 25) 1, []⟩,
 ⟨some 30, none, .ext (.t 25) 2, []⟩,
 ⟨some 31, none, .ext (.t 25) 3, []⟩,
 ⟨some 8, none, .alloc [.int .i64 0, .int .u64 0, .int .u64 0, .int .u64 0, .int .u64 0, .int .u64 0, .int .u64 0, .int .u64 0, .int .u64 0, .int .u64 0, .int .u64 0, .int .u64 0, .int .u64 0, .int .u64 0, .int .u64 0, .int .u64 0, .int .u64 0, .int .u64 0, .int .u64 0, .int .u64 0, .int .u64 0, .int .u64 0, .int .u64 0, .int .u64 0, .int .u64 0, .int .u64 0, .int .u64 0, .int .u64 0, .int .u64 0, .int .u64 0, .int .u64 0, .int .u64 0, .int .u64 0, .int .u64 0, .int .u64 0, .int .u64 0, .int .u64 0, .int .u64 0, .int .u64 0, .int .u64 0, .int .u64 0, .int .u64 0, .int .u64 0, .int .u64 0, .int .u64 0, .int .u64 0, .int .u64 0, .int .u64 0, .int .u64 0, .int .u64 0, .int .u64 0, .int .u64 0, .int .u64 0, .int .u64 0, .int .u64 0, .int .u64 0, .int .u64 0, .int .u64 0, .int .u64 0, .int .u64 0, .int .u64 0, .int .u64 0, .int .u64 0, .int .u64 0, .int .u64 0, .int .u64 0, .int .u64 0, .int .u64 0, .int .u64 0, .int .u64 0, .int .u64 0, .int .u64 0, .int .u64 0, .int .u64 0, .int .u64 0, .int .u64 0, .int .u64 0, .int .u64 0, .int .u64 0, .int .u64 0, .int .u64 0, .int .u64 0, .int .u64 0, .int .u64 0, .int .u64 0, .int .u64 0, .int .u64 0, .int .u64 0, .int .u64 0, .int .u64 0, .int .u64 0, .int .u64 0, .int .u64 0, .int .u64 0, .int .u64 0, .int .u64 0, .int .u64 0, .int .u64 0, .int .u64 0, .int .u64 0, .int .u64 0, .int .u64 0, .int .u64 0, .int .u64 0, .int .u64 0, .int .u64 0, .int .u64 0, .int .u64 0, .int .u64 0, .int .u64 0, .int .u64 0, .int .u64 0, .int .u64 0, .int .u64 0, .int .u64 0, .int .u64 0, .int .u64 0, .int .u64 0, .int .u64 0, .int .u64 0, .int .u64 0, .int .u64 0, .int .u64 0, .int .u64 0, .int .u64 0, .int .u64 0, .int .u64 0, .int .u64 0, .int .u64 0, .int .u64 0] false, []⟩,
 ⟨some 9, none, .alloc [.int .i64 0, .int .u64 0, .int .u64 0, .int .u64 0, .int .u64 0, .int .u64 0, .int .u64 0, .int .u64 0, .int .u64 0, .int .u64 0, .int .u64 0, .int .u64 0, .int .u64 0, .int .u64 0, .int .u64 0, .int .u64 0, .int .u64 0, .int .u64 0, .int .u64 0, .int .u64 0, .int .u64 0, .int .u64 0, .int .u64 0, .int .u64 0, .int .u64 0, .int .u64 0, .int .u64 0, .int .u64 0, .int .u64 0, .int .u64 0, .int .u64 0, .int .u64 0, .int .u64 0, .int .u64 0, .int .u64 0, .int .u64 0, .int .u64 0, .int .u64 0, .int .u64 0, .int .u64 0, .int .u64 0, .int .u64 0, .int .u64 0, .int .u64 0, .int .u64 0, .int .u64 0, .int .u64 0, .int .u64 0, .int .u64 0, .int .u64 0, .int .u64 0, .int .u64 0, .int .u64 0, .int .u64 0, .int .u64 0, .int .u64 0, .int .u64 0, .int .u64 0, .int .u64 0, .int .u64 0, .int .u64 0, .int .u64 0, .int .u64 0, .int .u64 0, .int .u64 0, .int .u64 0, .int .u64 0, .int .u64 0, .int .u64 0, .int .u64 0, .int .u64 0, .int .u64 0, .int .u64 0, .int .u64 0, .int .u64 0, .int .u64 0, .int .u64 0, .int .u64 0, .int .u64 0, .int .u64 0, .int .u64 0, .int .u64 0, .int .u64 0, .int .u64 0, .int .u64 0, .int .u64 0, .int .u64 0, .int .u64 0, .int .u64 0, .int .u64 0, .int .u64 0, .int .u64 0, .int .u64 0, .int .u64 0, .int .u64 0, .int .u64 0, .int .u64 0, .int .u64 0, .int .u64 0, .int .u64 0, .int .u64 0, .int .u64 0, .int .u64 0, .int .u64 0, .int .u64 0, .int .u64 0, .int .u64 0, .int .u64 0, .int .u64 0, .int .u64 0, .int .u64 0, .int .u64 0, .int .u64 0, .int .u64 0, .int .u64 0, .int .u64 0, .int .u64 0, .int .u64 0, .int .u64 0, .int .u64 0, .int .u64 0, .int .u64 0, .int .u64 0, .int .u64 0, .int .u64 0, .int .u64 0, .int .u64 0, .int .u64 0, .int .u64 0, .int .u64 0] false, []⟩,
 ⟨none, none, .st 130 (.t 8) (.t 28), []⟩,
 ⟨none, none, .st 130 (.t 9) (.t 29), []⟩,
 ⟨some 10, none, .mv (.t 30), []⟩,
 ⟨some 11, none, .mv (.t 31), []⟩])
 (.seq
 (.ops 4 [⟨some 32, none, .mv (.t 11), []⟩,
 ⟨some 33, none, .bin .neq (.t 32) (.c (.int .i64 0)), []⟩])
 (.cond (.t 33)
 (.seq
 (.ops 5 [⟨some 34, none, .mv (.t 11), []⟩,
 ⟨some 6, none, .mv (.c (.nilp)), []⟩,
 ⟨some 7, none, .mv (.t 34), []⟩])
 .ret)
 .skip)))
 (.seq
 (.seq
 (.ops 6 [⟨some 35, none, .fld 1 (.t 5), []⟩,
 ⟨some 36, none, .ld 128 true (.t 35), []⟩,
 ⟨some 37, none, .call 77 [.t 36], []⟩,
 ⟨some 38, none, .bin .geq (.t 37) (.c (.int .i64 5)), []⟩])
 (.cond (.t 38)
 (.seq
 (.ops 7 [⟨some 6, none, .mv (.c (.nilp)), []⟩,
 ⟨some 7, none, .mv (.c (.int .i64 7)), []⟩])
 .ret)
 .skip))
 (.seq
 (.ops 8 [⟨some 40, none, .ld 2 true (.t 3), []⟩,
 ⟨some 41, none, .mv (.t 1), []⟩,
 ⟨some 42, none, .call 82 [.t 40, .t 41], []⟩,
 ⟨some 39, none, .mv (.t 42), []⟩,
 ⟨some 43, none, .ext (.t 39) 0, []⟩,
 ⟨some 44, none, .ext (.t 39) 1, []⟩,
 ⟨some 12, none, .mv (.t 43), []⟩,
 ⟨some 13, none, .mv (.t 44), []⟩])
 (.seq
 (.seq
 (.ops 9 [⟨some 45, none, .mv (.t 13), []⟩,
 ⟨some 46, none, .bin .neq (.t 45) (.c (.int .i64 0)), []⟩])
 (.cond (.t 46)
 (.seq
 (.ops 10 [⟨some 47, none, .mv (.t 13), []⟩,
 ⟨some 6, none, .mv (.c (.nilp)), []⟩,
 ⟨some 7, none, .mv (.t 47), []⟩])
 .ret)
 .skip))
 (.seq
 (.ops 11 [⟨some 48, none, .ld 2 true (.t 3), []⟩,
 ⟨some 49, none, .mv (.t 1), []⟩,
 ⟨some 50, none, .ld 130 true (.t 5), []⟩,
 ⟨some 51, none, .mv (.t 12), []⟩,
 ⟨some 52, none, .mki 60 (.t 51), []⟩,
 ⟨some 53, none, .build [.int .i64 0, .int .i64 0, .int .i64 0, .int .i64 0, .int .u64 0, .int .u64 0, .int .u64 0, .int .u64 0, .int .u64 0, .int .u64 0, .int .u64 0, .int .u64 0, .int .u64 0, .int .u64 0, .int .u64 0, .int .u64 0, .int .u64 0, .int .u64 0, .int .u64 0, .int .u64 0, .int .u64 0, .int .u64 0, .int .u64 0, .int .u64 0, .int .u64 0, .int .u64 0, .int .u64 0, .int .u64 0, .int .u64 0, .int .u64 0, .int .u64 0, .int .u64 0, .int .u64 0, .int .u64 0, .int .u64 0, .int .u64 0, .int .u64 0, .int .u64 0, .int .u64 0, .int .u64 0, .int .u64 0, .int .u64 0, .int .u64 0, .int .u64 0, .int .u64 0, .int .u64 0, .int .u64 0, .int .u64 0, .int .u64 0, .int .u64 0, .int .u64 0, .int .u64 0, .int .u64 0, .int .u64 0, .int .u64 0, .int .u64 0, .int .u64 0, .int .u64 0, .int .u64 0, .int .u64 0, .int .u64 0, .int .u64 0, .int .u64 0, .int .u64 0, .int .u64 0, .int .u64 0, .int .u64 0, .int .u64 0, .int .u64 0, .int .u64 0, .int .u64 0, .int .u64 0, .int .u64 0, .int .u64 0, .int .u64 0, .int .u64 0, .int .u64 0, .int .u64 0, .int .u64 0, .int .u64 0, .int .u64 0, .int .u64 0, .int .u64 0, .int .u64 0, .int .u64 0, .int .u64 0, .int .u64 0, .int .u64 0, .int .u64 0, .int .u64 0, .int .u64 0, .int .u64 0, .int .u64 0, .int .u64 0, .int .u64 0, .int .u64 0, .int .u64 0, .int .u64 0, .int .u64 0, .int .u64 0, .int .u64 0, .int .u64 0, .int .u64 0, .int .u64 0, .int .u64 0, .int .u64 0, .int .u64 0, .int .u64 0, .int .u64 0, .int .u64 0, .int .u64 0, .int .u64 0, .int .u64 0, .int .u64 0, .int .u64 0, .int .u64 0, .int .u64 0, .int .u64 0, .int .u64 0, .int .u64 0, .int .u64 0, .int .u64 0, .int .u64 0, .int .u64 0, .int .u64 0, .int .u64 0, .int .u64 0, .int .u64 0, .int .u64 0, .int .u64 0, .int .u64 0, .int .u64 0, .int .u64 0, .int .i64 0, .int .u64 0, .int .u64 0, .int .u64 0, .int .u64 0, .int .u64 0, .int .u64 0, .int .u64 0, .int .u64 0, .int .u64 0, .int .u64 0, .int .u64 0, .int .u64 0, .int .u64 0, .int .u64 0, .int .u64 0, .int .u64 0, .int .u64 0, .int .u64 0, .int .u64 0, .int .u64 0, .int .u64 0, .int .u64 0, .int .u64 0, .int .u64 0, .int .u64 0, .int .u64 0, .int .u64 0, .int .u64 0, .int .u64 0, .int .u64 0, .int .u64 0, .int .u64 0, .int .u64 0, .int .u64 0, .int .u64 0, .int .u64 0, .int .u64 0, .int .u64 0, .int .u64 0, .int .u64 0, .int .u64 0, .int .u64 0, .int .u64 0, .int .u64 0, .int .u64 0, .int .u64 0, .int .u64 0, .int .u64 0, .int .u64 0, .int .u64 0, .int .u64 0, .int .u64 0, .int .u64 0, .int .u64 0, .int .u64 0, .int .u64 0, .int .u64 0, .int .u64 0, .int .u64 0, .int .u64 0, .int .u64 0, .int .u64 0, .int .u64 0, .int .u64 0, .int .u64 0, .int .u64 0, .int .u64 0, .int .u64 0, .int .u64 0, .int .u64 0, .int .u64 0, .int .u64 0, .int .u64 0, .int .u64 0, .int .u64 0, .int .u64 0, .int .u64 0, .int .u64 0, .int .u64 0, .int .u64 0, .int .u64 0, .int .u64 0, .int .u64 0, .int .u64 0, .int .u64 0, .int .u64 0, .int .u64 0, .int .u64 0, .int .u64 0, .int .u64 0, .int .u64 0, .int .u64 0, .int .u64 0, .int .u64 0, .int .u64 0, .int .u64 0, .int .u64 0, .int .u64 0, .int .u64 0, .int .u64 0, .int .u64 0, .int .u64 0, .int .u64 0, .int .u64 0, .int .u64 0, .int .u64 0, .int .u64 0, .int .u64 0, .int .u64 0, .int .u64 0, .int .u64 0, .int .u64 0, .int .u64 0, .int .u64 0, .int .u64 0, .int .u64 0, .int .u64 0, .int .u64 0, .int .u64 0, .int .u64 0, .int .u64 0, .int .u64 0, .int .u64 0, .int .u64 0, .int .u64 0, .int .u64 0, .int .u64 0, .int .u64 0, .int .u64 0, .int .i64 0, .int .u64 0, .int .u64 0, .int .u64 0, .int .u64 0, .int .u64 0, .int .u64 0, .int .u64 0, .int .u64 0, .int .u64 0, .int .u64 0, .int .u64 0, .int .u64 0, .int .u64 0, .int .u64 0, .int .u64 0, .int .u64 0, .int .u64 0, .int .u64 0, .int .u64 0, .int .u64 0, .int .u64 0, .int .u64 0, .int .u64 0, .int .u64 0, .int .u64 0, .int .u64 0, .int .u64 0, .int .u64 0, .int .u64 0, .int .u64 0, .int .u64 0, .int .u64 0, .int .u64 0, .int .u64 0, .int .u64 0, .int .u64 0, .int .u64 0, .int .u64 0, .int .u64 0, .int .u64 0, .int .u64 0, .int .u64 0, .int .u64 0, .int .u64 0, .int .u64 0, .int .u64 0, .int .u64 0, .int .u64 0, .int .u64 0, .int .u64 0, .int .u64 0, .int .u64 0, .int .u64 0, .int .u64 0, .int .u64 0, .int .u64 0, .int .u64 0, .int .u64 0, .int .u64 0, .int .u64 0, .int .u64 0, .int .u64 0, .int .u64 0, .int .u64 0, .int .u64 0, .int .u64 0, .int .u64 0, .int .u64 0, .int .u64 0, .int .u64 0, .int .u64 0, .int .u64 0, .int .u64 0, .int .u64 0, .int .u64 0, .int .u64 0, .int .u64 0, .int .u64 0, .int .u64 0, .int .u64 0, .int .u64 0, .int .u64 0, .int .u64 0, .int .u64 0, .int .u64 0, .int .u64 0, .int .u64 0, .int .u64 0, .int .u64 0, .int .u64 0, .int .u64 0, .int .u64 0, .int .u64 0, .int .u64 0, .int .u64 0, .int .u64 0, .int .u64 0, .int .u64 0, .int .u64 0, .int .u64 0, .int .u64 0, .int .u64 0, .int .u64 0, .int .u64 0, .int .u64 0, .int .u64 0, .int .u64 0, .int .u64 0, .int .u64 0, .int .u64 0, .int .u64 0, .int .u64 0, .int .u64 0, .int .u64 0, .int .u64 0, .int .u64 0, .int .u64 0, .int .u64 0, .int .u64 0, .int .u64 0, .int .u64 0, .int .u64 0, .int .u64 0, .int .u64 0, .int .u64 0, .int .u64 0, .int .u64 0, .int .u64 0, .int .u64 0, .int .i64 0, .nili, .int .i64 0, .int .i64 0] [(0, 2, (.t 48)), (2, 1, (.t 49)), (133, 130, (.t 50)), (393, 1, (.c (.int .i64 8))), (394, 1, (.t 52))], []⟩,
 ⟨some 54, none, .box 397 (.t 53) true, []⟩,
 ⟨some 6, none, .mv (.t 54), []⟩,
 ⟨some 7, none, .mv (.c (.int .i64 0)), []⟩])
 .ret)))))))⟩
theorem F76_code : cfgA.code 76 = some F76 := by kernel_rfl

/-- ticketline/slot.Level -/
noncomputable def F77 : AFn := ⟨10, [.tmp 2], (.seq
 (.ops 0 [⟨some 1, none, .box 128 (.t 0) false, []⟩,
 ⟨some 2, none, .mv (.c (.int .i64 0)), []⟩])
 (.seq
 (.seq
 (.ops 1 [⟨some 3, none, .ld 128 true (.t 1), []⟩,
 ⟨some 4, none, .call 133 [.t 3], []⟩,
 ⟨some 5, none, .un .not (.t 4), []⟩])
 (.cond (.t 5)
 (.seq
 (.ops 2 [⟨some 2, none, .mv (.c (.int .i64 (-1))), []⟩])
 .ret)
 .skip))
 (.seq
 (.ops 3 [⟨some 6, none, .ixa (some 128) 1 (.t 1) (.c (.int .i64 8)), []⟩,
 ⟨some 7, none, .ld 1 false (.t 6), []⟩,
 ⟨some 8, none, .cvi .i64 (.t 7), []⟩,
 ⟨some 9, none, .bin .sub (.t 8) (.c (.int .i64 1)), []⟩,
 ⟨some 2, none, .mv (.t 9), []⟩])
 .ret)))⟩
theorem F77_code : cfgA.code 77 = some F77 := by kernel_rfl

/-- ticketline/ticketlinelaw29.child -/
noncomputable def F78 : AFn := ⟨16, [.tmp 4], (.seq
 (.ops 0 [⟨some 2, none, .box 128 (.t 0) false, []⟩,
 ⟨some 4, none, .mv (.c (.int .i64 0)), []⟩])
 (.seq
 (.ops 1 [⟨some 8, none, .ld 128 true (.t 2), []⟩,
 ⟨some 9, none, .mv (.t 1), []⟩,
 ⟨some 10, none, .call 134 [.t 8, .t 9], []⟩,
 ⟨some 7, none, .mv (.t 10), []⟩,
 ⟨some 11, none, .ext (.t 7) 0, []⟩,
 ⟨some 12, none, .ext (.t 7) 1, []⟩,
 ⟨some 5, none, .mv (.t 11), []⟩,
 ⟨some 6, none, .mv (.t 12), []⟩])
 (.seq
 (.seq
 (.ops 2 [⟨some 13, none, .mv (.t 6), []⟩,
 ⟨some 14, none, .bin .neq (.t 13) (.c (.int .i64 0)), []⟩])
 (.cond (.t 14)
 (.seq
 (.ops 3 [⟨some 4, none, .mv (.c (.int .i64 0)), []⟩])
 .ret)
 .skip))
 (.seq
 (.ops 4 [⟨some 15, none, .mv (.t 5), []⟩,
 ⟨some 4, none, .mv (.t 15), []⟩])
 .ret))))⟩
theorem F78_code : cfgA.code 78 = some F78 := by kernel_rfl

/-- ticketline/ticketlinelaw29.owner -/
noncomputable def F79 : AFn := ⟨45, [.tmp 6], (.seq
 (.ops 0 [⟨some 3, none, .box 2 (.t 0) false, []⟩,
 ⟨some 6, none, .mv (.c (.int .i64 0)), []⟩])
 (.seq
 (.ops 1 [⟨some 13, none, .ld 2 true (.t 3), []⟩,
 ⟨some 14, none, .call 102 [.t 13], []⟩,
 ⟨some 12, none, .mv (.t 14), []⟩,
 ⟨some 15, none, .ext (.t 12) 0, []⟩,
 ⟨some 16, none, .ext (.t 12) 1, []⟩,
 ⟨some 7, none, .mv (.t 15), []⟩,
 ⟨some 8, none, .mv (.t 16), []⟩])
 (.seq
 (.ops 2 [⟨some 18, none, .ld 2 true (.t 3), []⟩,
 ⟨some 19, none, .mv (.t 2), []⟩,
 ⟨some 20, none, .call 103 [.t 18, .t 19], []⟩,
 ⟨some 17, none, .mv (.t 20), []⟩,
 ⟨some 21, none, .ext (.t 17) 0, []⟩,
 ⟨some 22, none, .ext (.t 17) 1, []⟩,
 ⟨some 9, none, .mv (.t 21), []⟩,
 ⟨some 10, none, .mv (.t 22), []⟩])
 (.seq
 (.seq
 (.ops 3 [⟨some 23, none, .mv (.t 7), []⟩,
 ⟨some 24, none, .eqn .ptr false (.t 23), []⟩,
 ⟨some 25, none, .mv (.t 24), []⟩,
 ⟨some 26, some (25, false), .mv (.t 8), []⟩,
 ⟨some 27, some (25, false), .bin .neq (.t 26) (.c (.int .i64 0)), []⟩,
 ⟨some 28, none, .pick (.t 25) (.c (.bool true)) (.t 27), []⟩,
 ⟨some 29, none, .mv (.t 28), []⟩,
 ⟨some 30, some (29, false), .mv (.t 10), []⟩,
 ⟨some 31, some (29, false), .bin .neq (.t 30) (.c (.int .i64 0)), []⟩,
 ⟨some 32, none, .pick (.t 29) (.c (.bool true)) (.t 31), []⟩])
 (.cond (.t 32)
 (.seq
 (.ops 4 [⟨some 6, none, .mv (.c (.int .i64 (-2))), []⟩])
 .ret)
 .skip))
 (.seq
 (.ops 5 [⟨some 34, none, .mv (.t 1), []⟩,
 ⟨some 35, none, .mki 22 (.t 34), []⟩,
 ⟨some 36, none, .mv (.t 7), []⟩,
 ⟨some 37, none, .mv (.t 9), []⟩,
 ⟨some 38, none, .call 104 [.t 35, .t 36, .t 37], []⟩,
 ⟨some 33, none, .mv (.t 38), []⟩,
 ⟨some 39, none, .ext (.t 33) 0, []⟩,
 ⟨some 40, none, .ext (.t 33) 1, []⟩,
 ⟨some 11, none, .alloc [.nils, .int .i64 0, .int .i64 0, .int .i64 0, .int .i64 0, .nils] false, []⟩,
 ⟨none, none, .st 6 (.t 11) (.t 39), []⟩,
 ⟨some 8, none, .mv (.t 40), []⟩])
 (.seq
 (.seq
 (.ops 6 [⟨some 41, none, .mv (.t 8), []⟩,
 ⟨some 42, none, .bin .neq (.t 41) (.c (.int .i64 0)), []⟩])
 (.cond (.t 42)
 (.seq
 (.ops 7 [⟨some 6, none, .mv (.c (.int .i64 (-2))), []⟩])
 .ret)
 .skip))
 (.seq
 (.ops 8 [⟨some 43, none, .fld 2 (.t 11), []⟩,
 ⟨some 44, none, .ld 1 false (.t 43), []⟩,
 ⟨some 6, none, .mv (.t 44), []⟩])
 .ret)))))))⟩
theorem F79_code : cfgA.code 79 = some F79 := by kernel_rfl

/-- ticketline/ticketlinelaw29.keysOf: the round 0 -/
noncomputable def B80x0 : AC := (.seq
 (.seq
 (.ops 3 [⟨some 7, none, .mv (.t 4), []⟩,
 ⟨some 8, none, .ld 128 true (.t 1), []⟩,
 ⟨some 9, none, .call 135 [.t 8], []⟩,
 ⟨some 10, none, .bin .lss (.t 7) (.t 9), []⟩])
 (.cond (.t 10)
 .skip
 (.exit 0)))
 (.seq
 (.block 1
 (.seq
 (.ops 5 [⟨some 14, none, .ld 128 true (.t 1), []⟩,
 ⟨some 15, none, .mv (.t 4), []⟩,
 ⟨some 16, none, .call 136 [.t 14, .t 15], []⟩,
 ⟨some 13, none, .mv (.t 16), []⟩,
 ⟨some 17, none, .ext (.t 13) 0, []⟩,
 ⟨some 18, none, .ext (.t 13) 1, []⟩,
 ⟨some 5, none, .mv (.t 17), []⟩,
 ⟨some 6, none, .mv (.t 18), []⟩])
 (.ops 6 [⟨some 19, none, .mv (.t 3), []⟩,
 ⟨some 20, none, .mv (.t 5), []⟩,
 ⟨some 21, none, .bin .add (.t 19) (.t 20), []⟩,
 ⟨some 3, none, .mv (.t 21), []⟩])))
 (.ops 4 [⟨some 11, none, .mv (.t 4), []⟩,
 ⟨some 12, none, .bin .add (.t 11) (.c (.int .i64 1)), []⟩,
 ⟨some 4, none, .mv (.t 12), []⟩])))
/-- ticketline/ticketlinelaw29.keysOf -/
noncomputable def F80 : AFn := ⟨23, [.tmp 2], (.seq
 (.ops 0 [⟨some 1, none, .box 128 (.t 0) false, []⟩,
 ⟨some 2, none, .mv (.c (.str [])), []⟩])
 (.seq
 (.ops 1 [⟨some 3, none, .mv (.c (.str [])), []⟩])
 (.seq
 (.seq
 (.ops 2 [⟨some 4, none, .mv (.c (.int .i64 0)), []⟩])
 (.block 0
 (.loop [] B80x0)))
 (.seq
 (.ops 7 [⟨some 22, none, .mv (.t 3), []⟩,
 ⟨some 2, none, .mv (.t 22), []⟩])
 .ret))))⟩
theorem F80_code : cfgA.code 80 = some F80 := by kernel_rfl

/-- ticketline/grow.NewSplit -/
noncomputable def F81 : AFn := ⟨94, [.tmp 8, .tmp 9], (.seq
 (.ops 0 [⟨some 4, none, .box 2 (.t 0) false, []⟩,
 ⟨some 6, none, .box 130 (.t 2) false, []⟩,
 ⟨some 7, none, .box 130 (.t 3) false, []⟩,
 ⟨some 8, none, .mv (.c (.nilp)), []⟩,
 ⟨some 9, none, .mv (.c (.int .i64 0)), []⟩])
 (.seq
 (.seq
 (.ops 1 [⟨some 17, none, .ld 2 true (.t 4), []⟩,
 ⟨some 18, none, .mv (.t 1), []⟩,
 ⟨some 19, none, .fld 0 (.t 6), []⟩,
 ⟨some 20, none, .ld 1 false (.t 19), []⟩,
 ⟨some 21, none, .call 132 [.t 17, .t 18, .t 20], []⟩,
 ⟨some 22, none, .un .not (.t 21), []⟩,
 ⟨some 23, none, .mv (.t 22), []⟩,
 ⟨some 24, some (23, false), .ld 2 true (.t 4), []⟩,
 ⟨some 25, some (23, false), .mv (.t 1), []⟩,
 ⟨some 26, some (23, false), .fld 0 (.t 7), []⟩,
 ⟨some 27, some (23, false), .ld 1 false (.t 26), []⟩,
 ⟨some 28, some (23, false), .call 132 [.t 24, .t 25, .t 27], []⟩,
 ⟨some 29, some (23, false), .un .not (.t 28), []⟩,
 ⟨some 30, none, .pick (.t 23) (.c (.bool true)) (.t 29), []⟩,
 ⟨some 31, none, .mv (.t 30), []⟩,
 ⟨some 32, some (31, false), .fld 0 (.t 6), []⟩,
 ⟨some 33, some (31, false), .ld 1 false (.t 32), []⟩,
 ⟨some 34, some (31, false), .bin .eql (.t 33) (.c (.int .i64 0)), []⟩,
 ⟨some 35, none, .pick (.t 31) (.c (.bool true)) (.t 34), []⟩,
 ⟨some 36, none, .mv (.t 35), []⟩,
 ⟨some 37, some (36, false), .fld 0 (.t 7), []⟩,
 ⟨some 38, some (36, false), .ld 1 false (.t 37), []⟩,
 ⟨some 39, some (36, false), .bin .eql (.t 38) (.c (.int .i64 0)), []⟩,
 ⟨some 40, none, .pick (.t 36) (.c (.bool true)) (.t 39), []⟩,
 ⟨some 41, none, .mv (.t 40), []⟩,
 ⟨some 42, some (41, false), .fld 0 (.t 6), []⟩,
 ⟨some 43, some (41, false), .ld 1 false (.t 42), []⟩,
 ⟨some 44, some (41, false), .fld 0 (.t 7), []⟩,
 ⟨some 45, some (41, false), .ld 1 false (.t 44), []⟩,
 ⟨some 46, some (41, false), .bin .eql (.t 43) (.t 45), []⟩,
 ⟨some 47, none, .pick (.t 41) (.c (.bool true)) (.t 46), []⟩,
 ⟨some 48, none, .mv (.t 47), []⟩,
 ⟨some 49, some (48, false), .fld 1 (.t 6), []⟩,
 ⟨some 50, some (48, false), .ld 128 true (.t 49), []⟩,
 ⟨some 52, some (48, false), .fld 1 (.t 7), []⟩,
 ⟨some 53, some (48, false), .ld 128 true (.t 52), []⟩,
 ⟨some 51, some (48, false), .call 77 [.t 50], [(53, .ld 128 true (.t 52))]⟩,
 ⟨some 54, some (48, false), .call 77 [.t 53], []⟩,
 ⟨some 55, some (48, false), .bin .add (.t 54) (.c (.int .i64 1)), []⟩,
 ⟨some 56, some (48, false), .bin .neq (.t 51) (.t 55), []⟩,
 ⟨some 57, none, .pick (.t 48) (.c (.bool true)) (.t 56), []⟩])
 (.cond (.t 57)
 (.seq
 (.ops 2 [⟨some 8, none, .mv (.c (.nilp)), []⟩,
 ⟨some 9, none, .mv (.c (.int .i64 2)), []⟩])
 .ret)
 .skip))
 (.seq
 (.ops 3 [⟨some 59, none, .ld 130 true (.t 7), []⟩,
 ⟨some 60, none, .call 110 [.t 59, .c (.int .i64 511)], []⟩,
 ⟨some 58, none, .mv (.t 60), []⟩,
 ⟨some 61, none, .ext (.t 58) 0, []⟩,
 ⟨some 62, none, .ext (.t 58) 1, []⟩,
 ⟨some 63, none, .ext (.t 58) 2, []⟩,
 ⟨some 64, none, .ext (.t 58) 3, []⟩,
 ⟨some 10, none, .alloc [.int .i64 0, .int .u64 0, .int .u64 0, .int .u64 0, .int .u64 0, .int .u64 0, .int .u64 0, .int .u64 0, .int .u64 0, .int .u64 0, .int .u64 0, .int .u64 0, .int .u64 0, .int .u64 0, .int .u64 0, .int .u64 0, .int .u64 0, .int .u64 0, .int .u64 0, .int .u64 0, .int .u64 0, .int .u64 0, .int .u64 0, .int .u64 0, .int .u64 0, .int .u64 0, .int .u64 0, .int .u64 0, .int .u64 0, .int .u64 0, .int .u64 0, .int .u64 0, .int .u64 0, .int .u64 0, .int .u64 0, .int .u64 0, .int .u64 0, .int .u64 0, .int .u64 0, .int .u64 0, .int .u64 0, .int .u64 0, .int .u64 0, .int .u64 0, .int .u64 0, .int .u64 0, .int .u64 0, .int .u64 0, .int .u64 0, .int .u64 0, .int .u64 0, .int .u64 0, .int .u64 0, .int .u64 0, .int .u64 0, .int .u64 0, .int .u64 0, .int .u64 0, .int .u64 0, .int .u64 0, .int .u64 0, .int .u64 0, .int .u64 0, .int .u64 0, .int .u64 0, .int .u64 0, .int .u64 0, .int .u64 0, .int .u64 0, .int .u64 0, .int .u64 0, .int .u64 0, .int .u64 0, .int .u64 0, .int .u64 0, .int .u64 0, .int .u64 0, .int .u64 0, .int .u64 0, .int .u64 0, .int .u64 0, .int .u64 0, .int .u64 0, .int .u64 0, .int .u64 0, .int .u64 0, .int .u64 0, .int .u64 0, .int .u64 0, .int .u64 0, .int .u64 0, .int .u64 0, .int .u64 0, .int .u64 0, .int .u64 0, .int .u64 0, .int .u64 0, .int .u64 0, .int .u64 0, .int .u64 0, .int .u64 0, .int .u64 0, .int .u64 0, .int .u64 0, .int .u64 0, .int .u64 0, .int .u64 0, .int .u64 0, .int .u64 0, .int .u64 0, .int .u64 0, .int .u64 0, .int .u64 0, .int .u64 0, .int .u64 0, .int .u64 0, .int .u64 0, .int .u64 0, .int .u64 0, .int .u64 0, .int .u64 0, .int .u64 0, .int .u64 0, .int .u64 0, .int .u64 0, .int .u64 0, .int .u64 0, .int .u64 0, .int .u64 0, .int .u64 0] false, []⟩,
 ⟨some 11, none, .alloc [.int .i64 0, .int .u64 0, .int .u64 0, .int .u64 0, .int .u64 0, .int .u64 0, .int .u64 0, .int .u64 0, .int .u64 0, .int .u64 0, .int .u64 0, .int .u64 0, .int .u64 0, .int .u64 0, .int .u64 0, .int .u64 0, .int .u64 0, .int .u64 0, .int .u64 0, .int .u64 0, .int .u64 0, .int .u64 0, .int .u64 0, .int .u64 0, .int .u64 0, .int .u64 0, .int .u64 0, .int .u64 0, .int .u64 0, .int .u64 0, .int .u64 0, .int .u64 0, .int .u64 0, .int .u64 0, .int .u64 0, .int .u64 0, .int .u64 0, .int .u64 0, .int .u64 0, .int .u64 0, .int .u64 0, .int .u64 0, .int .u64 0, .int .u64 0, .int .u64 0, .int .u64 0, .int .u64 0, .int .u64 0, .int .u64 0, .int .u64 0, .int .u64 0, .int .u64 0, .int .u64 0, .int .u64 0, .int .u64 0, .int .u64 0, .int .u64 0, .int .u64 0, .int .u64 0, .int .u64 0, .int .u64 0, .int .u64 0, .int .u64 0, .int .u64 0, .int .u64 0, .int .u64 0, .int .u64 0, .int .u64 0, .int .u64 0, .int .u64 0, .int .u64 0, .int .u64 0, .int .u64 0, .int .u64 0, .int .u64 0, .int .u64 0, .int .u64 0, .int .u64 0, .int .u64 0, .int .u64 0, .int .u64 0, .int .u64 0, .int .u64 0, .int .u64 0, .int .u64 0, .int .u64 0, .int .u64 0, .int .u64 0, .int .u64 0, .int .u64 0, .int .u64 0, .int .u64 0, .int .u64 0, .int .u64 0, .int .u64 0, .int .u64 0, .int .u64 0, .int .u64 0, .int .u64 0, .int .u64 0, .int .u64 0, .int .u64 0, .int .u64 0, .int .u64 0, .int .u64 0, .int .u64 0, .int .u64 0, .int .u64 0, .int .u64 0, .int .u64 0, .int .u64 0, .int .u64 0, .int .u64 0, .int .u64 0, .int .u64 0, .int .u64 0, .int .u64 0, .int .u64 0, .int .u64 0, .int .u64 0, .int .u64 0, .int .u64 0, .int .u64 0, .int .u64 0, .int .u64 0, .int .u64 0, .int .u64 0, .int .u64 0, .int .u64 0, .int .u64 0] false, []⟩,
 ⟨none, none, .st 130 (.t 10) (.t 61), []⟩,
 ⟨none, none, .st 130 (.t 11) (.t 62), []⟩,
 ⟨some 12, none, .mv (.t 63), []⟩,
 ⟨some 13, none, .mv (.t 64), []⟩])
 (.seq
 (.seq
 (.ops 4 [⟨some 65, none, .mv (.t 13), []⟩,
 ⟨some 66, none, .bin .neq (.t 65) (.c (.int .i64 0)), []⟩])
 (.cond (.t 66)
 (.seq
 (.ops 5 [⟨some 67, none, .mv (.t 13), []⟩,
 ⟨some 8, none, .mv (.c (.nilp)), []⟩,
 ⟨some 9, none, .mv (.t 67), []⟩])
 .ret)
 .skip))
 (.seq
 (.seq
 (.ops 6 [⟨some 69, none, .ld 130 true (.t 6), []⟩,
 ⟨some 70, none, .mv (.t 12), []⟩,
 ⟨some 71, none, .call 111 [.t 69, .t 70, .c (.int .i64 511)], []⟩,
 ⟨some 68, none, .mv (.t 71), []⟩,
 ⟨some 72, none, .ext (.t 68) 0, []⟩,
 ⟨some 73, none, .ext (.t 68) 1, []⟩,
 ⟨some 14, none, .alloc [.int .i64 0, .int .u64 0, .int .u64 0, .int .u64 0, .int .u64 0, .int .u64 0, .int .u64 0, .int .u64 0, .int .u64 0, .int .u64 0, .int .u64 0, .int .u64 0, .int .u64 0, .int .u64 0, .int .u64 0, .int .u64 0, .int .u64 0, .int .u64 0, .int .u64 0, .int .u64 0, .int .u64 0, .int .u64 0, .int .u64 0, .int .u64 0, .int .u64 0, .int .u64 0, .int .u64 0, .int .u64 0, .int .u64 0, .int .u64 0, .int .u64 0, .int .u64 0, .int .u64 0, .int .u64 0, .int .u64 0, .int .u64 0, .int .u64 0, .int .u64 0, .int .u64 0, .int .u64 0, .int .u64 0, .int .u64 0, .int .u64 0, .int .u64 0, .int .u64 0, .int .u64 0, .int .u64 0, .int .u64 0, .int .u64 0, .int .u64 0, .int .u64 0, .int .u64 0, .int .u64 0, .int .u64 0, .int .u64 0, .int .u64 0, .int .u64 0, .int .u64 0, .int .u64 0, .int .u64 0, .int .u64 0, .int .u64 0, .int .u64 0, .int .u64 0, .int .u64 0, .int .u64 0, .int .u64 0, .int .u64 0, .int .u64 0, .int .u64 0, .int .u64 0, .int .u64 0, .int .u64 0, .int .u64 0, .int .u64 0, .int .u64 0, .int .u64 0, .int .u64 0, .int .u64 0, .int .u64 0, .int .u64 0, .int .u64 0, .int .u64 0, .int .u64 0, .int .u64 0, .int .u64 0, .int .u64 0, .int .u64 0, .int .u64 0, .int .u64 0, .int .u64 0, .int .u64 0, .int .u64 0, .int .u64 0, .int .u64 0, .int .u64 0, .int .u64 0, .int .u64 0, .int .u64 0, .int .u64 0, .int .u64 0, .int .u64 0, .int .u64 0, .int .u64 0, .int .u64 0, .int .u64 0, .int .u64 0, .int .u64 0, .int .u64 0, .int .u64 0, .int .u64 0, .int .u64 0, .int .u64 0, .int .u64 0, .int .u64 0, .int .u64 0, .int .u64 0, .int .u64 0, .int .u64 0, .int .u64 0, .int .u64 0, .int .u64 0, .int .u64 0, .int .u64 0, .int .u64 0, .int .u64 0, .int .u64 0, .int .u64 0, .int .u64 0, .int .u64 0] false, []⟩,
 ⟨none, none, .st 130 (.t 14) (.t 72), []⟩,
 ⟨some 15, none, .mv (.t 73), []⟩])
 (.seq
 (.ops 7 [⟨some 74, none, .mv (.t 15), []⟩,
 ⟨some 75, none, .bin .neq (.t 74) (.c (.int .i64 0)), []⟩])
 (.cond (.t 75)
 (.seq
 (.ops 8 [⟨some 76, none, .mv (.t 15), []⟩,
 ⟨some 8, none, .mv (.c (.nilp)), []⟩,
 ⟨some 9, none, .mv (.t 76), []⟩])
 .ret)
 .skip)))
 (.seq
 (.ops 9 [⟨some 78, none, .ld 2 true (.t 4), []⟩,
 ⟨some 79, none, .mv (.t 1), []⟩,
 ⟨some 80, none, .call 82 [.t 78, .t 79], []⟩,
 ⟨some 77, none, .mv (.t 80), []⟩,
 ⟨some 81, none, .ext (.t 77) 0, []⟩,
 ⟨some 82, none, .ext (.t 77) 1, []⟩,
 ⟨some 16, none, .mv (.t 81), []⟩,
 ⟨some 13, none, .mv (.t 82), []⟩])
 (.seq
 (.seq
 (.ops 10 [⟨some 83, none, .mv (.t 13), []⟩,
 ⟨some 84, none, .bin .neq (.t 83) (.c (.int .i64 0)), []⟩])
 (.cond (.t 84)
 (.seq
 (.ops 11 [⟨some 85, none, .mv (.t 13), []⟩,
 ⟨some 8, none, .mv (.c (.nilp)), []⟩,
 ⟨some 9, none, .mv (.t 85), []⟩])
 .ret)
 .skip))
 (.seq
 (.ops 12 [⟨some 86, none, .ld 2 true (.t 4), []⟩,
 ⟨some 87, none, .mv (.t 1), []⟩,
 ⟨some 88, none, .ld 130 true (.t 6), []⟩,
 ⟨some 89, none, .ld 130 true (.t 7), []⟩,
 ⟨some 90, none, .mv (.t 16), []⟩,
 ⟨some 91, none, .mki 60 (.t 90), []⟩,
 ⟨some 92, none, .build [.int .i64 0, .int .i64 0, .int .i64 0, .int .i64 0, .int .u64 0, .int .u64 0, .int .u64 0, .int .u64 0, .int .u64 0, .int .u64 0, .int .u64 0, .int .u64 0, .int .u64 0, .int .u64 0, .int .u64 0, .int .u64 0, .int .u64 0, .int .u64 0, .int .u64 0, .int .u64 0, .int .u64 0, .int .u64 0, .int .u64 0, .int .u64 0, .int .u64 0, .int .u64 0, .int .u64 0, .int .u64 0, .int .u64 0, .int .u64 0, .int .u64 0, .int .u64 0, .int .u64 0, .int .u64 0, .int .u64 0, .int .u64 0, .int .u64 0, .int .u64 0, .int .u64 0, .int .u64 0, .int .u64 0, .int .u64 0, .int .u64 0, .int .u64 0, .int .u64 0, .int .u64 0, .int .u64 0, .int .u64 0, .int .u64 0, .int .u64 0, .int .u64 0, .int .u64 0, .int .u64 0, .int .u64 0, .int .u64 0, .int .u64 0, .int .u64 0, .int .u64 0, .int .u64 0, .int .u64 0, .int .u64 0, .int .u64 0, .int .u64 0, .int .u64 0, .int .u64 0, .int .u64 0, .int .u64 0, .int .u64 0, .int .u64 0, .int .u64 0, .int .u64 0, .int .u64 0, .int .u64 0, .int .u64 0, .int .u64 0, .int .u64 0, .int .u64 0, .int .u64 0, .int .u64 0, .int .u64 0, .int .u64 0, .int .u64 0, .int .u64 0, .int .u64 0, .int .u64 0, .int .u64 0, .int .u64 0, .int .u64 0, .int .u64 0, .int .u64 0, .int .u64 0, .int .u64 0, .int .u64 0, .int .u64 0, .int .u64 0, .int .u64 0, .int .u64 0, .int .u64 0, .int .u64 0, .int .u64 0, .int .u64 0, .int .u64 0, .int .u64 0, .int .u64 0, .int .u64 0, .int .u64 0, .int .u64 0, .int .u64 0, .int .u64 0, .int .u64 0, .int .u64 0, .int .u64 0, .int .u64 0, .int .u64 0, .int .u64 0, .int .u64 0, .int .u64 0, .int .u64 0, .int .u64 0, .int .u64 0, .int .u64 0, .int .u64 0, .int .u64 0, .int .u64 0, .int .u64 0, .int .u64 0, .int .u64 0, .int .u64 0, .int .u64 0, .int .u64 0, .int .u64 0, .int .u64 0, .int .u64 0, .int .i64 0, .int .u64 0, .int .u64 0, .int .u64 0, .int .u64 0, .int .u64 0, .int .u64 0, .int .u64 0, .int .u64 0, .int .u64 0, .int .u64 0, .int .u64 0, .int .u64 0, .int .u64 0, .int .u64 0, .int .u64 0, .int .u64 0, .int .u64 0, .int .u64 0, .int .u64 0, .int .u64 0, .int .u64 0, .int .u64 0, .int .u64 0, .int .u64 0, .int .u64 0, .int .u64 0, .int .u64 0, .int .u64 0, .int .u64 0, .int .u64 0, .int .u64 0, .int .u64 0, .int .u64 0, .int .u64 0, .int .u64 0, .int .u64 0, .int .u64 0, .int .u64 0, .int .u64 0, .int .u64 0, .int .u64 0, .int .u64 0, .int .u64 0, .int .u64 0, .int .u64 0, .int .u64 0, .int .u64 0, .int .u64 0, .int .u64 0, .int .u64 0, .int .u64 0, .int .u64 0, .int .u64 0, .int .u64 0, .int .u64 0, .int .u64 0, .int .u64 0, .int .u64 0, .int .u64 0, .int .u64 0, .int .u64 0, .int .u64 0, .int .u64 0, .int .u64 0, .int .u64 0, .int .u64 0, .int .u64 0, .int .u64 0, .int .u64 0, .int .u64 0, .int .u64 0, .int .u64 0, .int .u64 0, .int .u64 0, .int .u64 0, .int .u64 0, .int .u64 0, .int .u64 0, .int .u64 0, .int .u64 0, .int .u64 0, .int .u64 0, .int .u64 0, .int .u64 0, .int .u64 0, .int .u64 0, .int .u64 0, .int .u64 0, .int .u64 0, .int .u64 0, .int .u64 0, .int .u64 0, .int .u64 0, .int .u64 0, .int .u64 0, .int .u64 0, .int .u64 0, .int .u64 0, .int .u64 0, .int .u64 0, .int .u64 0, .int .u64 0, .int .u64 0, .int .u64 0, .int .u64 0, .int .u64 0, .int .u64 0, .int .u64 0, .int .u64 0, .int .u64 0, .int .u64 0, .int .u64 0, .int .u64 0, .int .u64 0, .int .u64 0, .int .u64 0, .int .u64 0, .int .u64 0, .int .u64 0, .int .u64 0, .int .u64 0, .int .u64 0, .int .u64 0, .int .u64 0, .int .u64 0, .int .u64 0, .int .u64 0, .int .u64 0, .int .u64 0, .int .i64 0, .int .u64 0, .int .u64 0, .int .u64 0, .int .u64 0, .int .u64 0, .int .u64 0, .int .u64 0, .int .u64 0, .int .u64 0, .int .u64 0, .int .u64 0, .int .u64 0, .int .u64 0, .int .u64 0, .int .u64 0, .int .u64 0, .int .u64 0, .int .u64 0, .int .u64 0, .int .u64 0, .int .u64 0, .int .u64 0, .int .u64 0, .int .u64 0, .int .u64 0, .int .u64 0, .int .u64 0, .int .u64 0, .int .u64 0, .int .u64 0, .int .u64 0, .int .u64 0, .int .u64 0, .int .u64 0, .int .u64 0, .int .u64 0, .int .u64 0, .int .u64 0, .int .u64 0, .int .u64 0, .int .u64 0, .int .u64 0, .int .u64 0, .int .u64 0, .int .u64 0, .int .u64 0, .int .u64 0, .int .u64 0, .int .u64 0, .int .u64 0, .int .u64 0, .int .u64 0, .int .u64 0, .int .u64 0, .int .u64 0, .int .u64 0, .int .u64 0, .int .u64 0, .int .u64 0, .int .u64 0, .int .u64 0, .int .u64 0, .int .u64 0, .int .u64 0, .int .u64 0, .int .u64 0, .int .u64 0, .int .u64 0, .int .u64 0, .int .u64 0, .int .u64 0, .int .u64 0, .int .u64 0, .int .u64 0, .int .u64 0, .int .u64 0, .int .u64 0, .int .u64 0, .int .u64 0, .int .u64 0, .int .u64 0, .int .u64 0, .int .u64 0, .int .u64 0, .int .u64 0, .int .u64 0, .int .u64 0, .int .u64 0, .int .u64 0, .int .u64 0, .int .u64 0, .int .u64 0, .int .u64 0, .int .u64 0, .int .u64 0, .int .u64 0, .int .u64 0, .int .u64 0, .int .u64 0, .int .u64 0, .int .u64 0, .int .u64 0, .int .u64 0, .int .u64 0, .int .u64 0, .int .u64 0, .int .u64 0, .int .u64 0, .int .u64 0, .int .u64 0, .int .u64 0, .int .u64 0, .int .u64 0, .int .u64 0, .int .u64 0, .int .u64 0, .int .u64 0, .int .u64 0, .int .u64 0, .int .u64 0, .int .u64 0, .int .u64 0, .int .u64 0, .int .u64 0, .int .u64 0, .int .u64 0, .int .u64 0, .int .u64 0, .int .u64 0, .int .i64 0, .nili, .int .i64 0] [(0, 2, (.t 86)), (2, 1, (.t 87)), (3, 130, (.t 88)), (133, 130, (.t 89)), (393, 1, (.c (.int .i64 8))), (394, 1, (.t 91))], []⟩,
 ⟨some 93, none, .box 396 (.t 92) true, []⟩,
 ⟨some 8, none, .mv (.t 93), []⟩,
 ⟨some 9, none, .mv (.c (.int .i64 0)), []⟩])
 .ret))))))))⟩
theorem F81_code : cfgA.code 81 = some F81 := by kernel_rfl

/-- ticketline/grow.NewTake -/
noncomputable def F82 : AFn := ⟨17, [.tmp 4, .tmp 5], (.seq
 (.ops 0 [⟨some 2, none, .box 2 (.t 0) false, []⟩,
 ⟨some 4, none, .mv (.c (.nilp)), []⟩,
 ⟨some 5, none, .mv (.c (.int .i64 0)), []⟩])
 (.seq
 (.seq
 (.ops 1 [⟨some 6, none, .ld 2 true (.t 2), []⟩,
 ⟨some 7, none, .mv (.t 1), []⟩,
 ⟨some 8, none, .call 132 [.t 6, .t 7, .c (.int .i64 0)], []⟩,
 ⟨some 9, none, .un .not (.t 8), []⟩])
 (.cond (.t 9)
 (.seq
 (.ops 2 [⟨some 4, none, .mv (.c (.nilp)), []⟩,
 ⟨some 5, none, .mv (.c (.int .i64 2)), []⟩])
 .ret)
 .skip))
 (.seq
 (.ops 3 [⟨some 10, none, .ld 2 true (.t 2), []⟩,
 ⟨some 11, none, .mv (.t 1), []⟩,
 ⟨some 12, none, .ld 2 true (.t 2), []⟩,
 ⟨some 13, none, .mv (.t 1), []⟩,
 ⟨some 14, none, .call 137 [.t 12, .t 13], [(10, .ld 2 true (.t 2))]⟩,
 ⟨some 15, none, .build [.int .i64 0, .int .i64 0, .int .i64 0, .int .i64 0, .nili, .int .u64 0, .int .u64 0] [(0, 2, (.t 10)), (2, 1, (.t 11)), (3, 1, (.c (.int .i64 1))), (4, 1, (.t 14))], []⟩,
 ⟨some 16, none, .box 7 (.t 15) true, []⟩,
 ⟨some 4, none, .mv (.t 16), []⟩,
 ⟨some 5, none, .mv (.c (.int .i64 0)), []⟩])
 .ret)))⟩
theorem F82_code : cfgA.code 82 = some F82 := by kernel_rfl

/-- ticketline/slot.Pairs -/
noncomputable def F87 : AFn := ⟨13, [.tmp 2, .tmp 3], (.seq
 (.ops 0 [⟨some 1, none, .box 128 (.t 0) false, []⟩,
 ⟨some 2, none, .mv (.c (.nils)), []⟩,
 ⟨some 3, none, .mv (.c (.int .i64 0)), []⟩])
 (.seq
 (.ops 1 [⟨some 7, none, .call 141 [.t 1], []⟩,
 ⟨some 6, none, .mv (.t 7), []⟩,
 ⟨some 8, none, .ext (.t 6) 0, []⟩,
 ⟨some 9, none, .ext (.t 6) 1, []⟩,
 ⟨some 4, none, .mv (.t 8), []⟩,
 ⟨some 5, none, .mv (.t 9), []⟩])
 (.seq
 (.seq
 (.ops 2 [⟨some 10, none, .mv (.t 5), []⟩,
 ⟨some 11, none, .un .not (.t 10), []⟩])
 (.cond (.t 11)
 (.seq
 (.ops 3 [⟨some 2, none, .mv (.c (.nils)), []⟩,
 ⟨some 3, none, .mv (.c (.int .i64 12)), []⟩])
 .ret)
 .skip))
 (.seq
 (.ops 4 [⟨some 12, none, .mv (.t 4), []⟩,
 ⟨some 2, none, .mv (.t 12), []⟩,
 ⟨some 3, none, .mv (.c (.int .i64 0)), []⟩])
 .ret))))⟩
theorem F87_code : cfgA.code 87 = some F87 := by kernel_rfl

/-- ticketline/slot.Fences -/
noncomputable def F88 : AFn := ⟨18, [.tmp 2, .tmp 3, .tmp 4], (.seq
 (.ops 0 [⟨some 1, none, .box 128 (.t 0) false, []⟩,
 ⟨some 2, none, .mv (.c (.str [])), []⟩,
 ⟨some 3, none, .mv (.c (.str [])), []⟩,
 ⟨some 4, none, .mv (.c (.int .i64 0)), []⟩])
 (.seq
 (.seq
 (.ops 1 [⟨some 5, none, .ld 128 true (.t 1), []⟩,
 ⟨some 6, none, .call 133 [.t 5], []⟩,
 ⟨some 7, none, .un .not (.t 6), []⟩])
 (.cond (.t 7)
 (.seq
 (.ops 2 [⟨some 2, none, .mv (.c (.str [])), []⟩,
 ⟨some 3, none, .mv (.c (.str [])), []⟩,
 ⟨some 4, none, .mv (.c (.int .i64 12)), []⟩])
 .ret)
 .skip))
 (.seq
 (.ops 3 [⟨some 9, none, .call 142 [.t 1, .c (.int .i64 12)], []⟩,
 ⟨some 8, none, .mv (.t 9), []⟩,
 ⟨some 10, none, .ext (.t 8) 0, []⟩,
 ⟨some 11, none, .ext (.t 8) 1, []⟩,
 ⟨some 2, none, .mv (.t 10), []⟩])
 (.seq
 (.ops 4 [⟨some 13, none, .call 142 [.t 1, .c (.int .i64 16)], []⟩,
 ⟨some 12, none, .mv (.t 13), []⟩,
 ⟨some 14, none, .ext (.t 12) 0, []⟩,
 ⟨some 15, none, .ext (.t 12) 1, []⟩,
 ⟨some 3, none, .mv (.t 14), []⟩])
 (.seq
 (.ops 5 [⟨some 16, none, .mv (.t 2), []⟩,
 ⟨some 17, none, .mv (.t 3), []⟩,
 ⟨some 2, none, .mv (.t 16), []⟩,
 ⟨some 3, none, .mv (.t 17), []⟩,
 ⟨some 4, none, .mv (.c (.int .i64 0)), []⟩])
 .ret)))))⟩
theorem F88_code : cfgA.code 88 = some F88 := by kernel_rfl

/-- ticketline/slot.Next -/
noncomputable def F90 : AFn := ⟨9, [.tmp 2], (.seq
 (.ops 0 [⟨some 1, none, .box 128 (.t 0) false, []⟩,
 ⟨some 2, none, .mv (.c (.int .i64 0)), []⟩])
 (.seq
 (.seq
 (.ops 1 [⟨some 3, none, .ld 128 true (.t 1), []⟩,
 ⟨some 4, none, .call 133 [.t 3], []⟩,
 ⟨some 5, none, .un .not (.t 4), []⟩])
 (.cond (.t 5)
 (.seq
 (.ops 2 [⟨some 2, none, .mv (.c (.int .i64 0)), []⟩])
 .ret)
 .skip))
 (.seq
 (.ops 3 [⟨some 6, none, .ixa (some 128) 1 (.t 1) (.c (.int .i64 10)), []⟩,
 ⟨some 7, none, .ld 1 false (.t 6), []⟩,
 ⟨some 8, none, .cvi .i64 (.t 7), []⟩,
 ⟨some 2, none, .mv (.t 8), []⟩])
 .ret)))⟩
theorem F90_code : cfgA.code 90 = some F90 := by kernel_rfl

/-- ticketline/descend.Words -/
noncomputable def F92 : AFn := ⟨14, [.tmp 2, .tmp 3], (.seq
 (.ops 0 [⟨some 1, none, .box 2 (.t 0) false, []⟩,
 ⟨some 2, none, .mv (.c (.int .i64 0)), []⟩,
 ⟨some 3, none, .mv (.c (.int .i64 0)), []⟩])
 (.seq
 (.seq
 (.ops 1 [⟨some 4, none, .ld 2 true (.t 1), []⟩,
 ⟨some 5, none, .call 143 [.t 4], []⟩,
 ⟨some 6, none, .un .not (.t 5), []⟩])
 (.cond (.t 6)
 (.seq
 (.ops 2 [⟨some 2, none, .mv (.c (.int .i64 0)), []⟩,
 ⟨some 3, none, .mv (.c (.int .i64 2)), []⟩])
 .ret)
 .skip))
 (.seq
 (.ops 3 [⟨some 7, none, .ld 2 true (.t 1), []⟩,
 ⟨some 9, none, .fld 1 (.t 1), []⟩,
 ⟨some 10, none, .ld 1 false (.t 9), []⟩,
 ⟨some 11, none, .bin .mul (.t 10) (.c (.int .i64 2)), []⟩,
 ⟨some 12, none, .bin .mul (.t 11) (.c (.int .i64 3)), []⟩,
 ⟨some 8, none, .call 144 [.t 7], [(10, .ld 1 false (.t 9))]⟩,
 ⟨some 13, none, .bin .add (.t 8) (.t 12), []⟩,
 ⟨some 2, none, .mv (.t 13), []⟩,
 ⟨some 3, none, .mv (.c (.int .i64 0)), []⟩])
 .ret)))⟩
theorem F92_code : cfgA.code 92 = some F92 := by kernel_rfl

/-- ticketline/arena.Format: the round 0 -/
noncomputable def B93x0 : AC := (.seq
 (.ops 7 [⟨some 35, none, .bin .lss (.t 34) (.t 33), []⟩])
 (.seq
 (.cond (.t 35)
 .skip
 (.exit 1))
 (.seq
 (.block 2
 (.seq
 (.ops 8 [⟨some 36, none, .mv (.t 34), []⟩,
 ⟨some 7, none, .mv (.t 36), []⟩])
 (.ops 9 [⟨some 37, none, .ld 1 true (.t 6), []⟩,
 ⟨some 38, none, .mv (.t 7), []⟩,
 ⟨some 39, none, .call 147 [.t 37, .t 38, .c (.int .u64 0)], []⟩])))
 (.ops 10 [⟨some 40, none, .bin .add (.t 34) (.c (.int .i64 1)), []⟩,
 ⟨some 34, none, .mv (.t 40), []⟩]))))
/-- ticketline/arena.Format: the round 1 -/
noncomputable def B93x1 : AC := (.seq
 (.seq
 (.ops 15 [⟨some 49, none, .mv (.t 8), []⟩,
 ⟨some 50, none, .mv (.t 1), []⟩,
 ⟨some 51, none, .bin .lss (.t 49) (.t 50), []⟩])
 (.cond (.t 51)
 .skip
 (.exit 3)))
 (.seq
 (.block 4
 (.ops 17 [⟨some 54, none, .ld 1 true (.t 6), []⟩,
 ⟨some 55, none, .mv (.t 8), []⟩,
 ⟨some 57, none, .mv (.t 8), []⟩,
 ⟨some 58, none, .bin .add (.t 57) (.c (.int .i64 1)), []⟩,
 ⟨some 59, none, .cvi .u64 (.t 58), []⟩,
 ⟨some 56, none, .call 106 [.t 55, .c (.int .i64 10)], [(54, .ld 1 true (.t 6))]⟩,
 ⟨some 60, none, .call 147 [.t 54, .t 56, .t 59], []⟩]))
 (.ops 16 [⟨some 52, none, .mv (.t 8), []⟩,
 ⟨some 53, none, .bin .add (.t 52) (.c (.int .i64 1)), []⟩,
 ⟨some 8, none, .mv (.t 53), []⟩])))
/-- ticketline/arena.Format -/
noncomputable def F93 : AFn := ⟨64, [.tmp 4, .tmp 5], (.seq
 (.ops 0 [⟨some 4, none, .mv (.c (.nilp)), []⟩,
 ⟨some 5, none, .mv (.c (.int .i64 0)), []⟩])
 (.seq
 (.block 0
 (.seq
 (.ops 1 [⟨some 10, none, .mv (.t 0), []⟩,
 ⟨some 11, none, .call 145 [.t 10], []⟩,
 ⟨some 12, none, .bin .eql (.t 11) (.c (.int .i64 0)), []⟩,
 ⟨some 9, none, .mv (.t 12), []⟩])
 (.cond (.t 9)
 (.seq
 (.ops 2 [⟨some 4, none, .mv (.c (.nilp)), []⟩,
 ⟨some 5, none, .mv (.c (.int .i64 1)), []⟩])
 .ret)
 (.seq
 (.ops 3 [⟨some 14, none, .mv (.t 1), []⟩,
 ⟨some 15, none, .bin .lss (.t 14) (.c (.int .i64 1)), []⟩,
 ⟨some 16, none, .mv (.t 15), []⟩,
 ⟨some 17, some (16, false), .mv (.t 1), []⟩,
 ⟨some 18, some (16, false), .bin .gtr (.t 17) (.c (.int .i64 511)), []⟩,
 ⟨some 19, none, .pick (.t 16) (.c (.bool true)) (.t 18), []⟩,
 ⟨some 20, none, .mv (.t 19), []⟩,
 ⟨some 21, some (20, false), .mv (.t 1), []⟩,
 ⟨some 22, some (20, false), .bin .add (.t 21) (.c (.int .i64 1)), []⟩,
 ⟨some 23, some (20, false), .call 106 [.t 22, .c (.int .i64 0)], []⟩,
 ⟨some 24, some (20, false), .mv (.t 0), []⟩,
 ⟨some 25, some (20, false), .call 145 [.t 24], []⟩,
 ⟨some 26, some (20, false), .bin .gtr (.t 23) (.t 25), []⟩,
 ⟨some 27, none, .pick (.t 20) (.c (.bool true)) (.t 26), []⟩,
 ⟨some 13, none, .mv (.t 27), []⟩])
 (.cond (.t 13)
 (.seq
 (.ops 4 [⟨some 4, none, .mv (.c (.nilp)), []⟩,
 ⟨some 5, none, .mv (.c (.int .i64 2)), []⟩])
 .ret)
 .skip)))))
 (.seq
 (.ops 5 [⟨some 28, none, .mv (.t 0), []⟩,
 ⟨some 29, none, .call 146 [.t 28], []⟩,
 ⟨some 30, none, .build [.nilp] [(0, 1, (.t 29))], []⟩,
 ⟨some 6, none, .alloc [.nilp] false, []⟩,
 ⟨none, none, .st 1 (.t 6) (.t 30), []⟩])
 (.seq
 (.seq
 (.ops 6 [⟨some 31, none, .mv (.t 1), []⟩,
 ⟨some 32, none, .bin .add (.t 31) (.c (.int .i64 1)), []⟩,
 ⟨some 33, none, .call 106 [.t 32, .c (.int .i64 0)], []⟩,
 ⟨some 34, none, .mv (.c (.int .i64 0)), []⟩])
 (.block 1
 (.loop [] B93x0)))
 (.seq
 (.ops 11 [⟨some 41, none, .ld 1 true (.t 6), []⟩,
 ⟨some 42, none, .mv (.t 1), []⟩,
 ⟨some 43, none, .cvi .u64 (.t 42), []⟩,
 ⟨some 44, none, .call 147 [.t 41, .c (.int .i64 0), .t 43], []⟩])
 (.seq
 (.ops 12 [⟨some 45, none, .ld 1 true (.t 6), []⟩,
 ⟨some 46, none, .call 147 [.t 45, .c (.int .i64 1), .c (.int .u64 1)], []⟩])
 (.seq
 (.ops 13 [⟨some 47, none, .ld 1 true (.t 6), []⟩,
 ⟨some 48, none, .call 147 [.t 47, .c (.int .i64 4), .c (.int .u64 1)], []⟩])
 (.seq
 (.seq
 (.ops 14 [⟨some 8, none, .mv (.c (.int .i64 1)), []⟩])
 (.block 3
 (.loop [] B93x1)))
 (.seq
 (.ops 18 [⟨some 61, none, .ld 1 true (.t 6), []⟩,
 ⟨some 62, none, .build [.nilp] [(0, 1, (.t 61))], []⟩,
 ⟨some 63, none, .box 1 (.t 62) true, []⟩,
 ⟨some 4, none, .mv (.t 63), []⟩,
 ⟨some 5, none, .mv (.c (.int .i64 0)), []⟩])
 .ret)))))))))⟩
theorem F93_code : cfgA.code 93 = some F93 := by kernel_rfl

/-- ticketline/slot.Make -/
noncomputable def F94 : AFn := ⟨57, [.cell 6 128 true, .tmp 7], (.seq
 (.ops 0 [⟨some 6, none, .alloc (List.replicate 128 (.int .u64 0)) false, []⟩,
 ⟨some 7, none, .mv (.c (.int .i64 0)), []⟩])
 (.seq
 (.block 0
 (.seq
 (.ops 1 [⟨some 12, none, .mv (.t 0), []⟩,
 ⟨some 13, none, .bin .lss (.t 12) (.c (.int .i64 0)), []⟩,
 ⟨some 14, none, .mv (.t 13), []⟩,
 ⟨some 15, some (14, false), .mv (.t 0), []⟩,
 ⟨some 16, some (14, false), .bin .geq (.t 15) (.c (.int .i64 6)), []⟩,
 ⟨some 17, none, .pick (.t 14) (.c (.bool true)) (.t 16), []⟩,
 ⟨some 11, none, .mv (.t 17), []⟩])
 (.cond (.t 11)
 (.seq
 (.ops 2 [⟨some 18, none, .build (List.replicate 128 (.int .u64 0)) [], []⟩,
 ⟨none, none, .st 128 (.t 6) (.t 18), []⟩,
 ⟨some 7, none, .mv (.c (.int .i64 2)), []⟩])
 .ret)
 (.seq
 (.ops 3 [⟨some 20, none, .mv (.t 1), []⟩,
 ⟨some 21, none, .len .string (.t 20), []⟩,
 ⟨some 22, none, .bin .gtr (.t 21) (.c (.int .i64 24)), []⟩,
 ⟨some 23, none, .mv (.t 22), []⟩,
 ⟨some 24, some (23, false), .mv (.t 2), []⟩,
 ⟨some 25, some (23, false), .len .string (.t 24), []⟩,
 ⟨some 26, some (23, false), .bin .gtr (.t 25) (.c (.int .i64 24)), []⟩,
 ⟨some 27, none, .pick (.t 23) (.c (.bool true)) (.t 26), []⟩,
 ⟨some 19, none, .mv (.t 27), []⟩])
 (.cond (.t 19)
 (.seq
 (.ops 4 [⟨some 28, none, .build (List.replicate 128 (.int .u64 0)) [], []⟩,
 ⟨none, none, .st 128 (.t 6) (.t 28), []⟩,
 ⟨some 7, none, .mv (.c (.int .i64 5)), []⟩])
 .ret)
 (.seq
 (.ops 5 [⟨some 30, none, .mv (.t 2), []⟩,
 ⟨some 31, none, .bin .neq (.t 30) (.c (.str [])), []⟩,
 ⟨some 32, none, .mv (.t 31), []⟩,
 ⟨some 33, some (32, true), .mv (.t 1), []⟩,
 ⟨some 34, some (32, true), .mv (.t 2), []⟩,
 ⟨some 35, some (32, true), .call 148 [.t 33, .t 34], []⟩,
 ⟨some 36, some (32, true), .bin .geq (.t 35) (.c (.int .i64 0)), []⟩,
 ⟨some 37, none, .pick (.t 32) (.t 36) (.c (.bool false)), []⟩,
 ⟨some 29, none, .mv (.t 37), []⟩])
 (.cond (.t 29)
 (.seq
 (.ops 6 [⟨some 38, none, .build (List.replicate 128 (.int .u64 0)) [], []⟩,
 ⟨none, none, .st 128 (.t 6) (.t 38), []⟩,
 ⟨some 7, none, .mv (.c (.int .i64 13)), []⟩])
 .ret)
 .skip)))))))
 (.seq
 (.ops 7 [⟨some 8, none, .alloc (List.replicate 128 (.int .u64 0)) false, []⟩])
 (.seq
 (.ops 8 [⟨some 39, none, .mv (.t 0), []⟩,
 ⟨some 40, none, .bin .add (.c (.int .i64 1)) (.t 39), []⟩,
 ⟨some 41, none, .cvi .u64 (.t 40), []⟩,
 ⟨some 42, none, .ixa (some 128) 1 (.t 8) (.c (.int .i64 8)), []⟩,
 ⟨none, none, .st 1 (.t 42) (.t 41), []⟩,
 ⟨some 43, none, .ixa (some 128) 1 (.t 8) (.c (.int .i64 11)), []⟩,
 ⟨none, none, .st 1 (.t 43) (.c (.int .u64 128)), []⟩])
 (.seq
 (.seq
 (.ops 9 [⟨some 44, none, .mv (.t 1), []⟩,
 ⟨some 45, none, .call 149 [.t 8, .c (.int .i64 12), .t 44], []⟩,
 ⟨some 9, none, .mv (.t 45), []⟩])
 (.seq
 (.ops 10 [⟨some 46, none, .mv (.t 9), []⟩,
 ⟨some 47, none, .bin .neq (.t 46) (.c (.int .i64 0)), []⟩])
 (.cond (.t 47)
 (.seq
 (.ops 11 [⟨some 48, none, .build (List.replicate 128 (.int .u64 0)) [], []⟩,
 ⟨some 49, none, .mv (.t 9), []⟩,
 ⟨none, none, .st 128 (.t 6) (.t 48), []⟩,
 ⟨some 7, none, .mv (.t 49), []⟩])
 .ret)
 .skip)))
 (.seq
 (.seq
 (.ops 12 [⟨some 50, none, .mv (.t 2), []⟩,
 ⟨some 51, none, .call 149 [.t 8, .c (.int .i64 16), .t 50], []⟩,
 ⟨some 10, none, .mv (.t 51), []⟩])
 (.seq
 (.ops 13 [⟨some 52, none, .mv (.t 10), []⟩,
 ⟨some 53, none, .bin .neq (.t 52) (.c (.int .i64 0)), []⟩])
 (.cond (.t 53)
 (.seq
 (.ops 14 [⟨some 54, none, .build (List.replicate 128 (.int .u64 0)) [], []⟩,
 ⟨some 55, none, .mv (.t 10), []⟩,
 ⟨none, none, .st 128 (.t 6) (.t 54), []⟩,
 ⟨some 7, none, .mv (.t 55), []⟩])
 .ret)
 .skip)))
 (.seq
 (.ops 15 [⟨some 56, none, .ld 128 true (.t 8), []⟩,
 ⟨none, none, .st 128 (.t 6) (.t 56), []⟩,
 ⟨some 7, none, .mv (.c (.int .i64 0)), []⟩])
 .ret)))))))⟩
theorem F94_code : cfgA.code 94 = some F94 := by kernel_rfl

/-- (*ticketline/arena.Arena).Alloc -/
noncomputable def F95 : AFn := ⟨39, [.tmp 4, .tmp 5], (.seq
 (.ops 0 [⟨some 3, none, .box 128 (.t 1) false, []⟩,
 ⟨some 4, none, .mv (.c (.int .i64 0)), []⟩,
 ⟨some 5, none, .mv (.c (.int .i64 0)), []⟩])
 (.seq
 (.block 0
 (.seq
 (.ops 1 [⟨some 8, none, .mv (.t 0), []⟩,
 ⟨some 9, none, .call 150 [.t 8], []⟩,
 ⟨some 7, none, .mv (.t 9), []⟩])
 (.cond (.t 7)
 (.seq
 (.ops 2 [⟨some 4, none, .mv (.c (.int .i64 0)), []⟩,
 ⟨some 5, none, .mv (.c (.int .i64 1)), []⟩])
 .ret)
 (.seq
 (.ops 3 [⟨some 11, none, .ld 128 true (.t 3), []⟩,
 ⟨some 12, none, .call 133 [.t 11], []⟩,
 ⟨some 13, none, .un .not (.t 12), []⟩,
 ⟨some 10, none, .mv (.t 13), []⟩])
 (.cond (.t 10)
 (.seq
 (.ops 4 [⟨some 4, none, .mv (.c (.int .i64 0)), []⟩,
 ⟨some 5, none, .mv (.c (.int .i64 12)), []⟩])
 .ret)
 .skip)))))
 (.seq
 (.ops 5 [⟨some 14, none, .mv (.t 0), []⟩,
 ⟨some 15, none, .nilc (.t 14) (mok Tryz.prog), []⟩,
 ⟨some 16, none, .fld 0 (.t 15), []⟩,
 ⟨some 17, none, .ld 1 true (.t 16), []⟩,
 ⟨some 18, none, .call 151 [.t 17, .c (.int .i64 1)], []⟩,
 ⟨some 19, none, .cvi .i64 (.t 18), []⟩,
 ⟨some 6, none, .mv (.t 19), []⟩])
 (.seq
 (.seq
 (.ops 6 [⟨some 20, none, .mv (.t 6), []⟩,
 ⟨some 21, none, .bin .eql (.t 20) (.c (.int .i64 0)), []⟩])
 (.cond (.t 21)
 (.seq
 (.ops 7 [⟨some 4, none, .mv (.c (.int .i64 0)), []⟩,
 ⟨some 5, none, .mv (.c (.int .i64 7)), []⟩])
 .ret)
 .skip))
 (.seq
 (.ops 8 [⟨some 22, none, .mv (.t 0), []⟩,
 ⟨some 23, none, .nilc (.t 22) (mok Tryz.prog), []⟩,
 ⟨some 24, none, .fld 0 (.t 23), []⟩,
 ⟨some 25, none, .ld 1 true (.t 24), []⟩,
 ⟨some 26, none, .mv (.t 0), []⟩,
 ⟨some 27, none, .nilc (.t 26) (mok Tryz.prog), []⟩,
 ⟨some 28, none, .fld 0 (.t 27), []⟩,
 ⟨some 29, none, .ld 1 true (.t 28), []⟩,
 ⟨some 30, none, .mv (.t 6), []⟩,
 ⟨some 31, none, .call 106 [.t 30, .c (.int .i64 10)], [(25, .ld 1 true (.t 24)), (29, .ld 1 true (.t 28))]⟩,
 ⟨some 32, none, .call 151 [.t 29, .t 31], [(25, .ld 1 true (.t 24))]⟩,
 ⟨some 33, none, .call 147 [.t 25, .c (.int .i64 1), .t 32], []⟩])
 (.seq
 (.ops 9 [⟨some 34, none, .mv (.t 0), []⟩,
 ⟨some 35, none, .mv (.t 6), []⟩,
 ⟨some 36, none, .ld 128 true (.t 3), []⟩,
 ⟨some 37, none, .call 152 [.t 34, .t 35, .t 36], []⟩])
 (.seq
 (.ops 10 [⟨some 38, none, .mv (.t 6), []⟩,
 ⟨some 4, none, .mv (.t 38), []⟩,
 ⟨some 5, none, .mv (.c (.int .i64 0)), []⟩])
 .ret)))))))⟩
theorem F95_code : cfgA.code 95 = some F95 := by kernel_rfl

/-- (*ticketline/arena.Arena).SetRoot -/
noncomputable def F96 : AFn := ⟨23, [.tmp 4], (.seq
 (.ops 0 [⟨some 4, none, .mv (.c (.int .i64 0)), []⟩])
 (.seq
 (.seq
 (.ops 1 [⟨some 6, none, .mv (.t 0), []⟩,
 ⟨some 7, none, .call 150 [.t 6], []⟩])
 (.cond (.t 7)
 (.seq
 (.ops 2 [⟨some 4, none, .mv (.c (.int .i64 1)), []⟩])
 .ret)
 .skip))
 (.seq
 (.seq
 (.ops 3 [⟨some 8, none, .mv (.t 1), []⟩,
 ⟨some 9, none, .bin .neq (.t 8) (.c (.int .i64 0)), []⟩])
 (.cond (.t 9)
 (.seq
 (.ops 4 [⟨some 10, none, .mv (.t 0), []⟩,
 ⟨some 11, none, .mv (.t 1), []⟩,
 ⟨some 12, none, .call 153 [.t 10, .t 11, .c (.bool false)], []⟩,
 ⟨some 5, none, .mv (.t 12), []⟩])
 (.seq
 (.ops 5 [⟨some 13, none, .mv (.t 5), []⟩,
 ⟨some 14, none, .bin .neq (.t 13) (.c (.int .i64 0)), []⟩])
 (.cond (.t 14)
 (.seq
 (.ops 6 [⟨some 15, none, .mv (.t 5), []⟩,
 ⟨some 4, none, .mv (.t 15), []⟩])
 .ret)
 .skip)))
 .skip))
 (.seq
 (.ops 7 [⟨some 16, none, .mv (.t 0), []⟩,
 ⟨some 17, none, .nilc (.t 16) (mok Tryz.prog), []⟩,
 ⟨some 18, none, .fld 0 (.t 17), []⟩,
 ⟨some 19, none, .ld 1 true (.t 18), []⟩,
 ⟨some 20, none, .mv (.t 1), []⟩,
 ⟨some 21, none, .cvi .u64 (.t 20), []⟩,
 ⟨some 22, none, .call 147 [.t 19, .c (.int .i64 3), .t 21], []⟩])
 (.seq
 (.ops 8 [⟨some 4, none, .mv (.c (.int .i64 0)), []⟩])
 .ret)))))⟩
theorem F96_code : cfgA.code 96 = some F96 := by kernel_rfl

/-- (*ticketline/arena.Arena).Mem -/
noncomputable def F97 : AFn := ⟨11, [.tmp 2], (.seq
 (.ops 0 [⟨some 2, none, .mv (.c (.nilp)), []⟩])
 (.seq
 (.seq
 (.ops 1 [⟨some 3, none, .mv (.t 0), []⟩,
 ⟨some 4, none, .call 150 [.t 3], []⟩])
 (.cond (.t 4)
 (.seq
 (.ops 2 [⟨some 2, none, .mv (.c (.nilp)), []⟩])
 .ret)
 .skip))
 (.seq
 (.ops 3 [⟨some 5, none, .mv (.t 0), []⟩,
 ⟨some 6, none, .nilc (.t 5) (mok Tryz.prog), []⟩,
 ⟨some 7, none, .fld 0 (.t 6), []⟩,
 ⟨some 8, none, .fld 0 (.t 7), []⟩,
 ⟨some 9, none, .ld 1 false (.t 8), []⟩,
 ⟨some 10, none, .call 146 [.t 9], []⟩,
 ⟨some 2, none, .mv (.t 10), []⟩])
 .ret)))⟩
theorem F97_code : cfgA.code 97 = some F97 := by kernel_rfl

/-- ticketline/descend.Nodes -/
noncomputable def F102 : AFn := ⟨14, [.tmp 2, .tmp 3], (.seq
 (.ops 0 [⟨some 1, none, .box 2 (.t 0) false, []⟩,
 ⟨some 2, none, .mv (.c (.nilp)), []⟩,
 ⟨some 3, none, .mv (.c (.int .i64 0)), []⟩])
 (.seq
 (.seq
 (.ops 1 [⟨some 4, none, .ld 2 true (.t 1), []⟩,
 ⟨some 5, none, .call 143 [.t 4], []⟩,
 ⟨some 6, none, .un .not (.t 5), []⟩])
 (.cond (.t 6)
 (.seq
 (.ops 2 [⟨some 2, none, .mv (.c (.nilp)), []⟩,
 ⟨some 3, none, .mv (.c (.int .i64 2)), []⟩])
 .ret)
 .skip))
 (.seq
 (.ops 3 [⟨some 7, none, .ld 2 true (.t 1), []⟩,
 ⟨some 9, none, .fld 1 (.t 1), []⟩,
 ⟨some 10, none, .ld 1 false (.t 9), []⟩,
 ⟨some 8, none, .call 144 [.t 7], [(10, .ld 1 false (.t 9))]⟩,
 ⟨some 11, none, .call 155 [.t 8, .t 10], []⟩,
 ⟨some 12, none, .ext (.t 11) 0, []⟩,
 ⟨some 13, none, .ext (.t 11) 1, []⟩,
 ⟨some 2, none, .mv (.t 12), []⟩,
 ⟨some 3, none, .mv (.t 13), []⟩])
 .ret)))⟩
theorem F102_code : cfgA.code 102 = some F102 := by kernel_rfl

/-- ticketline/descend.At -/
noncomputable def F103 : AFn := ⟨26, [.tmp 4, .tmp 5], (.seq
 (.ops 0 [⟨some 2, none, .box 2 (.t 0) false, []⟩,
 ⟨some 4, none, .mv (.c (.int .i64 0)), []⟩,
 ⟨some 5, none, .mv (.c (.int .i64 0)), []⟩])
 (.seq
 (.block 0
 (.seq
 (.ops 1 [⟨some 7, none, .ld 2 true (.t 2), []⟩,
 ⟨some 8, none, .call 143 [.t 7], []⟩,
 ⟨some 9, none, .un .not (.t 8), []⟩,
 ⟨some 6, none, .mv (.t 9), []⟩])
 (.cond (.t 6)
 (.seq
 (.ops 2 [⟨some 4, none, .mv (.c (.int .i64 0)), []⟩,
 ⟨some 5, none, .mv (.c (.int .i64 2)), []⟩])
 .ret)
 (.seq
 (.ops 3 [⟨some 11, none, .mv (.t 1), []⟩,
 ⟨some 12, none, .bin .lss (.t 11) (.c (.int .i64 0)), []⟩,
 ⟨some 13, none, .mv (.t 12), []⟩,
 ⟨some 14, some (13, false), .mv (.t 1), []⟩,
 ⟨some 15, some (13, false), .fld 0 (.t 2), []⟩,
 ⟨some 16, some (13, false), .ld 1 false (.t 15), []⟩,
 ⟨some 17, some (13, false), .bin .gtr (.t 14) (.t 16), []⟩,
 ⟨some 18, none, .pick (.t 13) (.c (.bool true)) (.t 17), []⟩,
 ⟨some 10, none, .mv (.t 18), []⟩])
 (.cond (.t 10)
 (.seq
 (.ops 4 [⟨some 4, none, .mv (.c (.int .i64 0)), []⟩,
 ⟨some 5, none, .mv (.c (.int .i64 3)), []⟩])
 .ret)
 (.seq
 (.ops 5 [⟨some 20, none, .mv (.t 1), []⟩,
 ⟨some 21, none, .bin .eql (.t 20) (.c (.int .i64 0)), []⟩,
 ⟨some 19, none, .mv (.t 21), []⟩])
 (.cond (.t 19)
 (.seq
 (.ops 6 [⟨some 4, none, .mv (.c (.int .i64 8)), []⟩,
 ⟨some 5, none, .mv (.c (.int .i64 0)), []⟩])
 .ret)
 .skip)))))))
 (.seq
 (.ops 7 [⟨some 22, none, .mv (.t 1), []⟩,
 ⟨some 23, none, .call 59 [.t 22, .c (.int .i64 0)], []⟩,
 ⟨some 24, none, .ext (.t 23) 0, []⟩,
 ⟨some 25, none, .ext (.t 23) 1, []⟩,
 ⟨some 4, none, .mv (.t 24), []⟩,
 ⟨some 5, none, .mv (.t 25), []⟩])
 .ret)))⟩
theorem F103_code : cfgA.code 103 = some F103 := by kernel_rfl

end Den
