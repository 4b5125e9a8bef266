/- Functions of the program, as den reads them. -/
import Derived.Test.YtiecdchfnenldaaGreatA
namespace Den
open Go Go.Proofs
set_option maxRecDepth 1000000

/-- ticketline/ticketlinelaw31.GateRaces: the round 0 -/
@[reducible] noncomputable def B4x0 : AC := (.seq
 (.seq
 (.ops 9 [⟨some 58, none, .mv (.t 13), []⟩,
 ⟨some 59, none, .mv (.t 0), []⟩,
 ⟨some 60, none, .cvi .i64 (.t 59), []⟩,
 ⟨some 61, none, .bin .lss (.t 58) (.t 60), []⟩])
 (.cond (.t 61)
 .skip
 (.exit 0)))
 (.seq
 (.block 1
 (.seq
 (.ops 11 [⟨some 64, none, .ld 2 true (.t 9), []⟩,
 ⟨some 65, none, .mv (.t 13), []⟩,
 ⟨some 66, none, .mv (.t 1), []⟩,
 ⟨some 67, none, .cvi .i64 (.t 66), []⟩,
 ⟨some 69, none, .ld 2 true (.t 9), []⟩,
 ⟨some 70, none, .mv (.t 13), []⟩,
 ⟨some 72, none, .mv (.t 13), []⟩,
 ⟨some 73, none, .ixa (some 6) 1 (.t 6) (.t 72), []⟩,
 ⟨some 74, none, .ld 1 false (.t 73), []⟩,
 ⟨some 75, none, .bin .rem (.t 74) (.c (.int .u8 50)), []⟩,
 ⟨some 76, none, .cvi .i64 (.t 75), []⟩,
 ⟨some 68, none, .call 20 [.t 64, .t 65, .t 67], [(69, .ld 2 true (.t 9)), (74, .ld 1 false (.t 73))]⟩,
 ⟨some 71, none, .call 16 [.t 69, .t 70], [(74, .ld 1 false (.t 73))]⟩,
 ⟨some 77, none, .build [.nilp, .nilp, .int .i64 0] [(0, 1, (.t 68)), (1, 1, (.t 71)), (2, 1, (.t 76))], []⟩,
 ⟨some 78, none, .box 3 (.t 77) true, []⟩,
 ⟨some 14, none, .mv (.t 78), []⟩])
 (.seq
 (.seq
 (.ops 12 [⟨some 79, none, .mv (.t 14), []⟩,
 ⟨some 80, none, .nilc (.t 79) (mok Tryz.prog), []⟩,
 ⟨some 81, none, .fld 0 (.t 80), []⟩,
 ⟨some 82, none, .ld 1 false (.t 81), []⟩,
 ⟨some 83, none, .eqn .ptr false (.t 82), []⟩,
 ⟨some 84, none, .mv (.t 83), []⟩,
 ⟨some 85, some (84, false), .mv (.t 14), []⟩,
 ⟨some 86, some (84, false), .nilc (.t 85) (mok Tryz.prog), []⟩,
 ⟨some 87, some (84, false), .fld 1 (.t 86), []⟩,
 ⟨some 88, some (84, false), .ld 1 false (.t 87), []⟩,
 ⟨some 89, some (84, false), .eqn .ptr false (.t 88), []⟩,
 ⟨some 90, none, .pick (.t 84) (.c (.bool true)) (.t 89), []⟩])
 (.cond (.t 90)
 (.seq
 (.ops 13 [⟨some 8, none, .mv (.c (.bool false)), []⟩])
 .ret)
 .skip))
 (.ops 14 [⟨some 91, none, .mv (.t 12), []⟩,
 ⟨some 92, none, .mv (.t 14), []⟩,
 ⟨some 93, none, .bslice [.nilp] 1 1 [(0, (.t 92))] true true, []⟩,
 ⟨some 94, none, .app 1 8 (.t 91) (.t 93) true, []⟩,
 ⟨some 12, none, .mv (.t 94), []⟩]))))
 (.ops 10 [⟨some 62, none, .mv (.t 13), []⟩,
 ⟨some 63, none, .bin .add (.t 62) (.c (.int .i64 1)), []⟩,
 ⟨some 13, none, .mv (.t 63), []⟩])))

/-- ticketline/ticketlinelaw31.GateRaces: the round 1 -/
@[reducible] noncomputable def B4x1 : AC := (.seq
 (.seq
 (.ops 19 [⟨some 99, none, .mv (.t 16), []⟩,
 ⟨some 100, none, .mv (.t 3), []⟩,
 ⟨some 101, none, .len .slice (.t 100), []⟩,
 ⟨some 102, none, .bin .lss (.t 99) (.t 101), []⟩])
 (.cond (.t 102)
 .skip
 (.exit 4)))
 (.seq
 (.block 5
 (.seq
 (.seq
 (.ops 21 [⟨some 106, none, .mv (.t 12), []⟩,
 ⟨some 107, none, .mv (.t 3), []⟩,
 ⟨some 108, none, .mv (.t 16), []⟩,
 ⟨some 109, none, .ixa none 1 (.t 107) (.t 108), []⟩,
 ⟨some 110, none, .ld 1 false (.t 109), []⟩,
 ⟨some 111, none, .cvi .i64 (.t 110), []⟩,
 ⟨some 112, none, .mv (.t 12), []⟩,
 ⟨some 113, none, .len .slice (.t 112), []⟩,
 ⟨some 114, none, .bin .rem (.t 111) (.t 113), []⟩,
 ⟨some 115, none, .ixa none 1 (.t 106) (.t 114), []⟩,
 ⟨some 116, none, .ld 1 false (.t 115), []⟩,
 ⟨some 117, none, .mv (.t 10), []⟩,
 ⟨some 118, none, .call 24 [.t 116, .t 117], []⟩,
 ⟨some 105, none, .mv (.t 118), []⟩,
 ⟨some 119, none, .ext (.t 105) 0, []⟩,
 ⟨some 120, none, .ext (.t 105) 1, []⟩,
 ⟨some 17, none, .mv (.t 119), []⟩,
 ⟨some 18, none, .mv (.t 120), []⟩])
 (.seq
 (.ops 22 [⟨some 121, none, .mv (.t 18), []⟩])
 (.cond (.t 121)
 (.seq
 (.ops 23 [⟨some 8, none, .mv (.c (.bool false)), []⟩])
 .ret)
 .skip)))
 (.seq
 (.ops 24 [⟨some 122, none, .mv (.t 12), []⟩,
 ⟨some 123, none, .call 25 [.t 122], []⟩,
 ⟨some 124, none, .mv (.t 1), []⟩,
 ⟨some 125, none, .cvi .i64 (.t 124), []⟩,
 ⟨some 126, none, .bin .gtr (.t 123) (.t 125), []⟩])
 (.cond (.t 126)
 (.seq
 (.ops 25 [⟨some 8, none, .mv (.c (.bool false)), []⟩])
 .ret)
 .skip))))
 (.ops 20 [⟨some 103, none, .mv (.t 16), []⟩,
 ⟨some 104, none, .bin .add (.t 103) (.c (.int .i64 1)), []⟩,
 ⟨some 16, none, .mv (.t 104), []⟩])))

/-- ticketline/ticketlinelaw31.GateRaces: the round 2 -/
@[reducible] noncomputable def B4x2 : AC := (.seq
 (.seq
 (.ops 28 [⟨some 127, none, .mv (.t 21), []⟩,
 ⟨some 128, none, .mv (.t 12), []⟩,
 ⟨some 129, none, .len .slice (.t 128), []⟩,
 ⟨some 130, none, .bin .lss (.t 127) (.t 129), []⟩])
 (.cond (.t 130)
 .skip
 (.exit 6)))
 (.seq
 (.block 7
 (.seq
 (.seq
 (.ops 30 [⟨some 133, none, .mv (.t 12), []⟩,
 ⟨some 134, none, .mv (.t 21), []⟩,
 ⟨some 135, none, .ixa none 1 (.t 133) (.t 134), []⟩,
 ⟨some 136, none, .ld 1 false (.t 135), []⟩,
 ⟨some 137, none, .nilc (.t 136) (mok Tryz.prog), []⟩,
 ⟨some 138, none, .fld 1 (.t 137), []⟩,
 ⟨some 139, none, .ld 1 false (.t 138), []⟩,
 ⟨some 140, none, .call 26 [.t 139], []⟩])
 (.cond (.t 140)
 (.exit 7)
 .skip))
 (.seq
 (.ops 31 [⟨some 142, none, .mv (.t 12), []⟩,
 ⟨some 143, none, .mv (.t 21), []⟩,
 ⟨some 144, none, .ixa none 1 (.t 142) (.t 143), []⟩,
 ⟨some 145, none, .ld 1 false (.t 144), []⟩,
 ⟨some 146, none, .mv (.t 10), []⟩,
 ⟨some 147, none, .call 24 [.t 145, .t 146], []⟩,
 ⟨some 141, none, .mv (.t 147), []⟩,
 ⟨some 148, none, .ext (.t 141) 0, []⟩,
 ⟨some 149, none, .ext (.t 141) 1, []⟩,
 ⟨some 22, none, .mv (.t 148), []⟩,
 ⟨some 23, none, .mv (.t 149), []⟩])
 (.seq
 (.seq
 (.ops 32 [⟨some 150, none, .mv (.t 23), []⟩,
 ⟨some 151, none, .mv (.t 150), []⟩,
 ⟨some 152, some (151, false), .mv (.t 12), []⟩,
 ⟨some 153, some (151, false), .call 25 [.t 152], []⟩,
 ⟨some 154, some (151, false), .mv (.t 1), []⟩,
 ⟨some 155, some (151, false), .cvi .i64 (.t 154), []⟩,
 ⟨some 156, some (151, false), .bin .gtr (.t 153) (.t 155), []⟩,
 ⟨some 157, none, .pick (.t 151) (.c (.bool true)) (.t 156), []⟩])
 (.cond (.t 157)
 (.seq
 (.ops 33 [⟨some 8, none, .mv (.c (.bool false)), []⟩])
 .ret)
 .skip))
 (.ops 34 [⟨some 158, none, .mv (.t 20), []⟩,
 ⟨some 159, none, .mv (.t 158), []⟩,
 ⟨some 160, some (159, false), .mv (.t 22), []⟩,
 ⟨some 161, some (159, false), .un .not (.t 160), []⟩,
 ⟨some 162, none, .pick (.t 159) (.c (.bool true)) (.t 161), []⟩,
 ⟨some 19, none, .mv (.c (.bool true)), []⟩,
 ⟨some 20, none, .mv (.t 162), []⟩])))))
 (.ops 29 [⟨some 131, none, .mv (.t 21), []⟩,
 ⟨some 132, none, .bin .add (.t 131) (.c (.int .i64 1)), []⟩,
 ⟨some 21, none, .mv (.t 132), []⟩])))

/-- ticketline/ticketlinelaw31.GateRaces: the round 3 -/
@[reducible] noncomputable def B4x3 : AC := (.seq
 (.seq
 (.ops 16 [⟨some 95, none, .mv (.t 15), []⟩,
 ⟨some 96, none, .bin .lss (.t 95) (.c (.int .i64 3000)), []⟩])
 (.cond (.t 96)
 .skip
 (.exit 2)))
 (.seq
 (.block 3
 (.seq
 (.seq
 (.ops 18 [⟨some 16, none, .mv (.c (.int .i64 0)), []⟩])
 (.block 4
 (.loop [] B4x1)))
 (.seq
 (.ops 26 [⟨some 19, none, .mv (.c (.bool false)), []⟩,
 ⟨some 20, none, .mv (.c (.bool false)), []⟩])
 (.seq
 (.seq
 (.ops 27 [⟨some 21, none, .mv (.c (.int .i64 0)), []⟩])
 (.block 6
 (.loop [] B4x2)))
 (.seq
 (.seq
 (.ops 35 [⟨some 163, none, .mv (.t 19), []⟩,
 ⟨some 164, none, .un .not (.t 163), []⟩])
 (.cond (.t 164)
 (.seq
 (.ops 36 [⟨some 165, none, .ld 2 true (.t 9), []⟩,
 ⟨some 166, none, .mv (.t 10), []⟩,
 ⟨some 167, none, .call 23 [.t 165, .t 166, .c (.int .i64 0), .c (.nils)], []⟩,
 ⟨some 168, none, .mv (.t 167), []⟩,
 ⟨some 169, some (168, true), .call 13 [], []⟩,
 ⟨some 170, none, .pick (.t 168) (.t 169) (.c (.bool false)), []⟩,
 ⟨some 8, none, .mv (.t 170), []⟩])
 .ret)
 .skip))
 (.seq
 (.ops 37 [⟨some 171, none, .mv (.t 20), []⟩,
 ⟨some 172, none, .un .not (.t 171), []⟩])
 (.cond (.t 172)
 (.seq
 (.ops 38 [⟨some 8, none, .mv (.c (.bool false)), []⟩])
 .ret)
 .skip)))))))
 (.ops 17 [⟨some 97, none, .mv (.t 15), []⟩,
 ⟨some 98, none, .bin .add (.t 97) (.c (.int .i64 1)), []⟩,
 ⟨some 15, none, .mv (.t 98), []⟩])))

/-- ticketline/ticketlinelaw31.GateRaces -/
noncomputable def F4 : AFn := ⟨173, [.tmp 8], (.seq
 (.ops 0 [⟨some 6, none, .box 6 (.t 2) true, []⟩,
 ⟨some 8, none, .mv (.c (.bool false)), []⟩])
 (.seq
 (.seq
 (.ops 1 [⟨some 24, none, .mv (.t 0), []⟩,
 ⟨some 25, none, .bin .lss (.t 24) (.c (.int .u8 1)), []⟩,
 ⟨some 26, none, .mv (.t 25), []⟩,
 ⟨some 27, some (26, false), .mv (.t 0), []⟩,
 ⟨some 28, some (26, false), .bin .gtr (.t 27) (.c (.int .u8 6)), []⟩,
 ⟨some 29, none, .pick (.t 26) (.c (.bool true)) (.t 28), []⟩,
 ⟨some 30, none, .mv (.t 29), []⟩,
 ⟨some 31, some (30, false), .mv (.t 1), []⟩,
 ⟨some 32, some (30, false), .bin .lss (.t 31) (.c (.int .u8 1)), []⟩,
 ⟨some 33, none, .pick (.t 30) (.c (.bool true)) (.t 32), []⟩,
 ⟨some 34, none, .mv (.t 33), []⟩,
 ⟨some 35, some (34, false), .mv (.t 1), []⟩,
 ⟨some 36, some (34, false), .bin .gtr (.t 35) (.c (.int .u8 6)), []⟩,
 ⟨some 37, none, .pick (.t 34) (.c (.bool true)) (.t 36), []⟩,
 ⟨some 38, none, .mv (.t 37), []⟩,
 ⟨some 39, some (38, false), .mv (.t 3), []⟩,
 ⟨some 40, some (38, false), .len .slice (.t 39), []⟩,
 ⟨some 41, some (38, false), .bin .gtr (.t 40) (.c (.int .i64 60)), []⟩,
 ⟨some 42, none, .pick (.t 38) (.c (.bool true)) (.t 41), []⟩])
 (.cond (.t 42)
 (.seq
 (.ops 2 [⟨some 43, none, .call 13 [], []⟩,
 ⟨some 8, none, .mv (.t 43), []⟩])
 .ret)
 .skip))
 (.seq
 (.ops 3 [⟨some 44, none, .mv (.t 0), []⟩,
 ⟨some 45, none, .cvi .i64 (.t 44), []⟩,
 ⟨some 46, none, .build [.int .i64 0, .int .i64 0] [(0, 1, (.c (.int .i64 1))), (1, 1, (.t 45))], []⟩,
 ⟨some 9, none, .alloc [.int .i64 0, .int .i64 0] true, []⟩,
 ⟨none, none, .st 2 (.t 9) (.t 46), []⟩])
 (.seq
 (.ops 4 [⟨some 48, none, .ld 2 true (.t 9), []⟩,
 ⟨some 49, none, .call 14 [.t 48], []⟩,
 ⟨some 47, none, .mv (.t 49), []⟩,
 ⟨some 50, none, .ext (.t 47) 0, []⟩,
 ⟨some 51, none, .ext (.t 47) 1, []⟩,
 ⟨some 10, none, .mv (.t 50), []⟩,
 ⟨some 11, none, .mv (.t 51), []⟩])
 (.seq
 (.seq
 (.ops 5 [⟨some 52, none, .mv (.t 10), []⟩,
 ⟨some 53, none, .eqn .ptr false (.t 52), []⟩,
 ⟨some 54, none, .mv (.t 53), []⟩,
 ⟨some 55, some (54, false), .mv (.t 11), []⟩,
 ⟨some 56, some (54, false), .bin .neq (.t 55) (.c (.int .i64 0)), []⟩,
 ⟨some 57, none, .pick (.t 54) (.c (.bool true)) (.t 56), []⟩])
 (.cond (.t 57)
 (.seq
 (.ops 6 [⟨some 8, none, .mv (.c (.bool false)), []⟩])
 .ret)
 .skip))
 (.seq
 (.ops 7 [⟨some 12, none, .mv (.c (.nils)), []⟩])
 (.seq
 (.seq
 (.ops 8 [⟨some 13, none, .mv (.c (.int .i64 0)), []⟩])
 (.block 0
 (.loop [] B4x0)))
 (.seq
 (.seq
 (.ops 15 [⟨some 15, none, .mv (.c (.int .i64 0)), []⟩])
 (.block 2
 (.loop [] B4x3)))
 (.seq
 (.ops 39 [⟨some 8, none, .mv (.c (.bool false)), []⟩])
 .ret)))))))))⟩
theorem F4_code : cfgA.code 4 = some F4 := by kernel_rfl

/-- ticketline/ticketlinelaw31.GateNone: the round 0 -/
@[reducible] noncomputable def B5x0 : AC := (.seq
 (.ops 7 [⟨some 32, none, .bin .lss (.t 31) (.t 30), []⟩])
 (.seq
 (.cond (.t 32)
 .skip
 (.exit 0))
 (.seq
 (.block 1
 (.seq
 (.ops 8 [⟨some 33, none, .ixa none 1 (.t 29) (.t 31), []⟩,
 ⟨some 34, none, .ld 1 false (.t 33), []⟩,
 ⟨some 6, none, .mv (.t 34), []⟩])
 (.seq
 (.ops 9 [⟨some 36, none, .mv (.t 6), []⟩,
 ⟨some 37, none, .mv (.t 1), []⟩,
 ⟨some 38, none, .mki 26 (.t 37), []⟩,
 ⟨some 39, none, .call 28 [.t 36, .t 38], []⟩,
 ⟨some 35, none, .mv (.t 39), []⟩,
 ⟨some 40, none, .ext (.t 35) 0, []⟩,
 ⟨some 41, none, .ext (.t 35) 1, []⟩,
 ⟨some 7, none, .mv (.t 40), []⟩,
 ⟨some 8, none, .mv (.t 41), []⟩])
 (.seq
 (.ops 10 [⟨some 42, none, .mv (.t 8), []⟩,
 ⟨some 43, none, .bin .neq (.t 42) (.c (.int .i64 1)), []⟩,
 ⟨some 44, none, .mv (.t 43), []⟩,
 ⟨some 45, some (44, false), .mv (.t 6), []⟩,
 ⟨some 46, some (44, false), .call 29 [.t 45], []⟩,
 ⟨some 47, some (44, false), .un .not (.t 46), []⟩,
 ⟨some 48, none, .pick (.t 44) (.c (.bool true)) (.t 47), []⟩,
 ⟨some 49, none, .mv (.t 48), []⟩,
 ⟨some 50, some (49, false), .mv (.t 6), []⟩,
 ⟨some 51, some (49, false), .call 22 [.t 50], []⟩,
 ⟨some 52, some (49, false), .bin .neq (.t 51) (.c (.int .u64 0)), []⟩,
 ⟨some 53, none, .pick (.t 49) (.c (.bool true)) (.t 52), []⟩,
 ⟨some 54, none, .mv (.t 53), []⟩,
 ⟨some 55, some (54, false), .mv (.t 6), []⟩,
 ⟨some 56, some (54, false), .call 30 [.t 55], []⟩,
 ⟨some 57, some (54, false), .eqn .iface true (.t 56), []⟩,
 ⟨some 58, none, .pick (.t 54) (.c (.bool true)) (.t 57), []⟩])
 (.cond (.t 58)
 (.seq
 (.ops 11 [⟨some 0, none, .mv (.c (.bool false)), []⟩])
 .ret)
 .skip)))))
 (.ops 12 [⟨some 59, none, .bin .add (.t 31) (.c (.int .i64 1)), []⟩,
 ⟨some 31, none, .mv (.t 59), []⟩]))))

/-- ticketline/ticketlinelaw31.GateNone: the round 1 -/
@[reducible] noncomputable def B5x1 : AC := (.seq
 (.ops 14 [⟨some 66, none, .bin .lss (.t 65) (.t 64), []⟩])
 (.seq
 (.cond (.t 66)
 .skip
 (.exit 2))
 (.seq
 (.block 3
 (.seq
 (.ops 15 [⟨some 67, none, .ixa none 1 (.t 63) (.t 65), []⟩,
 ⟨some 68, none, .ld 1 false (.t 67), []⟩,
 ⟨some 10, none, .mv (.t 68), []⟩])
 (.seq
 (.ops 16 [⟨some 70, none, .mv (.t 10), []⟩,
 ⟨some 71, none, .mv (.t 1), []⟩,
 ⟨some 72, none, .mki 26 (.t 71), []⟩,
 ⟨some 73, none, .call 31 [.t 70, .t 72], []⟩,
 ⟨some 69, none, .mv (.t 73), []⟩,
 ⟨some 74, none, .ext (.t 69) 0, []⟩,
 ⟨some 75, none, .ext (.t 69) 1, []⟩,
 ⟨some 11, none, .mv (.t 74), []⟩,
 ⟨some 12, none, .mv (.t 75), []⟩])
 (.seq
 (.ops 17 [⟨some 76, none, .mv (.t 12), []⟩,
 ⟨some 77, none, .bin .neq (.t 76) (.c (.int .i64 1)), []⟩,
 ⟨some 78, none, .mv (.t 77), []⟩,
 ⟨some 79, some (78, false), .mv (.t 10), []⟩,
 ⟨some 80, some (78, false), .call 26 [.t 79], []⟩,
 ⟨some 81, some (78, false), .un .not (.t 80), []⟩,
 ⟨some 82, none, .pick (.t 78) (.c (.bool true)) (.t 81), []⟩,
 ⟨some 83, none, .mv (.t 82), []⟩,
 ⟨some 84, some (83, false), .mv (.t 10), []⟩,
 ⟨some 85, some (83, false), .call 18 [.t 84], []⟩,
 ⟨some 86, some (83, false), .bin .neq (.t 85) (.c (.int .u64 0)), []⟩,
 ⟨some 87, none, .pick (.t 83) (.c (.bool true)) (.t 86), []⟩,
 ⟨some 88, none, .mv (.t 87), []⟩,
 ⟨some 89, some (88, false), .mv (.t 10), []⟩,
 ⟨some 90, some (88, false), .call 32 [.t 89], []⟩,
 ⟨some 91, some (88, false), .eqn .iface true (.t 90), []⟩,
 ⟨some 92, none, .pick (.t 88) (.c (.bool true)) (.t 91), []⟩])
 (.cond (.t 92)
 (.seq
 (.ops 18 [⟨some 0, none, .mv (.c (.bool false)), []⟩])
 .ret)
 .skip)))))
 (.ops 19 [⟨some 93, none, .bin .add (.t 65) (.c (.int .i64 1)), []⟩,
 ⟨some 65, none, .mv (.t 93), []⟩]))))

/-- ticketline/ticketlinelaw31.GateNone -/
noncomputable def F5 : AFn := ⟨131, [.tmp 0], (.seq
 (.ops 0 [⟨some 0, none, .mv (.c (.bool false)), []⟩])
 (.seq
 (.ops 1 [⟨some 17, none, .call 27 [.c (.int .i64 9)], []⟩,
 ⟨some 16, none, .mv (.t 17), []⟩,
 ⟨some 18, none, .ext (.t 16) 0, []⟩,
 ⟨some 19, none, .ext (.t 16) 1, []⟩,
 ⟨some 1, none, .mv (.t 18), []⟩,
 ⟨some 2, none, .mv (.t 19), []⟩])
 (.seq
 (.seq
 (.ops 2 [⟨some 20, none, .mv (.t 1), []⟩,
 ⟨some 21, none, .eqn .ptr false (.t 20), []⟩,
 ⟨some 22, none, .mv (.t 21), []⟩,
 ⟨some 23, some (22, false), .mv (.t 2), []⟩,
 ⟨some 24, some (22, false), .bin .neq (.t 23) (.c (.int .i64 0)), []⟩,
 ⟨some 25, none, .pick (.t 22) (.c (.bool true)) (.t 24), []⟩])
 (.cond (.t 25)
 (.seq
 (.ops 3 [⟨some 0, none, .mv (.c (.bool false)), []⟩])
 .ret)
 .skip))
 (.seq
 (.ops 4 [⟨some 3, none, .mv (.c (.nilp)), []⟩])
 (.seq
 (.ops 5 [⟨some 4, none, .mv (.c (.nilp)), []⟩])
 (.seq
 (.seq
 (.ops 6 [⟨some 26, none, .mv (.t 3), []⟩,
 ⟨some 27, none, .build [.nilp, .int .i64 0, .int .i64 0, .nili, .int .u64 0, .bool false, .int .i64 0, .int .i64 0] [], []⟩,
 ⟨some 28, none, .box 8 (.t 27) false, []⟩,
 ⟨some 29, none, .bslice [.nilp] 1 2 [(0, (.t 26)), (1, (.t 28))] true false, []⟩,
 ⟨some 30, none, .len .slice (.t 29), []⟩,
 ⟨some 31, none, .mv (.c (.int .i64 0)), []⟩])
 (.block 0
 (.loop [] B5x0)))
 (.seq
 (.seq
 (.ops 13 [⟨some 60, none, .mv (.t 4), []⟩,
 ⟨some 61, none, .build [.nilp, .int .i64 0, .int .i64 0, .nili, .int .u64 0, .bool false, .int .i64 0, .int .i64 0] [], []⟩,
 ⟨some 62, none, .box 8 (.t 61) false, []⟩,
 ⟨some 63, none, .bslice [.nilp] 1 2 [(0, (.t 60)), (1, (.t 62))] true false, []⟩,
 ⟨some 64, none, .len .slice (.t 63), []⟩,
 ⟨some 65, none, .mv (.c (.int .i64 0)), []⟩])
 (.block 2
 (.loop [] B5x1)))
 (.seq
 (.ops 20 [⟨some 95, none, .call 34 [], []⟩,
 ⟨some 96, none, .call 33 [.c (.nili), .t 95], []⟩,
 ⟨some 94, none, .mv (.t 96), []⟩,
 ⟨some 97, none, .ext (.t 94) 0, []⟩,
 ⟨some 98, none, .ext (.t 94) 1, []⟩,
 ⟨some 13, none, .alloc [.int .i64 0, .nils] false, []⟩,
 ⟨none, none, .st 2 (.t 13) (.t 97), []⟩,
 ⟨some 2, none, .mv (.t 98), []⟩])
 (.seq
 (.ops 21 [⟨some 100, none, .mv (.t 1), []⟩,
 ⟨some 101, none, .mki 26 (.t 100), []⟩,
 ⟨some 102, none, .build [.int .i64 0, .int .i64 0] [], []⟩,
 ⟨some 103, none, .call 33 [.t 101, .t 102], []⟩,
 ⟨some 99, none, .mv (.t 103), []⟩,
 ⟨some 104, none, .ext (.t 99) 0, []⟩,
 ⟨some 105, none, .ext (.t 99) 1, []⟩,
 ⟨some 14, none, .alloc [.int .i64 0, .nils] false, []⟩,
 ⟨none, none, .st 2 (.t 14) (.t 104), []⟩,
 ⟨some 15, none, .mv (.t 105), []⟩])
 (.seq
 (.ops 22 [⟨some 106, none, .fld 1 (.t 13), []⟩,
 ⟨some 107, none, .ld 1 false (.t 106), []⟩,
 ⟨some 108, none, .len .slice (.t 107), []⟩,
 ⟨some 109, none, .fld 0 (.t 13), []⟩,
 ⟨some 110, none, .ld 1 false (.t 109), []⟩,
 ⟨some 111, none, .bin .add (.t 108) (.t 110), []⟩,
 ⟨some 112, none, .fld 1 (.t 14), []⟩,
 ⟨some 113, none, .ld 1 false (.t 112), []⟩,
 ⟨some 114, none, .len .slice (.t 113), []⟩,
 ⟨some 115, none, .bin .add (.t 111) (.t 114), []⟩,
 ⟨some 116, none, .fld 0 (.t 14), []⟩,
 ⟨some 117, none, .ld 1 false (.t 116), []⟩,
 ⟨some 118, none, .bin .add (.t 115) (.t 117), []⟩,
 ⟨some 119, none, .bin .eql (.t 118) (.c (.int .i64 0)), []⟩,
 ⟨some 120, none, .mv (.t 119), []⟩,
 ⟨some 121, some (120, true), .mv (.t 2), []⟩,
 ⟨some 122, some (120, true), .bin .eql (.t 121) (.c (.int .i64 2)), []⟩,
 ⟨some 123, none, .pick (.t 120) (.t 122) (.c (.bool false)), []⟩,
 ⟨some 124, none, .mv (.t 123), []⟩,
 ⟨some 125, some (124, true), .mv (.t 15), []⟩,
 ⟨some 126, some (124, true), .bin .eql (.t 125) (.c (.int .i64 2)), []⟩,
 ⟨some 127, none, .pick (.t 124) (.t 126) (.c (.bool false)), []⟩,
 ⟨some 128, none, .mv (.t 127), []⟩,
 ⟨some 129, some (128, true), .call 13 [], []⟩,
 ⟨some 130, none, .pick (.t 128) (.t 129) (.c (.bool false)), []⟩,
 ⟨some 0, none, .mv (.t 130), []⟩])
 .ret))))))))))⟩
theorem F5_code : cfgA.code 5 = some F5 := by kernel_rfl

/-- ticketline/ticketlinelaw31.known -/
noncomputable def F13 : AFn := ⟨234, [.tmp 0], (.seq
 (.ops 0 [⟨some 0, none, .mv (.c (.bool false)), []⟩])
 (.seq
 (.ops 1 [⟨some 24, none, .call 34 [], []⟩,
 ⟨some 1, none, .alloc [.int .i64 0, .int .i64 0] false, []⟩,
 ⟨none, none, .st 2 (.t 1) (.t 24), []⟩])
 (.seq
 (.ops 2 [⟨some 26, none, .ld 2 true (.t 1), []⟩,
 ⟨some 27, none, .call 14 [.t 26], []⟩,
 ⟨some 25, none, .mv (.t 27), []⟩,
 ⟨some 28, none, .ext (.t 25) 0, []⟩,
 ⟨some 29, none, .ext (.t 25) 1, []⟩,
 ⟨some 2, none, .mv (.t 28), []⟩,
 ⟨some 3, none, .mv (.t 29), []⟩])
 (.seq
 (.ops 3 [⟨some 30, none, .ld 2 true (.t 1), []⟩,
 ⟨some 32, none, .ld 2 true (.t 1), []⟩,
 ⟨some 34, none, .ld 2 true (.t 1), []⟩,
 ⟨some 36, none, .ld 2 true (.t 1), []⟩,
 ⟨some 31, none, .call 20 [.t 30, .c (.int .i64 2), .c (.int .i64 2)], [(32, .ld 2 true (.t 1)), (34, .ld 2 true (.t 1)), (36, .ld 2 true (.t 1))]⟩,
 ⟨some 33, none, .call 20 [.t 32, .c (.int .i64 0), .c (.int .i64 2)], [(34, .ld 2 true (.t 1)), (36, .ld 2 true (.t 1))]⟩,
 ⟨some 35, none, .call 20 [.t 34, .c (.int .i64 3), .c (.int .i64 2)], [(36, .ld 2 true (.t 1))]⟩,
 ⟨some 37, none, .call 20 [.t 36, .c (.int .i64 1), .c (.int .i64 2)], []⟩,
 ⟨some 4, none, .mv (.t 31), []⟩,
 ⟨some 5, none, .mv (.t 33), []⟩,
 ⟨some 6, none, .mv (.t 35), []⟩,
 ⟨some 7, none, .mv (.t 37), []⟩])
 (.seq
 (.ops 4 [⟨some 38, none, .ld 2 true (.t 1), []⟩,
 ⟨some 40, none, .ld 2 true (.t 1), []⟩,
 ⟨some 42, none, .ld 2 true (.t 1), []⟩,
 ⟨some 44, none, .ld 2 true (.t 1), []⟩,
 ⟨some 39, none, .call 16 [.t 38, .c (.int .i64 2)], [(40, .ld 2 true (.t 1)), (42, .ld 2 true (.t 1)), (44, .ld 2 true (.t 1))]⟩,
 ⟨some 41, none, .call 16 [.t 40, .c (.int .i64 0)], [(42, .ld 2 true (.t 1)), (44, .ld 2 true (.t 1))]⟩,
 ⟨some 43, none, .call 16 [.t 42, .c (.int .i64 3)], [(44, .ld 2 true (.t 1))]⟩,
 ⟨some 45, none, .call 16 [.t 44, .c (.int .i64 1)], []⟩,
 ⟨some 8, none, .mv (.t 39), []⟩,
 ⟨some 9, none, .mv (.t 41), []⟩,
 ⟨some 10, none, .mv (.t 43), []⟩,
 ⟨some 11, none, .mv (.t 45), []⟩])
 (.seq
 (.seq
 (.ops 5 [⟨some 46, none, .mv (.t 2), []⟩,
 ⟨some 47, none, .eqn .ptr false (.t 46), []⟩,
 ⟨some 48, none, .mv (.t 47), []⟩,
 ⟨some 49, some (48, false), .mv (.t 3), []⟩,
 ⟨some 50, some (48, false), .bin .neq (.t 49) (.c (.int .i64 0)), []⟩,
 ⟨some 51, none, .pick (.t 48) (.c (.bool true)) (.t 50), []⟩,
 ⟨some 52, none, .mv (.t 51), []⟩,
 ⟨some 53, some (52, false), .mv (.t 4), []⟩,
 ⟨some 54, some (52, false), .eqn .ptr false (.t 53), []⟩,
 ⟨some 55, none, .pick (.t 52) (.c (.bool true)) (.t 54), []⟩,
 ⟨some 56, none, .mv (.t 55), []⟩,
 ⟨some 57, some (56, false), .mv (.t 5), []⟩,
 ⟨some 58, some (56, false), .eqn .ptr false (.t 57), []⟩,
 ⟨some 59, none, .pick (.t 56) (.c (.bool true)) (.t 58), []⟩,
 ⟨some 60, none, .mv (.t 59), []⟩,
 ⟨some 61, some (60, false), .mv (.t 6), []⟩,
 ⟨some 62, some (60, false), .eqn .ptr false (.t 61), []⟩,
 ⟨some 63, none, .pick (.t 60) (.c (.bool true)) (.t 62), []⟩,
 ⟨some 64, none, .mv (.t 63), []⟩,
 ⟨some 65, some (64, false), .mv (.t 7), []⟩,
 ⟨some 66, some (64, false), .eqn .ptr false (.t 65), []⟩,
 ⟨some 67, none, .pick (.t 64) (.c (.bool true)) (.t 66), []⟩,
 ⟨some 68, none, .mv (.t 67), []⟩,
 ⟨some 69, some (68, false), .mv (.t 8), []⟩,
 ⟨some 70, some (68, false), .eqn .ptr false (.t 69), []⟩,
 ⟨some 71, none, .pick (.t 68) (.c (.bool true)) (.t 70), []⟩,
 ⟨some 72, none, .mv (.t 71), []⟩,
 ⟨some 73, some (72, false), .mv (.t 9), []⟩,
 ⟨some 74, some (72, false), .eqn .ptr false (.t 73), []⟩,
 ⟨some 75, none, .pick (.t 72) (.c (.bool true)) (.t 74), []⟩,
 ⟨some 76, none, .mv (.t 75), []⟩,
 ⟨some 77, some (76, false), .mv (.t 10), []⟩,
 ⟨some 78, some (76, false), .eqn .ptr false (.t 77), []⟩,
 ⟨some 79, none, .pick (.t 76) (.c (.bool true)) (.t 78), []⟩,
 ⟨some 80, none, .mv (.t 79), []⟩,
 ⟨some 81, some (80, false), .mv (.t 11), []⟩,
 ⟨some 82, some (80, false), .eqn .ptr false (.t 81), []⟩,
 ⟨some 83, none, .pick (.t 80) (.c (.bool true)) (.t 82), []⟩])
 (.cond (.t 83)
 (.seq
 (.ops 6 [⟨some 0, none, .mv (.c (.bool false)), []⟩])
 .ret)
 .skip))
 (.seq
 (.ops 7 [⟨some 85, none, .mv (.t 4), []⟩,
 ⟨some 86, none, .mki 42 (.t 85), []⟩,
 ⟨some 87, none, .mv (.t 2), []⟩,
 ⟨some 88, none, .call 17 [.t 86, .t 87, .c (.int .i64 60)], []⟩,
 ⟨some 84, none, .mv (.t 88), []⟩,
 ⟨some 89, none, .ext (.t 84) 0, []⟩,
 ⟨some 90, none, .ext (.t 84) 1, []⟩,
 ⟨some 12, none, .mv (.t 89), []⟩,
 ⟨some 13, none, .mv (.t 90), []⟩])
 (.seq
 (.ops 8 [⟨some 92, none, .mv (.t 5), []⟩,
 ⟨some 93, none, .mki 42 (.t 92), []⟩,
 ⟨some 94, none, .mv (.t 2), []⟩,
 ⟨some 95, none, .call 17 [.t 93, .t 94, .c (.int .i64 60)], []⟩,
 ⟨some 91, none, .mv (.t 95), []⟩,
 ⟨some 96, none, .ext (.t 91) 0, []⟩,
 ⟨some 97, none, .ext (.t 91) 1, []⟩,
 ⟨some 14, none, .mv (.t 96), []⟩,
 ⟨some 15, none, .mv (.t 97), []⟩])
 (.seq
 (.ops 9 [⟨some 99, none, .mv (.t 6), []⟩,
 ⟨some 100, none, .mki 42 (.t 99), []⟩,
 ⟨some 101, none, .mv (.t 2), []⟩,
 ⟨some 102, none, .call 17 [.t 100, .t 101, .c (.int .i64 60)], []⟩,
 ⟨some 98, none, .mv (.t 102), []⟩,
 ⟨some 103, none, .ext (.t 98) 0, []⟩,
 ⟨some 104, none, .ext (.t 98) 1, []⟩,
 ⟨some 16, none, .mv (.t 103), []⟩,
 ⟨some 17, none, .mv (.t 104), []⟩])
 (.seq
 (.seq
 (.ops 10 [⟨some 105, none, .mv (.t 12), []⟩,
 ⟨some 106, none, .un .not (.t 105), []⟩,
 ⟨some 107, none, .mv (.t 106), []⟩,
 ⟨some 108, some (107, false), .mv (.t 14), []⟩,
 ⟨some 109, some (107, false), .un .not (.t 108), []⟩,
 ⟨some 110, none, .pick (.t 107) (.c (.bool true)) (.t 109), []⟩,
 ⟨some 111, none, .mv (.t 110), []⟩,
 ⟨some 112, some (111, false), .mv (.t 16), []⟩,
 ⟨some 113, none, .pick (.t 111) (.c (.bool true)) (.t 112), []⟩,
 ⟨some 114, none, .mv (.t 113), []⟩,
 ⟨some 115, some (114, false), .ld 2 true (.t 1), []⟩,
 ⟨some 116, some (114, false), .mv (.t 2), []⟩,
 ⟨some 117, some (114, false), .bslice [.int .i64 0] 1 1 [(0, (.c (.int .i64 3)))] false false, []⟩,
 ⟨some 118, some (114, false), .call 23 [.t 115, .t 116, .c (.int .i64 2), .t 117], []⟩,
 ⟨some 119, some (114, false), .un .not (.t 118), []⟩,
 ⟨some 120, none, .pick (.t 114) (.c (.bool true)) (.t 119), []⟩])
 (.cond (.t 120)
 (.seq
 (.ops 11 [⟨some 0, none, .mv (.c (.bool false)), []⟩])
 .ret)
 .skip))
 (.seq
 (.ops 12 [⟨some 122, none, .mv (.t 7), []⟩,
 ⟨some 123, none, .mki 42 (.t 122), []⟩,
 ⟨some 124, none, .mv (.t 2), []⟩,
 ⟨some 125, none, .call 17 [.t 123, .t 124, .c (.int .i64 60)], []⟩,
 ⟨some 121, none, .mv (.t 125), []⟩,
 ⟨some 126, none, .ext (.t 121) 0, []⟩,
 ⟨some 127, none, .ext (.t 121) 1, []⟩,
 ⟨some 18, none, .mv (.t 126), []⟩,
 ⟨some 19, none, .mv (.t 127), []⟩])
 (.seq
 (.seq
 (.ops 13 [⟨some 128, none, .mv (.t 18), []⟩,
 ⟨some 129, none, .mv (.t 128), []⟩,
 ⟨some 130, some (129, false), .ld 2 true (.t 1), []⟩,
 ⟨some 131, some (129, false), .mv (.t 2), []⟩,
 ⟨some 132, some (129, false), .bslice [.int .i64 0] 1 2 [(0, (.c (.int .i64 3))), (1, (.c (.int .i64 1)))] false false, []⟩,
 ⟨some 133, some (129, false), .call 23 [.t 130, .t 131, .c (.int .i64 2), .t 132], []⟩,
 ⟨some 134, some (129, false), .un .not (.t 133), []⟩,
 ⟨some 135, none, .pick (.t 129) (.c (.bool true)) (.t 134), []⟩])
 (.cond (.t 135)
 (.seq
 (.ops 14 [⟨some 0, none, .mv (.c (.bool false)), []⟩])
 .ret)
 .skip))
 (.seq
 (.ops 15 [⟨some 137, none, .mv (.t 8), []⟩,
 ⟨some 138, none, .mki 35 (.t 137), []⟩,
 ⟨some 139, none, .mv (.t 2), []⟩,
 ⟨some 140, none, .call 17 [.t 138, .t 139, .c (.int .i64 60)], []⟩,
 ⟨some 136, none, .mv (.t 140), []⟩,
 ⟨some 141, none, .ext (.t 136) 0, []⟩,
 ⟨some 142, none, .ext (.t 136) 1, []⟩,
 ⟨some 12, none, .mv (.t 141), []⟩])
 (.seq
 (.seq
 (.ops 16 [⟨some 143, none, .mv (.t 12), []⟩,
 ⟨some 144, none, .un .not (.t 143), []⟩,
 ⟨some 145, none, .mv (.t 144), []⟩,
 ⟨some 146, some (145, false), .ld 2 true (.t 1), []⟩,
 ⟨some 147, some (145, false), .mv (.t 2), []⟩,
 ⟨some 148, some (145, false), .bslice [.int .i64 0] 1 1 [(0, (.c (.int .i64 1)))] false false, []⟩,
 ⟨some 149, some (145, false), .call 23 [.t 146, .t 147, .c (.int .i64 2), .t 148], []⟩,
 ⟨some 150, some (145, false), .un .not (.t 149), []⟩,
 ⟨some 151, none, .pick (.t 145) (.c (.bool true)) (.t 150), []⟩])
 (.cond (.t 151)
 (.seq
 (.ops 17 [⟨some 0, none, .mv (.c (.bool false)), []⟩])
 .ret)
 .skip))
 (.seq
 (.ops 18 [⟨some 153, none, .mv (.t 6), []⟩,
 ⟨some 154, none, .mki 42 (.t 153), []⟩,
 ⟨some 155, none, .mv (.t 2), []⟩,
 ⟨some 156, none, .call 17 [.t 154, .t 155, .c (.int .i64 60)], []⟩,
 ⟨some 152, none, .mv (.t 156), []⟩,
 ⟨some 157, none, .ext (.t 152) 0, []⟩,
 ⟨some 158, none, .ext (.t 152) 1, []⟩,
 ⟨some 14, none, .mv (.t 157), []⟩])
 (.seq
 (.ops 19 [⟨some 160, none, .mv (.t 9), []⟩,
 ⟨some 161, none, .mki 35 (.t 160), []⟩,
 ⟨some 162, none, .mv (.t 2), []⟩,
 ⟨some 163, none, .call 17 [.t 161, .t 162, .c (.int .i64 60)], []⟩,
 ⟨some 159, none, .mv (.t 163), []⟩,
 ⟨some 164, none, .ext (.t 159) 0, []⟩,
 ⟨some 165, none, .ext (.t 159) 1, []⟩,
 ⟨some 16, none, .mv (.t 164), []⟩])
 (.seq
 (.ops 20 [⟨some 167, none, .mv (.t 7), []⟩,
 ⟨some 168, none, .mki 42 (.t 167), []⟩,
 ⟨some 169, none, .mv (.t 2), []⟩,
 ⟨some 170, none, .call 17 [.t 168, .t 169, .c (.int .i64 60)], []⟩,
 ⟨some 166, none, .mv (.t 170), []⟩,
 ⟨some 171, none, .ext (.t 166) 0, []⟩,
 ⟨some 172, none, .ext (.t 166) 1, []⟩,
 ⟨some 18, none, .mv (.t 171), []⟩])
 (.seq
 (.seq
 (.ops 21 [⟨some 173, none, .mv (.t 14), []⟩,
 ⟨some 174, none, .un .not (.t 173), []⟩,
 ⟨some 175, none, .mv (.t 174), []⟩,
 ⟨some 176, some (175, false), .mv (.t 16), []⟩,
 ⟨some 177, some (175, false), .un .not (.t 176), []⟩,
 ⟨some 178, none, .pick (.t 175) (.c (.bool true)) (.t 177), []⟩,
 ⟨some 179, none, .mv (.t 178), []⟩,
 ⟨some 180, some (179, false), .mv (.t 18), []⟩,
 ⟨some 181, some (179, false), .un .not (.t 180), []⟩,
 ⟨some 182, none, .pick (.t 179) (.c (.bool true)) (.t 181), []⟩])
 (.cond (.t 182)
 (.seq
 (.ops 22 [⟨some 0, none, .mv (.c (.bool false)), []⟩])
 .ret)
 .skip))
 (.seq
 (.ops 23 [⟨some 184, none, .mv (.t 10), []⟩,
 ⟨some 185, none, .mki 35 (.t 184), []⟩,
 ⟨some 186, none, .mv (.t 2), []⟩,
 ⟨some 187, none, .call 17 [.t 185, .t 186, .c (.int .i64 60)], []⟩,
 ⟨some 183, none, .mv (.t 187), []⟩,
 ⟨some 188, none, .ext (.t 183) 0, []⟩,
 ⟨some 189, none, .ext (.t 183) 1, []⟩,
 ⟨some 12, none, .mv (.t 188), []⟩])
 (.seq
 (.ops 24 [⟨some 191, none, .mv (.t 11), []⟩,
 ⟨some 192, none, .mki 35 (.t 191), []⟩,
 ⟨some 193, none, .mv (.t 2), []⟩,
 ⟨some 194, none, .call 17 [.t 192, .t 193, .c (.int .i64 60)], []⟩,
 ⟨some 190, none, .mv (.t 194), []⟩,
 ⟨some 195, none, .ext (.t 190) 0, []⟩,
 ⟨some 196, none, .ext (.t 190) 1, []⟩,
 ⟨some 14, none, .mv (.t 195), []⟩])
 (.seq
 (.seq
 (.ops 25 [⟨some 197, none, .mv (.t 12), []⟩,
 ⟨some 198, none, .un .not (.t 197), []⟩,
 ⟨some 199, none, .mv (.t 198), []⟩,
 ⟨some 200, some (199, false), .mv (.t 14), []⟩,
 ⟨some 201, some (199, false), .un .not (.t 200), []⟩,
 ⟨some 202, none, .pick (.t 199) (.c (.bool true)) (.t 201), []⟩,
 ⟨some 203, none, .mv (.t 202), []⟩,
 ⟨some 204, some (203, false), .ld 2 true (.t 1), []⟩,
 ⟨some 205, some (203, false), .mv (.t 2), []⟩,
 ⟨some 206, some (203, false), .call 23 [.t 204, .t 205, .c (.int .i64 0), .c (.nils)], []⟩,
 ⟨some 207, some (203, false), .un .not (.t 206), []⟩,
 ⟨some 208, none, .pick (.t 203) (.c (.bool true)) (.t 207), []⟩])
 (.cond (.t 208)
 (.seq
 (.ops 26 [⟨some 0, none, .mv (.c (.bool false)), []⟩])
 .ret)
 .skip))
 (.seq
 (.ops 27 [⟨some 210, none, .ld 2 true (.t 1), []⟩,
 ⟨some 211, none, .call 35 [.t 210, .c (.int .i64 0), .c (.int .i64 0)], []⟩,
 ⟨some 209, none, .mv (.t 211), []⟩,
 ⟨some 212, none, .ext (.t 209) 0, []⟩,
 ⟨some 213, none, .ext (.t 209) 1, []⟩,
 ⟨some 3, none, .mv (.t 213), []⟩])
 (.seq
 (.ops 28 [⟨some 215, none, .ld 2 true (.t 1), []⟩,
 ⟨some 216, none, .call 35 [.t 215, .c (.int .i64 4), .c (.int .i64 2)], []⟩,
 ⟨some 214, none, .mv (.t 216), []⟩,
 ⟨some 217, none, .ext (.t 214) 0, []⟩,
 ⟨some 218, none, .ext (.t 214) 1, []⟩,
 ⟨some 20, none, .mv (.t 217), []⟩,
 ⟨some 21, none, .mv (.t 218), []⟩])
 (.seq
 (.ops 29 [⟨some 220, none, .ld 2 true (.t 1), []⟩,
 ⟨some 221, none, .call 36 [.t 220, .c (.int .i64 (-1))], []⟩,
 ⟨some 219, none, .mv (.t 221), []⟩,
 ⟨some 222, none, .ext (.t 219) 0, []⟩,
 ⟨some 223, none, .ext (.t 219) 1, []⟩,
 ⟨some 22, none, .mv (.t 222), []⟩,
 ⟨some 23, none, .mv (.t 223), []⟩])
 (.seq
 (.ops 30 [⟨some 224, none, .mv (.t 3), []⟩,
 ⟨some 225, none, .bin .eql (.t 224) (.c (.int .i64 2)), []⟩,
 ⟨some 226, none, .mv (.t 225), []⟩,
 ⟨some 227, some (226, true), .mv (.t 21), []⟩,
 ⟨some 228, some (226, true), .bin .eql (.t 227) (.c (.int .i64 2)), []⟩,
 ⟨some 229, none, .pick (.t 226) (.t 228) (.c (.bool false)), []⟩,
 ⟨some 230, none, .mv (.t 229), []⟩,
 ⟨some 231, some (230, true), .mv (.t 23), []⟩,
 ⟨some 232, some (230, true), .bin .eql (.t 231) (.c (.int .i64 2)), []⟩,
 ⟨some 233, none, .pick (.t 230) (.t 232) (.c (.bool false)), []⟩,
 ⟨some 0, none, .mv (.t 233), []⟩])
 .ret)))))))))))))))))))))))))⟩
theorem F13_code : cfgA.code 13 = some F13 := by kernel_rfl

/-- ticketline/descend.Format -/
noncomputable def F14 : AFn := ⟨61, [.tmp 2, .tmp 3], (.seq
 (.ops 0 [⟨some 1, none, .box 2 (.t 0) false, []⟩,
 ⟨some 2, none, .mv (.c (.nilp)), []⟩,
 ⟨some 3, none, .mv (.c (.int .i64 0)), []⟩])
 (.seq
 (.ops 1 [⟨some 12, none, .ld 2 true (.t 1), []⟩,
 ⟨some 13, none, .call 37 [.t 12], []⟩,
 ⟨some 11, none, .mv (.t 13), []⟩,
 ⟨some 14, none, .ext (.t 11) 0, []⟩,
 ⟨some 15, none, .ext (.t 11) 1, []⟩,
 ⟨some 4, none, .mv (.t 14), []⟩,
 ⟨some 5, none, .mv (.t 15), []⟩])
 (.seq
 (.seq
 (.ops 2 [⟨some 16, none, .mv (.t 5), []⟩,
 ⟨some 17, none, .bin .neq (.t 16) (.c (.int .i64 0)), []⟩])
 (.cond (.t 17)
 (.seq
 (.ops 3 [⟨some 18, none, .mv (.t 5), []⟩,
 ⟨some 2, none, .mv (.c (.nilp)), []⟩,
 ⟨some 3, none, .mv (.t 18), []⟩])
 .ret)
 .skip))
 (.seq
 (.ops 4 [⟨some 20, none, .mv (.t 4), []⟩,
 ⟨some 21, none, .call 27 [.t 20], []⟩,
 ⟨some 19, none, .mv (.t 21), []⟩,
 ⟨some 22, none, .ext (.t 19) 0, []⟩,
 ⟨some 23, none, .ext (.t 19) 1, []⟩,
 ⟨some 6, none, .mv (.t 22), []⟩,
 ⟨some 5, none, .mv (.t 23), []⟩])
 (.seq
 (.seq
 (.ops 5 [⟨some 24, none, .mv (.t 5), []⟩,
 ⟨some 25, none, .bin .neq (.t 24) (.c (.int .i64 0)), []⟩])
 (.cond (.t 25)
 (.seq
 (.ops 6 [⟨some 26, none, .mv (.t 5), []⟩,
 ⟨some 2, none, .mv (.c (.nilp)), []⟩,
 ⟨some 3, none, .mv (.t 26), []⟩])
 .ret)
 .skip))
 (.seq
 (.ops 7 [⟨some 28, none, .mv (.t 6), []⟩,
 ⟨some 29, none, .fld 0 (.t 1), []⟩,
 ⟨some 30, none, .ld 1 false (.t 29), []⟩,
 ⟨some 31, none, .call 61 [.t 28, .t 30], []⟩,
 ⟨some 27, none, .mv (.t 31), []⟩,
 ⟨some 32, none, .ext (.t 27) 0, []⟩,
 ⟨some 33, none, .ext (.t 27) 1, []⟩,
 ⟨some 7, none, .mv (.t 32), []⟩,
 ⟨some 5, none, .mv (.t 33), []⟩])
 (.seq
 (.seq
 (.ops 8 [⟨some 34, none, .mv (.t 5), []⟩,
 ⟨some 35, none, .bin .neq (.t 34) (.c (.int .i64 0)), []⟩])
 (.cond (.t 35)
 (.seq
 (.ops 9 [⟨some 36, none, .mv (.t 5), []⟩,
 ⟨some 2, none, .mv (.c (.nilp)), []⟩,
 ⟨some 3, none, .mv (.t 36), []⟩])
 .ret)
 .skip))
 (.seq
 (.ops 10 [⟨some 38, none, .call 62 [.c (.int .i64 0), .c (.str []), .c (.str [])], []⟩,
 ⟨some 37, none, .mv (.t 38), []⟩,
 ⟨some 39, none, .ext (.t 37) 0, []⟩,
 ⟨some 40, none, .ext (.t 37) 1, []⟩,
 ⟨some 8, none, .alloc (List.replicate 128 (.int .u64 0)) false, []⟩,
 ⟨none, none, .st 128 (.t 8) (.t 39), []⟩,
 ⟨some 5, none, .mv (.t 40), []⟩])
 (.seq
 (.seq
 (.ops 11 [⟨some 41, none, .mv (.t 5), []⟩,
 ⟨some 42, none, .bin .neq (.t 41) (.c (.int .i64 0)), []⟩])
 (.cond (.t 42)
 (.seq
 (.ops 12 [⟨some 43, none, .mv (.t 5), []⟩,
 ⟨some 2, none, .mv (.c (.nilp)), []⟩,
 ⟨some 3, none, .mv (.t 43), []⟩])
 .ret)
 .skip))
 (.seq
 (.ops 13 [⟨some 45, none, .mv (.t 7), []⟩,
 ⟨some 46, none, .ld 128 true (.t 8), []⟩,
 ⟨some 47, none, .call 63 [.t 45, .t 46], []⟩,
 ⟨some 44, none, .mv (.t 47), []⟩,
 ⟨some 48, none, .ext (.t 44) 0, []⟩,
 ⟨some 49, none, .ext (.t 44) 1, []⟩,
 ⟨some 9, none, .mv (.t 48), []⟩,
 ⟨some 5, none, .mv (.t 49), []⟩])
 (.seq
 (.seq
 (.ops 14 [⟨some 50, none, .mv (.t 5), []⟩,
 ⟨some 51, none, .bin .neq (.t 50) (.c (.int .i64 0)), []⟩])
 (.cond (.t 51)
 (.seq
 (.ops 15 [⟨some 52, none, .mv (.t 5), []⟩,
 ⟨some 2, none, .mv (.c (.nilp)), []⟩,
 ⟨some 3, none, .mv (.t 52), []⟩])
 .ret)
 .skip))
 (.seq
 (.seq
 (.ops 16 [⟨some 53, none, .mv (.t 7), []⟩,
 ⟨some 54, none, .mv (.t 9), []⟩,
 ⟨some 55, none, .call 64 [.t 53, .t 54], []⟩,
 ⟨some 10, none, .mv (.t 55), []⟩])
 (.seq
 (.ops 17 [⟨some 56, none, .mv (.t 10), []⟩,
 ⟨some 57, none, .bin .neq (.t 56) (.c (.int .i64 0)), []⟩])
 (.cond (.t 57)
 (.seq
 (.ops 18 [⟨some 58, none, .mv (.t 10), []⟩,
 ⟨some 2, none, .mv (.c (.nilp)), []⟩,
 ⟨some 3, none, .mv (.t 58), []⟩])
 .ret)
 .skip)))
 (.seq
 (.ops 19 [⟨some 59, none, .mv (.t 7), []⟩,
 ⟨some 60, none, .call 65 [.t 59], []⟩,
 ⟨some 2, none, .mv (.t 60), []⟩,
 ⟨some 3, none, .mv (.c (.int .i64 0)), []⟩])
 .ret)))))))))))))⟩
theorem F14_code : cfgA.code 14 = some F14 := by kernel_rfl

/-- ticketline/ticketlinelaw31.leave -/
noncomputable def F16 : AFn := ⟨16, [.tmp 4], (.seq
 (.ops 0 [⟨some 2, none, .box 2 (.t 0) false, []⟩,
 ⟨some 4, none, .mv (.c (.nilp)), []⟩])
 (.seq
 (.ops 1 [⟨some 8, none, .ld 2 true (.t 2), []⟩,
 ⟨some 9, none, .mv (.t 1), []⟩,
 ⟨some 10, none, .call 36 [.t 8, .t 9], []⟩,
 ⟨some 7, none, .mv (.t 10), []⟩,
 ⟨some 11, none, .ext (.t 7) 0, []⟩,
 ⟨some 12, none, .ext (.t 7) 1, []⟩,
 ⟨some 5, none, .mv (.t 11), []⟩,
 ⟨some 6, none, .mv (.t 12), []⟩])
 (.seq
 (.seq
 (.ops 2 [⟨some 13, none, .mv (.t 6), []⟩,
 ⟨some 14, none, .bin .neq (.t 13) (.c (.int .i64 0)), []⟩])
 (.cond (.t 14)
 (.seq
 (.ops 3 [⟨some 4, none, .mv (.c (.nilp)), []⟩])
 .ret)
 .skip))
 (.seq
 (.ops 4 [⟨some 15, none, .mv (.t 5), []⟩,
 ⟨some 4, none, .mv (.t 15), []⟩])
 .ret))))⟩
theorem F16_code : cfgA.code 16 = some F16 := by kernel_rfl

/-- ticketline/ticketlinelaw31.run: the round 0 -/
@[reducible] noncomputable def B17x0 : AC := (.seq
 (.seq
 (.ops 2 [⟨some 11, none, .mv (.t 8), []⟩,
 ⟨some 12, none, .mv (.t 2), []⟩,
 ⟨some 13, none, .bin .lss (.t 11) (.t 12), []⟩,
 ⟨some 14, none, .mv (.t 13), []⟩,
 ⟨some 15, some (14, true), .mv (.t 0), []⟩,
 ⟨some 16, some (14, true), .invk (.t 15) "Done" [], []⟩,
 ⟨some 17, some (14, true), .un .not (.t 16), []⟩,
 ⟨some 18, none, .pick (.t 14) (.t 17) (.c (.bool false)), []⟩])
 (.cond (.t 18)
 .skip
 (.exit 0)))
 (.seq
 (.block 1
 (.seq
 (.ops 4 [⟨some 22, none, .mv (.t 0), []⟩,
 ⟨some 23, none, .mv (.t 1), []⟩,
 ⟨some 24, none, .call 67 [.t 22, .t 23], []⟩,
 ⟨some 21, none, .mv (.t 24), []⟩,
 ⟨some 25, none, .ext (.t 21) 0, []⟩,
 ⟨some 26, none, .ext (.t 21) 1, []⟩,
 ⟨some 9, none, .mv (.t 25), []⟩,
 ⟨some 10, none, .mv (.t 26), []⟩])
 (.seq
 (.seq
 (.ops 5 [⟨some 27, none, .mv (.t 10), []⟩])
 (.cond (.t 27)
 (.seq
 (.ops 6 [⟨some 6, none, .mv (.c (.bool false)), []⟩,
 ⟨some 7, none, .mv (.c (.bool false)), []⟩])
 .ret)
 .skip))
 (.ops 7 [⟨some 28, none, .mv (.t 9), []⟩,
 ⟨some 7, none, .mv (.t 28), []⟩]))))
 (.ops 3 [⟨some 19, none, .mv (.t 8), []⟩,
 ⟨some 20, none, .bin .add (.t 19) (.c (.int .i64 1)), []⟩,
 ⟨some 8, none, .mv (.t 20), []⟩])))

/-- ticketline/ticketlinelaw31.run -/
noncomputable def F17 : AFn := ⟨32, [.tmp 6, .tmp 7], (.seq
 (.ops 0 [⟨some 6, none, .mv (.c (.bool false)), []⟩,
 ⟨some 7, none, .mv (.c (.bool false)), []⟩])
 (.seq
 (.seq
 (.ops 1 [⟨some 8, none, .mv (.c (.int .i64 0)), []⟩])
 (.block 0
 (.loop [] B17x0)))
 (.seq
 (.ops 8 [⟨some 29, none, .mv (.t 0), []⟩,
 ⟨some 30, none, .invk (.t 29) "Done" [], []⟩,
 ⟨some 31, none, .mv (.t 7), []⟩,
 ⟨some 6, none, .mv (.t 30), []⟩,
 ⟨some 7, none, .mv (.t 31), []⟩])
 .ret)))⟩
theorem F17_code : cfgA.code 17 = some F17 := by kernel_rfl

/-- (*ticketline/gate.Leave).Result -/
noncomputable def F18 : AFn := ⟨5, [.tmp 2], (.seq
 (.ops 0 [⟨some 2, none, .mv (.c (.int .u64 0)), []⟩])
 (.seq
 (.seq
 (.ops 1 [⟨some 3, none, .mv (.t 0), []⟩,
 ⟨some 4, none, .call 68 [.t 3], []⟩])
 (.cond (.t 4)
 (.seq
 (.ops 2 [⟨some 2, none, .mv (.c (.int .u64 1)), []⟩])
 .ret)
 .skip))
 (.seq
 (.ops 3 [⟨some 2, none, .mv (.c (.int .u64 0)), []⟩])
 .ret)))⟩
theorem F18_code : cfgA.code 18 = some F18 := by kernel_rfl

/-- ticketline/ticketlinelaw31.enter -/
noncomputable def F20 : AFn := ⟨19, [.tmp 6], (.seq
 (.ops 0 [⟨some 3, none, .box 2 (.t 0) false, []⟩,
 ⟨some 6, none, .mv (.c (.nilp)), []⟩])
 (.seq
 (.ops 1 [⟨some 10, none, .ld 2 true (.t 3), []⟩,
 ⟨some 11, none, .mv (.t 1), []⟩,
 ⟨some 12, none, .mv (.t 2), []⟩,
 ⟨some 13, none, .call 35 [.t 10, .t 11, .t 12], []⟩,
 ⟨some 9, none, .mv (.t 13), []⟩,
 ⟨some 14, none, .ext (.t 9) 0, []⟩,
 ⟨some 15, none, .ext (.t 9) 1, []⟩,
 ⟨some 7, none, .mv (.t 14), []⟩,
 ⟨some 8, none, .mv (.t 15), []⟩])
 (.seq
 (.seq
 (.ops 2 [⟨some 16, none, .mv (.t 8), []⟩,
 ⟨some 17, none, .bin .neq (.t 16) (.c (.int .i64 0)), []⟩])
 (.cond (.t 17)
 (.seq
 (.ops 3 [⟨some 6, none, .mv (.c (.nilp)), []⟩])
 .ret)
 .skip))
 (.seq
 (.ops 4 [⟨some 18, none, .mv (.t 7), []⟩,
 ⟨some 6, none, .mv (.t 18), []⟩])
 .ret))))⟩
theorem F20_code : cfgA.code 20 = some F20 := by kernel_rfl

/-- (*ticketline/gate.Enter).Result -/
noncomputable def F22 : AFn := ⟨5, [.tmp 2], (.seq
 (.ops 0 [⟨some 2, none, .mv (.c (.int .u64 0)), []⟩])
 (.seq
 (.seq
 (.ops 1 [⟨some 3, none, .mv (.t 0), []⟩,
 ⟨some 4, none, .call 69 [.t 3], []⟩])
 (.cond (.t 4)
 (.seq
 (.ops 2 [⟨some 2, none, .mv (.c (.int .u64 1)), []⟩])
 .ret)
 .skip))
 (.seq
 (.ops 3 [⟨some 2, none, .mv (.c (.int .u64 0)), []⟩])
 .ret)))⟩
theorem F22_code : cfgA.code 22 = some F22 := by kernel_rfl

/-- ticketline/ticketlinelaw31.looks -/
noncomputable def F23 : AFn := ⟨32, [.tmp 8], (.seq
 (.ops 0 [⟨some 4, none, .box 2 (.t 0) false, []⟩,
 ⟨some 8, none, .mv (.c (.bool false)), []⟩])
 (.seq
 (.ops 1 [⟨some 12, none, .mv (.t 1), []⟩,
 ⟨some 13, none, .mki 26 (.t 12), []⟩,
 ⟨some 14, none, .ld 2 true (.t 4), []⟩,
 ⟨some 15, none, .call 33 [.t 13, .t 14], []⟩,
 ⟨some 11, none, .mv (.t 15), []⟩,
 ⟨some 16, none, .ext (.t 11) 0, []⟩,
 ⟨some 17, none, .ext (.t 11) 1, []⟩,
 ⟨some 9, none, .alloc [.int .i64 0, .nils] false, []⟩,
 ⟨none, none, .st 2 (.t 9) (.t 16), []⟩,
 ⟨some 10, none, .mv (.t 17), []⟩])
 (.seq
 (.ops 2 [⟨some 18, none, .mv (.t 10), []⟩,
 ⟨some 19, none, .bin .eql (.t 18) (.c (.int .i64 0)), []⟩,
 ⟨some 20, none, .mv (.t 19), []⟩,
 ⟨some 21, some (20, true), .fld 0 (.t 9), []⟩,
 ⟨some 22, some (20, true), .ld 1 false (.t 21), []⟩,
 ⟨some 23, some (20, true), .mv (.t 2), []⟩,
 ⟨some 24, some (20, true), .bin .eql (.t 22) (.t 23), []⟩,
 ⟨some 25, none, .pick (.t 20) (.t 24) (.c (.bool false)), []⟩,
 ⟨some 26, none, .mv (.t 25), []⟩,
 ⟨some 27, some (26, true), .fld 1 (.t 9), []⟩,
 ⟨some 28, some (26, true), .ld 1 false (.t 27), []⟩,
 ⟨some 29, some (26, true), .mv (.t 3), []⟩,
 ⟨some 30, some (26, true), .call 70 [.t 28, .t 29], []⟩,
 ⟨some 31, none, .pick (.t 26) (.t 30) (.c (.bool false)), []⟩,
 ⟨some 8, none, .mv (.t 31), []⟩])
 .ret)))⟩
theorem F23_code : cfgA.code 23 = some F23 := by kernel_rfl

/-- (*ticketline/ticketlinelaw31.visit).step -/
noncomputable def F24 : AFn := ⟨51, [.tmp 4, .tmp 5], (.seq
 (.ops 0 [⟨some 4, none, .mv (.c (.bool false)), []⟩,
 ⟨some 5, none, .mv (.c (.bool false)), []⟩])
 (.seq
 (.block 0
 (.seq
 (.ops 1 [⟨some 7, none, .mv (.t 0), []⟩,
 ⟨some 8, none, .nilc (.t 7) (mok Tryz.prog), []⟩,
 ⟨some 9, none, .fld 0 (.t 8), []⟩,
 ⟨some 10, none, .ld 1 false (.t 9), []⟩,
 ⟨some 11, none, .call 29 [.t 10], []⟩,
 ⟨some 12, none, .un .not (.t 11), []⟩,
 ⟨some 6, none, .mv (.t 12), []⟩])
 (.cond (.t 6)
 (.seq
 (.ops 2 [⟨some 13, none, .mv (.t 0), []⟩,
 ⟨some 14, none, .nilc (.t 13) (mok Tryz.prog), []⟩,
 ⟨some 15, none, .fld 0 (.t 14), []⟩,
 ⟨some 16, none, .ld 1 false (.t 15), []⟩,
 ⟨some 17, none, .mki 42 (.t 16), []⟩,
 ⟨some 18, none, .mv (.t 1), []⟩,
 ⟨some 19, none, .call 67 [.t 17, .t 18], []⟩,
 ⟨some 20, none, .ext (.t 19) 0, []⟩,
 ⟨some 21, none, .ext (.t 19) 1, []⟩,
 ⟨some 4, none, .mv (.t 20), []⟩,
 ⟨some 5, none, .mv (.t 21), []⟩])
 .ret)
 (.seq
 (.ops 3 [⟨some 23, none, .mv (.t 0), []⟩,
 ⟨some 24, none, .nilc (.t 23) (mok Tryz.prog), []⟩,
 ⟨some 25, none, .fld 2 (.t 24), []⟩,
 ⟨some 26, none, .ld 1 false (.t 25), []⟩,
 ⟨some 27, none, .bin .gtr (.t 26) (.c (.int .i64 0)), []⟩,
 ⟨some 22, none, .mv (.t 27), []⟩])
 (.cond (.t 22)
 (.seq
 (.ops 4 [⟨some 28, none, .mv (.t 0), []⟩,
 ⟨some 29, none, .nilc (.t 28) (mok Tryz.prog), []⟩,
 ⟨some 30, none, .fld 2 (.t 29), []⟩,
 ⟨some 31, none, .ld 1 false (.t 30), []⟩,
 ⟨some 32, none, .bin .sub (.t 31) (.c (.int .i64 1)), []⟩,
 ⟨some 33, none, .nilc (.t 28) (mok Tryz.prog), []⟩,
 ⟨some 34, none, .fld 2 (.t 33), []⟩,
 ⟨none, none, .st 1 (.t 34) (.t 32), []⟩])
 (.seq
 (.ops 5 [⟨some 4, none, .mv (.c (.bool false)), []⟩,
 ⟨some 5, none, .mv (.c (.bool false)), []⟩])
 .ret))
 (.seq
 (.ops 6 [⟨some 36, none, .mv (.t 0), []⟩,
 ⟨some 37, none, .nilc (.t 36) (mok Tryz.prog), []⟩,
 ⟨some 38, none, .fld 1 (.t 37), []⟩,
 ⟨some 39, none, .ld 1 false (.t 38), []⟩,
 ⟨some 40, none, .call 26 [.t 39], []⟩,
 ⟨some 41, none, .un .not (.t 40), []⟩,
 ⟨some 35, none, .mv (.t 41), []⟩])
 (.cond (.t 35)
 (.seq
 (.ops 7 [⟨some 42, none, .mv (.t 0), []⟩,
 ⟨some 43, none, .nilc (.t 42) (mok Tryz.prog), []⟩,
 ⟨some 44, none, .fld 1 (.t 43), []⟩,
 ⟨some 45, none, .ld 1 false (.t 44), []⟩,
 ⟨some 46, none, .mki 35 (.t 45), []⟩,
 ⟨some 47, none, .mv (.t 1), []⟩,
 ⟨some 48, none, .call 67 [.t 46, .t 47], []⟩,
 ⟨some 49, none, .ext (.t 48) 0, []⟩,
 ⟨some 50, none, .ext (.t 48) 1, []⟩,
 ⟨some 4, none, .mv (.t 49), []⟩,
 ⟨some 5, none, .mv (.t 50), []⟩])
 .ret)
 .skip)))))))
 (.seq
 (.ops 8 [⟨some 4, none, .mv (.c (.bool false)), []⟩,
 ⟨some 5, none, .mv (.c (.bool false)), []⟩])
 .ret)))⟩
theorem F24_code : cfgA.code 24 = some F24 := by kernel_rfl

/-- ticketline/ticketlinelaw31.crowd: the round 0 -/
@[reducible] noncomputable def B25x0 : AC := (.seq
 (.seq
 (.ops 3 [⟨some 5, none, .mv (.t 4), []⟩,
 ⟨some 6, none, .mv (.t 0), []⟩,
 ⟨some 7, none, .len .slice (.t 6), []⟩,
 ⟨some 8, none, .bin .lss (.t 5) (.t 7), []⟩])
 (.cond (.t 8)
 .skip
 (.exit 0)))
 (.seq
 (.block 1
 (.seq
 (.ops 5 [⟨some 11, none, .mv (.t 0), []⟩,
 ⟨some 12, none, .mv (.t 4), []⟩,
 ⟨some 13, none, .ixa none 1 (.t 11) (.t 12), []⟩,
 ⟨some 14, none, .ld 1 false (.t 13), []⟩,
 ⟨some 15, none, .nilc (.t 14) (mok Tryz.prog), []⟩,
 ⟨some 16, none, .fld 0 (.t 15), []⟩,
 ⟨some 17, none, .ld 1 false (.t 16), []⟩,
 ⟨some 18, none, .call 29 [.t 17], []⟩,
 ⟨some 19, none, .mv (.t 18), []⟩,
 ⟨some 20, some (19, true), .mv (.t 0), []⟩,
 ⟨some 21, some (19, true), .mv (.t 4), []⟩,
 ⟨some 22, some (19, true), .ixa none 1 (.t 20) (.t 21), []⟩,
 ⟨some 23, some (19, true), .ld 1 false (.t 22), []⟩,
 ⟨some 24, some (19, true), .nilc (.t 23) (mok Tryz.prog), []⟩,
 ⟨some 25, some (19, true), .fld 2 (.t 24), []⟩,
 ⟨some 26, some (19, true), .ld 1 false (.t 25), []⟩,
 ⟨some 27, some (19, true), .bin .gtr (.t 26) (.c (.int .i64 0)), []⟩,
 ⟨some 28, none, .pick (.t 19) (.t 27) (.c (.bool false)), []⟩])
 (.cond (.t 28)
 (.ops 6 [⟨some 29, none, .mv (.t 3), []⟩,
 ⟨some 30, none, .bin .add (.t 29) (.c (.int .i64 1)), []⟩,
 ⟨some 3, none, .mv (.t 30), []⟩])
 .skip)))
 (.ops 4 [⟨some 9, none, .mv (.t 4), []⟩,
 ⟨some 10, none, .bin .add (.t 9) (.c (.int .i64 1)), []⟩,
 ⟨some 4, none, .mv (.t 10), []⟩])))

/-- ticketline/ticketlinelaw31.crowd -/
noncomputable def F25 : AFn := ⟨32, [.tmp 2], (.seq
 (.ops 0 [⟨some 2, none, .mv (.c (.int .i64 0)), []⟩])
 (.seq
 (.ops 1 [⟨some 3, none, .mv (.c (.int .i64 0)), []⟩])
 (.seq
 (.seq
 (.ops 2 [⟨some 4, none, .mv (.c (.int .i64 0)), []⟩])
 (.block 0
 (.loop [] B25x0)))
 (.seq
 (.ops 7 [⟨some 31, none, .mv (.t 3), []⟩,
 ⟨some 2, none, .mv (.t 31), []⟩])
 .ret))))⟩
theorem F25_code : cfgA.code 25 = some F25 := by kernel_rfl

/-- (*ticketline/gate.Leave).Done -/
noncomputable def F26 : AFn := ⟨13, [.tmp 2], (.seq
 (.ops 0 [⟨some 2, none, .mv (.c (.bool false)), []⟩])
 (.seq
 (.ops 1 [⟨some 3, none, .mv (.t 0), []⟩,
 ⟨some 4, none, .call 71 [.t 3], []⟩,
 ⟨some 5, none, .mv (.t 4), []⟩,
 ⟨some 6, some (5, false), .mv (.t 0), []⟩,
 ⟨some 7, some (5, false), .nilc (.t 6) (mok Tryz.prog), []⟩,
 ⟨some 8, some (5, false), .fld 0 (.t 7), []⟩,
 ⟨some 9, some (5, false), .fld 2 (.t 8), []⟩,
 ⟨some 10, some (5, false), .ld 1 false (.t 9), []⟩,
 ⟨some 11, some (5, false), .bin .eql (.t 10) (.c (.int .i64 16)), []⟩,
 ⟨some 12, none, .pick (.t 5) (.c (.bool true)) (.t 11), []⟩,
 ⟨some 2, none, .mv (.t 12), []⟩])
 .ret))⟩
theorem F26_code : cfgA.code 26 = some F26 := by kernel_rfl

/-- ticketline/mem.New -/
noncomputable def F27 : AFn := ⟨14, [.tmp 2, .tmp 3], (.seq
 (.ops 0 [⟨some 2, none, .mv (.c (.nilp)), []⟩,
 ⟨some 3, none, .mv (.c (.int .i64 0)), []⟩])
 (.seq
 (.seq
 (.ops 1 [⟨some 4, none, .mv (.t 0), []⟩,
 ⟨some 5, none, .bin .lss (.t 4) (.c (.int .i64 1)), []⟩,
 ⟨some 6, none, .mv (.t 5), []⟩,
 ⟨some 7, some (6, false), .mv (.t 0), []⟩,
 ⟨some 8, some (6, false), .bin .gtr (.t 7) (.c (.int .i64 65536)), []⟩,
 ⟨some 9, none, .pick (.t 6) (.c (.bool true)) (.t 8), []⟩])
 (.cond (.t 9)
 (.seq
 (.ops 2 [⟨some 2, none, .mv (.c (.nilp)), []⟩,
 ⟨some 3, none, .mv (.c (.int .i64 2)), []⟩])
 .ret)
 .skip))
 (.seq
 (.ops 3 [⟨some 10, none, .mv (.t 0), []⟩,
 ⟨some 11, none, .mks [.int .u64 0] 1 8 (.t 10) (.t 10) true, []⟩,
 ⟨some 12, none, .build [.nils] [(0, 1, (.t 11))], []⟩,
 ⟨some 13, none, .box 1 (.t 12) true, []⟩,
 ⟨some 2, none, .mv (.t 13), []⟩,
 ⟨some 3, none, .mv (.c (.int .i64 0)), []⟩])
 .ret)))⟩
theorem F27_code : cfgA.code 27 = some F27 := by kernel_rfl

/-- (*ticketline/gate.Enter).Step -/
noncomputable def F28 : AFn := ⟨155, [.tmp 4, .tmp 5], (.seq
 (.ops 0 [⟨some 4, none, .mv (.c (.bool false)), []⟩,
 ⟨some 5, none, .mv (.c (.int .i64 0)), []⟩])
 (.seq
 (.seq
 (.ops 1 [⟨some 11, none, .mv (.t 0), []⟩,
 ⟨some 12, none, .call 72 [.t 11], []⟩,
 ⟨some 13, none, .mv (.t 12), []⟩,
 ⟨some 14, some (13, false), .mv (.t 1), []⟩,
 ⟨some 15, some (13, false), .eqn .iface false (.t 14), []⟩,
 ⟨some 16, none, .pick (.t 13) (.c (.bool true)) (.t 15), []⟩])
 (.cond (.t 16)
 (.seq
 (.ops 2 [⟨some 4, none, .mv (.c (.bool false)), []⟩,
 ⟨some 5, none, .mv (.c (.int .i64 1)), []⟩])
 .ret)
 .skip))
 (.seq
 (.seq
 (.ops 3 [⟨some 17, none, .mv (.t 0), []⟩,
 ⟨some 18, none, .nilc (.t 17) (mok Tryz.prog), []⟩,
 ⟨some 19, none, .fld 0 (.t 18), []⟩,
 ⟨some 20, none, .fld 2 (.t 19), []⟩,
 ⟨some 21, none, .ld 1 false (.t 20), []⟩])
 (.block 0
 (.seq
 (.ops 4 [⟨some 23, none, .bin .eql (.t 21) (.c (.int .i64 2)), []⟩,
 ⟨some 22, none, .mv (.t 23), []⟩])
 (.cond (.t 22)
 (.seq
 (.ops 5 [⟨some 24, none, .mv (.t 0), []⟩,
 ⟨some 25, none, .mv (.t 1), []⟩,
 ⟨some 26, none, .call 73 [.t 24, .t 25, .c (.int .i64 13)], []⟩,
 ⟨some 4, none, .mv (.c (.bool false)), []⟩,
 ⟨some 5, none, .mv (.t 26), []⟩])
 .ret)
 (.seq
 (.ops 6 [⟨some 28, none, .bin .eql (.t 21) (.c (.int .i64 3)), []⟩,
 ⟨some 27, none, .mv (.t 28), []⟩])
 (.cond (.t 27)
 (.seq
 (.ops 7 [⟨some 29, none, .mv (.t 0), []⟩,
 ⟨some 30, none, .mv (.t 1), []⟩,
 ⟨some 31, none, .call 73 [.t 29, .t 30, .c (.int .i64 14)], []⟩,
 ⟨some 4, none, .mv (.c (.bool false)), []⟩,
 ⟨some 5, none, .mv (.t 31), []⟩])
 .ret)
 (.seq
 (.ops 8 [⟨some 33, none, .bin .eql (.t 21) (.c (.int .i64 4)), []⟩,
 ⟨some 32, none, .mv (.t 33), []⟩])
 (.cond (.t 32)
 (.seq
 (.ops 9 [⟨some 34, none, .mv (.t 0), []⟩,
 ⟨some 35, none, .mv (.t 1), []⟩,
 ⟨some 36, none, .mv (.t 0), []⟩,
 ⟨some 37, none, .nilc (.t 36) (mok Tryz.prog), []⟩,
 ⟨some 38, none, .fld 0 (.t 37), []⟩,
 ⟨some 39, none, .fld 4 (.t 38), []⟩,
 ⟨some 40, none, .ld 1 false (.t 39), []⟩,
 ⟨some 41, none, .bin .add (.t 40) (.c (.int .u64 1)), []⟩,
 ⟨some 42, none, .call 74 [.t 34, .t 35, .c (.int .i64 13), .t 41, .c (.int .i64 14)], []⟩,
 ⟨some 4, none, .mv (.c (.bool false)), []⟩,
 ⟨some 5, none, .mv (.t 42), []⟩])
 .ret)
 (.seq
 (.ops 10 [⟨some 44, none, .bin .eql (.t 21) (.c (.int .i64 5)), []⟩,
 ⟨some 43, none, .mv (.t 44), []⟩])
 (.cond (.t 43)
 (.seq
 (.ops 11 [⟨some 45, none, .mv (.t 0), []⟩,
 ⟨some 46, none, .mv (.t 1), []⟩,
 ⟨some 47, none, .mv (.t 0), []⟩,
 ⟨some 48, none, .nilc (.t 47) (mok Tryz.prog), []⟩,
 ⟨some 49, none, .fld 0 (.t 48), []⟩,
 ⟨some 50, none, .fld 0 (.t 49), []⟩,
 ⟨some 51, none, .ld 1 false (.t 50), []⟩,
 ⟨some 52, none, .mv (.t 0), []⟩,
 ⟨some 53, none, .nilc (.t 52) (mok Tryz.prog), []⟩,
 ⟨some 54, none, .fld 0 (.t 53), []⟩,
 ⟨some 55, none, .fld 1 (.t 54), []⟩,
 ⟨some 56, none, .ld 1 false (.t 55), []⟩,
 ⟨some 57, none, .call 75 [.t 51, .t 56], []⟩,
 ⟨some 58, none, .call 74 [.t 45, .t 46, .t 57, .c (.int .u64 1), .c (.int .i64 6)], []⟩,
 ⟨some 4, none, .mv (.c (.bool false)), []⟩,
 ⟨some 5, none, .mv (.t 58), []⟩])
 .ret)
 (.seq
 (.ops 12 [⟨some 60, none, .bin .eql (.t 21) (.c (.int .i64 6)), []⟩,
 ⟨some 59, none, .mv (.t 60), []⟩])
 (.cond (.t 59)
 (.seq
 (.ops 13 [⟨some 61, none, .mv (.t 0), []⟩,
 ⟨some 62, none, .mv (.t 1), []⟩,
 ⟨some 63, none, .mv (.t 0), []⟩,
 ⟨some 64, none, .nilc (.t 63) (mok Tryz.prog), []⟩,
 ⟨some 65, none, .fld 0 (.t 64), []⟩,
 ⟨some 66, none, .fld 0 (.t 65), []⟩,
 ⟨some 67, none, .ld 1 false (.t 66), []⟩,
 ⟨some 68, none, .mv (.t 0), []⟩,
 ⟨some 69, none, .nilc (.t 68) (mok Tryz.prog), []⟩,
 ⟨some 70, none, .fld 0 (.t 69), []⟩,
 ⟨some 71, none, .fld 1 (.t 70), []⟩,
 ⟨some 72, none, .ld 1 false (.t 71), []⟩,
 ⟨some 73, none, .call 76 [.t 67, .t 72], []⟩,
 ⟨some 74, none, .call 74 [.t 61, .t 62, .t 73, .c (.int .u64 0), .c (.int .i64 7)], []⟩,
 ⟨some 4, none, .mv (.c (.bool false)), []⟩,
 ⟨some 5, none, .mv (.t 74), []⟩])
 .ret)
 (.seq
 (.ops 14 [⟨some 76, none, .bin .eql (.t 21) (.c (.int .i64 7)), []⟩,
 ⟨some 75, none, .mv (.t 76), []⟩])
 (.cond (.t 75)
 (.seq
 (.ops 15 [⟨some 77, none, .mv (.t 0), []⟩,
 ⟨some 78, none, .mv (.t 1), []⟩,
 ⟨some 79, none, .call 73 [.t 77, .t 78, .c (.int .i64 15)], []⟩,
 ⟨some 4, none, .mv (.c (.bool false)), []⟩,
 ⟨some 5, none, .mv (.t 79), []⟩])
 .ret)
 (.seq
 (.ops 16 [⟨some 81, none, .bin .eql (.t 21) (.c (.int .i64 8)), []⟩,
 ⟨some 80, none, .mv (.t 81), []⟩])
 (.cond (.t 80)
 (.seq
 (.ops 17 [⟨some 82, none, .mv (.t 0), []⟩,
 ⟨some 83, none, .mv (.t 1), []⟩,
 ⟨some 84, none, .call 77 [.t 82, .t 83], []⟩,
 ⟨some 4, none, .mv (.c (.bool false)), []⟩,
 ⟨some 5, none, .mv (.t 84), []⟩])
 .ret)
 (.seq
 (.ops 18 [⟨some 86, none, .bin .eql (.t 21) (.c (.int .i64 9)), []⟩,
 ⟨some 85, none, .mv (.t 86), []⟩])
 (.cond (.t 85)
 (.seq
 (.ops 19 [⟨some 88, none, .mv (.t 0), []⟩,
 ⟨some 89, none, .nilc (.t 88) (mok Tryz.prog), []⟩,
 ⟨some 90, none, .fld 0 (.t 89), []⟩,
 ⟨some 91, none, .fld 0 (.t 90), []⟩,
 ⟨some 92, none, .ld 1 false (.t 91), []⟩,
 ⟨some 93, none, .mv (.t 0), []⟩,
 ⟨some 94, none, .nilc (.t 93) (mok Tryz.prog), []⟩,
 ⟨some 95, none, .fld 0 (.t 94), []⟩,
 ⟨some 96, none, .fld 1 (.t 95), []⟩,
 ⟨some 97, none, .ld 1 false (.t 96), []⟩,
 ⟨some 98, none, .call 78 [.t 92, .t 97], []⟩,
 ⟨some 87, none, .mv (.t 98), []⟩,
 ⟨some 99, none, .ext (.t 87) 0, []⟩,
 ⟨some 100, none, .ext (.t 87) 1, []⟩,
 ⟨some 6, none, .mv (.t 99), []⟩,
 ⟨some 7, none, .mv (.t 100), []⟩])
 (.seq
 (.ops 20 [⟨some 101, none, .mv (.t 0), []⟩,
 ⟨some 102, none, .mv (.t 1), []⟩,
 ⟨some 103, none, .mv (.t 6), []⟩,
 ⟨some 104, none, .call 74 [.t 101, .t 102, .c (.int .i64 15), .t 103, .c (.int .i64 14)], []⟩,
 ⟨some 4, none, .mv (.c (.bool false)), []⟩,
 ⟨some 5, none, .mv (.t 104), []⟩])
 .ret))
 (.seq
 (.ops 21 [⟨some 106, none, .bin .eql (.t 21) (.c (.int .i64 15)), []⟩,
 ⟨some 105, none, .mv (.t 106), []⟩])
 (.cond (.t 105)
 (.seq
 (.ops 22 [⟨some 107, none, .mv (.t 0), []⟩,
 ⟨some 108, none, .mv (.t 1), []⟩,
 ⟨some 109, none, .call 79 [.t 107, .t 108], []⟩,
 ⟨some 110, none, .ext (.t 109) 0, []⟩,
 ⟨some 111, none, .ext (.t 109) 1, []⟩,
 ⟨some 4, none, .mv (.t 110), []⟩,
 ⟨some 5, none, .mv (.t 111), []⟩])
 .ret)
 (.seq
 (.ops 23 [⟨some 113, none, .bin .eql (.t 21) (.c (.int .i64 16)), []⟩,
 ⟨some 112, none, .mv (.t 113), []⟩])
 (.cond (.t 112)
 (.seq
 (.ops 24 [⟨some 4, none, .mv (.c (.bool false)), []⟩,
 ⟨some 5, none, .mv (.c (.int .i64 17)), []⟩])
 .ret)
 .skip))))))))))))))))))))))
 (.seq
 (.ops 25 [⟨some 115, none, .mv (.t 0), []⟩,
 ⟨some 116, none, .nilc (.t 115) (mok Tryz.prog), []⟩,
 ⟨some 117, none, .fld 0 (.t 116), []⟩,
 ⟨some 118, none, .mv (.t 1), []⟩,
 ⟨some 119, none, .call 80 [.t 117, .t 118], []⟩,
 ⟨some 114, none, .mv (.t 119), []⟩,
 ⟨some 120, none, .ext (.t 114) 0, []⟩,
 ⟨some 121, none, .ext (.t 114) 1, []⟩,
 ⟨some 122, none, .ext (.t 114) 2, []⟩,
 ⟨some 8, none, .mv (.t 120), []⟩,
 ⟨some 9, none, .mv (.t 121), []⟩,
 ⟨some 10, none, .mv (.t 122), []⟩])
 (.seq
 (.seq
 (.ops 26 [⟨some 123, none, .mv (.t 9), []⟩,
 ⟨some 124, none, .mv (.t 123), []⟩,
 ⟨some 125, some (124, true), .mv (.t 0), []⟩,
 ⟨some 126, some (124, true), .nilc (.t 125) (mok Tryz.prog), []⟩,
 ⟨some 127, some (124, true), .fld 0 (.t 126), []⟩,
 ⟨some 128, some (124, true), .fld 2 (.t 127), []⟩,
 ⟨some 129, some (124, true), .ld 1 false (.t 128), []⟩,
 ⟨some 130, some (124, true), .bin .eql (.t 129) (.c (.int .i64 1)), []⟩,
 ⟨some 131, none, .pick (.t 124) (.t 130) (.c (.bool false)), []⟩])
 (.cond (.t 131)
 (.ops 27 [⟨some 132, none, .mv (.t 0), []⟩,
 ⟨some 133, none, .nilc (.t 132) (mok Tryz.prog), []⟩,
 ⟨some 134, none, .fld 0 (.t 133), []⟩,
 ⟨some 135, none, .fld 2 (.t 134), []⟩,
 ⟨none, none, .st 1 (.t 135) (.c (.int .i64 2)), []⟩])
 (.seq
 (.ops 28 [⟨some 136, none, .mv (.t 9), []⟩,
 ⟨some 137, none, .mv (.t 136), []⟩,
 ⟨some 138, some (137, true), .mv (.t 0), []⟩,
 ⟨some 139, some (137, true), .nilc (.t 138) (mok Tryz.prog), []⟩,
 ⟨some 140, some (137, true), .fld 0 (.t 139), []⟩,
 ⟨some 141, some (137, true), .fld 5 (.t 140), []⟩,
 ⟨some 142, some (137, true), .ld 1 false (.t 141), []⟩,
 ⟨some 143, none, .pick (.t 137) (.t 142) (.c (.bool false)), []⟩])
 (.cond (.t 143)
 (.ops 29 [⟨some 144, none, .mv (.t 0), []⟩,
 ⟨some 145, none, .nilc (.t 144) (mok Tryz.prog), []⟩,
 ⟨some 146, none, .fld 0 (.t 145), []⟩,
 ⟨some 147, none, .fld 2 (.t 146), []⟩,
 ⟨none, none, .st 1 (.t 147) (.c (.int .i64 15)), []⟩])
 (.seq
 (.ops 30 [⟨some 148, none, .mv (.t 9), []⟩])
 (.cond (.t 148)
 (.ops 31 [⟨some 149, none, .mv (.t 0), []⟩,
 ⟨some 150, none, .nilc (.t 149) (mok Tryz.prog), []⟩,
 ⟨some 151, none, .fld 0 (.t 150), []⟩,
 ⟨some 152, none, .fld 2 (.t 151), []⟩,
 ⟨none, none, .st 1 (.t 152) (.c (.int .i64 16)), []⟩])
 .skip))))))
 (.seq
 (.ops 32 [⟨some 153, none, .mv (.t 8), []⟩,
 ⟨some 154, none, .mv (.t 10), []⟩,
 ⟨some 4, none, .mv (.t 153), []⟩,
 ⟨some 5, none, .mv (.t 154), []⟩])
 .ret))))))⟩
theorem F28_code : cfgA.code 28 = some F28 := by kernel_rfl

/-- (*ticketline/gate.Enter).Done -/
noncomputable def F29 : AFn := ⟨13, [.tmp 2], (.seq
 (.ops 0 [⟨some 2, none, .mv (.c (.bool false)), []⟩])
 (.seq
 (.ops 1 [⟨some 3, none, .mv (.t 0), []⟩,
 ⟨some 4, none, .call 72 [.t 3], []⟩,
 ⟨some 5, none, .mv (.t 4), []⟩,
 ⟨some 6, some (5, false), .mv (.t 0), []⟩,
 ⟨some 7, some (5, false), .nilc (.t 6) (mok Tryz.prog), []⟩,
 ⟨some 8, some (5, false), .fld 0 (.t 7), []⟩,
 ⟨some 9, some (5, false), .fld 2 (.t 8), []⟩,
 ⟨some 10, some (5, false), .ld 1 false (.t 9), []⟩,
 ⟨some 11, some (5, false), .bin .eql (.t 10) (.c (.int .i64 16)), []⟩,
 ⟨some 12, none, .pick (.t 5) (.c (.bool true)) (.t 11), []⟩,
 ⟨some 2, none, .mv (.t 12), []⟩])
 .ret))⟩
theorem F29_code : cfgA.code 29 = some F29 := by kernel_rfl

/-- (*ticketline/gate.Enter).Copy -/
noncomputable def F30 : AFn := ⟨21, [.tmp 2], (.seq
 (.ops 0 [⟨some 2, none, .mv (.c (.nili)), []⟩])
 (.seq
 (.seq
 (.ops 1 [⟨some 3, none, .mv (.t 0), []⟩,
 ⟨some 4, none, .call 72 [.t 3], []⟩])
 (.cond (.t 4)
 (.seq
 (.ops 2 [⟨some 2, none, .mv (.c (.nili)), []⟩])
 .ret)
 .skip))
 (.seq
 (.ops 3 [⟨some 5, none, .mv (.t 0), []⟩,
 ⟨some 6, none, .nilc (.t 5) (mok Tryz.prog), []⟩,
 ⟨some 7, none, .fld 0 (.t 6), []⟩,
 ⟨some 8, none, .ld 6 true (.t 7), []⟩,
 ⟨some 10, none, .mv (.t 0), []⟩,
 ⟨some 11, none, .nilc (.t 10) (mok Tryz.prog), []⟩,
 ⟨some 12, none, .fld 6 (.t 11), []⟩,
 ⟨some 13, none, .ld 1 false (.t 12), []⟩,
 ⟨some 14, none, .mv (.t 0), []⟩,
 ⟨some 15, none, .nilc (.t 14) (mok Tryz.prog), []⟩,
 ⟨some 16, none, .fld 7 (.t 15), []⟩,
 ⟨some 17, none, .ld 1 false (.t 16), []⟩,
 ⟨some 9, none, .call 81 [.t 8], [(13, .ld 1 false (.t 12)), (17, .ld 1 false (.t 16))]⟩,
 ⟨some 18, none, .build [.nilp, .int .i64 0, .int .i64 0, .nili, .int .u64 0, .bool false, .int .i64 0, .int .i64 0] [(0, 6, (.t 9)), (6, 1, (.t 13)), (7, 1, (.t 17))], []⟩,
 ⟨some 19, none, .box 8 (.t 18) true, []⟩,
 ⟨some 20, none, .mki 42 (.t 19), []⟩,
 ⟨some 2, none, .mv (.t 20), []⟩])
 .ret)))⟩
theorem F30_code : cfgA.code 30 = some F30 := by kernel_rfl

/-- (*ticketline/gate.Leave).Step -/
noncomputable def F31 : AFn := ⟨126, [.tmp 4, .tmp 5], (.seq
 (.ops 0 [⟨some 4, none, .mv (.c (.bool false)), []⟩,
 ⟨some 5, none, .mv (.c (.int .i64 0)), []⟩])
 (.seq
 (.seq
 (.ops 1 [⟨some 10, none, .mv (.t 0), []⟩,
 ⟨some 11, none, .call 71 [.t 10], []⟩,
 ⟨some 12, none, .mv (.t 11), []⟩,
 ⟨some 13, some (12, false), .mv (.t 1), []⟩,
 ⟨some 14, some (12, false), .eqn .iface false (.t 13), []⟩,
 ⟨some 15, none, .pick (.t 12) (.c (.bool true)) (.t 14), []⟩])
 (.cond (.t 15)
 (.seq
 (.ops 2 [⟨some 4, none, .mv (.c (.bool false)), []⟩,
 ⟨some 5, none, .mv (.c (.int .i64 1)), []⟩])
 .ret)
 .skip))
 (.seq
 (.seq
 (.ops 3 [⟨some 16, none, .mv (.t 0), []⟩,
 ⟨some 17, none, .nilc (.t 16) (mok Tryz.prog), []⟩,
 ⟨some 18, none, .fld 0 (.t 17), []⟩,
 ⟨some 19, none, .fld 2 (.t 18), []⟩,
 ⟨some 20, none, .ld 1 false (.t 19), []⟩])
 (.block 0
 (.seq
 (.ops 4 [⟨some 22, none, .bin .eql (.t 20) (.c (.int .i64 3)), []⟩,
 ⟨some 21, none, .mv (.t 22), []⟩])
 (.cond (.t 21)
 (.seq
 (.ops 5 [⟨some 23, none, .mv (.t 0), []⟩,
 ⟨some 24, none, .mv (.t 1), []⟩,
 ⟨some 25, none, .call 82 [.t 23, .t 24, .c (.int .i64 14)], []⟩,
 ⟨some 4, none, .mv (.c (.bool false)), []⟩,
 ⟨some 5, none, .mv (.t 25), []⟩])
 .ret)
 (.seq
 (.ops 6 [⟨some 27, none, .bin .eql (.t 20) (.c (.int .i64 2)), []⟩,
 ⟨some 26, none, .mv (.t 27), []⟩])
 (.cond (.t 26)
 (.seq
 (.ops 7 [⟨some 28, none, .mv (.t 0), []⟩,
 ⟨some 29, none, .mv (.t 1), []⟩,
 ⟨some 30, none, .call 82 [.t 28, .t 29, .c (.int .i64 13)], []⟩,
 ⟨some 4, none, .mv (.c (.bool false)), []⟩,
 ⟨some 5, none, .mv (.t 30), []⟩])
 .ret)
 (.seq
 (.ops 8 [⟨some 32, none, .bin .eql (.t 20) (.c (.int .i64 4)), []⟩,
 ⟨some 31, none, .mv (.t 32), []⟩])
 (.cond (.t 31)
 (.seq
 (.ops 9 [⟨some 33, none, .mv (.t 0), []⟩,
 ⟨some 34, none, .mv (.t 1), []⟩,
 ⟨some 35, none, .mv (.t 0), []⟩,
 ⟨some 36, none, .nilc (.t 35) (mok Tryz.prog), []⟩,
 ⟨some 37, none, .fld 0 (.t 36), []⟩,
 ⟨some 38, none, .fld 4 (.t 37), []⟩,
 ⟨some 39, none, .ld 1 false (.t 38), []⟩,
 ⟨some 40, none, .mx true (.t 39) [.c (.int .u64 1)], []⟩,
 ⟨some 41, none, .bin .sub (.t 40) (.c (.int .u64 1)), []⟩,
 ⟨some 42, none, .call 83 [.t 33, .t 34, .c (.int .i64 13), .t 41, .c (.int .i64 14)], []⟩,
 ⟨some 4, none, .mv (.c (.bool false)), []⟩,
 ⟨some 5, none, .mv (.t 42), []⟩])
 .ret)
 (.seq
 (.ops 10 [⟨some 44, none, .bin .eql (.t 20) (.c (.int .i64 10)), []⟩,
 ⟨some 43, none, .mv (.t 44), []⟩])
 (.cond (.t 43)
 (.seq
 (.ops 11 [⟨some 45, none, .mv (.t 0), []⟩,
 ⟨some 46, none, .mv (.t 1), []⟩,
 ⟨some 47, none, .mv (.t 0), []⟩,
 ⟨some 48, none, .nilc (.t 47) (mok Tryz.prog), []⟩,
 ⟨some 49, none, .fld 0 (.t 48), []⟩,
 ⟨some 50, none, .fld 0 (.t 49), []⟩,
 ⟨some 51, none, .ld 1 false (.t 50), []⟩,
 ⟨some 52, none, .mv (.t 0), []⟩,
 ⟨some 53, none, .nilc (.t 52) (mok Tryz.prog), []⟩,
 ⟨some 54, none, .fld 7 (.t 53), []⟩,
 ⟨some 55, none, .ld 1 false (.t 54), []⟩,
 ⟨some 56, none, .call 76 [.t 51, .t 55], []⟩,
 ⟨some 57, none, .call 82 [.t 45, .t 46, .t 56], []⟩,
 ⟨some 4, none, .mv (.c (.bool false)), []⟩,
 ⟨some 5, none, .mv (.t 57), []⟩])
 .ret)
 (.seq
 (.ops 12 [⟨some 59, none, .bin .eql (.t 20) (.c (.int .i64 11)), []⟩,
 ⟨some 58, none, .mv (.t 59), []⟩])
 (.cond (.t 58)
 (.seq
 (.ops 13 [⟨some 6, none, .mv (.c (.int .i64 13)), []⟩])
 (.seq
 (.seq
 (.ops 14 [⟨some 60, none, .mv (.t 0), []⟩,
 ⟨some 61, none, .nilc (.t 60) (mok Tryz.prog), []⟩,
 ⟨some 62, none, .fld 0 (.t 61), []⟩,
 ⟨some 63, none, .fld 4 (.t 62), []⟩,
 ⟨some 64, none, .ld 1 false (.t 63), []⟩,
 ⟨some 65, none, .bin .eql (.t 64) (.c (.int .u64 0)), []⟩])
 (.cond (.t 65)
 (.ops 15 [⟨some 6, none, .mv (.c (.int .i64 12)), []⟩])
 .skip))
 (.seq
 (.ops 16 [⟨some 66, none, .mv (.t 0), []⟩,
 ⟨some 67, none, .mv (.t 1), []⟩,
 ⟨some 68, none, .mv (.t 0), []⟩,
 ⟨some 69, none, .nilc (.t 68) (mok Tryz.prog), []⟩,
 ⟨some 70, none, .fld 0 (.t 69), []⟩,
 ⟨some 71, none, .fld 4 (.t 70), []⟩,
 ⟨some 72, none, .ld 1 false (.t 71), []⟩,
 ⟨some 73, none, .mv (.t 6), []⟩,
 ⟨some 74, none, .call 83 [.t 66, .t 67, .c (.int .i64 14), .t 72, .t 73], []⟩,
 ⟨some 4, none, .mv (.c (.bool false)), []⟩,
 ⟨some 5, none, .mv (.t 74), []⟩])
 .ret)))
 (.seq
 (.ops 17 [⟨some 76, none, .bin .eql (.t 20) (.c (.int .i64 12)), []⟩,
 ⟨some 75, none, .mv (.t 76), []⟩])
 (.cond (.t 75)
 (.seq
 (.ops 18 [⟨some 77, none, .mv (.t 0), []⟩,
 ⟨some 78, none, .mv (.t 1), []⟩,
 ⟨some 79, none, .call 83 [.t 77, .t 78, .c (.int .i64 15), .c (.int .u64 0), .c (.int .i64 13)], []⟩,
 ⟨some 4, none, .mv (.c (.bool false)), []⟩,
 ⟨some 5, none, .mv (.t 79), []⟩])
 .ret)
 (.seq
 (.ops 19 [⟨some 81, none, .bin .eql (.t 20) (.c (.int .i64 13)), []⟩,
 ⟨some 80, none, .mv (.t 81), []⟩])
 (.cond (.t 80)
 (.seq
 (.ops 20 [⟨some 82, none, .mv (.t 0), []⟩,
 ⟨some 83, none, .mv (.t 1), []⟩,
 ⟨some 84, none, .mv (.t 0), []⟩,
 ⟨some 85, none, .nilc (.t 84) (mok Tryz.prog), []⟩,
 ⟨some 86, none, .fld 0 (.t 85), []⟩,
 ⟨some 87, none, .fld 0 (.t 86), []⟩,
 ⟨some 88, none, .ld 1 false (.t 87), []⟩,
 ⟨some 89, none, .mv (.t 0), []⟩,
 ⟨some 90, none, .nilc (.t 89) (mok Tryz.prog), []⟩,
 ⟨some 91, none, .fld 7 (.t 90), []⟩,
 ⟨some 92, none, .ld 1 false (.t 91), []⟩,
 ⟨some 93, none, .call 75 [.t 88, .t 92], []⟩,
 ⟨some 94, none, .call 83 [.t 82, .t 83, .t 93, .c (.int .u64 0), .c (.int .i64 14)], []⟩,
 ⟨some 4, none, .mv (.c (.bool false)), []⟩,
 ⟨some 5, none, .mv (.t 94), []⟩])
 .ret)
 (.seq
 (.ops 21 [⟨some 96, none, .bin .eql (.t 20) (.c (.int .i64 16)), []⟩,
 ⟨some 95, none, .mv (.t 96), []⟩])
 (.cond (.t 95)
 (.seq
 (.ops 22 [⟨some 4, none, .mv (.c (.bool false)), []⟩,
 ⟨some 5, none, .mv (.c (.int .i64 17)), []⟩])
 .ret)
 .skip))))))))))))))))))
 (.seq
 (.ops 23 [⟨some 98, none, .mv (.t 0), []⟩,
 ⟨some 99, none, .nilc (.t 98) (mok Tryz.prog), []⟩,
 ⟨some 100, none, .fld 0 (.t 99), []⟩,
 ⟨some 101, none, .mv (.t 1), []⟩,
 ⟨some 102, none, .call 80 [.t 100, .t 101], []⟩,
 ⟨some 97, none, .mv (.t 102), []⟩,
 ⟨some 103, none, .ext (.t 97) 0, []⟩,
 ⟨some 104, none, .ext (.t 97) 1, []⟩,
 ⟨some 105, none, .ext (.t 97) 2, []⟩,
 ⟨some 7, none, .mv (.t 103), []⟩,
 ⟨some 8, none, .mv (.t 104), []⟩,
 ⟨some 9, none, .mv (.t 105), []⟩])
 (.seq
 (.seq
 (.ops 24 [⟨some 106, none, .mv (.t 8), []⟩,
 ⟨some 107, none, .mv (.t 106), []⟩,
 ⟨some 108, some (107, true), .mv (.t 0), []⟩,
 ⟨some 109, some (107, true), .nilc (.t 108) (mok Tryz.prog), []⟩,
 ⟨some 110, some (107, true), .fld 0 (.t 109), []⟩,
 ⟨some 111, some (107, true), .fld 2 (.t 110), []⟩,
 ⟨some 112, some (107, true), .ld 1 false (.t 111), []⟩,
 ⟨some 113, some (107, true), .bin .eql (.t 112) (.c (.int .i64 1)), []⟩,
 ⟨some 114, none, .pick (.t 107) (.t 113) (.c (.bool false)), []⟩])
 (.cond (.t 114)
 (.ops 25 [⟨some 115, none, .mv (.t 0), []⟩,
 ⟨some 116, none, .nilc (.t 115) (mok Tryz.prog), []⟩,
 ⟨some 117, none, .fld 0 (.t 116), []⟩,
 ⟨some 118, none, .fld 2 (.t 117), []⟩,
 ⟨none, none, .st 1 (.t 118) (.c (.int .i64 3)), []⟩])
 (.seq
 (.ops 26 [⟨some 119, none, .mv (.t 8), []⟩])
 (.cond (.t 119)
 (.ops 27 [⟨some 120, none, .mv (.t 0), []⟩,
 ⟨some 121, none, .nilc (.t 120) (mok Tryz.prog), []⟩,
 ⟨some 122, none, .fld 0 (.t 121), []⟩,
 ⟨some 123, none, .fld 2 (.t 122), []⟩,
 ⟨none, none, .st 1 (.t 123) (.c (.int .i64 16)), []⟩])
 .skip))))
 (.seq
 (.ops 28 [⟨some 124, none, .mv (.t 7), []⟩,
 ⟨some 125, none, .mv (.t 9), []⟩,
 ⟨some 4, none, .mv (.t 124), []⟩,
 ⟨some 5, none, .mv (.t 125), []⟩])
 .ret))))))⟩
theorem F31_code : cfgA.code 31 = some F31 := by kernel_rfl

/-- (*ticketline/gate.Leave).Copy -/
noncomputable def F32 : AFn := ⟨21, [.tmp 2], (.seq
 (.ops 0 [⟨some 2, none, .mv (.c (.nili)), []⟩])
 (.seq
 (.seq
 (.ops 1 [⟨some 3, none, .mv (.t 0), []⟩,
 ⟨some 4, none, .call 71 [.t 3], []⟩])
 (.cond (.t 4)
 (.seq
 (.ops 2 [⟨some 2, none, .mv (.c (.nili)), []⟩])
 .ret)
 .skip))
 (.seq
 (.ops 3 [⟨some 5, none, .mv (.t 0), []⟩,
 ⟨some 6, none, .nilc (.t 5) (mok Tryz.prog), []⟩,
 ⟨some 7, none, .fld 0 (.t 6), []⟩,
 ⟨some 8, none, .ld 6 true (.t 7), []⟩,
 ⟨some 10, none, .mv (.t 0), []⟩,
 ⟨some 11, none, .nilc (.t 10) (mok Tryz.prog), []⟩,
 ⟨some 12, none, .fld 6 (.t 11), []⟩,
 ⟨some 13, none, .ld 1 false (.t 12), []⟩,
 ⟨some 14, none, .mv (.t 0), []⟩,
 ⟨some 15, none, .nilc (.t 14) (mok Tryz.prog), []⟩,
 ⟨some 16, none, .fld 7 (.t 15), []⟩,
 ⟨some 17, none, .ld 1 false (.t 16), []⟩,
 ⟨some 9, none, .call 81 [.t 8], [(13, .ld 1 false (.t 12)), (17, .ld 1 false (.t 16))]⟩,
 ⟨some 18, none, .build [.nilp, .int .i64 0, .int .i64 0, .nili, .int .u64 0, .bool false, .int .i64 0, .int .i64 0] [(0, 6, (.t 9)), (6, 1, (.t 13)), (7, 1, (.t 17))], []⟩,
 ⟨some 19, none, .box 8 (.t 18) true, []⟩,
 ⟨some 20, none, .mki 35 (.t 19), []⟩,
 ⟨some 2, none, .mv (.t 20), []⟩])
 .ret)))⟩
theorem F32_code : cfgA.code 32 = some F32 := by kernel_rfl

/-- ticketline/gate.Look: the round 0 -/
@[reducible] noncomputable def B33x0 : AC := (.seq
 (.seq
 (.ops 9 [⟨some 44, none, .mv (.t 7), []⟩,
 ⟨some 45, none, .bin .eql (.t 44) (.c (.int .i64 0)), []⟩,
 ⟨some 46, none, .mv (.t 45), []⟩,
 ⟨some 47, some (46, true), .mv (.t 10), []⟩,
 ⟨some 48, some (46, true), .bin .gtr (.t 47) (.c (.int .u64 0)), []⟩,
 ⟨some 49, none, .pick (.t 46) (.t 48) (.c (.bool false)), []⟩,
 ⟨some 50, none, .mv (.t 49), []⟩,
 ⟨some 51, some (50, true), .fld 1 (.t 9), []⟩,
 ⟨some 52, some (50, true), .ld 1 false (.t 51), []⟩,
 ⟨some 53, some (50, true), .len .slice (.t 52), []⟩,
 ⟨some 54, some (50, true), .fld 1 (.t 3), []⟩,
 ⟨some 55, some (50, true), .ld 1 false (.t 54), []⟩,
 ⟨some 56, some (50, true), .bin .leq (.t 53) (.t 55), []⟩,
 ⟨some 57, none, .pick (.t 50) (.t 56) (.c (.bool false)), []⟩])
 (.cond (.t 57)
 .skip
 (.exit 0)))
 (.block 1
 (.seq
 (.ops 10 [⟨some 59, none, .mv (.t 6), []⟩,
 ⟨some 60, none, .mv (.t 10), []⟩,
 ⟨some 61, none, .call 85 [.t 59, .t 60], []⟩,
 ⟨some 58, none, .mv (.t 61), []⟩,
 ⟨some 62, none, .ext (.t 58) 0, []⟩,
 ⟨some 63, none, .ext (.t 58) 1, []⟩,
 ⟨some 11, none, .mv (.t 62), []⟩,
 ⟨some 12, none, .mv (.t 63), []⟩])
 (.seq
 (.ops 11 [⟨some 65, none, .mv (.t 6), []⟩,
 ⟨some 66, none, .mv (.t 11), []⟩,
 ⟨some 67, none, .call 86 [.t 65, .t 66], []⟩,
 ⟨some 64, none, .mv (.t 67), []⟩,
 ⟨some 68, none, .ext (.t 64) 0, []⟩,
 ⟨some 69, none, .ext (.t 64) 1, []⟩,
 ⟨some 13, none, .mv (.t 68), []⟩,
 ⟨some 14, none, .mv (.t 69), []⟩])
 (.seq
 (.seq
 (.ops 12 [⟨some 70, none, .mv (.t 12), []⟩,
 ⟨some 71, none, .bin .neq (.t 70) (.c (.int .i64 0)), []⟩,
 ⟨some 72, none, .mv (.t 71), []⟩,
 ⟨some 73, some (72, false), .mv (.t 14), []⟩,
 ⟨some 74, some (72, false), .bin .neq (.t 73) (.c (.int .i64 0)), []⟩,
 ⟨some 75, none, .pick (.t 72) (.c (.bool true)) (.t 74), []⟩])
 (.cond (.t 75)
 (.seq
 (.ops 13 [⟨some 76, none, .build [.int .i64 0, .nils] [], []⟩,
 ⟨none, none, .st 2 (.t 4) (.t 76), []⟩,
 ⟨some 5, none, .mv (.c (.int .i64 12)), []⟩])
 .ret)
 .skip))
 (.seq
 (.ops 14 [⟨some 77, none, .fld 1 (.t 9), []⟩,
 ⟨some 78, none, .ld 1 false (.t 77), []⟩,
 ⟨some 79, none, .mv (.t 13), []⟩,
 ⟨some 80, none, .bslice [.int .i64 0] 1 1 [(0, (.t 79))] false false, []⟩,
 ⟨some 81, none, .app 1 8 (.t 78) (.t 80) true, []⟩,
 ⟨some 82, none, .fld 1 (.t 9), []⟩,
 ⟨none, none, .st 1 (.t 82) (.t 81), []⟩])
 (.ops 15 [⟨some 84, none, .mv (.t 0), []⟩,
 ⟨some 85, none, .mv (.t 6), []⟩,
 ⟨some 86, none, .mv (.t 11), []⟩,
 ⟨some 88, none, .mkv "Load" (.t 84), []⟩,
 ⟨some 89, none, .nilc (.t 88) (mok Tryz.prog), []⟩,
 ⟨some 90, none, .mv (.t 84), []⟩,
 ⟨some 87, none, .call 76 [.t 85, .t 86], []⟩,
 ⟨some 91, none, .invk (.t 90) "Load" [.t 87], []⟩,
 ⟨some 83, none, .mv (.t 91), []⟩,
 ⟨some 92, none, .ext (.t 83) 0, []⟩,
 ⟨some 93, none, .ext (.t 83) 1, []⟩,
 ⟨some 10, none, .mv (.t 92), []⟩,
 ⟨some 7, none, .mv (.t 93), []⟩])))))))

/-- ticketline/gate.Look -/
noncomputable def F33 : AFn := ⟨106, [.cell 4 2 true, .tmp 5], (.seq
 (.ops 0 [⟨some 3, none, .box 2 (.t 1) false, []⟩,
 ⟨some 4, none, .alloc [.int .i64 0, .nils] false, []⟩,
 ⟨some 5, none, .mv (.c (.int .i64 0)), []⟩])
 (.seq
 (.ops 1 [⟨some 16, none, .ld 2 true (.t 3), []⟩,
 ⟨some 17, none, .call 84 [.t 16], []⟩,
 ⟨some 15, none, .mv (.t 17), []⟩,
 ⟨some 18, none, .ext (.t 15) 0, []⟩,
 ⟨some 19, none, .ext (.t 15) 1, []⟩,
 ⟨some 6, none, .mv (.t 18), []⟩,
 ⟨some 7, none, .mv (.t 19), []⟩])
 (.seq
 (.seq
 (.ops 2 [⟨some 20, none, .mv (.t 7), []⟩,
 ⟨some 21, none, .bin .neq (.t 20) (.c (.int .i64 0)), []⟩,
 ⟨some 22, none, .mv (.t 21), []⟩,
 ⟨some 23, some (22, false), .mv (.t 0), []⟩,
 ⟨some 24, some (22, false), .eqn .iface false (.t 23), []⟩,
 ⟨some 25, none, .pick (.t 22) (.c (.bool true)) (.t 24), []⟩])
 (.cond (.t 25)
 (.seq
 (.ops 3 [⟨some 26, none, .build [.int .i64 0, .nils] [], []⟩,
 ⟨none, none, .st 2 (.t 4) (.t 26), []⟩,
 ⟨some 5, none, .mv (.c (.int .i64 2)), []⟩])
 .ret)
 .skip))
 (.seq
 (.ops 4 [⟨some 28, none, .mv (.t 0), []⟩,
 ⟨some 29, none, .invk (.t 28) "Load" [.c (.int .i64 13)], []⟩,
 ⟨some 27, none, .mv (.t 29), []⟩,
 ⟨some 30, none, .ext (.t 27) 0, []⟩,
 ⟨some 31, none, .ext (.t 27) 1, []⟩,
 ⟨some 8, none, .mv (.t 30), []⟩,
 ⟨some 7, none, .mv (.t 31), []⟩])
 (.seq
 (.seq
 (.ops 5 [⟨some 32, none, .mv (.t 7), []⟩,
 ⟨some 33, none, .bin .neq (.t 32) (.c (.int .i64 0)), []⟩])
 (.cond (.t 33)
 (.seq
 (.ops 6 [⟨some 34, none, .build [.int .i64 0, .nils] [], []⟩,
 ⟨some 35, none, .mv (.t 7), []⟩,
 ⟨none, none, .st 2 (.t 4) (.t 34), []⟩,
 ⟨some 5, none, .mv (.t 35), []⟩])
 .ret)
 .skip))
 (.seq
 (.ops 7 [⟨some 36, none, .mv (.t 8), []⟩,
 ⟨some 37, none, .cvi .i64 (.t 36), []⟩,
 ⟨some 38, none, .build [.int .i64 0, .nils] [(0, 1, (.t 37))], []⟩,
 ⟨some 9, none, .alloc [.int .i64 0, .nils] false, []⟩,
 ⟨none, none, .st 2 (.t 9) (.t 38), []⟩])
 (.seq
 (.ops 8 [⟨some 40, none, .mv (.t 0), []⟩,
 ⟨some 41, none, .invk (.t 40) "Load" [.c (.int .i64 14)], []⟩,
 ⟨some 39, none, .mv (.t 41), []⟩,
 ⟨some 42, none, .ext (.t 39) 0, []⟩,
 ⟨some 43, none, .ext (.t 39) 1, []⟩,
 ⟨some 10, none, .mv (.t 42), []⟩,
 ⟨some 7, none, .mv (.t 43), []⟩])
 (.seq
 (.block 0
 (.loop [] B33x0))
 (.seq
 (.seq
 (.ops 16 [⟨some 94, none, .mv (.t 7), []⟩,
 ⟨some 95, none, .bin .neq (.t 94) (.c (.int .i64 0)), []⟩])
 (.cond (.t 95)
 (.seq
 (.ops 17 [⟨some 96, none, .build [.int .i64 0, .nils] [], []⟩,
 ⟨some 97, none, .mv (.t 7), []⟩,
 ⟨none, none, .st 2 (.t 4) (.t 96), []⟩,
 ⟨some 5, none, .mv (.t 97), []⟩])
 .ret)
 .skip))
 (.seq
 (.seq
 (.ops 18 [⟨some 98, none, .fld 1 (.t 9), []⟩,
 ⟨some 99, none, .ld 1 false (.t 98), []⟩,
 ⟨some 100, none, .len .slice (.t 99), []⟩,
 ⟨some 101, none, .fld 1 (.t 3), []⟩,
 ⟨some 102, none, .ld 1 false (.t 101), []⟩,
 ⟨some 103, none, .bin .gtr (.t 100) (.t 102), []⟩])
 (.cond (.t 103)
 (.seq
 (.ops 19 [⟨some 104, none, .build [.int .i64 0, .nils] [], []⟩,
 ⟨none, none, .st 2 (.t 4) (.t 104), []⟩,
 ⟨some 5, none, .mv (.c (.int .i64 12)), []⟩])
 .ret)
 .skip))
 (.seq
 (.ops 20 [⟨some 105, none, .ld 2 true (.t 9), []⟩,
 ⟨none, none, .st 2 (.t 4) (.t 105), []⟩,
 ⟨some 5, none, .mv (.c (.int .i64 0)), []⟩])
 .ret)))))))))))⟩
theorem F33_code : cfgA.code 33 = some F33 := by kernel_rfl

/-- ticketline/ticketlinelaw31.given -/
noncomputable def F34 : AFn := ⟨2, [.cell 0 2 true], (.seq
 (.ops 0 [⟨some 0, none, .alloc [.int .i64 0, .int .i64 0] false, []⟩])
 (.seq
 (.ops 1 [⟨some 1, none, .build [.int .i64 0, .int .i64 0] [(0, 1, (.c (.int .i64 1))), (1, 1, (.c (.int .i64 4)))], []⟩,
 ⟨none, none, .st 2 (.t 0) (.t 1), []⟩])
 .ret))⟩
theorem F34_code : cfgA.code 34 = some F34 := by kernel_rfl

/-- ticketline/gate.NewEnter -/
noncomputable def F35 : AFn := ⟨31, [.tmp 6, .tmp 7], (.seq
 (.ops 0 [⟨some 3, none, .box 2 (.t 0) false, []⟩,
 ⟨some 6, none, .mv (.c (.nilp)), []⟩,
 ⟨some 7, none, .mv (.c (.int .i64 0)), []⟩])
 (.seq
 (.ops 1 [⟨some 11, none, .ld 2 true (.t 3), []⟩,
 ⟨some 12, none, .mv (.t 1), []⟩,
 ⟨some 13, none, .call 87 [.t 11, .t 12], []⟩,
 ⟨some 10, none, .mv (.t 13), []⟩,
 ⟨some 14, none, .ext (.t 10) 0, []⟩,
 ⟨some 15, none, .ext (.t 10) 1, []⟩,
 ⟨some 8, none, .alloc [.nilp, .int .i64 0, .int .i64 0, .nili, .int .u64 0, .bool false] false, []⟩,
 ⟨none, none, .st 6 (.t 8) (.t 14), []⟩,
 ⟨some 9, none, .mv (.t 15), []⟩])
 (.seq
 (.seq
 (.ops 2 [⟨some 16, none, .mv (.t 9), []⟩,
 ⟨some 17, none, .bin .neq (.t 16) (.c (.int .i64 0)), []⟩,
 ⟨some 18, none, .mv (.t 17), []⟩,
 ⟨some 19, some (18, false), .mv (.t 2), []⟩,
 ⟨some 20, some (18, false), .bin .lss (.t 19) (.c (.int .i64 1)), []⟩,
 ⟨some 21, none, .pick (.t 18) (.c (.bool true)) (.t 20), []⟩,
 ⟨some 22, none, .mv (.t 21), []⟩,
 ⟨some 23, some (22, false), .mv (.t 2), []⟩,
 ⟨some 24, some (22, false), .bin .gtr (.t 23) (.c (.int .i64 64)), []⟩,
 ⟨some 25, none, .pick (.t 22) (.c (.bool true)) (.t 24), []⟩])
 (.cond (.t 25)
 (.seq
 (.ops 3 [⟨some 6, none, .mv (.c (.nilp)), []⟩,
 ⟨some 7, none, .mv (.c (.int .i64 2)), []⟩])
 .ret)
 .skip))
 (.seq
 (.ops 4 [⟨some 26, none, .ld 6 true (.t 8), []⟩,
 ⟨some 27, none, .mv (.t 1), []⟩,
 ⟨some 28, none, .mv (.t 2), []⟩,
 ⟨some 29, none, .build [.nilp, .int .i64 0, .int .i64 0, .nili, .int .u64 0, .bool false, .int .i64 0, .int .i64 0] [(0, 6, (.t 26)), (6, 1, (.t 27)), (7, 1, (.t 28))], []⟩,
 ⟨some 30, none, .box 8 (.t 29) true, []⟩,
 ⟨some 6, none, .mv (.t 30), []⟩,
 ⟨some 7, none, .mv (.c (.int .i64 0)), []⟩])
 .ret))))⟩
theorem F35_code : cfgA.code 35 = some F35 := by kernel_rfl

/-- ticketline/gate.NewLeave -/
noncomputable def F36 : AFn := ⟨20, [.tmp 4, .tmp 5], (.seq
 (.ops 0 [⟨some 2, none, .box 2 (.t 0) false, []⟩,
 ⟨some 4, none, .mv (.c (.nilp)), []⟩,
 ⟨some 5, none, .mv (.c (.int .i64 0)), []⟩])
 (.seq
 (.ops 1 [⟨some 9, none, .ld 2 true (.t 2), []⟩,
 ⟨some 10, none, .mv (.t 1), []⟩,
 ⟨some 11, none, .call 87 [.t 9, .t 10], []⟩,
 ⟨some 8, none, .mv (.t 11), []⟩,
 ⟨some 12, none, .ext (.t 8) 0, []⟩,
 ⟨some 13, none, .ext (.t 8) 1, []⟩,
 ⟨some 6, none, .alloc [.nilp, .int .i64 0, .int .i64 0, .nili, .int .u64 0, .bool false] false, []⟩,
 ⟨none, none, .st 6 (.t 6) (.t 12), []⟩,
 ⟨some 7, none, .mv (.t 13), []⟩])
 (.seq
 (.seq
 (.ops 2 [⟨some 14, none, .mv (.t 7), []⟩,
 ⟨some 15, none, .bin .neq (.t 14) (.c (.int .i64 0)), []⟩])
 (.cond (.t 15)
 (.seq
 (.ops 3 [⟨some 4, none, .mv (.c (.nilp)), []⟩,
 ⟨some 5, none, .mv (.c (.int .i64 2)), []⟩])
 .ret)
 .skip))
 (.seq
 (.ops 4 [⟨some 16, none, .ld 6 true (.t 6), []⟩,
 ⟨some 17, none, .mv (.t 1), []⟩,
 ⟨some 18, none, .build [.nilp, .int .i64 0, .int .i64 0, .nili, .int .u64 0, .bool false, .int .i64 0, .int .i64 0] [(0, 6, (.t 16)), (6, 1, (.t 17))], []⟩,
 ⟨some 19, none, .box 8 (.t 18) true, []⟩,
 ⟨some 4, none, .mv (.t 19), []⟩,
 ⟨some 5, none, .mv (.c (.int .i64 0)), []⟩])
 .ret))))⟩
theorem F36_code : cfgA.code 36 = some F36 := by kernel_rfl

/-- ticketline/descend.Words -/
noncomputable def F37 : AFn := ⟨14, [.tmp 2, .tmp 3], (.seq
 (.ops 0 [⟨some 1, none, .box 2 (.t 0) false, []⟩,
 ⟨some 2, none, .mv (.c (.int .i64 0)), []⟩,
 ⟨some 3, none, .mv (.c (.int .i64 0)), []⟩])
 (.seq
 (.seq
 (.ops 1 [⟨some 4, none, .ld 2 true (.t 1), []⟩,
 ⟨some 5, none, .call 88 [.t 4], []⟩,
 ⟨some 6, none, .un .not (.t 5), []⟩])
 (.cond (.t 6)
 (.seq
 (.ops 2 [⟨some 2, none, .mv (.c (.int .i64 0)), []⟩,
 ⟨some 3, none, .mv (.c (.int .i64 2)), []⟩])
 .ret)
 .skip))
 (.seq
 (.ops 3 [⟨some 7, none, .ld 2 true (.t 1), []⟩,
 ⟨some 9, none, .fld 1 (.t 1), []⟩,
 ⟨some 10, none, .ld 1 false (.t 9), []⟩,
 ⟨some 11, none, .bin .mul (.t 10) (.c (.int .i64 2)), []⟩,
 ⟨some 12, none, .bin .mul (.t 11) (.c (.int .i64 3)), []⟩,
 ⟨some 8, none, .call 89 [.t 7], [(10, .ld 1 false (.t 9))]⟩,
 ⟨some 13, none, .bin .add (.t 8) (.t 12), []⟩,
 ⟨some 2, none, .mv (.t 13), []⟩,
 ⟨some 3, none, .mv (.c (.int .i64 0)), []⟩])
 .ret)))⟩
theorem F37_code : cfgA.code 37 = some F37 := by kernel_rfl

/-- (*ticketline/mem.Mem).Copy -/
noncomputable def F38 : AFn := ⟨12, [.tmp 2], (.seq
 (.ops 0 [⟨some 2, none, .mv (.c (.nilp)), []⟩])
 (.seq
 (.seq
 (.ops 1 [⟨some 3, none, .mv (.t 0), []⟩,
 ⟨some 4, none, .call 90 [.t 3], []⟩])
 (.cond (.t 4)
 (.seq
 (.ops 2 [⟨some 2, none, .mv (.c (.nilp)), []⟩])
 .ret)
 .skip))
 (.seq
 (.ops 3 [⟨some 5, none, .mv (.t 0), []⟩,
 ⟨some 6, none, .nilc (.t 5) (mok Tryz.prog), []⟩,
 ⟨some 7, none, .fld 0 (.t 6), []⟩,
 ⟨some 8, none, .ld 1 false (.t 7), []⟩,
 ⟨some 9, none, .call 91 [.t 8], []⟩,
 ⟨some 10, none, .build [.nils] [(0, 1, (.t 9))], []⟩,
 ⟨some 11, none, .box 1 (.t 10) true, []⟩,
 ⟨some 2, none, .mv (.t 11), []⟩])
 .ret)))⟩
theorem F38_code : cfgA.code 38 = some F38 := by kernel_rfl

/-- (*ticketline/mem.Mem).Store -/
noncomputable def F48 : AFn := ⟨18, [.tmp 6], (.seq
 (.ops 0 [⟨some 6, none, .mv (.c (.int .i64 0)), []⟩])
 (.seq
 (.ops 1 [⟨some 10, none, .mv (.t 0), []⟩,
 ⟨some 11, none, .mv (.t 1), []⟩,
 ⟨some 12, none, .mv (.t 2), []⟩,
 ⟨some 13, none, .build [.int .i64 0, .int .i64 0, .int .u64 0, .int .u64 0] [(0, 1, (.c (.int .i64 2))), (1, 1, (.t 11)), (3, 1, (.t 12))], []⟩,
 ⟨some 14, none, .call 96 [.t 10, .t 13], []⟩,
 ⟨some 9, none, .mv (.t 14), []⟩,
 ⟨some 15, none, .ext (.t 9) 0, []⟩,
 ⟨some 16, none, .ext (.t 9) 1, []⟩,
 ⟨some 7, none, .alloc [.int .i64 0, .int .i64 0, .int .u64 0, .int .u64 0] false, []⟩,
 ⟨none, none, .st 4 (.t 7) (.t 15), []⟩,
 ⟨some 8, none, .mv (.t 16), []⟩])
 (.seq
 (.ops 2 [⟨some 17, none, .mv (.t 8), []⟩,
 ⟨some 6, none, .mv (.t 17), []⟩])
 .ret)))⟩
theorem F48_code : cfgA.code 48 = some F48 := by kernel_rfl

/-- (*ticketline/mem.Mem).Load -/
noncomputable def F52 : AFn := ⟨18, [.tmp 4, .tmp 5], (.seq
 (.ops 0 [⟨some 4, none, .mv (.c (.int .u64 0)), []⟩,
 ⟨some 5, none, .mv (.c (.int .i64 0)), []⟩])
 (.seq
 (.ops 1 [⟨some 9, none, .mv (.t 0), []⟩,
 ⟨some 10, none, .mv (.t 1), []⟩,
 ⟨some 11, none, .build [.int .i64 0, .int .i64 0, .int .u64 0, .int .u64 0] [(0, 1, (.c (.int .i64 1))), (1, 1, (.t 10))], []⟩,
 ⟨some 12, none, .call 96 [.t 9, .t 11], []⟩,
 ⟨some 8, none, .mv (.t 12), []⟩,
 ⟨some 13, none, .ext (.t 8) 0, []⟩,
 ⟨some 14, none, .ext (.t 8) 1, []⟩,
 ⟨some 6, none, .alloc [.int .i64 0, .int .i64 0, .int .u64 0, .int .u64 0] false, []⟩,
 ⟨none, none, .st 4 (.t 6) (.t 13), []⟩,
 ⟨some 7, none, .mv (.t 14), []⟩])
 (.seq
 (.ops 2 [⟨some 15, none, .fld 2 (.t 6), []⟩,
 ⟨some 16, none, .ld 1 false (.t 15), []⟩,
 ⟨some 17, none, .mv (.t 7), []⟩,
 ⟨some 4, none, .mv (.t 16), []⟩,
 ⟨some 5, none, .mv (.t 17), []⟩])
 .ret)))⟩
theorem F52_code : cfgA.code 52 = some F52 := by kernel_rfl

/-- ticketline/arena.Format: the round 0 -/
@[reducible] noncomputable def B61x0 : AC := (.seq
 (.ops 7 [⟨some 35, none, .bin .lss (.t 34) (.t 33), []⟩])
 (.seq
 (.cond (.t 35)
 .skip
 (.exit 1))
 (.seq
 (.block 2
 (.seq
 (.ops 8 [⟨some 36, none, .mv (.t 34), []⟩,
 ⟨some 7, none, .mv (.t 36), []⟩])
 (.ops 9 [⟨some 37, none, .ld 1 true (.t 6), []⟩,
 ⟨some 38, none, .mv (.t 7), []⟩,
 ⟨some 39, none, .call 106 [.t 37, .t 38, .c (.int .u64 0)], []⟩])))
 (.ops 10 [⟨some 40, none, .bin .add (.t 34) (.c (.int .i64 1)), []⟩,
 ⟨some 34, none, .mv (.t 40), []⟩]))))

/-- ticketline/arena.Format: the round 1 -/
@[reducible] noncomputable def B61x1 : AC := (.seq
 (.seq
 (.ops 15 [⟨some 49, none, .mv (.t 8), []⟩,
 ⟨some 50, none, .mv (.t 1), []⟩,
 ⟨some 51, none, .bin .lss (.t 49) (.t 50), []⟩])
 (.cond (.t 51)
 .skip
 (.exit 3)))
 (.seq
 (.block 4
 (.ops 17 [⟨some 54, none, .ld 1 true (.t 6), []⟩,
 ⟨some 55, none, .mv (.t 8), []⟩,
 ⟨some 57, none, .mv (.t 8), []⟩,
 ⟨some 58, none, .bin .add (.t 57) (.c (.int .i64 1)), []⟩,
 ⟨some 59, none, .cvi .u64 (.t 58), []⟩,
 ⟨some 56, none, .call 105 [.t 55, .c (.int .i64 10)], [(54, .ld 1 true (.t 6))]⟩,
 ⟨some 60, none, .call 106 [.t 54, .t 56, .t 59], []⟩]))
 (.ops 16 [⟨some 52, none, .mv (.t 8), []⟩,
 ⟨some 53, none, .bin .add (.t 52) (.c (.int .i64 1)), []⟩,
 ⟨some 8, none, .mv (.t 53), []⟩])))

/-- ticketline/arena.Format -/
noncomputable def F61 : AFn := ⟨64, [.tmp 4, .tmp 5], (.seq
 (.ops 0 [⟨some 4, none, .mv (.c (.nilp)), []⟩,
 ⟨some 5, none, .mv (.c (.int .i64 0)), []⟩])
 (.seq
 (.block 0
 (.seq
 (.ops 1 [⟨some 10, none, .mv (.t 0), []⟩,
 ⟨some 11, none, .call 104 [.t 10], []⟩,
 ⟨some 12, none, .bin .eql (.t 11) (.c (.int .i64 0)), []⟩,
 ⟨some 9, none, .mv (.t 12), []⟩])
 (.cond (.t 9)
 (.seq
 (.ops 2 [⟨some 4, none, .mv (.c (.nilp)), []⟩,
 ⟨some 5, none, .mv (.c (.int .i64 1)), []⟩])
 .ret)
 (.seq
 (.ops 3 [⟨some 14, none, .mv (.t 1), []⟩,
 ⟨some 15, none, .bin .lss (.t 14) (.c (.int .i64 1)), []⟩,
 ⟨some 16, none, .mv (.t 15), []⟩,
 ⟨some 17, some (16, false), .mv (.t 1), []⟩,
 ⟨some 18, some (16, false), .bin .gtr (.t 17) (.c (.int .i64 511)), []⟩,
 ⟨some 19, none, .pick (.t 16) (.c (.bool true)) (.t 18), []⟩,
 ⟨some 20, none, .mv (.t 19), []⟩,
 ⟨some 21, some (20, false), .mv (.t 1), []⟩,
 ⟨some 22, some (20, false), .bin .add (.t 21) (.c (.int .i64 1)), []⟩,
 ⟨some 23, some (20, false), .call 105 [.t 22, .c (.int .i64 0)], []⟩,
 ⟨some 24, some (20, false), .mv (.t 0), []⟩,
 ⟨some 25, some (20, false), .call 104 [.t 24], []⟩,
 ⟨some 26, some (20, false), .bin .gtr (.t 23) (.t 25), []⟩,
 ⟨some 27, none, .pick (.t 20) (.c (.bool true)) (.t 26), []⟩,
 ⟨some 13, none, .mv (.t 27), []⟩])
 (.cond (.t 13)
 (.seq
 (.ops 4 [⟨some 4, none, .mv (.c (.nilp)), []⟩,
 ⟨some 5, none, .mv (.c (.int .i64 2)), []⟩])
 .ret)
 .skip)))))
 (.seq
 (.ops 5 [⟨some 28, none, .mv (.t 0), []⟩,
 ⟨some 29, none, .call 38 [.t 28], []⟩,
 ⟨some 30, none, .build [.nilp] [(0, 1, (.t 29))], []⟩,
 ⟨some 6, none, .alloc [.nilp] false, []⟩,
 ⟨none, none, .st 1 (.t 6) (.t 30), []⟩])
 (.seq
 (.seq
 (.ops 6 [⟨some 31, none, .mv (.t 1), []⟩,
 ⟨some 32, none, .bin .add (.t 31) (.c (.int .i64 1)), []⟩,
 ⟨some 33, none, .call 105 [.t 32, .c (.int .i64 0)], []⟩,
 ⟨some 34, none, .mv (.c (.int .i64 0)), []⟩])
 (.block 1
 (.loop [] B61x0)))
 (.seq
 (.ops 11 [⟨some 41, none, .ld 1 true (.t 6), []⟩,
 ⟨some 42, none, .mv (.t 1), []⟩,
 ⟨some 43, none, .cvi .u64 (.t 42), []⟩,
 ⟨some 44, none, .call 106 [.t 41, .c (.int .i64 0), .t 43], []⟩])
 (.seq
 (.ops 12 [⟨some 45, none, .ld 1 true (.t 6), []⟩,
 ⟨some 46, none, .call 106 [.t 45, .c (.int .i64 1), .c (.int .u64 1)], []⟩])
 (.seq
 (.ops 13 [⟨some 47, none, .ld 1 true (.t 6), []⟩,
 ⟨some 48, none, .call 106 [.t 47, .c (.int .i64 4), .c (.int .u64 1)], []⟩])
 (.seq
 (.seq
 (.ops 14 [⟨some 8, none, .mv (.c (.int .i64 1)), []⟩])
 (.block 3
 (.loop [] B61x1)))
 (.seq
 (.ops 18 [⟨some 61, none, .ld 1 true (.t 6), []⟩,
 ⟨some 62, none, .build [.nilp] [(0, 1, (.t 61))], []⟩,
 ⟨some 63, none, .box 1 (.t 62) true, []⟩,
 ⟨some 4, none, .mv (.t 63), []⟩,
 ⟨some 5, none, .mv (.c (.int .i64 0)), []⟩])
 .ret)))))))))⟩
theorem F61_code : cfgA.code 61 = some F61 := by kernel_rfl

/-- ticketline/slot.Make -/
noncomputable def F62 : AFn := ⟨57, [.cell 6 128 true, .tmp 7], (.seq
 (.ops 0 [⟨some 6, none, .alloc (List.replicate 128 (.int .u64 0)) false, []⟩,
 ⟨some 7, none, .mv (.c (.int .i64 0)), []⟩])
 (.seq
 (.block 0
 (.seq
 (.ops 1 [⟨some 12, none, .mv (.t 0), []⟩,
 ⟨some 13, none, .bin .lss (.t 12) (.c (.int .i64 0)), []⟩,
 ⟨some 14, none, .mv (.t 13), []⟩,
 ⟨some 15, some (14, false), .mv (.t 0), []⟩,
 ⟨some 16, some (14, false), .bin .geq (.t 15) (.c (.int .i64 6)), []⟩,
 ⟨some 17, none, .pick (.t 14) (.c (.bool true)) (.t 16), []⟩,
 ⟨some 11, none, .mv (.t 17), []⟩])
 (.cond (.t 11)
 (.seq
 (.ops 2 [⟨some 18, none, .build (List.replicate 128 (.int .u64 0)) [], []⟩,
 ⟨none, none, .st 128 (.t 6) (.t 18), []⟩,
 ⟨some 7, none, .mv (.c (.int .i64 2)), []⟩])
 .ret)
 (.seq
 (.ops 3 [⟨some 20, none, .mv (.t 1), []⟩,
 ⟨some 21, none, .len .string (.t 20), []⟩,
 ⟨some 22, none, .bin .gtr (.t 21) (.c (.int .i64 24)), []⟩,
 ⟨some 23, none, .mv (.t 22), []⟩,
 ⟨some 24, some (23, false), .mv (.t 2), []⟩,
 ⟨some 25, some (23, false), .len .string (.t 24), []⟩,
 ⟨some 26, some (23, false), .bin .gtr (.t 25) (.c (.int .i64 24)), []⟩,
 ⟨some 27, none, .pick (.t 23) (.c (.bool true)) (.t 26), []⟩,
 ⟨some 19, none, .mv (.t 27), []⟩])
 (.cond (.t 19)
 (.seq
 (.ops 4 [⟨some 28, none, .build (List.replicate 128 (.int .u64 0)) [], []⟩,
 ⟨none, none, .st 128 (.t 6) (.t 28), []⟩,
 ⟨some 7, none, .mv (.c (.int .i64 5)), []⟩])
 .ret)
 (.seq
 (.ops 5 [⟨some 30, none, .mv (.t 2), []⟩,
 ⟨some 31, none, .bin .neq (.t 30) (.c (.str [])), []⟩,
 ⟨some 32, none, .mv (.t 31), []⟩,
 ⟨some 33, some (32, true), .mv (.t 1), []⟩,
 ⟨some 34, some (32, true), .mv (.t 2), []⟩,
 ⟨some 35, some (32, true), .call 107 [.t 33, .t 34], []⟩,
 ⟨some 36, some (32, true), .bin .geq (.t 35) (.c (.int .i64 0)), []⟩,
 ⟨some 37, none, .pick (.t 32) (.t 36) (.c (.bool false)), []⟩,
 ⟨some 29, none, .mv (.t 37), []⟩])
 (.cond (.t 29)
 (.seq
 (.ops 6 [⟨some 38, none, .build (List.replicate 128 (.int .u64 0)) [], []⟩,
 ⟨none, none, .st 128 (.t 6) (.t 38), []⟩,
 ⟨some 7, none, .mv (.c (.int .i64 13)), []⟩])
 .ret)
 .skip)))))))
 (.seq
 (.ops 7 [⟨some 8, none, .alloc (List.replicate 128 (.int .u64 0)) false, []⟩])
 (.seq
 (.ops 8 [⟨some 39, none, .mv (.t 0), []⟩,
 ⟨some 40, none, .bin .add (.c (.int .i64 1)) (.t 39), []⟩,
 ⟨some 41, none, .cvi .u64 (.t 40), []⟩,
 ⟨some 42, none, .ixa (some 128) 1 (.t 8) (.c (.int .i64 8)), []⟩,
 ⟨none, none, .st 1 (.t 42) (.t 41), []⟩,
 ⟨some 43, none, .ixa (some 128) 1 (.t 8) (.c (.int .i64 11)), []⟩,
 ⟨none, none, .st 1 (.t 43) (.c (.int .u64 128)), []⟩])
 (.seq
 (.seq
 (.ops 9 [⟨some 44, none, .mv (.t 1), []⟩,
 ⟨some 45, none, .call 108 [.t 8, .c (.int .i64 12), .t 44], []⟩,
 ⟨some 9, none, .mv (.t 45), []⟩])
 (.seq
 (.ops 10 [⟨some 46, none, .mv (.t 9), []⟩,
 ⟨some 47, none, .bin .neq (.t 46) (.c (.int .i64 0)), []⟩])
 (.cond (.t 47)
 (.seq
 (.ops 11 [⟨some 48, none, .build (List.replicate 128 (.int .u64 0)) [], []⟩,
 ⟨some 49, none, .mv (.t 9), []⟩,
 ⟨none, none, .st 128 (.t 6) (.t 48), []⟩,
 ⟨some 7, none, .mv (.t 49), []⟩])
 .ret)
 .skip)))
 (.seq
 (.seq
 (.ops 12 [⟨some 50, none, .mv (.t 2), []⟩,
 ⟨some 51, none, .call 108 [.t 8, .c (.int .i64 16), .t 50], []⟩,
 ⟨some 10, none, .mv (.t 51), []⟩])
 (.seq
 (.ops 13 [⟨some 52, none, .mv (.t 10), []⟩,
 ⟨some 53, none, .bin .neq (.t 52) (.c (.int .i64 0)), []⟩])
 (.cond (.t 53)
 (.seq
 (.ops 14 [⟨some 54, none, .build (List.replicate 128 (.int .u64 0)) [], []⟩,
 ⟨some 55, none, .mv (.t 10), []⟩,
 ⟨none, none, .st 128 (.t 6) (.t 54), []⟩,
 ⟨some 7, none, .mv (.t 55), []⟩])
 .ret)
 .skip)))
 (.seq
 (.ops 15 [⟨some 56, none, .ld 128 true (.t 8), []⟩,
 ⟨none, none, .st 128 (.t 6) (.t 56), []⟩,
 ⟨some 7, none, .mv (.c (.int .i64 0)), []⟩])
 .ret)))))))⟩
theorem F62_code : cfgA.code 62 = some F62 := by kernel_rfl

/-- (*ticketline/arena.Arena).Alloc -/
noncomputable def F63 : AFn := ⟨39, [.tmp 4, .tmp 5], (.seq
 (.ops 0 [⟨some 3, none, .box 128 (.t 1) false, []⟩,
 ⟨some 4, none, .mv (.c (.int .i64 0)), []⟩,
 ⟨some 5, none, .mv (.c (.int .i64 0)), []⟩])
 (.seq
 (.block 0
 (.seq
 (.ops 1 [⟨some 8, none, .mv (.t 0), []⟩,
 ⟨some 9, none, .call 109 [.t 8], []⟩,
 ⟨some 7, none, .mv (.t 9), []⟩])
 (.cond (.t 7)
 (.seq
 (.ops 2 [⟨some 4, none, .mv (.c (.int .i64 0)), []⟩,
 ⟨some 5, none, .mv (.c (.int .i64 1)), []⟩])
 .ret)
 (.seq
 (.ops 3 [⟨some 11, none, .ld 128 true (.t 3), []⟩,
 ⟨some 12, none, .call 110 [.t 11], []⟩,
 ⟨some 13, none, .un .not (.t 12), []⟩,
 ⟨some 10, none, .mv (.t 13), []⟩])
 (.cond (.t 10)
 (.seq
 (.ops 4 [⟨some 4, none, .mv (.c (.int .i64 0)), []⟩,
 ⟨some 5, none, .mv (.c (.int .i64 12)), []⟩])
 .ret)
 .skip)))))
 (.seq
 (.ops 5 [⟨some 14, none, .mv (.t 0), []⟩,
 ⟨some 15, none, .nilc (.t 14) (mok Tryz.prog), []⟩,
 ⟨some 16, none, .fld 0 (.t 15), []⟩,
 ⟨some 17, none, .ld 1 true (.t 16), []⟩,
 ⟨some 18, none, .call 111 [.t 17, .c (.int .i64 1)], []⟩,
 ⟨some 19, none, .cvi .i64 (.t 18), []⟩,
 ⟨some 6, none, .mv (.t 19), []⟩])
 (.seq
 (.seq
 (.ops 6 [⟨some 20, none, .mv (.t 6), []⟩,
 ⟨some 21, none, .bin .eql (.t 20) (.c (.int .i64 0)), []⟩])
 (.cond (.t 21)
 (.seq
 (.ops 7 [⟨some 4, none, .mv (.c (.int .i64 0)), []⟩,
 ⟨some 5, none, .mv (.c (.int .i64 7)), []⟩])
 .ret)
 .skip))
 (.seq
 (.ops 8 [⟨some 22, none, .mv (.t 0), []⟩,
 ⟨some 23, none, .nilc (.t 22) (mok Tryz.prog), []⟩,
 ⟨some 24, none, .fld 0 (.t 23), []⟩,
 ⟨some 25, none, .ld 1 true (.t 24), []⟩,
 ⟨some 26, none, .mv (.t 0), []⟩,
 ⟨some 27, none, .nilc (.t 26) (mok Tryz.prog), []⟩,
 ⟨some 28, none, .fld 0 (.t 27), []⟩,
 ⟨some 29, none, .ld 1 true (.t 28), []⟩,
 ⟨some 30, none, .mv (.t 6), []⟩,
 ⟨some 31, none, .call 105 [.t 30, .c (.int .i64 10)], [(25, .ld 1 true (.t 24)), (29, .ld 1 true (.t 28))]⟩,
 ⟨some 32, none, .call 111 [.t 29, .t 31], [(25, .ld 1 true (.t 24))]⟩,
 ⟨some 33, none, .call 106 [.t 25, .c (.int .i64 1), .t 32], []⟩])
 (.seq
 (.ops 9 [⟨some 34, none, .mv (.t 0), []⟩,
 ⟨some 35, none, .mv (.t 6), []⟩,
 ⟨some 36, none, .ld 128 true (.t 3), []⟩,
 ⟨some 37, none, .call 112 [.t 34, .t 35, .t 36], []⟩])
 (.seq
 (.ops 10 [⟨some 38, none, .mv (.t 6), []⟩,
 ⟨some 4, none, .mv (.t 38), []⟩,
 ⟨some 5, none, .mv (.c (.int .i64 0)), []⟩])
 .ret)))))))⟩
theorem F63_code : cfgA.code 63 = some F63 := by kernel_rfl

/-- (*ticketline/arena.Arena).SetRoot -/
noncomputable def F64 : AFn := ⟨23, [.tmp 4], (.seq
 (.ops 0 [⟨some 4, none, .mv (.c (.int .i64 0)), []⟩])
 (.seq
 (.seq
 (.ops 1 [⟨some 6, none, .mv (.t 0), []⟩,
 ⟨some 7, none, .call 109 [.t 6], []⟩])
 (.cond (.t 7)
 (.seq
 (.ops 2 [⟨some 4, none, .mv (.c (.int .i64 1)), []⟩])
 .ret)
 .skip))
 (.seq
 (.seq
 (.ops 3 [⟨some 8, none, .mv (.t 1), []⟩,
 ⟨some 9, none, .bin .neq (.t 8) (.c (.int .i64 0)), []⟩])
 (.cond (.t 9)
 (.seq
 (.ops 4 [⟨some 10, none, .mv (.t 0), []⟩,
 ⟨some 11, none, .mv (.t 1), []⟩,
 ⟨some 12, none, .call 113 [.t 10, .t 11, .c (.bool false)], []⟩,
 ⟨some 5, none, .mv (.t 12), []⟩])
 (.seq
 (.ops 5 [⟨some 13, none, .mv (.t 5), []⟩,
 ⟨some 14, none, .bin .neq (.t 13) (.c (.int .i64 0)), []⟩])
 (.cond (.t 14)
 (.seq
 (.ops 6 [⟨some 15, none, .mv (.t 5), []⟩,
 ⟨some 4, none, .mv (.t 15), []⟩])
 .ret)
 .skip)))
 .skip))
 (.seq
 (.ops 7 [⟨some 16, none, .mv (.t 0), []⟩,
 ⟨some 17, none, .nilc (.t 16) (mok Tryz.prog), []⟩,
 ⟨some 18, none, .fld 0 (.t 17), []⟩,
 ⟨some 19, none, .ld 1 true (.t 18), []⟩,
 ⟨some 20, none, .mv (.t 1), []⟩,
 ⟨some 21, none, .cvi .u64 (.t 20), []⟩,
 ⟨some 22, none, .call 106 [.t 19, .c (.int .i64 3), .t 21], []⟩])
 (.seq
 (.ops 8 [⟨some 4, none, .mv (.c (.int .i64 0)), []⟩])
 .ret)))))⟩
theorem F64_code : cfgA.code 64 = some F64 := by kernel_rfl

/-- (*ticketline/arena.Arena).Mem -/
noncomputable def F65 : AFn := ⟨11, [.tmp 2], (.seq
 (.ops 0 [⟨some 2, none, .mv (.c (.nilp)), []⟩])
 (.seq
 (.seq
 (.ops 1 [⟨some 3, none, .mv (.t 0), []⟩,
 ⟨some 4, none, .call 109 [.t 3], []⟩])
 (.cond (.t 4)
 (.seq
 (.ops 2 [⟨some 2, none, .mv (.c (.nilp)), []⟩])
 .ret)
 .skip))
 (.seq
 (.ops 3 [⟨some 5, none, .mv (.t 0), []⟩,
 ⟨some 6, none, .nilc (.t 5) (mok Tryz.prog), []⟩,
 ⟨some 7, none, .fld 0 (.t 6), []⟩,
 ⟨some 8, none, .fld 0 (.t 7), []⟩,
 ⟨some 9, none, .ld 1 false (.t 8), []⟩,
 ⟨some 10, none, .call 38 [.t 9], []⟩,
 ⟨some 2, none, .mv (.t 10), []⟩])
 .ret)))⟩
theorem F65_code : cfgA.code 65 = some F65 := by kernel_rfl

end Den
