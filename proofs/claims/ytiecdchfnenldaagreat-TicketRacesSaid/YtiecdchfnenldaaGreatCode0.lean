/- Functions of the program, as den reads them. -/
import Derived.Test.YtiecdchfnenldaaGreatA
namespace Den
open Go Go.Proofs
set_option maxRecDepth 1000000

/-- ticketline/ticketlinelaw32.TicketRaces: the round 0 -/
@[reducible] noncomputable def B10x0 : AC := (.seq
 (.ops 11 [⟨some 64, none, .bin .lss (.t 63) (.t 62), []⟩])
 (.seq
 (.cond (.t 64)
 .skip
 (.exit 0))
 (.seq
 (.block 1
 (.seq
 (.ops 12 [⟨some 65, none, .mv (.t 63), []⟩,
 ⟨some 13, none, .mv (.t 65), []⟩])
 (.ops 13 [⟨some 66, none, .ld 1 false (.t 10), []⟩,
 ⟨some 67, none, .mv (.t 13), []⟩,
 ⟨some 68, none, .ld 1 false (.t 4), []⟩,
 ⟨some 69, none, .cvi .i64 (.t 68), []⟩,
 ⟨some 70, none, .ixa none 1 (.t 66) (.t 67), []⟩,
 ⟨none, none, .st 1 (.t 70) (.t 69), []⟩])))
 (.ops 14 [⟨some 71, none, .bin .add (.t 63) (.c (.int .i64 1)), []⟩,
 ⟨some 63, none, .mv (.t 71), []⟩]))))

/-- ticketline/ticketlinelaw32.TicketRaces: the round 1 -/
@[reducible] noncomputable def B10x1 : AC := (.seq
 (.seq
 (.ops 20 [⟨some 77, none, .mv (.t 16), []⟩,
 ⟨some 78, none, .mv (.t 2), []⟩,
 ⟨some 79, none, .len .slice (.t 78), []⟩,
 ⟨some 80, none, .bin .lss (.t 77) (.t 79), []⟩])
 (.cond (.t 80)
 .skip
 (.exit 4)))
 (.seq
 (.block 5
 (.seq
 (.ops 22 [⟨some 84, none, .mv (.t 14), []⟩,
 ⟨some 85, none, .mv (.t 2), []⟩,
 ⟨some 86, none, .mv (.t 16), []⟩,
 ⟨some 87, none, .ixa none 1 (.t 85) (.t 86), []⟩,
 ⟨some 88, none, .ld 1 false (.t 87), []⟩,
 ⟨some 89, none, .cvi .i64 (.t 88), []⟩,
 ⟨some 90, none, .ld 1 false (.t 3), []⟩,
 ⟨some 91, none, .cvi .i64 (.t 90), []⟩,
 ⟨some 92, none, .bin .rem (.t 89) (.t 91), []⟩,
 ⟨some 93, none, .calld (.t 84) [.t 92], []⟩,
 ⟨some 83, none, .mv (.t 93), []⟩,
 ⟨some 94, none, .ext (.t 83) 0, []⟩,
 ⟨some 95, none, .ext (.t 83) 1, []⟩,
 ⟨some 96, none, .ext (.t 83) 2, []⟩,
 ⟨some 17, none, .mv (.t 94), []⟩,
 ⟨some 18, none, .mv (.t 95), []⟩,
 ⟨some 19, none, .mv (.t 96), []⟩])
 (.seq
 (.ops 23 [⟨some 97, none, .mv (.t 19), []⟩])
 (.cond (.t 97)
 (.seq
 (.ops 24 [⟨some 6, none, .mv (.c (.bool false)), []⟩])
 .ret)
 .skip))))
 (.ops 21 [⟨some 81, none, .mv (.t 16), []⟩,
 ⟨some 82, none, .bin .add (.t 81) (.c (.int .i64 1)), []⟩,
 ⟨some 16, none, .mv (.t 82), []⟩])))

/-- ticketline/ticketlinelaw32.TicketRaces: the round 2 -/
@[reducible] noncomputable def B10x2 : AC := (.seq
 (.seq
 (.ops 27 [⟨some 98, none, .mv (.t 22), []⟩,
 ⟨some 99, none, .ld 1 false (.t 3), []⟩,
 ⟨some 100, none, .cvi .i64 (.t 99), []⟩,
 ⟨some 101, none, .bin .lss (.t 98) (.t 100), []⟩])
 (.cond (.t 101)
 .skip
 (.exit 6)))
 (.seq
 (.block 7
 (.seq
 (.ops 29 [⟨some 105, none, .mv (.t 14), []⟩,
 ⟨some 106, none, .mv (.t 22), []⟩,
 ⟨some 107, none, .calld (.t 105) [.t 106], []⟩,
 ⟨some 104, none, .mv (.t 107), []⟩,
 ⟨some 108, none, .ext (.t 104) 0, []⟩,
 ⟨some 109, none, .ext (.t 104) 1, []⟩,
 ⟨some 110, none, .ext (.t 104) 2, []⟩,
 ⟨some 23, none, .mv (.t 108), []⟩,
 ⟨some 24, none, .mv (.t 109), []⟩,
 ⟨some 25, none, .mv (.t 110), []⟩])
 (.seq
 (.seq
 (.ops 30 [⟨some 111, none, .mv (.t 25), []⟩])
 (.cond (.t 111)
 (.seq
 (.ops 31 [⟨some 6, none, .mv (.c (.bool false)), []⟩])
 .ret)
 .skip))
 (.ops 32 [⟨some 112, none, .mv (.t 20), []⟩,
 ⟨some 113, none, .mv (.t 112), []⟩,
 ⟨some 114, some (113, false), .mv (.t 24), []⟩,
 ⟨some 115, none, .pick (.t 113) (.c (.bool true)) (.t 114), []⟩,
 ⟨some 116, none, .mv (.t 21), []⟩,
 ⟨some 117, none, .mv (.t 116), []⟩,
 ⟨some 118, some (117, false), .mv (.t 24), []⟩,
 ⟨some 119, some (117, false), .mv (.t 118), []⟩,
 ⟨some 120, some (119, true), .mv (.t 23), []⟩,
 ⟨some 121, some (119, true), .un .not (.t 120), []⟩,
 ⟨some 122, some (117, false), .pick (.t 119) (.t 121) (.c (.bool false)), []⟩,
 ⟨some 123, none, .pick (.t 117) (.c (.bool true)) (.t 122), []⟩,
 ⟨some 20, none, .mv (.t 115), []⟩,
 ⟨some 21, none, .mv (.t 123), []⟩]))))
 (.ops 28 [⟨some 102, none, .mv (.t 22), []⟩,
 ⟨some 103, none, .bin .add (.t 102) (.c (.int .i64 1)), []⟩,
 ⟨some 22, none, .mv (.t 103), []⟩])))

/-- ticketline/ticketlinelaw32.TicketRaces: the round 3 -/
@[reducible] noncomputable def B10x3 : AC := (.seq
 (.seq
 (.ops 17 [⟨some 73, none, .mv (.t 15), []⟩,
 ⟨some 74, none, .bin .lss (.t 73) (.c (.int .i64 5000)), []⟩])
 (.cond (.t 74)
 .skip
 (.exit 2)))
 (.seq
 (.block 3
 (.seq
 (.seq
 (.ops 19 [⟨some 16, none, .mv (.c (.int .i64 0)), []⟩])
 (.block 4
 (.loop [] B10x1)))
 (.seq
 (.ops 25 [⟨some 20, none, .mv (.c (.bool false)), []⟩,
 ⟨some 21, none, .mv (.c (.bool false)), []⟩])
 (.seq
 (.seq
 (.ops 26 [⟨some 22, none, .mv (.c (.int .i64 0)), []⟩])
 (.block 6
 (.loop [] B10x2)))
 (.seq
 (.seq
 (.ops 33 [⟨some 124, none, .mv (.t 20), []⟩,
 ⟨some 125, none, .un .not (.t 124), []⟩])
 (.cond (.t 125)
 (.seq
 (.ops 34 [⟨some 126, none, .ld 1 false (.t 12), []⟩,
 ⟨some 127, none, .len .map (.t 126), []⟩,
 ⟨some 128, none, .ld 1 false (.t 3), []⟩,
 ⟨some 129, none, .cvi .i64 (.t 128), []⟩,
 ⟨some 130, none, .ld 1 false (.t 4), []⟩,
 ⟨some 131, none, .cvi .i64 (.t 130), []⟩,
 ⟨some 132, none, .bin .mul (.t 129) (.t 131), []⟩,
 ⟨some 133, none, .bin .eql (.t 127) (.t 132), []⟩,
 ⟨some 134, none, .mv (.t 133), []⟩,
 ⟨some 135, some (134, true), .call 41 [], []⟩,
 ⟨some 136, none, .pick (.t 134) (.t 135) (.c (.bool false)), []⟩,
 ⟨some 6, none, .mv (.t 136), []⟩])
 .ret)
 .skip))
 (.seq
 (.ops 35 [⟨some 137, none, .mv (.t 21), []⟩,
 ⟨some 138, none, .un .not (.t 137), []⟩])
 (.cond (.t 138)
 (.seq
 (.ops 36 [⟨some 6, none, .mv (.c (.bool false)), []⟩])
 .ret)
 .skip)))))))
 (.ops 18 [⟨some 75, none, .mv (.t 15), []⟩,
 ⟨some 76, none, .bin .add (.t 75) (.c (.int .i64 1)), []⟩,
 ⟨some 15, none, .mv (.t 76), []⟩])))

/-- ticketline/ticketlinelaw32.TicketRaces -/
noncomputable def F10 : AFn := ⟨139, [.tmp 6], (.seq
 (.ops 0 [⟨some 3, none, .box 1 (.t 0) true, []⟩,
 ⟨some 4, none, .box 1 (.t 1) true, []⟩,
 ⟨some 6, none, .mv (.c (.bool false)), []⟩])
 (.seq
 (.seq
 (.ops 1 [⟨some 26, none, .ld 1 false (.t 3), []⟩,
 ⟨some 27, none, .bin .lss (.t 26) (.c (.int .u8 1)), []⟩,
 ⟨some 28, none, .mv (.t 27), []⟩,
 ⟨some 29, some (28, false), .ld 1 false (.t 3), []⟩,
 ⟨some 30, some (28, false), .bin .gtr (.t 29) (.c (.int .u8 6)), []⟩,
 ⟨some 31, none, .pick (.t 28) (.c (.bool true)) (.t 30), []⟩,
 ⟨some 32, none, .mv (.t 31), []⟩,
 ⟨some 33, some (32, false), .ld 1 false (.t 4), []⟩,
 ⟨some 34, some (32, false), .bin .gtr (.t 33) (.c (.int .u8 4)), []⟩,
 ⟨some 35, none, .pick (.t 32) (.c (.bool true)) (.t 34), []⟩,
 ⟨some 36, none, .mv (.t 35), []⟩,
 ⟨some 37, some (36, false), .mv (.t 2), []⟩,
 ⟨some 38, some (36, false), .len .slice (.t 37), []⟩,
 ⟨some 39, some (36, false), .bin .gtr (.t 38) (.c (.int .i64 60)), []⟩,
 ⟨some 40, none, .pick (.t 36) (.c (.bool true)) (.t 39), []⟩])
 (.cond (.t 40)
 (.seq
 (.ops 2 [⟨some 41, none, .call 41 [], []⟩,
 ⟨some 6, none, .mv (.t 41), []⟩])
 .ret)
 .skip))
 (.seq
 (.ops 3 [⟨some 42, none, .ld 1 false (.t 3), []⟩,
 ⟨some 43, none, .cvi .i64 (.t 42), []⟩,
 ⟨some 44, none, .build [.int .i64 0, .int .i64 0] [(0, 1, (.c (.int .i64 1))), (1, 1, (.t 43))], []⟩,
 ⟨some 7, none, .alloc [.int .i64 0, .int .i64 0] true, []⟩,
 ⟨none, none, .st 2 (.t 7) (.t 44), []⟩])
 (.seq
 (.ops 4 [⟨some 46, none, .ld 2 true (.t 7), []⟩,
 ⟨some 47, none, .call 14 [.t 46], []⟩,
 ⟨some 45, none, .mv (.t 47), []⟩,
 ⟨some 48, none, .ext (.t 45) 0, []⟩,
 ⟨some 49, none, .ext (.t 45) 1, []⟩,
 ⟨some 8, none, .alloc [.nilp] true, []⟩,
 ⟨none, none, .st 1 (.t 8) (.t 48), []⟩,
 ⟨some 9, none, .mv (.t 49), []⟩])
 (.seq
 (.seq
 (.ops 5 [⟨some 50, none, .ld 1 false (.t 8), []⟩,
 ⟨some 51, none, .eqn .ptr false (.t 50), []⟩,
 ⟨some 52, none, .mv (.t 51), []⟩,
 ⟨some 53, some (52, false), .mv (.t 9), []⟩,
 ⟨some 54, some (52, false), .bin .neq (.t 53) (.c (.int .i64 0)), []⟩,
 ⟨some 55, none, .pick (.t 52) (.c (.bool true)) (.t 54), []⟩])
 (.cond (.t 55)
 (.seq
 (.ops 6 [⟨some 6, none, .mv (.c (.bool false)), []⟩])
 .ret)
 .skip))
 (.seq
 (.ops 7 [⟨some 56, none, .ld 1 false (.t 3), []⟩,
 ⟨some 57, none, .mks [.int .i64 0] 1 8 (.t 56) (.t 56) true, []⟩,
 ⟨some 10, none, .alloc [.nils] true, []⟩,
 ⟨none, none, .st 1 (.t 10) (.t 57), []⟩])
 (.seq
 (.ops 8 [⟨some 58, none, .ld 1 false (.t 3), []⟩,
 ⟨some 59, none, .mks [.nilp] 1 8 (.t 58) (.t 58) true, []⟩,
 ⟨some 11, none, .alloc [.nils] true, []⟩,
 ⟨none, none, .st 1 (.t 11) (.t 59), []⟩])
 (.seq
 (.ops 9 [⟨some 60, none, .mkm true, []⟩,
 ⟨some 12, none, .alloc [.nilm] true, []⟩,
 ⟨none, none, .st 1 (.t 12) (.t 60), []⟩])
 (.seq
 (.seq
 (.ops 10 [⟨some 61, none, .ld 1 false (.t 10), []⟩,
 ⟨some 62, none, .len .slice (.t 61), []⟩,
 ⟨some 63, none, .mv (.c (.int .i64 0)), []⟩])
 (.block 0
 (.loop [] B10x0)))
 (.seq
 (.ops 15 [⟨some 72, none, .mkf 53 [.t 11, .t 10, .t 7, .t 8, .t 12, .t 3, .t 4], []⟩,
 ⟨some 14, none, .mv (.t 72), []⟩])
 (.seq
 (.seq
 (.ops 16 [⟨some 15, none, .mv (.c (.int .i64 0)), []⟩])
 (.block 2
 (.loop [] B10x3)))
 (.seq
 (.ops 37 [⟨some 6, none, .mv (.c (.bool false)), []⟩])
 .ret))))))))))))⟩
theorem F10_code : cfgA.code 10 = some F10 := by kernel_rfl

/-- ticketline/ticketlinelaw32.TicketNone: the round 0 -/
@[reducible] noncomputable def B11x0 : AC := (.seq
 (.ops 6 [⟨some 25, none, .bin .lss (.t 24) (.t 23), []⟩])
 (.seq
 (.cond (.t 25)
 .skip
 (.exit 0))
 (.seq
 (.block 1
 (.seq
 (.ops 7 [⟨some 26, none, .ixa none 1 (.t 22) (.t 24), []⟩,
 ⟨some 27, none, .ld 1 false (.t 26), []⟩,
 ⟨some 5, none, .mv (.t 27), []⟩])
 (.seq
 (.ops 8 [⟨some 29, none, .mv (.t 5), []⟩,
 ⟨some 30, none, .mv (.t 1), []⟩,
 ⟨some 31, none, .mki 26 (.t 30), []⟩,
 ⟨some 32, none, .call 57 [.t 29, .t 31], []⟩,
 ⟨some 28, none, .mv (.t 32), []⟩,
 ⟨some 33, none, .ext (.t 28) 0, []⟩,
 ⟨some 34, none, .ext (.t 28) 1, []⟩,
 ⟨some 6, none, .mv (.t 33), []⟩,
 ⟨some 7, none, .mv (.t 34), []⟩])
 (.seq
 (.ops 9 [⟨some 35, none, .mv (.t 7), []⟩,
 ⟨some 36, none, .bin .neq (.t 35) (.c (.int .i64 1)), []⟩,
 ⟨some 37, none, .mv (.t 36), []⟩,
 ⟨some 38, some (37, false), .mv (.t 5), []⟩,
 ⟨some 39, some (37, false), .call 55 [.t 38], []⟩,
 ⟨some 40, some (37, false), .un .not (.t 39), []⟩,
 ⟨some 41, none, .pick (.t 37) (.c (.bool true)) (.t 40), []⟩,
 ⟨some 42, none, .mv (.t 41), []⟩,
 ⟨some 43, some (42, false), .mv (.t 5), []⟩,
 ⟨some 44, some (42, false), .call 56 [.t 43], []⟩,
 ⟨some 45, some (42, false), .bin .neq (.t 44) (.c (.int .u64 0)), []⟩,
 ⟨some 46, none, .pick (.t 42) (.c (.bool true)) (.t 45), []⟩,
 ⟨some 47, none, .mv (.t 46), []⟩,
 ⟨some 48, some (47, false), .mv (.t 5), []⟩,
 ⟨some 49, some (47, false), .call 58 [.t 48], []⟩,
 ⟨some 50, some (47, false), .eqn .iface true (.t 49), []⟩,
 ⟨some 51, none, .pick (.t 47) (.c (.bool true)) (.t 50), []⟩])
 (.cond (.t 51)
 (.seq
 (.ops 10 [⟨some 0, none, .mv (.c (.bool false)), []⟩])
 .ret)
 .skip)))))
 (.ops 11 [⟨some 52, none, .bin .add (.t 24) (.c (.int .i64 1)), []⟩,
 ⟨some 24, none, .mv (.t 52), []⟩]))))

/-- ticketline/ticketlinelaw32.TicketNone -/
noncomputable def F11 : AFn := ⟨78, [.tmp 0], (.seq
 (.ops 0 [⟨some 0, none, .mv (.c (.bool false)), []⟩])
 (.seq
 (.ops 1 [⟨some 10, none, .call 27 [.c (.int .i64 9)], []⟩,
 ⟨some 9, none, .mv (.t 10), []⟩,
 ⟨some 11, none, .ext (.t 9) 0, []⟩,
 ⟨some 12, none, .ext (.t 9) 1, []⟩,
 ⟨some 1, none, .mv (.t 11), []⟩,
 ⟨some 2, none, .mv (.t 12), []⟩])
 (.seq
 (.seq
 (.ops 2 [⟨some 13, none, .mv (.t 1), []⟩,
 ⟨some 14, none, .eqn .ptr false (.t 13), []⟩,
 ⟨some 15, none, .mv (.t 14), []⟩,
 ⟨some 16, some (15, false), .mv (.t 2), []⟩,
 ⟨some 17, some (15, false), .bin .neq (.t 16) (.c (.int .i64 0)), []⟩,
 ⟨some 18, none, .pick (.t 15) (.c (.bool true)) (.t 17), []⟩])
 (.cond (.t 18)
 (.seq
 (.ops 3 [⟨some 0, none, .mv (.c (.bool false)), []⟩])
 .ret)
 .skip))
 (.seq
 (.ops 4 [⟨some 3, none, .mv (.c (.nilp)), []⟩])
 (.seq
 (.seq
 (.ops 5 [⟨some 19, none, .mv (.t 3), []⟩,
 ⟨some 20, none, .build [.int .i64 0, .nili, .nili, .int .u64 0] [], []⟩,
 ⟨some 21, none, .box 4 (.t 20) false, []⟩,
 ⟨some 22, none, .bslice [.nilp] 1 2 [(0, (.t 19)), (1, (.t 21))] true false, []⟩,
 ⟨some 23, none, .len .slice (.t 22), []⟩,
 ⟨some 24, none, .mv (.c (.int .i64 0)), []⟩])
 (.block 0
 (.loop [] B11x0)))
 (.seq
 (.ops 12 [⟨some 8, none, .mv (.c (.nilp)), []⟩])
 (.seq
 (.ops 13 [⟨some 53, none, .mv (.t 8), []⟩,
 ⟨some 54, none, .call 43 [.t 53], []⟩,
 ⟨some 55, none, .un .not (.t 54), []⟩,
 ⟨some 56, none, .mv (.t 55), []⟩,
 ⟨some 57, some (56, true), .mv (.t 8), []⟩,
 ⟨some 58, some (56, true), .call 45 [.t 57], []⟩,
 ⟨some 59, some (56, true), .bin .eql (.t 58) (.c (.int .i64 0)), []⟩,
 ⟨some 60, none, .pick (.t 56) (.t 59) (.c (.bool false)), []⟩,
 ⟨some 61, none, .mv (.t 60), []⟩,
 ⟨some 62, some (61, true), .mv (.t 8), []⟩,
 ⟨some 63, some (61, true), .call 46 [.t 62], []⟩,
 ⟨some 64, some (61, true), .bin .eql (.t 63) (.c (.int .i64 0)), []⟩,
 ⟨some 65, none, .pick (.t 61) (.t 64) (.c (.bool false)), []⟩,
 ⟨some 66, none, .mv (.t 65), []⟩,
 ⟨some 67, some (66, true), .mv (.t 8), []⟩,
 ⟨some 68, some (66, true), .call 47 [.t 67], []⟩,
 ⟨some 69, none, .pick (.t 66) (.t 68) (.c (.bool false)), []⟩,
 ⟨some 70, none, .mv (.t 69), []⟩,
 ⟨some 71, some (70, true), .mv (.t 8), []⟩,
 ⟨some 72, some (70, true), .call 42 [.t 71], []⟩,
 ⟨some 73, some (70, true), .eqn .ptr false (.t 72), []⟩,
 ⟨some 74, none, .pick (.t 70) (.t 73) (.c (.bool false)), []⟩,
 ⟨some 75, none, .mv (.t 74), []⟩,
 ⟨some 76, some (75, true), .call 41 [], []⟩,
 ⟨some 77, none, .pick (.t 75) (.t 76) (.c (.bool false)), []⟩,
 ⟨some 0, none, .mv (.t 77), []⟩])
 .ret)))))))⟩
theorem F11_code : cfgA.code 11 = some F11 := by kernel_rfl

/-- ticketline/descend.Format -/
noncomputable def F14 : AFn := ⟨61, [.tmp 2, .tmp 3], (.seq
 (.ops 0 [⟨some 1, none, .box 2 (.t 0) false, []⟩,
 ⟨some 2, none, .mv (.c (.nilp)), []⟩,
 ⟨some 3, none, .mv (.c (.int .i64 0)), []⟩])
 (.seq
 (.ops 1 [⟨some 12, none, .ld 2 true (.t 1), []⟩,
 ⟨some 13, none, .call 37 [.t 12], []⟩,
 ⟨some 11, none, .mv (.t 13), []⟩,
 ⟨some 14, none, .ext (.t 11) 0, []⟩,
 ⟨some 15, none, .ext (.t 11) 1, []⟩,
 ⟨some 4, none, .mv (.t 14), []⟩,
 ⟨some 5, none, .mv (.t 15), []⟩])
 (.seq
 (.seq
 (.ops 2 [⟨some 16, none, .mv (.t 5), []⟩,
 ⟨some 17, none, .bin .neq (.t 16) (.c (.int .i64 0)), []⟩])
 (.cond (.t 17)
 (.seq
 (.ops 3 [⟨some 18, none, .mv (.t 5), []⟩,
 ⟨some 2, none, .mv (.c (.nilp)), []⟩,
 ⟨some 3, none, .mv (.t 18), []⟩])
 .ret)
 .skip))
 (.seq
 (.ops 4 [⟨some 20, none, .mv (.t 4), []⟩,
 ⟨some 21, none, .call 27 [.t 20], []⟩,
 ⟨some 19, none, .mv (.t 21), []⟩,
 ⟨some 22, none, .ext (.t 19) 0, []⟩,
 ⟨some 23, none, .ext (.t 19) 1, []⟩,
 ⟨some 6, none, .mv (.t 22), []⟩,
 ⟨some 5, none, .mv (.t 23), []⟩])
 (.seq
 (.seq
 (.ops 5 [⟨some 24, none, .mv (.t 5), []⟩,
 ⟨some 25, none, .bin .neq (.t 24) (.c (.int .i64 0)), []⟩])
 (.cond (.t 25)
 (.seq
 (.ops 6 [⟨some 26, none, .mv (.t 5), []⟩,
 ⟨some 2, none, .mv (.c (.nilp)), []⟩,
 ⟨some 3, none, .mv (.t 26), []⟩])
 .ret)
 .skip))
 (.seq
 (.ops 7 [⟨some 28, none, .mv (.t 6), []⟩,
 ⟨some 29, none, .fld 0 (.t 1), []⟩,
 ⟨some 30, none, .ld 1 false (.t 29), []⟩,
 ⟨some 31, none, .call 61 [.t 28, .t 30], []⟩,
 ⟨some 27, none, .mv (.t 31), []⟩,
 ⟨some 32, none, .ext (.t 27) 0, []⟩,
 ⟨some 33, none, .ext (.t 27) 1, []⟩,
 ⟨some 7, none, .mv (.t 32), []⟩,
 ⟨some 5, none, .mv (.t 33), []⟩])
 (.seq
 (.seq
 (.ops 8 [⟨some 34, none, .mv (.t 5), []⟩,
 ⟨some 35, none, .bin .neq (.t 34) (.c (.int .i64 0)), []⟩])
 (.cond (.t 35)
 (.seq
 (.ops 9 [⟨some 36, none, .mv (.t 5), []⟩,
 ⟨some 2, none, .mv (.c (.nilp)), []⟩,
 ⟨some 3, none, .mv (.t 36), []⟩])
 .ret)
 .skip))
 (.seq
 (.ops 10 [⟨some 38, none, .call 62 [.c (.int .i64 0), .c (.str []), .c (.str [])], []⟩,
 ⟨some 37, none, .mv (.t 38), []⟩,
 ⟨some 39, none, .ext (.t 37) 0, []⟩,
 ⟨some 40, none, .ext (.t 37) 1, []⟩,
 ⟨some 8, none, .alloc (List.replicate 128 (.int .u64 0)) false, []⟩,
 ⟨none, none, .st 128 (.t 8) (.t 39), []⟩,
 ⟨some 5, none, .mv (.t 40), []⟩])
 (.seq
 (.seq
 (.ops 11 [⟨some 41, none, .mv (.t 5), []⟩,
 ⟨some 42, none, .bin .neq (.t 41) (.c (.int .i64 0)), []⟩])
 (.cond (.t 42)
 (.seq
 (.ops 12 [⟨some 43, none, .mv (.t 5), []⟩,
 ⟨some 2, none, .mv (.c (.nilp)), []⟩,
 ⟨some 3, none, .mv (.t 43), []⟩])
 .ret)
 .skip))
 (.seq
 (.ops 13 [⟨some 45, none, .mv (.t 7), []⟩,
 ⟨some 46, none, .ld 128 true (.t 8), []⟩,
 ⟨some 47, none, .call 63 [.t 45, .t 46], []⟩,
 ⟨some 44, none, .mv (.t 47), []⟩,
 ⟨some 48, none, .ext (.t 44) 0, []⟩,
 ⟨some 49, none, .ext (.t 44) 1, []⟩,
 ⟨some 9, none, .mv (.t 48), []⟩,
 ⟨some 5, none, .mv (.t 49), []⟩])
 (.seq
 (.seq
 (.ops 14 [⟨some 50, none, .mv (.t 5), []⟩,
 ⟨some 51, none, .bin .neq (.t 50) (.c (.int .i64 0)), []⟩])
 (.cond (.t 51)
 (.seq
 (.ops 15 [⟨some 52, none, .mv (.t 5), []⟩,
 ⟨some 2, none, .mv (.c (.nilp)), []⟩,
 ⟨some 3, none, .mv (.t 52), []⟩])
 .ret)
 .skip))
 (.seq
 (.seq
 (.ops 16 [⟨some 53, none, .mv (.t 7), []⟩,
 ⟨some 54, none, .mv (.t 9), []⟩,
 ⟨some 55, none, .call 64 [.t 53, .t 54], []⟩,
 ⟨some 10, none, .mv (.t 55), []⟩])
 (.seq
 (.ops 17 [⟨some 56, none, .mv (.t 10), []⟩,
 ⟨some 57, none, .bin .neq (.t 56) (.c (.int .i64 0)), []⟩])
 (.cond (.t 57)
 (.seq
 (.ops 18 [⟨some 58, none, .mv (.t 10), []⟩,
 ⟨some 2, none, .mv (.c (.nilp)), []⟩,
 ⟨some 3, none, .mv (.t 58), []⟩])
 .ret)
 .skip)))
 (.seq
 (.ops 19 [⟨some 59, none, .mv (.t 7), []⟩,
 ⟨some 60, none, .call 65 [.t 59], []⟩,
 ⟨some 2, none, .mv (.t 60), []⟩,
 ⟨some 3, none, .mv (.c (.int .i64 0)), []⟩])
 .ret)))))))))))))⟩
theorem F14_code : cfgA.code 14 = some F14 := by kernel_rfl

/-- ticketline/mem.New -/
noncomputable def F27 : AFn := ⟨14, [.tmp 2, .tmp 3], (.seq
 (.ops 0 [⟨some 2, none, .mv (.c (.nilp)), []⟩,
 ⟨some 3, none, .mv (.c (.int .i64 0)), []⟩])
 (.seq
 (.seq
 (.ops 1 [⟨some 4, none, .mv (.t 0), []⟩,
 ⟨some 5, none, .bin .lss (.t 4) (.c (.int .i64 1)), []⟩,
 ⟨some 6, none, .mv (.t 5), []⟩,
 ⟨some 7, some (6, false), .mv (.t 0), []⟩,
 ⟨some 8, some (6, false), .bin .gtr (.t 7) (.c (.int .i64 65536)), []⟩,
 ⟨some 9, none, .pick (.t 6) (.c (.bool true)) (.t 8), []⟩])
 (.cond (.t 9)
 (.seq
 (.ops 2 [⟨some 2, none, .mv (.c (.nilp)), []⟩,
 ⟨some 3, none, .mv (.c (.int .i64 2)), []⟩])
 .ret)
 .skip))
 (.seq
 (.ops 3 [⟨some 10, none, .mv (.t 0), []⟩,
 ⟨some 11, none, .mks [.int .u64 0] 1 8 (.t 10) (.t 10) true, []⟩,
 ⟨some 12, none, .build [.nils] [(0, 1, (.t 11))], []⟩,
 ⟨some 13, none, .box 1 (.t 12) true, []⟩,
 ⟨some 2, none, .mv (.t 13), []⟩,
 ⟨some 3, none, .mv (.c (.int .i64 0)), []⟩])
 .ret)))⟩
theorem F27_code : cfgA.code 27 = some F27 := by kernel_rfl

/-- ticketline/descend.Words -/
noncomputable def F37 : AFn := ⟨14, [.tmp 2, .tmp 3], (.seq
 (.ops 0 [⟨some 1, none, .box 2 (.t 0) false, []⟩,
 ⟨some 2, none, .mv (.c (.int .i64 0)), []⟩,
 ⟨some 3, none, .mv (.c (.int .i64 0)), []⟩])
 (.seq
 (.seq
 (.ops 1 [⟨some 4, none, .ld 2 true (.t 1), []⟩,
 ⟨some 5, none, .call 88 [.t 4], []⟩,
 ⟨some 6, none, .un .not (.t 5), []⟩])
 (.cond (.t 6)
 (.seq
 (.ops 2 [⟨some 2, none, .mv (.c (.int .i64 0)), []⟩,
 ⟨some 3, none, .mv (.c (.int .i64 2)), []⟩])
 .ret)
 .skip))
 (.seq
 (.ops 3 [⟨some 7, none, .ld 2 true (.t 1), []⟩,
 ⟨some 9, none, .fld 1 (.t 1), []⟩,
 ⟨some 10, none, .ld 1 false (.t 9), []⟩,
 ⟨some 11, none, .bin .mul (.t 10) (.c (.int .i64 2)), []⟩,
 ⟨some 12, none, .bin .mul (.t 11) (.c (.int .i64 3)), []⟩,
 ⟨some 8, none, .call 89 [.t 7], [(10, .ld 1 false (.t 9))]⟩,
 ⟨some 13, none, .bin .add (.t 8) (.t 12), []⟩,
 ⟨some 2, none, .mv (.t 13), []⟩,
 ⟨some 3, none, .mv (.c (.int .i64 0)), []⟩])
 .ret)))⟩
theorem F37_code : cfgA.code 37 = some F37 := by kernel_rfl

/-- (*ticketline/mem.Mem).Copy -/
noncomputable def F38 : AFn := ⟨12, [.tmp 2], (.seq
 (.ops 0 [⟨some 2, none, .mv (.c (.nilp)), []⟩])
 (.seq
 (.seq
 (.ops 1 [⟨some 3, none, .mv (.t 0), []⟩,
 ⟨some 4, none, .call 90 [.t 3], []⟩])
 (.cond (.t 4)
 (.seq
 (.ops 2 [⟨some 2, none, .mv (.c (.nilp)), []⟩])
 .ret)
 .skip))
 (.seq
 (.ops 3 [⟨some 5, none, .mv (.t 0), []⟩,
 ⟨some 6, none, .nilc (.t 5) (mok Tryz.prog), []⟩,
 ⟨some 7, none, .fld 0 (.t 6), []⟩,
 ⟨some 8, none, .ld 1 false (.t 7), []⟩,
 ⟨some 9, none, .call 91 [.t 8], []⟩,
 ⟨some 10, none, .build [.nils] [(0, 1, (.t 9))], []⟩,
 ⟨some 11, none, .box 1 (.t 10) true, []⟩,
 ⟨some 2, none, .mv (.t 11), []⟩])
 .ret)))⟩
theorem F38_code : cfgA.code 38 = some F38 := by kernel_rfl

/-- ticketline/ticket.New -/
noncomputable def F40 : AFn := ⟨14, [.tmp 2, .tmp 3], (.seq
 (.ops 0 [⟨some 2, none, .mv (.c (.nilp)), []⟩,
 ⟨some 3, none, .mv (.c (.int .i64 0)), []⟩])
 (.seq
 (.seq
 (.ops 1 [⟨some 4, none, .mv (.t 0), []⟩,
 ⟨some 5, none, .bin .lss (.t 4) (.c (.int .i64 0)), []⟩,
 ⟨some 6, none, .mv (.t 5), []⟩,
 ⟨some 7, some (6, false), .mv (.t 0), []⟩,
 ⟨some 8, some (6, false), .bin .gtr (.t 7) (.c (.int .i64 64)), []⟩,
 ⟨some 9, none, .pick (.t 6) (.c (.bool true)) (.t 8), []⟩])
 (.cond (.t 9)
 (.seq
 (.ops 2 [⟨some 2, none, .mv (.c (.nilp)), []⟩,
 ⟨some 3, none, .mv (.c (.int .i64 2)), []⟩])
 .ret)
 .skip))
 (.seq
 (.ops 3 [⟨some 10, none, .mv (.t 0), []⟩,
 ⟨some 11, none, .build [.int .i64 0, .int .i64 0] [(0, 1, (.t 10))], []⟩,
 ⟨some 12, none, .build [.int .i64 0, .int .i64 0] [(0, 2, (.t 11))], []⟩,
 ⟨some 13, none, .box 2 (.t 12) true, []⟩,
 ⟨some 2, none, .mv (.t 13), []⟩,
 ⟨some 3, none, .mv (.c (.int .i64 0)), []⟩])
 .ret)))⟩
theorem F40_code : cfgA.code 40 = some F40 := by kernel_rfl

/-- ticketline/ticketlinelaw32.known -/
noncomputable def F41 : AFn := ⟨116, [.tmp 0], (.seq
 (.ops 0 [⟨some 0, none, .mv (.c (.bool false)), []⟩])
 (.seq
 (.ops 1 [⟨some 11, none, .build [.int .i64 0, .int .i64 0] [(0, 1, (.c (.int .i64 1))), (1, 1, (.c (.int .i64 3)))], []⟩,
 ⟨some 1, none, .alloc [.int .i64 0, .int .i64 0] false, []⟩,
 ⟨none, none, .st 2 (.t 1) (.t 11), []⟩])
 (.seq
 (.ops 2 [⟨some 13, none, .ld 2 true (.t 1), []⟩,
 ⟨some 14, none, .call 14 [.t 13], []⟩,
 ⟨some 12, none, .mv (.t 14), []⟩,
 ⟨some 15, none, .ext (.t 12) 0, []⟩,
 ⟨some 16, none, .ext (.t 12) 1, []⟩,
 ⟨some 2, none, .mv (.t 15), []⟩,
 ⟨some 3, none, .mv (.t 16), []⟩])
 (.seq
 (.seq
 (.ops 3 [⟨some 17, none, .mv (.t 2), []⟩,
 ⟨some 18, none, .eqn .ptr false (.t 17), []⟩,
 ⟨some 19, none, .mv (.t 18), []⟩,
 ⟨some 20, some (19, false), .mv (.t 3), []⟩,
 ⟨some 21, some (19, false), .bin .neq (.t 20) (.c (.int .i64 0)), []⟩,
 ⟨some 22, none, .pick (.t 19) (.c (.bool true)) (.t 21), []⟩,
 ⟨some 23, none, .mv (.t 22), []⟩,
 ⟨some 24, some (23, false), .ld 2 true (.t 1), []⟩,
 ⟨some 25, some (23, false), .mv (.t 2), []⟩,
 ⟨some 26, some (23, false), .call 50 [.t 24, .t 25, .c (.int .i64 2), .c (.int .u64 1)], []⟩,
 ⟨some 27, some (23, false), .un .not (.t 26), []⟩,
 ⟨some 28, none, .pick (.t 23) (.c (.bool true)) (.t 27), []⟩,
 ⟨some 29, none, .mv (.t 28), []⟩,
 ⟨some 30, some (29, false), .ld 2 true (.t 1), []⟩,
 ⟨some 31, some (29, false), .mv (.t 2), []⟩,
 ⟨some 32, some (29, false), .call 50 [.t 30, .t 31, .c (.int .i64 2), .c (.int .u64 2)], []⟩,
 ⟨some 33, some (29, false), .un .not (.t 32), []⟩,
 ⟨some 34, none, .pick (.t 29) (.c (.bool true)) (.t 33), []⟩,
 ⟨some 35, none, .mv (.t 34), []⟩,
 ⟨some 36, some (35, false), .ld 2 true (.t 1), []⟩,
 ⟨some 37, some (35, false), .mv (.t 2), []⟩,
 ⟨some 38, some (35, false), .call 50 [.t 36, .t 37, .c (.int .i64 2), .c (.int .u64 3)], []⟩,
 ⟨some 39, some (35, false), .un .not (.t 38), []⟩,
 ⟨some 40, none, .pick (.t 35) (.c (.bool true)) (.t 39), []⟩])
 (.cond (.t 40)
 (.seq
 (.ops 4 [⟨some 0, none, .mv (.c (.bool false)), []⟩])
 .ret)
 .skip))
 (.seq
 (.ops 5 [⟨some 42, none, .mv (.t 2), []⟩,
 ⟨some 43, none, .call 52 [.t 42, .c (.int .i64 7)], []⟩,
 ⟨some 41, none, .mv (.t 43), []⟩,
 ⟨some 44, none, .ext (.t 41) 0, []⟩,
 ⟨some 45, none, .ext (.t 41) 1, []⟩,
 ⟨some 4, none, .mv (.t 44), []⟩,
 ⟨some 3, none, .mv (.t 45), []⟩])
 (.seq
 (.ops 6 [⟨some 46, none, .call 60 [.c (.int .i64 2)], []⟩,
 ⟨some 5, none, .mv (.t 46), []⟩])
 (.seq
 (.seq
 (.ops 7 [⟨some 47, none, .mv (.t 4), []⟩,
 ⟨some 48, none, .bin .neq (.t 47) (.c (.int .u64 3)), []⟩,
 ⟨some 49, none, .mv (.t 48), []⟩,
 ⟨some 50, some (49, false), .mv (.t 3), []⟩,
 ⟨some 51, some (49, false), .bin .neq (.t 50) (.c (.int .i64 0)), []⟩,
 ⟨some 52, none, .pick (.t 49) (.c (.bool true)) (.t 51), []⟩,
 ⟨some 53, none, .mv (.t 52), []⟩,
 ⟨some 54, some (53, false), .mv (.t 5), []⟩,
 ⟨some 55, some (53, false), .eqn .ptr false (.t 54), []⟩,
 ⟨some 56, none, .pick (.t 53) (.c (.bool true)) (.t 55), []⟩,
 ⟨some 57, none, .mv (.t 56), []⟩,
 ⟨some 58, some (57, false), .mv (.t 5), []⟩,
 ⟨some 59, some (57, false), .call 43 [.t 58], []⟩,
 ⟨some 60, some (57, false), .un .not (.t 59), []⟩,
 ⟨some 61, none, .pick (.t 57) (.c (.bool true)) (.t 60), []⟩,
 ⟨some 62, none, .mv (.t 61), []⟩,
 ⟨some 63, some (62, false), .mv (.t 5), []⟩,
 ⟨some 64, some (62, false), .call 46 [.t 63], []⟩,
 ⟨some 65, some (62, false), .bin .neq (.t 64) (.c (.int .i64 1)), []⟩,
 ⟨some 66, none, .pick (.t 62) (.c (.bool true)) (.t 65), []⟩,
 ⟨some 67, none, .mv (.t 66), []⟩,
 ⟨some 68, some (67, false), .mv (.t 5), []⟩,
 ⟨some 69, some (67, false), .call 43 [.t 68], []⟩,
 ⟨some 70, some (67, false), .un .not (.t 69), []⟩,
 ⟨some 71, none, .pick (.t 67) (.c (.bool true)) (.t 70), []⟩,
 ⟨some 72, none, .mv (.t 71), []⟩,
 ⟨some 73, some (72, false), .mv (.t 5), []⟩,
 ⟨some 74, some (72, false), .call 47 [.t 73], []⟩,
 ⟨some 75, some (72, false), .un .not (.t 74), []⟩,
 ⟨some 76, none, .pick (.t 72) (.c (.bool true)) (.t 75), []⟩,
 ⟨some 77, none, .mv (.t 76), []⟩,
 ⟨some 78, some (77, false), .mv (.t 5), []⟩,
 ⟨some 79, some (77, false), .call 43 [.t 78], []⟩,
 ⟨some 80, none, .pick (.t 77) (.c (.bool true)) (.t 79), []⟩,
 ⟨some 81, none, .mv (.t 80), []⟩,
 ⟨some 82, some (81, false), .mv (.t 5), []⟩,
 ⟨some 83, some (81, false), .call 45 [.t 82], []⟩,
 ⟨some 84, some (81, false), .bin .neq (.t 83) (.c (.int .i64 2)), []⟩,
 ⟨some 85, none, .pick (.t 81) (.c (.bool true)) (.t 84), []⟩])
 (.cond (.t 85)
 (.seq
 (.ops 8 [⟨some 0, none, .mv (.c (.bool false)), []⟩])
 .ret)
 .skip))
 (.seq
 (.ops 9 [⟨some 87, none, .call 40 [.c (.int .i64 (-1))], []⟩,
 ⟨some 86, none, .mv (.t 87), []⟩,
 ⟨some 88, none, .ext (.t 86) 0, []⟩,
 ⟨some 89, none, .ext (.t 86) 1, []⟩,
 ⟨some 3, none, .mv (.t 89), []⟩])
 (.seq
 (.ops 10 [⟨some 91, none, .call 40 [.c (.int .i64 65)], []⟩,
 ⟨some 90, none, .mv (.t 91), []⟩,
 ⟨some 92, none, .ext (.t 90) 0, []⟩,
 ⟨some 93, none, .ext (.t 90) 1, []⟩,
 ⟨some 6, none, .mv (.t 92), []⟩,
 ⟨some 7, none, .mv (.t 93), []⟩])
 (.seq
 (.ops 11 [⟨some 95, none, .ld 2 true (.t 1), []⟩,
 ⟨some 96, none, .call 49 [.t 95, .c (.int .i64 3)], []⟩,
 ⟨some 94, none, .mv (.t 96), []⟩,
 ⟨some 97, none, .ext (.t 94) 0, []⟩,
 ⟨some 98, none, .ext (.t 94) 1, []⟩,
 ⟨some 8, none, .mv (.t 97), []⟩,
 ⟨some 9, none, .mv (.t 98), []⟩])
 (.seq
 (.ops 12 [⟨some 10, none, .alloc [.int .i64 0, .int .i64 0] false, []⟩])
 (.seq
 (.ops 13 [⟨some 99, none, .mv (.t 3), []⟩,
 ⟨some 100, none, .bin .eql (.t 99) (.c (.int .i64 2)), []⟩,
 ⟨some 101, none, .mv (.t 100), []⟩,
 ⟨some 102, some (101, true), .mv (.t 7), []⟩,
 ⟨some 103, some (101, true), .bin .eql (.t 102) (.c (.int .i64 2)), []⟩,
 ⟨some 104, none, .pick (.t 101) (.t 103) (.c (.bool false)), []⟩,
 ⟨some 105, none, .mv (.t 104), []⟩,
 ⟨some 106, some (105, true), .mv (.t 9), []⟩,
 ⟨some 107, some (105, true), .bin .eql (.t 106) (.c (.int .i64 2)), []⟩,
 ⟨some 108, none, .pick (.t 105) (.t 107) (.c (.bool false)), []⟩,
 ⟨some 109, none, .mv (.t 108), []⟩,
 ⟨some 110, some (109, true), .call 43 [.t 10], []⟩,
 ⟨some 111, some (109, true), .un .not (.t 110), []⟩,
 ⟨some 112, none, .pick (.t 109) (.t 111) (.c (.bool false)), []⟩,
 ⟨some 113, none, .mv (.t 112), []⟩,
 ⟨some 114, some (113, true), .call 47 [.t 10], []⟩,
 ⟨some 115, none, .pick (.t 113) (.t 114) (.c (.bool false)), []⟩,
 ⟨some 0, none, .mv (.t 115), []⟩])
 .ret))))))))))))⟩
theorem F41_code : cfgA.code 41 = some F41 := by kernel_rfl

/-- (*ticketline/ticket.Tries).Copy -/
noncomputable def F42 : AFn := ⟨9, [.tmp 2], (.seq
 (.ops 0 [⟨some 2, none, .mv (.c (.nilp)), []⟩])
 (.seq
 (.seq
 (.ops 1 [⟨some 4, none, .mv (.t 0), []⟩,
 ⟨some 5, none, .eqn .ptr false (.t 4), []⟩])
 (.cond (.t 5)
 (.seq
 (.ops 2 [⟨some 2, none, .mv (.c (.nilp)), []⟩])
 .ret)
 .skip))
 (.seq
 (.ops 3 [⟨some 6, none, .mv (.t 0), []⟩,
 ⟨some 7, none, .nilc (.t 6) (mok Tryz.prog), []⟩,
 ⟨some 8, none, .ld 2 true (.t 7), []⟩,
 ⟨some 3, none, .alloc [.int .i64 0, .int .i64 0] true, []⟩,
 ⟨none, none, .st 2 (.t 3) (.t 8), []⟩])
 (.seq
 (.ops 4 [⟨some 2, none, .mv (.t 3), []⟩])
 .ret))))⟩
theorem F42_code : cfgA.code 42 = some F42 := by kernel_rfl

/-- (*ticketline/ticket.Tries).Again -/
noncomputable def F43 : AFn := ⟨18, [.tmp 2], (.seq
 (.ops 0 [⟨some 2, none, .mv (.c (.bool false)), []⟩])
 (.seq
 (.seq
 (.ops 1 [⟨some 3, none, .mv (.t 0), []⟩,
 ⟨some 4, none, .eqn .ptr false (.t 3), []⟩,
 ⟨some 5, none, .mv (.t 4), []⟩,
 ⟨some 6, some (5, false), .mv (.t 0), []⟩,
 ⟨some 7, some (5, false), .call 47 [.t 6], []⟩,
 ⟨some 8, none, .pick (.t 5) (.c (.bool true)) (.t 7), []⟩])
 (.cond (.t 8)
 (.seq
 (.ops 2 [⟨some 2, none, .mv (.c (.bool false)), []⟩])
 .ret)
 .skip))
 (.seq
 (.ops 3 [⟨some 9, none, .mv (.t 0), []⟩,
 ⟨some 10, none, .nilc (.t 9) (mok Tryz.prog), []⟩,
 ⟨some 11, none, .fld 0 (.t 10), []⟩,
 ⟨some 12, none, .fld 1 (.t 11), []⟩,
 ⟨some 13, none, .ld 1 false (.t 12), []⟩,
 ⟨some 14, none, .bin .add (.t 13) (.c (.int .i64 1)), []⟩,
 ⟨some 15, none, .nilc (.t 9) (mok Tryz.prog), []⟩,
 ⟨some 16, none, .fld 0 (.t 15), []⟩,
 ⟨some 17, none, .fld 1 (.t 16), []⟩,
 ⟨none, none, .st 1 (.t 17) (.t 14), []⟩])
 (.seq
 (.ops 4 [⟨some 2, none, .mv (.c (.bool true)), []⟩])
 .ret))))⟩
theorem F43_code : cfgA.code 43 = some F43 := by kernel_rfl

/-- (*ticketline/ticket.Tries).Count -/
noncomputable def F45 : AFn := ⟨9, [.tmp 2], (.seq
 (.ops 0 [⟨some 2, none, .mv (.c (.int .i64 0)), []⟩])
 (.seq
 (.seq
 (.ops 1 [⟨some 3, none, .mv (.t 0), []⟩,
 ⟨some 4, none, .eqn .ptr false (.t 3), []⟩])
 (.cond (.t 4)
 (.seq
 (.ops 2 [⟨some 2, none, .mv (.c (.int .i64 0)), []⟩])
 .ret)
 .skip))
 (.seq
 (.ops 3 [⟨some 5, none, .mv (.t 0), []⟩,
 ⟨some 6, none, .nilc (.t 5) (mok Tryz.prog), []⟩,
 ⟨some 7, none, .fld 0 (.t 6), []⟩,
 ⟨some 8, none, .call 93 [.t 7], []⟩,
 ⟨some 2, none, .mv (.t 8), []⟩])
 .ret)))⟩
theorem F45_code : cfgA.code 45 = some F45 := by kernel_rfl

/-- (*ticketline/ticket.Tries).Left -/
noncomputable def F46 : AFn := ⟨9, [.tmp 2], (.seq
 (.ops 0 [⟨some 2, none, .mv (.c (.int .i64 0)), []⟩])
 (.seq
 (.seq
 (.ops 1 [⟨some 3, none, .mv (.t 0), []⟩,
 ⟨some 4, none, .eqn .ptr false (.t 3), []⟩])
 (.cond (.t 4)
 (.seq
 (.ops 2 [⟨some 2, none, .mv (.c (.int .i64 0)), []⟩])
 .ret)
 .skip))
 (.seq
 (.ops 3 [⟨some 5, none, .mv (.t 0), []⟩,
 ⟨some 6, none, .nilc (.t 5) (mok Tryz.prog), []⟩,
 ⟨some 7, none, .fld 0 (.t 6), []⟩,
 ⟨some 8, none, .call 94 [.t 7], []⟩,
 ⟨some 2, none, .mv (.t 8), []⟩])
 .ret)))⟩
theorem F46_code : cfgA.code 46 = some F46 := by kernel_rfl

/-- (*ticketline/ticket.Tries).Spent -/
noncomputable def F47 : AFn := ⟨11, [.tmp 2], (.seq
 (.ops 0 [⟨some 2, none, .mv (.c (.bool false)), []⟩])
 (.seq
 (.ops 1 [⟨some 3, none, .mv (.t 0), []⟩,
 ⟨some 4, none, .eqn .ptr false (.t 3), []⟩,
 ⟨some 5, none, .mv (.t 4), []⟩,
 ⟨some 6, some (5, false), .mv (.t 0), []⟩,
 ⟨some 7, some (5, false), .nilc (.t 6) (mok Tryz.prog), []⟩,
 ⟨some 8, some (5, false), .fld 0 (.t 7), []⟩,
 ⟨some 9, some (5, false), .call 95 [.t 8], []⟩,
 ⟨some 10, none, .pick (.t 5) (.c (.bool true)) (.t 9), []⟩,
 ⟨some 2, none, .mv (.t 10), []⟩])
 .ret))⟩
theorem F47_code : cfgA.code 47 = some F47 := by kernel_rfl

/-- (*ticketline/mem.Mem).Store -/
noncomputable def F48 : AFn := ⟨18, [.tmp 6], (.seq
 (.ops 0 [⟨some 6, none, .mv (.c (.int .i64 0)), []⟩])
 (.seq
 (.ops 1 [⟨some 10, none, .mv (.t 0), []⟩,
 ⟨some 11, none, .mv (.t 1), []⟩,
 ⟨some 12, none, .mv (.t 2), []⟩,
 ⟨some 13, none, .build [.int .i64 0, .int .i64 0, .int .u64 0, .int .u64 0] [(0, 1, (.c (.int .i64 2))), (1, 1, (.t 11)), (3, 1, (.t 12))], []⟩,
 ⟨some 14, none, .call 96 [.t 10, .t 13], []⟩,
 ⟨some 9, none, .mv (.t 14), []⟩,
 ⟨some 15, none, .ext (.t 9) 0, []⟩,
 ⟨some 16, none, .ext (.t 9) 1, []⟩,
 ⟨some 7, none, .alloc [.int .i64 0, .int .i64 0, .int .u64 0, .int .u64 0] false, []⟩,
 ⟨none, none, .st 4 (.t 7) (.t 15), []⟩,
 ⟨some 8, none, .mv (.t 16), []⟩])
 (.seq
 (.ops 2 [⟨some 17, none, .mv (.t 8), []⟩,
 ⟨some 6, none, .mv (.t 17), []⟩])
 .ret)))⟩
theorem F48_code : cfgA.code 48 = some F48 := by kernel_rfl

/-- ticketline/ticket.NewDraw -/
noncomputable def F49 : AFn := ⟨59, [.tmp 4, .tmp 5], (.seq
 (.ops 0 [⟨some 2, none, .box 2 (.t 0) false, []⟩,
 ⟨some 4, none, .mv (.c (.nilp)), []⟩,
 ⟨some 5, none, .mv (.c (.int .i64 0)), []⟩])
 (.seq
 (.ops 1 [⟨some 13, none, .ld 2 true (.t 2), []⟩,
 ⟨some 14, none, .call 84 [.t 13], []⟩,
 ⟨some 12, none, .mv (.t 14), []⟩,
 ⟨some 15, none, .ext (.t 12) 0, []⟩,
 ⟨some 16, none, .ext (.t 12) 1, []⟩,
 ⟨some 6, none, .mv (.t 15), []⟩,
 ⟨some 7, none, .mv (.t 16), []⟩])
 (.seq
 (.seq
 (.ops 2 [⟨some 17, none, .mv (.t 7), []⟩,
 ⟨some 18, none, .bin .neq (.t 17) (.c (.int .i64 0)), []⟩,
 ⟨some 19, none, .mv (.t 18), []⟩,
 ⟨some 20, some (19, false), .mv (.t 1), []⟩,
 ⟨some 21, some (19, false), .bin .lss (.t 20) (.c (.int .i64 0)), []⟩,
 ⟨some 22, none, .pick (.t 19) (.c (.bool true)) (.t 21), []⟩,
 ⟨some 23, none, .mv (.t 22), []⟩,
 ⟨some 24, some (23, false), .mv (.t 1), []⟩,
 ⟨some 25, some (23, false), .fld 1 (.t 2), []⟩,
 ⟨some 26, some (23, false), .ld 1 false (.t 25), []⟩,
 ⟨some 27, some (23, false), .bin .geq (.t 24) (.t 26), []⟩,
 ⟨some 28, none, .pick (.t 23) (.c (.bool true)) (.t 27), []⟩])
 (.cond (.t 28)
 (.seq
 (.ops 3 [⟨some 4, none, .mv (.c (.nilp)), []⟩,
 ⟨some 5, none, .mv (.c (.int .i64 2)), []⟩])
 .ret)
 .skip))
 (.seq
 (.ops 4 [⟨some 30, none, .mv (.t 6), []⟩,
 ⟨some 31, none, .mv (.t 1), []⟩,
 ⟨some 32, none, .call 97 [.t 30, .t 31, .c (.int .i64 0)], []⟩,
 ⟨some 29, none, .mv (.t 32), []⟩,
 ⟨some 33, none, .ext (.t 29) 0, []⟩,
 ⟨some 34, none, .ext (.t 29) 1, []⟩,
 ⟨some 8, none, .mv (.t 33), []⟩,
 ⟨some 9, none, .mv (.t 34), []⟩])
 (.seq
 (.ops 5 [⟨some 36, none, .mv (.t 6), []⟩,
 ⟨some 37, none, .mv (.t 8), []⟩,
 ⟨some 38, none, .call 98 [.t 36, .c (.int .i64 5), .t 37], []⟩,
 ⟨some 35, none, .mv (.t 38), []⟩,
 ⟨some 39, none, .ext (.t 35) 0, []⟩,
 ⟨some 40, none, .ext (.t 35) 1, []⟩,
 ⟨some 10, none, .mv (.t 39), []⟩,
 ⟨some 7, none, .mv (.t 40), []⟩])
 (.seq
 (.seq
 (.ops 6 [⟨some 41, none, .mv (.t 7), []⟩,
 ⟨some 42, none, .bin .neq (.t 41) (.c (.int .i64 0)), []⟩])
 (.cond (.t 42)
 (.seq
 (.ops 7 [⟨some 43, none, .mv (.t 7), []⟩,
 ⟨some 4, none, .mv (.c (.nilp)), []⟩,
 ⟨some 5, none, .mv (.t 43), []⟩])
 .ret)
 .skip))
 (.seq
 (.ops 8 [⟨some 45, none, .mv (.t 6), []⟩,
 ⟨some 46, none, .mv (.t 8), []⟩,
 ⟨some 47, none, .call 99 [.t 45, .c (.int .i64 5), .t 46], []⟩,
 ⟨some 44, none, .mv (.t 47), []⟩,
 ⟨some 48, none, .ext (.t 44) 0, []⟩,
 ⟨some 49, none, .ext (.t 44) 1, []⟩,
 ⟨some 11, none, .mv (.t 48), []⟩,
 ⟨some 7, none, .mv (.t 49), []⟩])
 (.seq
 (.seq
 (.ops 9 [⟨some 50, none, .mv (.t 7), []⟩,
 ⟨some 51, none, .bin .neq (.t 50) (.c (.int .i64 0)), []⟩])
 (.cond (.t 51)
 (.seq
 (.ops 10 [⟨some 52, none, .mv (.t 7), []⟩,
 ⟨some 4, none, .mv (.c (.nilp)), []⟩,
 ⟨some 5, none, .mv (.t 52), []⟩])
 .ret)
 .skip))
 (.seq
 (.ops 11 [⟨some 53, none, .mv (.t 10), []⟩,
 ⟨some 54, none, .mki 156 (.t 53), []⟩,
 ⟨some 55, none, .mv (.t 11), []⟩,
 ⟨some 56, none, .mki 159 (.t 55), []⟩,
 ⟨some 57, none, .build [.int .i64 0, .nili, .nili, .int .u64 0] [(0, 1, (.c (.int .i64 1))), (1, 1, (.t 54)), (2, 1, (.t 56))], []⟩,
 ⟨some 58, none, .box 4 (.t 57) true, []⟩,
 ⟨some 4, none, .mv (.t 58), []⟩,
 ⟨some 5, none, .mv (.c (.int .i64 0)), []⟩])
 .ret)))))))))⟩
theorem F49_code : cfgA.code 49 = some F49 := by kernel_rfl

/-- ticketline/ticketlinelaw32.draws -/
noncomputable def F50 : AFn := ⟨43, [.tmp 8], (.seq
 (.ops 0 [⟨some 4, none, .box 2 (.t 0) false, []⟩,
 ⟨some 8, none, .mv (.c (.bool false)), []⟩])
 (.seq
 (.ops 1 [⟨some 14, none, .ld 2 true (.t 4), []⟩,
 ⟨some 15, none, .mv (.t 2), []⟩,
 ⟨some 16, none, .call 49 [.t 14, .t 15], []⟩,
 ⟨some 13, none, .mv (.t 16), []⟩,
 ⟨some 17, none, .ext (.t 13) 0, []⟩,
 ⟨some 18, none, .ext (.t 13) 1, []⟩,
 ⟨some 9, none, .mv (.t 17), []⟩,
 ⟨some 10, none, .mv (.t 18), []⟩])
 (.seq
 (.seq
 (.ops 2 [⟨some 19, none, .mv (.t 9), []⟩,
 ⟨some 20, none, .eqn .ptr false (.t 19), []⟩,
 ⟨some 21, none, .mv (.t 20), []⟩,
 ⟨some 22, some (21, false), .mv (.t 10), []⟩,
 ⟨some 23, some (21, false), .bin .neq (.t 22) (.c (.int .i64 0)), []⟩,
 ⟨some 24, none, .pick (.t 21) (.c (.bool true)) (.t 23), []⟩])
 (.cond (.t 24)
 (.seq
 (.ops 3 [⟨some 8, none, .mv (.c (.bool false)), []⟩])
 .ret)
 .skip))
 (.seq
 (.ops 4 [⟨some 26, none, .mv (.t 9), []⟩,
 ⟨some 27, none, .mki 96 (.t 26), []⟩,
 ⟨some 28, none, .mv (.t 1), []⟩,
 ⟨some 29, none, .call 59 [.t 27, .t 28, .c (.int .i64 60)], []⟩,
 ⟨some 25, none, .mv (.t 29), []⟩,
 ⟨some 30, none, .ext (.t 25) 0, []⟩,
 ⟨some 31, none, .ext (.t 25) 1, []⟩,
 ⟨some 11, none, .mv (.t 30), []⟩,
 ⟨some 12, none, .mv (.t 31), []⟩])
 (.seq
 (.ops 5 [⟨some 32, none, .mv (.t 11), []⟩,
 ⟨some 33, none, .mv (.t 32), []⟩,
 ⟨some 34, some (33, true), .mv (.t 12), []⟩,
 ⟨some 35, some (33, true), .un .not (.t 34), []⟩,
 ⟨some 36, none, .pick (.t 33) (.t 35) (.c (.bool false)), []⟩,
 ⟨some 37, none, .mv (.t 36), []⟩,
 ⟨some 38, some (37, true), .mv (.t 9), []⟩,
 ⟨some 39, some (37, true), .call 56 [.t 38], []⟩,
 ⟨some 40, some (37, true), .mv (.t 3), []⟩,
 ⟨some 41, some (37, true), .bin .eql (.t 39) (.t 40), []⟩,
 ⟨some 42, none, .pick (.t 37) (.t 41) (.c (.bool false)), []⟩,
 ⟨some 8, none, .mv (.t 42), []⟩])
 .ret)))))⟩
theorem F50_code : cfgA.code 50 = some F50 := by kernel_rfl

/-- (*ticketline/mem.Mem).Load -/
noncomputable def F52 : AFn := ⟨18, [.tmp 4, .tmp 5], (.seq
 (.ops 0 [⟨some 4, none, .mv (.c (.int .u64 0)), []⟩,
 ⟨some 5, none, .mv (.c (.int .i64 0)), []⟩])
 (.seq
 (.ops 1 [⟨some 9, none, .mv (.t 0), []⟩,
 ⟨some 10, none, .mv (.t 1), []⟩,
 ⟨some 11, none, .build [.int .i64 0, .int .i64 0, .int .u64 0, .int .u64 0] [(0, 1, (.c (.int .i64 1))), (1, 1, (.t 10))], []⟩,
 ⟨some 12, none, .call 96 [.t 9, .t 11], []⟩,
 ⟨some 8, none, .mv (.t 12), []⟩,
 ⟨some 13, none, .ext (.t 8) 0, []⟩,
 ⟨some 14, none, .ext (.t 8) 1, []⟩,
 ⟨some 6, none, .alloc [.int .i64 0, .int .i64 0, .int .u64 0, .int .u64 0] false, []⟩,
 ⟨none, none, .st 4 (.t 6) (.t 13), []⟩,
 ⟨some 7, none, .mv (.t 14), []⟩])
 (.seq
 (.ops 2 [⟨some 15, none, .fld 2 (.t 6), []⟩,
 ⟨some 16, none, .ld 1 false (.t 15), []⟩,
 ⟨some 17, none, .mv (.t 7), []⟩,
 ⟨some 4, none, .mv (.t 16), []⟩,
 ⟨some 5, none, .mv (.t 17), []⟩])
 .ret)))⟩
theorem F52_code : cfgA.code 52 = some F52 := by kernel_rfl

/-- ticketline/ticketlinelaw32.TicketRaces$1 -/
noncomputable def F53 : AFn := ⟨93, [.tmp 9, .tmp 10, .tmp 11], (.seq
 (.ops 0 [⟨some 9, none, .mv (.c (.bool false)), []⟩,
 ⟨some 10, none, .mv (.c (.bool false)), []⟩,
 ⟨some 11, none, .mv (.c (.bool false)), []⟩])
 (.seq
 (.seq
 (.ops 1 [⟨some 15, none, .ld 1 false (.t 1), []⟩,
 ⟨some 16, none, .mv (.t 0), []⟩,
 ⟨some 17, none, .ixa none 1 (.t 15) (.t 16), []⟩,
 ⟨some 18, none, .ld 1 false (.t 17), []⟩,
 ⟨some 19, none, .eqn .ptr false (.t 18), []⟩])
 (.cond (.t 19)
 (.seq
 (.seq
 (.ops 2 [⟨some 20, none, .ld 1 false (.t 2), []⟩,
 ⟨some 21, none, .mv (.t 0), []⟩,
 ⟨some 22, none, .ixa none 1 (.t 20) (.t 21), []⟩,
 ⟨some 23, none, .ld 1 false (.t 22), []⟩,
 ⟨some 24, none, .bin .eql (.t 23) (.c (.int .i64 0)), []⟩])
 (.cond (.t 24)
 (.seq
 (.ops 3 [⟨some 9, none, .mv (.c (.bool false)), []⟩,
 ⟨some 10, none, .mv (.c (.bool false)), []⟩,
 ⟨some 11, none, .mv (.c (.bool false)), []⟩])
 .ret)
 .skip))
 (.seq
 (.ops 4 [⟨some 26, none, .ld 2 true (.t 3), []⟩,
 ⟨some 27, none, .mv (.t 0), []⟩,
 ⟨some 28, none, .call 49 [.t 26, .t 27], []⟩,
 ⟨some 25, none, .mv (.t 28), []⟩,
 ⟨some 29, none, .ext (.t 25) 0, []⟩,
 ⟨some 30, none, .ext (.t 25) 1, []⟩,
 ⟨some 12, none, .mv (.t 29), []⟩,
 ⟨some 13, none, .mv (.t 30), []⟩])
 (.seq
 (.seq
 (.ops 5 [⟨some 31, none, .mv (.t 12), []⟩,
 ⟨some 32, none, .eqn .ptr false (.t 31), []⟩,
 ⟨some 33, none, .mv (.t 32), []⟩,
 ⟨some 34, some (33, false), .mv (.t 13), []⟩,
 ⟨some 35, some (33, false), .bin .neq (.t 34) (.c (.int .i64 0)), []⟩,
 ⟨some 36, none, .pick (.t 33) (.c (.bool true)) (.t 35), []⟩])
 (.cond (.t 36)
 (.seq
 (.ops 6 [⟨some 9, none, .mv (.c (.bool false)), []⟩,
 ⟨some 10, none, .mv (.c (.bool false)), []⟩,
 ⟨some 11, none, .mv (.c (.bool true)), []⟩])
 .ret)
 .skip))
 (.seq
 (.ops 7 [⟨some 37, none, .ld 1 false (.t 1), []⟩,
 ⟨some 38, none, .mv (.t 0), []⟩,
 ⟨some 39, none, .mv (.t 12), []⟩,
 ⟨some 40, none, .ixa none 1 (.t 37) (.t 38), []⟩,
 ⟨none, none, .st 1 (.t 40) (.t 39), []⟩])
 (.ops 8 [⟨some 41, none, .ld 1 false (.t 2), []⟩,
 ⟨some 42, none, .mv (.t 0), []⟩,
 ⟨some 43, none, .ixa none 1 (.t 41) (.t 42), []⟩,
 ⟨some 44, none, .ld 1 false (.t 43), []⟩,
 ⟨some 45, none, .bin .sub (.t 44) (.c (.int .i64 1)), []⟩,
 ⟨some 46, none, .ixa none 1 (.t 41) (.t 42), []⟩,
 ⟨none, none, .st 1 (.t 46) (.t 45), []⟩])))))
 .skip))
 (.seq
 (.ops 9 [⟨some 48, none, .ld 1 false (.t 1), []⟩,
 ⟨some 49, none, .mv (.t 0), []⟩,
 ⟨some 50, none, .ixa none 1 (.t 48) (.t 49), []⟩,
 ⟨some 51, none, .ld 1 false (.t 50), []⟩,
 ⟨some 52, none, .mki 96 (.t 51), []⟩,
 ⟨some 53, none, .ld 1 false (.t 4), []⟩,
 ⟨some 54, none, .call 54 [.t 52, .t 53], []⟩,
 ⟨some 47, none, .mv (.t 54), []⟩,
 ⟨some 55, none, .ext (.t 47) 0, []⟩,
 ⟨some 56, none, .ext (.t 47) 1, []⟩,
 ⟨some 9, none, .mv (.t 55), []⟩,
 ⟨some 11, none, .mv (.t 56), []⟩])
 (.seq
 (.seq
 (.ops 10 [⟨some 57, none, .ld 1 false (.t 1), []⟩,
 ⟨some 58, none, .mv (.t 0), []⟩,
 ⟨some 59, none, .ixa none 1 (.t 57) (.t 58), []⟩,
 ⟨some 60, none, .ld 1 false (.t 59), []⟩,
 ⟨some 61, none, .call 55 [.t 60], []⟩])
 (.cond (.t 61)
 (.seq
 (.ops 11 [⟨some 62, none, .ld 1 false (.t 1), []⟩,
 ⟨some 63, none, .mv (.t 0), []⟩,
 ⟨some 64, none, .ixa none 1 (.t 62) (.t 63), []⟩,
 ⟨some 65, none, .ld 1 false (.t 64), []⟩,
 ⟨some 66, none, .call 56 [.t 65], []⟩,
 ⟨some 14, none, .mv (.t 66), []⟩])
 (.seq
 (.ops 12 [⟨some 67, none, .mv (.t 11), []⟩,
 ⟨some 68, none, .mv (.t 67), []⟩,
 ⟨some 69, some (68, false), .ld 1 false (.t 5), []⟩,
 ⟨some 70, some (68, false), .mv (.t 14), []⟩,
 ⟨some 71, some (68, false), .lkp .int (.bool false) false (.t 69) (.t 70), []⟩,
 ⟨some 72, none, .pick (.t 68) (.c (.bool true)) (.t 71), []⟩,
 ⟨some 73, none, .mv (.t 72), []⟩,
 ⟨some 74, some (73, false), .mv (.t 14), []⟩,
 ⟨some 75, some (73, false), .bin .lss (.t 74) (.c (.int .u64 1)), []⟩,
 ⟨some 76, none, .pick (.t 73) (.c (.bool true)) (.t 75), []⟩,
 ⟨some 77, none, .mv (.t 76), []⟩,
 ⟨some 78, some (77, false), .mv (.t 14), []⟩,
 ⟨some 79, some (77, false), .ld 1 false (.t 6), []⟩,
 ⟨some 80, some (77, false), .cvi .u64 (.t 79), []⟩,
 ⟨some 81, some (77, false), .ld 1 false (.t 7), []⟩,
 ⟨some 82, some (77, false), .cvi .u64 (.t 81), []⟩,
 ⟨some 83, some (77, false), .bin .mul (.t 80) (.t 82), []⟩,
 ⟨some 84, some (77, false), .bin .gtr (.t 78) (.t 83), []⟩,
 ⟨some 85, none, .pick (.t 77) (.c (.bool true)) (.t 84), []⟩,
 ⟨some 11, none, .mv (.t 85), []⟩])
 (.seq
 (.ops 13 [⟨some 86, none, .ld 1 false (.t 5), []⟩,
 ⟨some 87, none, .mv (.t 14), []⟩,
 ⟨none, none, .mup .int (.t 86) (.t 87) (.c (.bool true)), []⟩])
 (.ops 14 [⟨some 88, none, .ld 1 false (.t 1), []⟩,
 ⟨some 89, none, .mv (.t 0), []⟩,
 ⟨some 90, none, .ixa none 1 (.t 88) (.t 89), []⟩,
 ⟨none, none, .st 1 (.t 90) (.c (.nilp)), []⟩]))))
 .skip))
 (.seq
 (.ops 15 [⟨some 91, none, .mv (.t 9), []⟩,
 ⟨some 92, none, .mv (.t 11), []⟩,
 ⟨some 9, none, .mv (.t 91), []⟩,
 ⟨some 10, none, .mv (.c (.bool true)), []⟩,
 ⟨some 11, none, .mv (.t 92), []⟩])
 .ret)))))⟩
theorem F53_code : cfgA.code 53 = some F53 := by kernel_rfl

/-- ticketline/ticketlinelaw32.step -/
noncomputable def F54 : AFn := ⟨25, [.tmp 4, .tmp 5], (.seq
 (.ops 0 [⟨some 4, none, .mv (.c (.bool false)), []⟩,
 ⟨some 5, none, .mv (.c (.bool false)), []⟩])
 (.seq
 (.ops 1 [⟨some 9, none, .mv (.t 1), []⟩,
 ⟨some 10, none, .call 101 [.t 9], []⟩,
 ⟨some 8, none, .mv (.t 10), []⟩,
 ⟨some 11, none, .ext (.t 8) 0, []⟩,
 ⟨some 12, none, .ext (.t 8) 1, []⟩,
 ⟨some 6, none, .mv (.t 11), []⟩,
 ⟨some 7, none, .mv (.t 12), []⟩])
 (.seq
 (.seq
 (.ops 2 [⟨some 13, none, .mv (.t 7), []⟩,
 ⟨some 14, none, .bin .neq (.t 13) (.c (.int .i64 0)), []⟩])
 (.cond (.t 14)
 (.seq
 (.ops 3 [⟨some 4, none, .mv (.c (.bool false)), []⟩,
 ⟨some 5, none, .mv (.c (.bool true)), []⟩])
 .ret)
 .skip))
 (.seq
 (.ops 4 [⟨some 16, none, .mv (.t 0), []⟩,
 ⟨some 17, none, .mv (.t 6), []⟩,
 ⟨some 18, none, .mki 162 (.t 17), []⟩,
 ⟨some 19, none, .invk (.t 16) "Step" [.t 18], []⟩,
 ⟨some 15, none, .mv (.t 19), []⟩,
 ⟨some 20, none, .ext (.t 15) 0, []⟩,
 ⟨some 21, none, .ext (.t 15) 1, []⟩,
 ⟨some 4, none, .mv (.t 20), []⟩,
 ⟨some 7, none, .mv (.t 21), []⟩])
 (.seq
 (.ops 5 [⟨some 22, none, .mv (.t 4), []⟩,
 ⟨some 23, none, .mv (.t 7), []⟩,
 ⟨some 24, none, .bin .neq (.t 23) (.c (.int .i64 0)), []⟩,
 ⟨some 4, none, .mv (.t 22), []⟩,
 ⟨some 5, none, .mv (.t 24), []⟩])
 .ret)))))⟩
theorem F54_code : cfgA.code 54 = some F54 := by kernel_rfl

/-- (*ticketline/ticket.Draw).Done -/
noncomputable def F55 : AFn := ⟨12, [.tmp 2], (.seq
 (.ops 0 [⟨some 2, none, .mv (.c (.bool false)), []⟩])
 (.seq
 (.ops 1 [⟨some 3, none, .mv (.t 0), []⟩,
 ⟨some 4, none, .call 102 [.t 3], []⟩,
 ⟨some 5, none, .mv (.t 4), []⟩,
 ⟨some 6, some (5, false), .mv (.t 0), []⟩,
 ⟨some 7, some (5, false), .nilc (.t 6) (mok Tryz.prog), []⟩,
 ⟨some 8, some (5, false), .fld 0 (.t 7), []⟩,
 ⟨some 9, some (5, false), .ld 1 false (.t 8), []⟩,
 ⟨some 10, some (5, false), .bin .eql (.t 9) (.c (.int .i64 5)), []⟩,
 ⟨some 11, none, .pick (.t 5) (.c (.bool true)) (.t 10), []⟩,
 ⟨some 2, none, .mv (.t 11), []⟩])
 .ret))⟩
theorem F55_code : cfgA.code 55 = some F55 := by kernel_rfl

/-- (*ticketline/ticket.Draw).Result -/
noncomputable def F56 : AFn := ⟨9, [.tmp 2], (.seq
 (.ops 0 [⟨some 2, none, .mv (.c (.int .u64 0)), []⟩])
 (.seq
 (.seq
 (.ops 1 [⟨some 3, none, .mv (.t 0), []⟩,
 ⟨some 4, none, .call 103 [.t 3], []⟩])
 (.cond (.t 4)
 (.seq
 (.ops 2 [⟨some 5, none, .mv (.t 0), []⟩,
 ⟨some 6, none, .nilc (.t 5) (mok Tryz.prog), []⟩,
 ⟨some 7, none, .fld 3 (.t 6), []⟩,
 ⟨some 8, none, .ld 1 false (.t 7), []⟩,
 ⟨some 2, none, .mv (.t 8), []⟩])
 .ret)
 .skip))
 (.seq
 (.ops 3 [⟨some 2, none, .mv (.c (.int .u64 0)), []⟩])
 .ret)))⟩
theorem F56_code : cfgA.code 56 = some F56 := by kernel_rfl

/-- (*ticketline/ticket.Draw).Step -/
noncomputable def F57 : AFn := ⟨99, [.tmp 4, .tmp 5], (.seq
 (.ops 0 [⟨some 4, none, .mv (.c (.bool false)), []⟩,
 ⟨some 5, none, .mv (.c (.int .i64 0)), []⟩])
 (.seq
 (.seq
 (.ops 1 [⟨some 11, none, .mv (.t 0), []⟩,
 ⟨some 12, none, .call 102 [.t 11], []⟩,
 ⟨some 13, none, .mv (.t 12), []⟩,
 ⟨some 14, some (13, false), .mv (.t 1), []⟩,
 ⟨some 15, some (13, false), .eqn .iface false (.t 14), []⟩,
 ⟨some 16, none, .pick (.t 13) (.c (.bool true)) (.t 15), []⟩])
 (.cond (.t 16)
 (.seq
 (.ops 2 [⟨some 4, none, .mv (.c (.bool false)), []⟩,
 ⟨some 5, none, .mv (.c (.int .i64 1)), []⟩])
 .ret)
 .skip))
 (.seq
 (.seq
 (.ops 3 [⟨some 17, none, .mv (.t 0), []⟩,
 ⟨some 18, none, .nilc (.t 17) (mok Tryz.prog), []⟩,
 ⟨some 19, none, .fld 0 (.t 18), []⟩,
 ⟨some 20, none, .ld 1 false (.t 19), []⟩])
 (.block 0
 (.seq
 (.ops 4 [⟨some 22, none, .bin .eql (.t 20) (.c (.int .i64 2)), []⟩,
 ⟨some 21, none, .mv (.t 22), []⟩])
 (.cond (.t 21)
 (.seq
 (.ops 5 [⟨some 24, none, .mv (.t 1), []⟩,
 ⟨some 25, none, .invk (.t 24) "Load" [.c (.int .i64 7)], []⟩,
 ⟨some 23, none, .mv (.t 25), []⟩,
 ⟨some 26, none, .ext (.t 23) 0, []⟩,
 ⟨some 27, none, .ext (.t 23) 1, []⟩,
 ⟨some 6, none, .mv (.t 26), []⟩,
 ⟨some 7, none, .mv (.t 27), []⟩])
 (.seq
 (.seq
 (.ops 6 [⟨some 28, none, .mv (.t 7), []⟩,
 ⟨some 29, none, .bin .eql (.t 28) (.c (.int .i64 0)), []⟩])
 (.cond (.t 29)
 (.ops 7 [⟨some 30, none, .mv (.t 0), []⟩,
 ⟨some 31, none, .mv (.t 0), []⟩,
 ⟨some 32, none, .mv (.t 6), []⟩,
 ⟨some 33, none, .bin .add (.t 32) (.c (.int .u64 1)), []⟩,
 ⟨some 34, none, .nilc (.t 30) (mok Tryz.prog), []⟩,
 ⟨some 35, none, .fld 3 (.t 34), []⟩,
 ⟨none, none, .st 1 (.t 35) (.t 33), []⟩,
 ⟨some 36, none, .nilc (.t 31) (mok Tryz.prog), []⟩,
 ⟨some 37, none, .fld 0 (.t 36), []⟩,
 ⟨none, none, .st 1 (.t 37) (.c (.int .i64 3)), []⟩])
 .skip))
 (.seq
 (.ops 8 [⟨some 38, none, .mv (.t 7), []⟩,
 ⟨some 4, none, .mv (.c (.bool false)), []⟩,
 ⟨some 5, none, .mv (.t 38), []⟩])
 .ret)))
 (.seq
 (.ops 9 [⟨some 40, none, .bin .eql (.t 20) (.c (.int .i64 3)), []⟩,
 ⟨some 39, none, .mv (.t 40), []⟩])
 (.cond (.t 39)
 (.seq
 (.ops 10 [⟨some 41, none, .mv (.t 1), []⟩,
 ⟨some 42, none, .mv (.t 0), []⟩,
 ⟨some 43, none, .nilc (.t 42) (mok Tryz.prog), []⟩,
 ⟨some 44, none, .fld 3 (.t 43), []⟩,
 ⟨some 45, none, .ld 1 false (.t 44), []⟩,
 ⟨some 46, none, .mkv "Store" (.t 41), []⟩,
 ⟨some 47, none, .nilc (.t 46) (mok Tryz.prog), []⟩,
 ⟨some 48, none, .mv (.t 41), []⟩,
 ⟨some 49, none, .invk (.t 48) "Store" [.c (.int .i64 7), .t 45], []⟩,
 ⟨some 8, none, .mv (.t 49), []⟩])
 (.seq
 (.seq
 (.ops 11 [⟨some 50, none, .mv (.t 8), []⟩,
 ⟨some 51, none, .bin .eql (.t 50) (.c (.int .i64 0)), []⟩])
 (.cond (.t 51)
 (.ops 12 [⟨some 52, none, .mv (.t 0), []⟩,
 ⟨some 53, none, .mv (.t 0), []⟩,
 ⟨some 54, none, .mv (.t 0), []⟩,
 ⟨some 55, none, .nilc (.t 54) (mok Tryz.prog), []⟩,
 ⟨some 56, none, .fld 2 (.t 55), []⟩,
 ⟨some 57, none, .ld 1 false (.t 56), []⟩,
 ⟨some 58, none, .nilc (.t 52) (mok Tryz.prog), []⟩,
 ⟨some 59, none, .fld 1 (.t 58), []⟩,
 ⟨none, none, .st 1 (.t 59) (.t 57), []⟩,
 ⟨some 60, none, .nilc (.t 53) (mok Tryz.prog), []⟩,
 ⟨some 61, none, .fld 0 (.t 60), []⟩,
 ⟨none, none, .st 1 (.t 61) (.c (.int .i64 4)), []⟩])
 .skip))
 (.seq
 (.ops 13 [⟨some 62, none, .mv (.t 8), []⟩,
 ⟨some 4, none, .mv (.c (.bool false)), []⟩,
 ⟨some 5, none, .mv (.t 62), []⟩])
 .ret)))
 (.seq
 (.ops 14 [⟨some 64, none, .bin .eql (.t 20) (.c (.int .i64 5)), []⟩,
 ⟨some 63, none, .mv (.t 64), []⟩])
 (.cond (.t 63)
 (.seq
 (.ops 15 [⟨some 4, none, .mv (.c (.bool false)), []⟩,
 ⟨some 5, none, .mv (.c (.int .i64 17)), []⟩])
 .ret)
 .skip))))))))
 (.seq
 (.ops 16 [⟨some 66, none, .mv (.t 0), []⟩,
 ⟨some 67, none, .nilc (.t 66) (mok Tryz.prog), []⟩,
 ⟨some 68, none, .fld 1 (.t 67), []⟩,
 ⟨some 69, none, .ld 1 false (.t 68), []⟩,
 ⟨some 70, none, .mv (.t 1), []⟩,
 ⟨some 71, none, .invk (.t 69) "Step" [.t 70], []⟩,
 ⟨some 65, none, .mv (.t 71), []⟩,
 ⟨some 72, none, .ext (.t 65) 0, []⟩,
 ⟨some 73, none, .ext (.t 65) 1, []⟩,
 ⟨some 9, none, .mv (.t 72), []⟩,
 ⟨some 10, none, .mv (.t 73), []⟩])
 (.seq
 (.block 1
 (.seq
 (.ops 18 [⟨some 78, none, .mv (.t 10), []⟩,
 ⟨some 79, none, .bin .neq (.t 78) (.c (.int .i64 0)), []⟩,
 ⟨some 80, none, .mv (.t 79), []⟩,
 ⟨some 81, some (80, false), .mv (.t 0), []⟩,
 ⟨some 82, some (80, false), .nilc (.t 81) (mok Tryz.prog), []⟩,
 ⟨some 83, some (80, false), .fld 1 (.t 82), []⟩,
 ⟨some 84, some (80, false), .ld 1 false (.t 83), []⟩,
 ⟨some 85, some (80, false), .invk (.t 84) "Done" [], []⟩,
 ⟨some 86, some (80, false), .un .not (.t 85), []⟩,
 ⟨some 87, none, .pick (.t 80) (.c (.bool true)) (.t 86), []⟩,
 ⟨some 77, none, .mv (.t 87), []⟩])
 (.cond (.t 77)
 .skip
 (.seq
 (.ops 19 [⟨some 89, none, .mv (.t 0), []⟩,
 ⟨some 90, none, .nilc (.t 89) (mok Tryz.prog), []⟩,
 ⟨some 91, none, .fld 0 (.t 90), []⟩,
 ⟨some 92, none, .ld 1 false (.t 91), []⟩,
 ⟨some 93, none, .bin .eql (.t 92) (.c (.int .i64 1)), []⟩,
 ⟨some 88, none, .mv (.t 93), []⟩])
 (.cond (.t 88)
 (.ops 20 [⟨some 94, none, .mv (.t 0), []⟩,
 ⟨some 95, none, .nilc (.t 94) (mok Tryz.prog), []⟩,
 ⟨some 96, none, .fld 0 (.t 95), []⟩,
 ⟨none, none, .st 1 (.t 96) (.c (.int .i64 2)), []⟩])
 (.ops 17 [⟨some 74, none, .mv (.t 0), []⟩,
 ⟨some 75, none, .nilc (.t 74) (mok Tryz.prog), []⟩,
 ⟨some 76, none, .fld 0 (.t 75), []⟩,
 ⟨none, none, .st 1 (.t 76) (.c (.int .i64 5)), []⟩]))))))
 (.seq
 (.ops 21 [⟨some 97, none, .mv (.t 9), []⟩,
 ⟨some 98, none, .mv (.t 10), []⟩,
 ⟨some 4, none, .mv (.t 97), []⟩,
 ⟨some 5, none, .mv (.t 98), []⟩])
 .ret))))))⟩
theorem F57_code : cfgA.code 57 = some F57 := by kernel_rfl

/-- (*ticketline/ticket.Draw).Copy -/
noncomputable def F58 : AFn := ⟨22, [.tmp 2], (.seq
 (.ops 0 [⟨some 2, none, .mv (.c (.nili)), []⟩])
 (.seq
 (.seq
 (.ops 1 [⟨some 4, none, .mv (.t 0), []⟩,
 ⟨some 5, none, .call 102 [.t 4], []⟩])
 (.cond (.t 5)
 (.seq
 (.ops 2 [⟨some 2, none, .mv (.c (.nili)), []⟩])
 .ret)
 .skip))
 (.seq
 (.ops 3 [⟨some 6, none, .mv (.t 0), []⟩,
 ⟨some 7, none, .nilc (.t 6) (mok Tryz.prog), []⟩,
 ⟨some 8, none, .ld 4 true (.t 7), []⟩,
 ⟨some 3, none, .alloc [.int .i64 0, .nili, .nili, .int .u64 0] true, []⟩,
 ⟨none, none, .st 4 (.t 3) (.t 8), []⟩])
 (.seq
 (.ops 4 [⟨some 9, none, .mv (.t 0), []⟩,
 ⟨some 10, none, .nilc (.t 9) (mok Tryz.prog), []⟩,
 ⟨some 11, none, .fld 1 (.t 10), []⟩,
 ⟨some 12, none, .ld 1 false (.t 11), []⟩,
 ⟨some 14, none, .mv (.t 0), []⟩,
 ⟨some 15, none, .nilc (.t 14) (mok Tryz.prog), []⟩,
 ⟨some 16, none, .fld 2 (.t 15), []⟩,
 ⟨some 17, none, .ld 1 false (.t 16), []⟩,
 ⟨some 13, none, .invk (.t 12) "Copy" [], [(17, .ld 1 false (.t 16))]⟩,
 ⟨some 18, none, .invk (.t 17) "Copy" [], []⟩,
 ⟨some 19, none, .fld 1 (.t 3), []⟩,
 ⟨none, none, .st 1 (.t 19) (.t 13), []⟩,
 ⟨some 20, none, .fld 2 (.t 3), []⟩,
 ⟨none, none, .st 1 (.t 20) (.t 18), []⟩])
 (.seq
 (.ops 5 [⟨some 21, none, .mki 96 (.t 3), []⟩,
 ⟨some 2, none, .mv (.t 21), []⟩])
 .ret)))))⟩
theorem F58_code : cfgA.code 58 = some F58 := by kernel_rfl

/-- ticketline/ticketlinelaw32.run: the round 0 -/
@[reducible] noncomputable def B59x0 : AC := (.seq
 (.seq
 (.ops 2 [⟨some 11, none, .mv (.t 8), []⟩,
 ⟨some 12, none, .mv (.t 2), []⟩,
 ⟨some 13, none, .bin .lss (.t 11) (.t 12), []⟩,
 ⟨some 14, none, .mv (.t 13), []⟩,
 ⟨some 15, some (14, true), .mv (.t 0), []⟩,
 ⟨some 16, some (14, true), .invk (.t 15) "Done" [], []⟩,
 ⟨some 17, some (14, true), .un .not (.t 16), []⟩,
 ⟨some 18, none, .pick (.t 14) (.t 17) (.c (.bool false)), []⟩])
 (.cond (.t 18)
 .skip
 (.exit 0)))
 (.seq
 (.block 1
 (.seq
 (.ops 4 [⟨some 22, none, .mv (.t 0), []⟩,
 ⟨some 23, none, .mv (.t 1), []⟩,
 ⟨some 24, none, .call 54 [.t 22, .t 23], []⟩,
 ⟨some 21, none, .mv (.t 24), []⟩,
 ⟨some 25, none, .ext (.t 21) 0, []⟩,
 ⟨some 26, none, .ext (.t 21) 1, []⟩,
 ⟨some 9, none, .mv (.t 25), []⟩,
 ⟨some 10, none, .mv (.t 26), []⟩])
 (.seq
 (.seq
 (.ops 5 [⟨some 27, none, .mv (.t 10), []⟩])
 (.cond (.t 27)
 (.seq
 (.ops 6 [⟨some 6, none, .mv (.c (.bool false)), []⟩,
 ⟨some 7, none, .mv (.c (.bool false)), []⟩])
 .ret)
 .skip))
 (.ops 7 [⟨some 28, none, .mv (.t 9), []⟩,
 ⟨some 7, none, .mv (.t 28), []⟩]))))
 (.ops 3 [⟨some 19, none, .mv (.t 8), []⟩,
 ⟨some 20, none, .bin .add (.t 19) (.c (.int .i64 1)), []⟩,
 ⟨some 8, none, .mv (.t 20), []⟩])))

/-- ticketline/ticketlinelaw32.run -/
noncomputable def F59 : AFn := ⟨32, [.tmp 6, .tmp 7], (.seq
 (.ops 0 [⟨some 6, none, .mv (.c (.bool false)), []⟩,
 ⟨some 7, none, .mv (.c (.bool false)), []⟩])
 (.seq
 (.seq
 (.ops 1 [⟨some 8, none, .mv (.c (.int .i64 0)), []⟩])
 (.block 0
 (.loop [] B59x0)))
 (.seq
 (.ops 8 [⟨some 29, none, .mv (.t 0), []⟩,
 ⟨some 30, none, .invk (.t 29) "Done" [], []⟩,
 ⟨some 31, none, .mv (.t 7), []⟩,
 ⟨some 6, none, .mv (.t 30), []⟩,
 ⟨some 7, none, .mv (.t 31), []⟩])
 .ret)))⟩
theorem F59_code : cfgA.code 59 = some F59 := by kernel_rfl

/-- ticketline/ticketlinelaw32.made -/
noncomputable def F60 : AFn := ⟨13, [.tmp 2], (.seq
 (.ops 0 [⟨some 2, none, .mv (.c (.nilp)), []⟩])
 (.seq
 (.ops 1 [⟨some 6, none, .mv (.t 0), []⟩,
 ⟨some 7, none, .call 40 [.t 6], []⟩,
 ⟨some 5, none, .mv (.t 7), []⟩,
 ⟨some 8, none, .ext (.t 5) 0, []⟩,
 ⟨some 9, none, .ext (.t 5) 1, []⟩,
 ⟨some 3, none, .mv (.t 8), []⟩,
 ⟨some 4, none, .mv (.t 9), []⟩])
 (.seq
 (.seq
 (.ops 2 [⟨some 10, none, .mv (.t 4), []⟩,
 ⟨some 11, none, .bin .neq (.t 10) (.c (.int .i64 0)), []⟩])
 (.cond (.t 11)
 (.seq
 (.ops 3 [⟨some 2, none, .mv (.c (.nilp)), []⟩])
 .ret)
 .skip))
 (.seq
 (.ops 4 [⟨some 12, none, .mv (.t 3), []⟩,
 ⟨some 2, none, .mv (.t 12), []⟩])
 .ret))))⟩
theorem F60_code : cfgA.code 60 = some F60 := by kernel_rfl

/-- ticketline/arena.Format: the round 0 -/
@[reducible] noncomputable def B61x0 : AC := (.seq
 (.ops 7 [⟨some 35, none, .bin .lss (.t 34) (.t 33), []⟩])
 (.seq
 (.cond (.t 35)
 .skip
 (.exit 1))
 (.seq
 (.block 2
 (.seq
 (.ops 8 [⟨some 36, none, .mv (.t 34), []⟩,
 ⟨some 7, none, .mv (.t 36), []⟩])
 (.ops 9 [⟨some 37, none, .ld 1 true (.t 6), []⟩,
 ⟨some 38, none, .mv (.t 7), []⟩,
 ⟨some 39, none, .call 106 [.t 37, .t 38, .c (.int .u64 0)], []⟩])))
 (.ops 10 [⟨some 40, none, .bin .add (.t 34) (.c (.int .i64 1)), []⟩,
 ⟨some 34, none, .mv (.t 40), []⟩]))))

/-- ticketline/arena.Format: the round 1 -/
@[reducible] noncomputable def B61x1 : AC := (.seq
 (.seq
 (.ops 15 [⟨some 49, none, .mv (.t 8), []⟩,
 ⟨some 50, none, .mv (.t 1), []⟩,
 ⟨some 51, none, .bin .lss (.t 49) (.t 50), []⟩])
 (.cond (.t 51)
 .skip
 (.exit 3)))
 (.seq
 (.block 4
 (.ops 17 [⟨some 54, none, .ld 1 true (.t 6), []⟩,
 ⟨some 55, none, .mv (.t 8), []⟩,
 ⟨some 57, none, .mv (.t 8), []⟩,
 ⟨some 58, none, .bin .add (.t 57) (.c (.int .i64 1)), []⟩,
 ⟨some 59, none, .cvi .u64 (.t 58), []⟩,
 ⟨some 56, none, .call 105 [.t 55, .c (.int .i64 10)], [(54, .ld 1 true (.t 6))]⟩,
 ⟨some 60, none, .call 106 [.t 54, .t 56, .t 59], []⟩]))
 (.ops 16 [⟨some 52, none, .mv (.t 8), []⟩,
 ⟨some 53, none, .bin .add (.t 52) (.c (.int .i64 1)), []⟩,
 ⟨some 8, none, .mv (.t 53), []⟩])))

/-- ticketline/arena.Format -/
noncomputable def F61 : AFn := ⟨64, [.tmp 4, .tmp 5], (.seq
 (.ops 0 [⟨some 4, none, .mv (.c (.nilp)), []⟩,
 ⟨some 5, none, .mv (.c (.int .i64 0)), []⟩])
 (.seq
 (.block 0
 (.seq
 (.ops 1 [⟨some 10, none, .mv (.t 0), []⟩,
 ⟨some 11, none, .call 104 [.t 10], []⟩,
 ⟨some 12, none, .bin .eql (.t 11) (.c (.int .i64 0)), []⟩,
 ⟨some 9, none, .mv (.t 12), []⟩])
 (.cond (.t 9)
 (.seq
 (.ops 2 [⟨some 4, none, .mv (.c (.nilp)), []⟩,
 ⟨some 5, none, .mv (.c (.int .i64 1)), []⟩])
 .ret)
 (.seq
 (.ops 3 [⟨some 14, none, .mv (.t 1), []⟩,
 ⟨some 15, none, .bin .lss (.t 14) (.c (.int .i64 1)), []⟩,
 ⟨some 16, none, .mv (.t 15), []⟩,
 ⟨some 17, some (16, false), .mv (.t 1), []⟩,
 ⟨some 18, some (16, false), .bin .gtr (.t 17) (.c (.int .i64 511)), []⟩,
 ⟨some 19, none, .pick (.t 16) (.c (.bool true)) (.t 18), []⟩,
 ⟨some 20, none, .mv (.t 19), []⟩,
 ⟨some 21, some (20, false), .mv (.t 1), []⟩,
 ⟨some 22, some (20, false), .bin .add (.t 21) (.c (.int .i64 1)), []⟩,
 ⟨some 23, some (20, false), .call 105 [.t 22, .c (.int .i64 0)], []⟩,
 ⟨some 24, some (20, false), .mv (.t 0), []⟩,
 ⟨some 25, some (20, false), .call 104 [.t 24], []⟩,
 ⟨some 26, some (20, false), .bin .gtr (.t 23) (.t 25), []⟩,
 ⟨some 27, none, .pick (.t 20) (.c (.bool true)) (.t 26), []⟩,
 ⟨some 13, none, .mv (.t 27), []⟩])
 (.cond (.t 13)
 (.seq
 (.ops 4 [⟨some 4, none, .mv (.c (.nilp)), []⟩,
 ⟨some 5, none, .mv (.c (.int .i64 2)), []⟩])
 .ret)
 .skip)))))
 (.seq
 (.ops 5 [⟨some 28, none, .mv (.t 0), []⟩,
 ⟨some 29, none, .call 38 [.t 28], []⟩,
 ⟨some 30, none, .build [.nilp] [(0, 1, (.t 29))], []⟩,
 ⟨some 6, none, .alloc [.nilp] false, []⟩,
 ⟨none, none, .st 1 (.t 6) (.t 30), []⟩])
 (.seq
 (.seq
 (.ops 6 [⟨some 31, none, .mv (.t 1), []⟩,
 ⟨some 32, none, .bin .add (.t 31) (.c (.int .i64 1)), []⟩,
 ⟨some 33, none, .call 105 [.t 32, .c (.int .i64 0)], []⟩,
 ⟨some 34, none, .mv (.c (.int .i64 0)), []⟩])
 (.block 1
 (.loop [] B61x0)))
 (.seq
 (.ops 11 [⟨some 41, none, .ld 1 true (.t 6), []⟩,
 ⟨some 42, none, .mv (.t 1), []⟩,
 ⟨some 43, none, .cvi .u64 (.t 42), []⟩,
 ⟨some 44, none, .call 106 [.t 41, .c (.int .i64 0), .t 43], []⟩])
 (.seq
 (.ops 12 [⟨some 45, none, .ld 1 true (.t 6), []⟩,
 ⟨some 46, none, .call 106 [.t 45, .c (.int .i64 1), .c (.int .u64 1)], []⟩])
 (.seq
 (.ops 13 [⟨some 47, none, .ld 1 true (.t 6), []⟩,
 ⟨some 48, none, .call 106 [.t 47, .c (.int .i64 4), .c (.int .u64 1)], []⟩])
 (.seq
 (.seq
 (.ops 14 [⟨some 8, none, .mv (.c (.int .i64 1)), []⟩])
 (.block 3
 (.loop [] B61x1)))
 (.seq
 (.ops 18 [⟨some 61, none, .ld 1 true (.t 6), []⟩,
 ⟨some 62, none, .build [.nilp] [(0, 1, (.t 61))], []⟩,
 ⟨some 63, none, .box 1 (.t 62) true, []⟩,
 ⟨some 4, none, .mv (.t 63), []⟩,
 ⟨some 5, none, .mv (.c (.int .i64 0)), []⟩])
 .ret)))))))))⟩
theorem F61_code : cfgA.code 61 = some F61 := by kernel_rfl

/-- ticketline/slot.Make -/
noncomputable def F62 : AFn := ⟨57, [.cell 6 128 true, .tmp 7], (.seq
 (.ops 0 [⟨some 6, none, .alloc (List.replicate 128 (.int .u64 0)) false, []⟩,
 ⟨some 7, none, .mv (.c (.int .i64 0)), []⟩])
 (.seq
 (.block 0
 (.seq
 (.ops 1 [⟨some 12, none, .mv (.t 0), []⟩,
 ⟨some 13, none, .bin .lss (.t 12) (.c (.int .i64 0)), []⟩,
 ⟨some 14, none, .mv (.t 13), []⟩,
 ⟨some 15, some (14, false), .mv (.t 0), []⟩,
 ⟨some 16, some (14, false), .bin .geq (.t 15) (.c (.int .i64 6)), []⟩,
 ⟨some 17, none, .pick (.t 14) (.c (.bool true)) (.t 16), []⟩,
 ⟨some 11, none, .mv (.t 17), []⟩])
 (.cond (.t 11)
 (.seq
 (.ops 2 [⟨some 18, none, .build (List.replicate 128 (.int .u64 0)) [], []⟩,
 ⟨none, none, .st 128 (.t 6) (.t 18), []⟩,
 ⟨some 7, none, .mv (.c (.int .i64 2)), []⟩])
 .ret)
 (.seq
 (.ops 3 [⟨some 20, none, .mv (.t 1), []⟩,
 ⟨some 21, none, .len .string (.t 20), []⟩,
 ⟨some 22, none, .bin .gtr (.t 21) (.c (.int .i64 24)), []⟩,
 ⟨some 23, none, .mv (.t 22), []⟩,
 ⟨some 24, some (23, false), .mv (.t 2), []⟩,
 ⟨some 25, some (23, false), .len .string (.t 24), []⟩,
 ⟨some 26, some (23, false), .bin .gtr (.t 25) (.c (.int .i64 24)), []⟩,
 ⟨some 27, none, .pick (.t 23) (.c (.bool true)) (.t 26), []⟩,
 ⟨some 19, none, .mv (.t 27), []⟩])
 (.cond (.t 19)
 (.seq
 (.ops 4 [⟨some 28, none, .build (List.replicate 128 (.int .u64 0)) [], []⟩,
 ⟨none, none, .st 128 (.t 6) (.t 28), []⟩,
 ⟨some 7, none, .mv (.c (.int .i64 5)), []⟩])
 .ret)
 (.seq
 (.ops 5 [⟨some 30, none, .mv (.t 2), []⟩,
 ⟨some 31, none, .bin .neq (.t 30) (.c (.str [])), []⟩,
 ⟨some 32, none, .mv (.t 31), []⟩,
 ⟨some 33, some (32, true), .mv (.t 1), []⟩,
 ⟨some 34, some (32, true), .mv (.t 2), []⟩,
 ⟨some 35, some (32, true), .call 107 [.t 33, .t 34], []⟩,
 ⟨some 36, some (32, true), .bin .geq (.t 35) (.c (.int .i64 0)), []⟩,
 ⟨some 37, none, .pick (.t 32) (.t 36) (.c (.bool false)), []⟩,
 ⟨some 29, none, .mv (.t 37), []⟩])
 (.cond (.t 29)
 (.seq
 (.ops 6 [⟨some 38, none, .build (List.replicate 128 (.int .u64 0)) [], []⟩,
 ⟨none, none, .st 128 (.t 6) (.t 38), []⟩,
 ⟨some 7, none, .mv (.c (.int .i64 13)), []⟩])
 .ret)
 .skip)))))))
 (.seq
 (.ops 7 [⟨some 8, none, .alloc (List.replicate 128 (.int .u64 0)) false, []⟩])
 (.seq
 (.ops 8 [⟨some 39, none, .mv (.t 0), []⟩,
 ⟨some 40, none, .bin .add (.c (.int .i64 1)) (.t 39), []⟩,
 ⟨some 41, none, .cvi .u64 (.t 40), []⟩,
 ⟨some 42, none, .ixa (some 128) 1 (.t 8) (.c (.int .i64 8)), []⟩,
 ⟨none, none, .st 1 (.t 42) (.t 41), []⟩,
 ⟨some 43, none, .ixa (some 128) 1 (.t 8) (.c (.int .i64 11)), []⟩,
 ⟨none, none, .st 1 (.t 43) (.c (.int .u64 128)), []⟩])
 (.seq
 (.seq
 (.ops 9 [⟨some 44, none, .mv (.t 1), []⟩,
 ⟨some 45, none, .call 108 [.t 8, .c (.int .i64 12), .t 44], []⟩,
 ⟨some 9, none, .mv (.t 45), []⟩])
 (.seq
 (.ops 10 [⟨some 46, none, .mv (.t 9), []⟩,
 ⟨some 47, none, .bin .neq (.t 46) (.c (.int .i64 0)), []⟩])
 (.cond (.t 47)
 (.seq
 (.ops 11 [⟨some 48, none, .build (List.replicate 128 (.int .u64 0)) [], []⟩,
 ⟨some 49, none, .mv (.t 9), []⟩,
 ⟨none, none, .st 128 (.t 6) (.t 48), []⟩,
 ⟨some 7, none, .mv (.t 49), []⟩])
 .ret)
 .skip)))
 (.seq
 (.seq
 (.ops 12 [⟨some 50, none, .mv (.t 2), []⟩,
 ⟨some 51, none, .call 108 [.t 8, .c (.int .i64 16), .t 50], []⟩,
 ⟨some 10, none, .mv (.t 51), []⟩])
 (.seq
 (.ops 13 [⟨some 52, none, .mv (.t 10), []⟩,
 ⟨some 53, none, .bin .neq (.t 52) (.c (.int .i64 0)), []⟩])
 (.cond (.t 53)
 (.seq
 (.ops 14 [⟨some 54, none, .build (List.replicate 128 (.int .u64 0)) [], []⟩,
 ⟨some 55, none, .mv (.t 10), []⟩,
 ⟨none, none, .st 128 (.t 6) (.t 54), []⟩,
 ⟨some 7, none, .mv (.t 55), []⟩])
 .ret)
 .skip)))
 (.seq
 (.ops 15 [⟨some 56, none, .ld 128 true (.t 8), []⟩,
 ⟨none, none, .st 128 (.t 6) (.t 56), []⟩,
 ⟨some 7, none, .mv (.c (.int .i64 0)), []⟩])
 .ret)))))))⟩
theorem F62_code : cfgA.code 62 = some F62 := by kernel_rfl

/-- (*ticketline/arena.Arena).Alloc -/
noncomputable def F63 : AFn := ⟨39, [.tmp 4, .tmp 5], (.seq
 (.ops 0 [⟨some 3, none, .box 128 (.t 1) false, []⟩,
 ⟨some 4, none, .mv (.c (.int .i64 0)), []⟩,
 ⟨some 5, none, .mv (.c (.int .i64 0)), []⟩])
 (.seq
 (.block 0
 (.seq
 (.ops 1 [⟨some 8, none, .mv (.t 0), []⟩,
 ⟨some 9, none, .call 109 [.t 8], []⟩,
 ⟨some 7, none, .mv (.t 9), []⟩])
 (.cond (.t 7)
 (.seq
 (.ops 2 [⟨some 4, none, .mv (.c (.int .i64 0)), []⟩,
 ⟨some 5, none, .mv (.c (.int .i64 1)), []⟩])
 .ret)
 (.seq
 (.ops 3 [⟨some 11, none, .ld 128 true (.t 3), []⟩,
 ⟨some 12, none, .call 110 [.t 11], []⟩,
 ⟨some 13, none, .un .not (.t 12), []⟩,
 ⟨some 10, none, .mv (.t 13), []⟩])
 (.cond (.t 10)
 (.seq
 (.ops 4 [⟨some 4, none, .mv (.c (.int .i64 0)), []⟩,
 ⟨some 5, none, .mv (.c (.int .i64 12)), []⟩])
 .ret)
 .skip)))))
 (.seq
 (.ops 5 [⟨some 14, none, .mv (.t 0), []⟩,
 ⟨some 15, none, .nilc (.t 14) (mok Tryz.prog), []⟩,
 ⟨some 16, none, .fld 0 (.t 15), []⟩,
 ⟨some 17, none, .ld 1 true (.t 16), []⟩,
 ⟨some 18, none, .call 111 [.t 17, .c (.int .i64 1)], []⟩,
 ⟨some 19, none, .cvi .i64 (.t 18), []⟩,
 ⟨some 6, none, .mv (.t 19), []⟩])
 (.seq
 (.seq
 (.ops 6 [⟨some 20, none, .mv (.t 6), []⟩,
 ⟨some 21, none, .bin .eql (.t 20) (.c (.int .i64 0)), []⟩])
 (.cond (.t 21)
 (.seq
 (.ops 7 [⟨some 4, none, .mv (.c (.int .i64 0)), []⟩,
 ⟨some 5, none, .mv (.c (.int .i64 7)), []⟩])
 .ret)
 .skip))
 (.seq
 (.ops 8 [⟨some 22, none, .mv (.t 0), []⟩,
 ⟨some 23, none, .nilc (.t 22) (mok Tryz.prog), []⟩,
 ⟨some 24, none, .fld 0 (.t 23), []⟩,
 ⟨some 25, none, .ld 1 true (.t 24), []⟩,
 ⟨some 26, none, .mv (.t 0), []⟩,
 ⟨some 27, none, .nilc (.t 26) (mok Tryz.prog), []⟩,
 ⟨some 28, none, .fld 0 (.t 27), []⟩,
 ⟨some 29, none, .ld 1 true (.t 28), []⟩,
 ⟨some 30, none, .mv (.t 6), []⟩,
 ⟨some 31, none, .call 105 [.t 30, .c (.int .i64 10)], [(25, .ld 1 true (.t 24)), (29, .ld 1 true (.t 28))]⟩,
 ⟨some 32, none, .call 111 [.t 29, .t 31], [(25, .ld 1 true (.t 24))]⟩,
 ⟨some 33, none, .call 106 [.t 25, .c (.int .i64 1), .t 32], []⟩])
 (.seq
 (.ops 9 [⟨some 34, none, .mv (.t 0), []⟩,
 ⟨some 35, none, .mv (.t 6), []⟩,
 ⟨some 36, none, .ld 128 true (.t 3), []⟩,
 ⟨some 37, none, .call 112 [.t 34, .t 35, .t 36], []⟩])
 (.seq
 (.ops 10 [⟨some 38, none, .mv (.t 6), []⟩,
 ⟨some 4, none, .mv (.t 38), []⟩,
 ⟨some 5, none, .mv (.c (.int .i64 0)), []⟩])
 .ret)))))))⟩
theorem F63_code : cfgA.code 63 = some F63 := by kernel_rfl

/-- (*ticketline/arena.Arena).SetRoot -/
noncomputable def F64 : AFn := ⟨23, [.tmp 4], (.seq
 (.ops 0 [⟨some 4, none, .mv (.c (.int .i64 0)), []⟩])
 (.seq
 (.seq
 (.ops 1 [⟨some 6, none, .mv (.t 0), []⟩,
 ⟨some 7, none, .call 109 [.t 6], []⟩])
 (.cond (.t 7)
 (.seq
 (.ops 2 [⟨some 4, none, .mv (.c (.int .i64 1)), []⟩])
 .ret)
 .skip))
 (.seq
 (.seq
 (.ops 3 [⟨some 8, none, .mv (.t 1), []⟩,
 ⟨some 9, none, .bin .neq (.t 8) (.c (.int .i64 0)), []⟩])
 (.cond (.t 9)
 (.seq
 (.ops 4 [⟨some 10, none, .mv (.t 0), []⟩,
 ⟨some 11, none, .mv (.t 1), []⟩,
 ⟨some 12, none, .call 113 [.t 10, .t 11, .c (.bool false)], []⟩,
 ⟨some 5, none, .mv (.t 12), []⟩])
 (.seq
 (.ops 5 [⟨some 13, none, .mv (.t 5), []⟩,
 ⟨some 14, none, .bin .neq (.t 13) (.c (.int .i64 0)), []⟩])
 (.cond (.t 14)
 (.seq
 (.ops 6 [⟨some 15, none, .mv (.t 5), []⟩,
 ⟨some 4, none, .mv (.t 15), []⟩])
 .ret)
 .skip)))
 .skip))
 (.seq
 (.ops 7 [⟨some 16, none, .mv (.t 0), []⟩,
 ⟨some 17, none, .nilc (.t 16) (mok Tryz.prog), []⟩,
 ⟨some 18, none, .fld 0 (.t 17), []⟩,
 ⟨some 19, none, .ld 1 true (.t 18), []⟩,
 ⟨some 20, none, .mv (.t 1), []⟩,
 ⟨some 21, none, .cvi .u64 (.t 20), []⟩,
 ⟨some 22, none, .call 106 [.t 19, .c (.int .i64 3), .t 21], []⟩])
 (.seq
 (.ops 8 [⟨some 4, none, .mv (.c (.int .i64 0)), []⟩])
 .ret)))))⟩
theorem F64_code : cfgA.code 64 = some F64 := by kernel_rfl

/-- (*ticketline/arena.Arena).Mem -/
noncomputable def F65 : AFn := ⟨11, [.tmp 2], (.seq
 (.ops 0 [⟨some 2, none, .mv (.c (.nilp)), []⟩])
 (.seq
 (.seq
 (.ops 1 [⟨some 3, none, .mv (.t 0), []⟩,
 ⟨some 4, none, .call 109 [.t 3], []⟩])
 (.cond (.t 4)
 (.seq
 (.ops 2 [⟨some 2, none, .mv (.c (.nilp)), []⟩])
 .ret)
 .skip))
 (.seq
 (.ops 3 [⟨some 5, none, .mv (.t 0), []⟩,
 ⟨some 6, none, .nilc (.t 5) (mok Tryz.prog), []⟩,
 ⟨some 7, none, .fld 0 (.t 6), []⟩,
 ⟨some 8, none, .fld 0 (.t 7), []⟩,
 ⟨some 9, none, .ld 1 false (.t 8), []⟩,
 ⟨some 10, none, .call 38 [.t 9], []⟩,
 ⟨some 2, none, .mv (.t 10), []⟩])
 .ret)))⟩
theorem F65_code : cfgA.code 65 = some F65 := by kernel_rfl

end Den
