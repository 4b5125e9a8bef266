/- Functions of the program, as den reads them. -/
import Derived.Test.YtnfmadnnbfidgaaGreatDoorA
namespace Den
open Go Go.Proofs
set_option maxRecDepth 1000000

/-- ticketline/latch.Look: the round 0 -/
noncomputable def B104x0 : AC := (.seq
 (.ops 8 [⟨some 40, none, .bin .lss (.t 39) (.c (.int .i64 2)), []⟩])
 (.seq
 (.cond (.t 40)
 .skip
 (.exit 0))
 (.seq
 (.block 1
 (.seq
 (.ops 9 [⟨some 41, none, .mv (.t 39), []⟩,
 ⟨some 10, none, .mv (.t 41), []⟩])
 (.seq
 (.ops 10 [⟨some 43, none, .mv (.t 0), []⟩,
 ⟨some 44, none, .mv (.t 2), []⟩,
 ⟨some 45, none, .bin .add (.t 44) (.c (.int .i64 1)), []⟩,
 ⟨some 46, none, .mv (.t 10), []⟩,
 ⟨some 47, none, .bin .add (.t 45) (.t 46), []⟩,
 ⟨some 48, none, .invk (.t 43) "Load" [.t 47], []⟩,
 ⟨some 42, none, .mv (.t 48), []⟩,
 ⟨some 49, none, .ext (.t 42) 0, []⟩,
 ⟨some 50, none, .ext (.t 42) 1, []⟩,
 ⟨some 11, none, .mv (.t 49), []⟩,
 ⟨some 12, none, .mv (.t 50), []⟩])
 (.seq
 (.seq
 (.ops 11 [⟨some 51, none, .mv (.t 12), []⟩,
 ⟨some 52, none, .bin .neq (.t 51) (.c (.int .i64 0)), []⟩])
 (.cond (.t 52)
 (.seq
 (.ops 12 [⟨some 53, none, .build [.nils, .int .i64 0, .int .i64 0, .int .i64 0, .int .i64 0, .nils] [], []⟩,
 ⟨some 54, none, .mv (.t 12), []⟩,
 ⟨none, none, .st 6 (.t 6) (.t 53), []⟩,
 ⟨some 7, none, .mv (.t 54), []⟩])
 .ret)
 .skip))
 (.ops 13 [⟨some 55, none, .mv (.t 10), []⟩,
 ⟨some 56, none, .mv (.t 11), []⟩,
 ⟨some 57, none, .ixa (some 2) 1 (.t 9) (.t 55), []⟩,
 ⟨none, none, .st 1 (.t 57) (.t 56), []⟩])))))
 (.ops 14 [⟨some 58, none, .bin .add (.t 39) (.c (.int .i64 1)), []⟩,
 ⟨some 39, none, .mv (.t 58), []⟩]))))
/-- ticketline/latch.Look: the round 1 -/
noncomputable def B104x1 : AC := (.seq
 (.seq
 (.ops 20 [⟨some 90, none, .mv (.t 14), []⟩,
 ⟨some 91, none, .bin .geq (.t 90) (.c (.int .i64 0)), []⟩])
 (.cond (.t 91)
 .skip
 (.exit 2)))
 (.block 3
 (.seq
 (.ops 21 [⟨some 93, none, .mv (.t 1), []⟩,
 ⟨some 94, none, .mv (.t 19), []⟩,
 ⟨some 95, none, .call 161 [.t 93, .t 94], []⟩,
 ⟨some 92, none, .mv (.t 95), []⟩,
 ⟨some 96, none, .ext (.t 92) 0, []⟩,
 ⟨some 97, none, .ext (.t 92) 1, []⟩,
 ⟨some 20, none, .mv (.t 96), []⟩,
 ⟨some 21, none, .mv (.t 97), []⟩])
 (.seq
 (.seq
 (.ops 22 [⟨some 98, none, .mv (.t 21), []⟩,
 ⟨some 99, none, .un .not (.t 98), []⟩,
 ⟨some 100, none, .mv (.t 99), []⟩,
 ⟨some 101, some (100, false), .fld 5 (.t 13), []⟩,
 ⟨some 102, some (100, false), .ld 1 false (.t 101), []⟩,
 ⟨some 103, some (100, false), .len .slice (.t 102), []⟩,
 ⟨some 104, some (100, false), .mv (.t 1), []⟩,
 ⟨some 105, some (100, false), .call 156 [.t 104], [(102, .ld 1 false (.t 101)), (103, .len .slice (.t 102))]⟩,
 ⟨some 106, some (100, false), .bin .geq (.t 103) (.t 105), []⟩,
 ⟨some 107, none, .pick (.t 100) (.c (.bool true)) (.t 106), []⟩])
 (.cond (.t 107)
 (.seq
 (.ops 23 [⟨some 108, none, .build [.nils, .int .i64 0, .int .i64 0, .int .i64 0, .int .i64 0, .nils] [], []⟩,
 ⟨none, none, .st 6 (.t 6) (.t 108), []⟩,
 ⟨some 7, none, .mv (.c (.int .i64 12)), []⟩])
 .ret)
 .skip))
 (.seq
 (.ops 24 [⟨some 110, none, .mv (.t 0), []⟩,
 ⟨some 111, none, .mv (.t 1), []⟩,
 ⟨some 112, none, .mv (.t 20), []⟩,
 ⟨some 114, none, .mkv "Load" (.t 110), []⟩,
 ⟨some 115, none, .nilc (.t 114) (mok Tryz.prog), []⟩,
 ⟨some 116, none, .mv (.t 110), []⟩,
 ⟨some 113, none, .call 162 [.t 111, .t 112], []⟩,
 ⟨some 117, none, .invk (.t 116) "Load" [.t 113], []⟩,
 ⟨some 109, none, .mv (.t 117), []⟩,
 ⟨some 118, none, .ext (.t 109) 0, []⟩,
 ⟨some 119, none, .ext (.t 109) 1, []⟩,
 ⟨some 22, none, .mv (.t 118), []⟩,
 ⟨some 23, none, .mv (.t 119), []⟩])
 (.seq
 (.seq
 (.ops 25 [⟨some 120, none, .mv (.t 23), []⟩,
 ⟨some 121, none, .bin .neq (.t 120) (.c (.int .i64 0)), []⟩])
 (.cond (.t 121)
 (.seq
 (.ops 26 [⟨some 122, none, .build [.nils, .int .i64 0, .int .i64 0, .int .i64 0, .int .i64 0, .nils] [], []⟩,
 ⟨some 123, none, .mv (.t 23), []⟩,
 ⟨none, none, .st 6 (.t 6) (.t 122), []⟩,
 ⟨some 7, none, .mv (.t 123), []⟩])
 .ret)
 .skip))
 (.seq
 (.seq
 (.ops 27 [⟨some 124, none, .mv (.t 22), []⟩,
 ⟨some 125, none, .bin .eql (.t 124) (.c (.int .u64 0)), []⟩,
 ⟨some 126, none, .mv (.t 125), []⟩,
 ⟨some 127, some (126, false), .mv (.t 22), []⟩,
 ⟨some 128, some (126, false), .bin .gtr (.t 127) (.c (.int .u64 3)), []⟩,
 ⟨some 129, none, .pick (.t 126) (.c (.bool true)) (.t 128), []⟩])
 (.cond (.t 129)
 (.seq
 (.ops 28 [⟨some 130, none, .build [.nils, .int .i64 0, .int .i64 0, .int .i64 0, .int .i64 0, .nils] [], []⟩,
 ⟨none, none, .st 6 (.t 6) (.t 130), []⟩,
 ⟨some 7, none, .mv (.c (.int .i64 12)), []⟩])
 .ret)
 .skip))
 (.seq
 (.ops 29 [⟨some 131, none, .fld 5 (.t 13), []⟩,
 ⟨some 132, none, .ld 1 false (.t 131), []⟩,
 ⟨some 133, none, .mv (.t 20), []⟩,
 ⟨some 134, none, .bin .quo (.t 133) (.c (.int .i64 2)), []⟩,
 ⟨some 135, none, .mv (.t 22), []⟩,
 ⟨some 136, none, .cvi .i64 (.t 135), []⟩,
 ⟨some 137, none, .build [.int .i64 0, .int .i64 0] [(0, 1, (.t 134)), (1, 1, (.t 136))], []⟩,
 ⟨some 138, none, .bslice [.int .i64 0, .int .i64 0] 2 1 [(0, (.t 137))] false false, []⟩,
 ⟨some 139, none, .app 2 16 (.t 132) (.t 138) true, []⟩,
 ⟨some 140, none, .fld 5 (.t 13), []⟩,
 ⟨none, none, .st 1 (.t 140) (.t 139), []⟩])
 (.seq
 (.seq
 (.ops 30 [⟨some 141, none, .mv (.t 20), []⟩,
 ⟨some 142, none, .mv (.t 15), []⟩,
 ⟨some 143, none, .bin .eql (.t 141) (.t 142), []⟩])
 (.cond (.t 143)
 (.exit 2)
 .skip))
 (.seq
 (.ops 31 [⟨some 145, none, .mv (.t 0), []⟩,
 ⟨some 146, none, .mv (.t 1), []⟩,
 ⟨some 147, none, .mv (.t 20), []⟩,
 ⟨some 149, none, .mkv "Load" (.t 145), []⟩,
 ⟨some 150, none, .nilc (.t 149) (mok Tryz.prog), []⟩,
 ⟨some 151, none, .mv (.t 145), []⟩,
 ⟨some 148, none, .call 163 [.t 146, .t 147], []⟩,
 ⟨some 152, none, .invk (.t 151) "Load" [.t 148], []⟩,
 ⟨some 144, none, .mv (.t 152), []⟩,
 ⟨some 153, none, .ext (.t 144) 0, []⟩,
 ⟨some 154, none, .ext (.t 144) 1, []⟩,
 ⟨some 19, none, .mv (.t 153), []⟩,
 ⟨some 23, none, .mv (.t 154), []⟩])
 (.seq
 (.ops 32 [⟨some 155, none, .mv (.t 23), []⟩,
 ⟨some 156, none, .bin .neq (.t 155) (.c (.int .i64 0)), []⟩])
 (.cond (.t 156)
 (.seq
 (.ops 33 [⟨some 157, none, .build [.nils, .int .i64 0, .int .i64 0, .int .i64 0, .int .i64 0, .nils] [], []⟩,
 ⟨some 158, none, .mv (.t 23), []⟩,
 ⟨none, none, .st 6 (.t 6) (.t 157), []⟩,
 ⟨some 7, none, .mv (.t 158), []⟩])
 .ret)
 .skip))))))))))))
/-- ticketline/latch.Look -/
noncomputable def F104 : AFn := ⟨160, [.cell 6 6 true, .tmp 7], (.seq
 (.ops 0 [⟨some 6, none, .alloc [.nils, .int .i64 0, .int .i64 0, .int .i64 0, .int .i64 0, .nils] false, []⟩,
 ⟨some 7, none, .mv (.c (.int .i64 0)), []⟩])
 (.seq
 (.seq
 (.ops 1 [⟨some 24, none, .mv (.t 1), []⟩,
 ⟨some 25, none, .call 156 [.t 24], []⟩,
 ⟨some 26, none, .bin .eql (.t 25) (.c (.int .i64 0)), []⟩,
 ⟨some 27, none, .mv (.t 26), []⟩,
 ⟨some 28, some (27, false), .mv (.t 0), []⟩,
 ⟨some 29, some (27, false), .eqn .iface false (.t 28), []⟩,
 ⟨some 30, none, .pick (.t 27) (.c (.bool true)) (.t 29), []⟩])
 (.cond (.t 30)
 (.seq
 (.ops 2 [⟨some 31, none, .build [.nils, .int .i64 0, .int .i64 0, .int .i64 0, .int .i64 0, .nils] [], []⟩,
 ⟨none, none, .st 6 (.t 6) (.t 31), []⟩,
 ⟨some 7, none, .mv (.c (.int .i64 1)), []⟩])
 .ret)
 .skip))
 (.seq
 (.seq
 (.ops 3 [⟨some 32, none, .mv (.t 1), []⟩,
 ⟨some 33, none, .mv (.t 2), []⟩,
 ⟨some 34, none, .call 157 [.t 32, .t 33], []⟩,
 ⟨some 8, none, .mv (.t 34), []⟩])
 (.seq
 (.ops 4 [⟨some 35, none, .mv (.t 8), []⟩,
 ⟨some 36, none, .bin .neq (.t 35) (.c (.int .i64 0)), []⟩])
 (.cond (.t 36)
 (.seq
 (.ops 5 [⟨some 37, none, .build [.nils, .int .i64 0, .int .i64 0, .int .i64 0, .int .i64 0, .nils] [], []⟩,
 ⟨some 38, none, .mv (.t 8), []⟩,
 ⟨none, none, .st 6 (.t 6) (.t 37), []⟩,
 ⟨some 7, none, .mv (.t 38), []⟩])
 .ret)
 .skip)))
 (.seq
 (.ops 6 [⟨some 9, none, .alloc [.int .u64 0, .int .u64 0] false, []⟩])
 (.seq
 (.seq
 (.ops 7 [⟨some 39, none, .mv (.c (.int .i64 0)), []⟩])
 (.block 0
 (.loop [] B104x0)))
 (.seq
 (.ops 15 [⟨some 60, none, .ld 2 true (.t 9), []⟩,
 ⟨some 61, none, .call 158 [.t 60], []⟩,
 ⟨some 59, none, .mv (.t 61), []⟩,
 ⟨some 62, none, .ext (.t 59) 0, []⟩,
 ⟨some 63, none, .ext (.t 59) 1, []⟩,
 ⟨some 64, none, .ext (.t 59) 2, []⟩,
 ⟨some 65, none, .ext (.t 59) 3, []⟩,
 ⟨some 13, none, .alloc [.nils, .int .i64 0, .int .i64 0, .int .i64 0, .int .i64 0, .nils] false, []⟩,
 ⟨none, none, .st 6 (.t 13) (.t 62), []⟩,
 ⟨some 14, none, .mv (.t 63), []⟩,
 ⟨some 15, none, .mv (.t 64), []⟩,
 ⟨some 16, none, .mv (.t 65), []⟩])
 (.seq
 (.seq
 (.ops 16 [⟨some 67, none, .ixa (some 2) 1 (.t 9) (.c (.int .i64 0)), []⟩,
 ⟨some 68, none, .ld 1 false (.t 67), []⟩,
 ⟨some 69, none, .ixa (some 2) 1 (.t 9) (.c (.int .i64 1)), []⟩,
 ⟨some 70, none, .ld 1 false (.t 69), []⟩,
 ⟨some 71, none, .call 159 [.t 68, .t 70], []⟩,
 ⟨some 66, none, .mv (.t 71), []⟩,
 ⟨some 72, none, .ext (.t 66) 0, []⟩,
 ⟨some 73, none, .ext (.t 66) 1, []⟩,
 ⟨some 17, none, .alloc [.int .u64 0, .int .u64 0, .int .u64 0, .int .u64 0, .int .u64 0, .int .u64 0, .int .u64 0] false, []⟩,
 ⟨none, none, .st 7 (.t 17) (.t 72), []⟩,
 ⟨some 18, none, .mv (.t 73), []⟩])
 (.seq
 (.ops 17 [⟨some 74, none, .mv (.t 16), []⟩,
 ⟨some 75, none, .bin .neq (.t 74) (.c (.int .i64 0)), []⟩,
 ⟨some 76, none, .mv (.t 75), []⟩,
 ⟨some 77, some (76, false), .mv (.t 18), []⟩,
 ⟨some 78, some (76, false), .un .not (.t 77), []⟩,
 ⟨some 79, none, .pick (.t 76) (.c (.bool true)) (.t 78), []⟩,
 ⟨some 80, none, .mv (.t 79), []⟩,
 ⟨some 81, some (80, false), .ld 7 true (.t 17), []⟩,
 ⟨some 82, some (80, false), .mv (.t 1), []⟩,
 ⟨some 83, some (80, false), .call 160 [.t 81, .t 82], []⟩,
 ⟨some 84, some (80, false), .un .not (.t 83), []⟩,
 ⟨some 85, none, .pick (.t 80) (.c (.bool true)) (.t 84), []⟩])
 (.cond (.t 85)
 (.seq
 (.ops 18 [⟨some 86, none, .build [.nils, .int .i64 0, .int .i64 0, .int .i64 0, .int .i64 0, .nils] [], []⟩,
 ⟨none, none, .st 6 (.t 6) (.t 86), []⟩,
 ⟨some 7, none, .mv (.c (.int .i64 12)), []⟩])
 .ret)
 .skip)))
 (.seq
 (.seq
 (.ops 19 [⟨some 87, none, .mv (.t 14), []⟩,
 ⟨some 88, none, .cvi .u64 (.t 87), []⟩,
 ⟨some 89, none, .bin .add (.t 88) (.c (.int .u64 1)), []⟩,
 ⟨some 19, none, .mv (.t 89), []⟩])
 (.block 2
 (.loop [] B104x1)))
 (.seq
 (.ops 34 [⟨some 159, none, .ld 6 true (.t 13), []⟩,
 ⟨none, none, .st 6 (.t 6) (.t 159), []⟩,
 ⟨some 7, none, .mv (.c (.int .i64 0)), []⟩])
 .ret)))))))))⟩
theorem F104_code : cfgA.code 104 = some F104 := by kernel_rfl

/-- ticketline/arena.place -/
noncomputable def F106 : AFn := ⟨11, [.tmp 4], (.seq
 (.ops 0 [⟨some 4, none, .mv (.c (.int .i64 0)), []⟩])
 (.seq
 (.ops 1 [⟨some 5, none, .mv (.t 0), []⟩,
 ⟨some 6, none, .bin .sub (.t 5) (.c (.int .i64 1)), []⟩,
 ⟨some 7, none, .bin .mul (.c (.int .i64 128)) (.t 6), []⟩,
 ⟨some 8, none, .bin .add (.c (.int .i64 16)) (.t 7), []⟩,
 ⟨some 9, none, .mv (.t 1), []⟩,
 ⟨some 10, none, .bin .add (.t 8) (.t 9), []⟩,
 ⟨some 4, none, .mv (.t 10), []⟩])
 .ret))⟩
theorem F106_code : cfgA.code 106 = some F106 := by kernel_rfl

/-- (*ticketline/qnode.Nodes).Of -/
noncomputable def F107 : AFn := ⟨34, [.tmp 6, .tmp 7], (.seq
 (.ops 0 [⟨some 6, none, .mv (.c (.int .i64 0)), []⟩,
 ⟨some 7, none, .mv (.c (.int .i64 0)), []⟩])
 (.seq
 (.block 0
 (.seq
 (.ops 1 [⟨some 9, none, .mv (.t 0), []⟩,
 ⟨some 10, none, .call 166 [.t 9], []⟩,
 ⟨some 8, none, .mv (.t 10), []⟩])
 (.cond (.t 8)
 (.seq
 (.ops 2 [⟨some 6, none, .mv (.c (.int .i64 0)), []⟩,
 ⟨some 7, none, .mv (.c (.int .i64 1)), []⟩])
 .ret)
 (.seq
 (.ops 3 [⟨some 12, none, .mv (.t 1), []⟩,
 ⟨some 13, none, .bin .lss (.t 12) (.c (.int .i64 0)), []⟩,
 ⟨some 14, none, .mv (.t 13), []⟩,
 ⟨some 15, some (14, false), .mv (.t 1), []⟩,
 ⟨some 16, some (14, false), .mv (.t 0), []⟩,
 ⟨some 17, some (14, false), .nilc (.t 16) (mok Tryz.prog), []⟩,
 ⟨some 18, some (14, false), .fld 1 (.t 17), []⟩,
 ⟨some 19, some (14, false), .ld 1 false (.t 18), []⟩,
 ⟨some 20, some (14, false), .bin .geq (.t 15) (.t 19), []⟩,
 ⟨some 21, none, .pick (.t 14) (.c (.bool true)) (.t 20), []⟩,
 ⟨some 22, none, .mv (.t 21), []⟩,
 ⟨some 23, some (22, false), .mv (.t 2), []⟩,
 ⟨some 24, some (22, false), .bin .neq (.t 23) (.c (.int .i64 0)), []⟩,
 ⟨some 25, some (22, false), .mv (.t 24), []⟩,
 ⟨some 26, some (25, true), .mv (.t 2), []⟩,
 ⟨some 27, some (25, true), .bin .neq (.t 26) (.c (.int .i64 1)), []⟩,
 ⟨some 28, some (22, false), .pick (.t 25) (.t 27) (.c (.bool false)), []⟩,
 ⟨some 29, none, .pick (.t 22) (.c (.bool true)) (.t 28), []⟩,
 ⟨some 11, none, .mv (.t 29), []⟩])
 (.cond (.t 11)
 (.seq
 (.ops 4 [⟨some 6, none, .mv (.c (.int .i64 0)), []⟩,
 ⟨some 7, none, .mv (.c (.int .i64 2)), []⟩])
 .ret)
 .skip)))))
 (.seq
 (.ops 5 [⟨some 30, none, .mv (.t 1), []⟩,
 ⟨some 31, none, .bin .mul (.t 30) (.c (.int .i64 2)), []⟩,
 ⟨some 32, none, .mv (.t 2), []⟩,
 ⟨some 33, none, .bin .add (.t 31) (.t 32), []⟩,
 ⟨some 6, none, .mv (.t 33), []⟩,
 ⟨some 7, none, .mv (.c (.int .i64 0)), []⟩])
 .ret)))⟩
theorem F107_code : cfgA.code 107 = some F107 := by kernel_rfl

/-- ticketline/mcs.NewRelease -/
noncomputable def F108 : AFn := ⟨23, [.tmp 6, .tmp 7], (.seq
 (.ops 0 [⟨some 6, none, .mv (.c (.nilp)), []⟩,
 ⟨some 7, none, .mv (.c (.int .i64 0)), []⟩])
 (.seq
 (.ops 1 [⟨some 11, none, .mv (.t 0), []⟩,
 ⟨some 12, none, .mv (.t 1), []⟩,
 ⟨some 13, none, .mv (.t 2), []⟩,
 ⟨some 14, none, .call 167 [.t 11, .t 12, .t 13], []⟩,
 ⟨some 10, none, .mv (.t 14), []⟩,
 ⟨some 15, none, .ext (.t 10) 0, []⟩,
 ⟨some 16, none, .ext (.t 10) 1, []⟩,
 ⟨some 8, none, .alloc [.nilp, .int .i64 0, .int .i64 0, .int .i64 0, .int .u64 0, .bool false] false, []⟩,
 ⟨none, none, .st 6 (.t 8) (.t 15), []⟩,
 ⟨some 9, none, .mv (.t 16), []⟩])
 (.seq
 (.seq
 (.ops 2 [⟨some 17, none, .mv (.t 9), []⟩,
 ⟨some 18, none, .bin .neq (.t 17) (.c (.int .i64 0)), []⟩])
 (.cond (.t 18)
 (.seq
 (.ops 3 [⟨some 19, none, .mv (.t 9), []⟩,
 ⟨some 6, none, .mv (.c (.nilp)), []⟩,
 ⟨some 7, none, .mv (.t 19), []⟩])
 .ret)
 .skip))
 (.seq
 (.ops 4 [⟨some 20, none, .ld 6 true (.t 8), []⟩,
 ⟨some 21, none, .build [.nilp, .int .i64 0, .int .i64 0, .int .i64 0, .int .u64 0, .bool false] [(0, 6, (.t 20))], []⟩,
 ⟨some 22, none, .box 6 (.t 21) true, []⟩,
 ⟨some 6, none, .mv (.t 22), []⟩,
 ⟨some 7, none, .mv (.c (.int .i64 0)), []⟩])
 .ret))))⟩
theorem F108_code : cfgA.code 108 = some F108 := by kernel_rfl

/-- ticketline/grow.acquire -/
noncomputable def F109 : AFn := ⟨33, [.tmp 6], (.seq
 (.ops 0 [⟨some 3, none, .box 2 (.t 0) false, []⟩,
 ⟨some 6, none, .mv (.c (.nili)), []⟩])
 (.seq
 (.ops 1 [⟨some 14, none, .ld 2 true (.t 3), []⟩,
 ⟨some 15, none, .call 102 [.t 14], []⟩,
 ⟨some 13, none, .mv (.t 15), []⟩,
 ⟨some 16, none, .ext (.t 13) 0, []⟩,
 ⟨some 17, none, .ext (.t 13) 1, []⟩,
 ⟨some 7, none, .mv (.t 16), []⟩,
 ⟨some 8, none, .mv (.t 17), []⟩])
 (.seq
 (.ops 2 [⟨some 19, none, .ld 2 true (.t 3), []⟩,
 ⟨some 20, none, .mv (.t 2), []⟩,
 ⟨some 21, none, .call 103 [.t 19, .t 20], []⟩,
 ⟨some 18, none, .mv (.t 21), []⟩,
 ⟨some 22, none, .ext (.t 18) 0, []⟩,
 ⟨some 23, none, .ext (.t 18) 1, []⟩,
 ⟨some 9, none, .mv (.t 22), []⟩,
 ⟨some 10, none, .mv (.t 23), []⟩])
 (.seq
 (.ops 3 [⟨some 25, none, .mv (.t 7), []⟩,
 ⟨some 26, none, .mv (.t 9), []⟩,
 ⟨some 27, none, .mv (.t 1), []⟩,
 ⟨some 28, none, .call 129 [.t 25, .t 26, .t 27, .c (.int .i64 3)], []⟩,
 ⟨some 24, none, .mv (.t 28), []⟩,
 ⟨some 29, none, .ext (.t 24) 0, []⟩,
 ⟨some 30, none, .ext (.t 24) 1, []⟩,
 ⟨some 11, none, .mv (.t 29), []⟩,
 ⟨some 12, none, .mv (.t 30), []⟩])
 (.seq
 (.ops 4 [⟨some 31, none, .mv (.t 11), []⟩,
 ⟨some 32, none, .mki 186 (.t 31), []⟩,
 ⟨some 6, none, .mv (.t 32), []⟩])
 .ret)))))⟩
theorem F109_code : cfgA.code 109 = some F109 := by kernel_rfl

/-- ticketline/grow.halves -/
noncomputable def F110 : AFn := ⟨28, [.cell 4 130 true, .cell 5 130 true, .tmp 6, .tmp 7], (.seq
 (.ops 0 [⟨some 2, none, .box 130 (.t 0) false, []⟩,
 ⟨some 4, none, .alloc [.int .i64 0, .int .u64 0, .int .u64 0, .int .u64 0, .int .u64 0, .int .u64 0, .int .u64 0, .int .u64 0, .int .u64 0, .int .u64 0, .int .u64 0, .int .u64 0, .int .u64 0, .int .u64 0, .int .u64 0, .int .u64 0, .int .u64 0, .int .u64 0, .int .u64 0, .int .u64 0, .int .u64 0, .int .u64 0, .int .u64 0, .int .u64 0, .int .u64 0, .int .u64 0, .int .u64 0, .int .u64 0, .int .u64 0, .int .u64 0, .int .u64 0, .int .u64 0, .int .u64 0, .int .u64 0, .int .u64 0, .int .u64 0, .int .u64 0, .int .u64 0, .int .u64 0, .int .u64 0, .int .u64 0, .int .u64 0, .int .u64 0, .int .u64 0, .int .u64 0, .int .u64 0, .int .u64 0, .int .u64 0, .int .u64 0, .int .u64 0, .int .u64 0, .int .u64 0, .int .u64 0, .int .u64 0, .int .u64 0, .int .u64 0, .int .u64 0, .int .u64 0, .int .u64 0, .int .u64 0, .int .u64 0, .int .u64 0, .int .u64 0, .int .u64 0, .int .u64 0, .int .u64 0, .int .u64 0, .int .u64 0, .int .u64 0, .int .u64 0, .int .u64 0, .int .u64 0, .int .u64 0, .int .u64 0, .int .u64 0, .int .u64 0, .int .u64 0, .int .u64 0, .int .u64 0, .int .u64 0, .int .u64 0, .int .u64 0, .int .u64 0, .int .u64 0, .int .u64 0, .int .u64 0, .int .u64 0, .int .u64 0, .int .u64 0, .int .u64 0, .int .u64 0, .int .u64 0, .int .u64 0, .int .u64 0, .int .u64 0, .int .u64 0, .int .u64 0, .int .u64 0, .int .u64 0, .int .u64 0, .int .u64 0, .int .u64 0, .int .u64 0, .int .u64 0, .int .u64 0, .int .u64 0, .int .u64 0, .int .u64 0, .int .u64 0, .int .u64 0, .int .u64 0, .int .u64 0, .int .u64 0, .int .u64 0, .int .u64 0, .int .u64 0, .int .u64 0, .int .u64 0, .int .u64 0, .int .u64 0, .int .u64 0, .int .u64 0, .int .u64 0, .int .u64 0, .int .u64 0, .int .u64 0, .int .u64 0, .int .u64 0, .int .u64 0, .int .u64 0] false, []⟩,
 ⟨some 5, none, .alloc [.int .i64 0, .int .u64 0, .int .u64 0, .int .u64 0, .int .u64 0, .int .u64 0, .int .u64 0, .int .u64 0, .int .u64 0, .int .u64 0, .int .u64 0, .int .u64 0, .int .u64 0, .int .u64 0, .int .u64 0, .int .u64 0, .int .u64 0, .int .u64 0, .int .u64 0, .int .u64 0, .int .u64 0, .int .u64 0, .int .u64 0, .int .u64 0, .int .u64 0, .int .u64 0, .int .u64 0, .int .u64 0, .int .u64 0, .int .u64 0, .int .u64 0, .int .u64 0, .int .u64 0, .int .u64 0, .int .u64 0, .int .u64 0, .int .u64 0, .int .u64 0, .int .u64 0, .int .u64 0, .int .u64 0, .int .u64 0, .int .u64 0, .int .u64 0, .int .u64 0, .int .u64 0, .int .u64 0, .int .u64 0, .int .u64 0, .int .u64 0, .int .u64 0, .int .u64 0, .int .u64 0, .int .u64 0, .int .u64 0, .int .u64 0, .int .u64 0, .int .u64 0, .int .u64 0, .int .u64 0, .int .u64 0, .int .u64 0, .int .u64 0, .int .u64 0, .int .u64 0, .int .u64 0, .int .u64 0, .int .u64 0, .int .u64 0, .int .u64 0, .int .u64 0, .int .u64 0, .int .u64 0, .int .u64 0, .int .u64 0, .int .u64 0, .int .u64 0, .int .u64 0, .int .u64 0, .int .u64 0, .int .u64 0, .int .u64 0, .int .u64 0, .int .u64 0, .int .u64 0, .int .u64 0, .int .u64 0, .int .u64 0, .int .u64 0, .int .u64 0, .int .u64 0, .int .u64 0, .int .u64 0, .int .u64 0, .int .u64 0, .int .u64 0, .int .u64 0, .int .u64 0, .int .u64 0, .int .u64 0, .int .u64 0, .int .u64 0, .int .u64 0, .int .u64 0, .int .u64 0, .int .u64 0, .int .u64 0, .int .u64 0, .int .u64 0, .int .u64 0, .int .u64 0, .int .u64 0, .int .u64 0, .int .u64 0, .int .u64 0, .int .u64 0, .int .u64 0, .int .u64 0, .int .u64 0, .int .u64 0, .int .u64 0, .int .u64 0, .int .u64 0, .int .u64 0, .int .u64 0, .int .u64 0, .int .u64 0, .int .u64 0, .int .u64 0, .int .u64 0] false, []⟩,
 ⟨some 6, none, .mv (.c (.str [])), []⟩,
 ⟨some 7, none, .mv (.c (.int .i64 0)), []⟩])
 (.seq
 (.ops 1 [⟨some 11, none, .fld 1 (.t 2), []⟩,
 ⟨some 12, none, .ld 128 true (.t 11), []⟩,
 ⟨some 13, none, .mv (.t 1), []⟩,
 ⟨some 14, none, .call 168 [.t 12, .t 13], []⟩,
 ⟨some 10, none, .mv (.t 14), []⟩,
 ⟨some 15, none, .ext (.t 10) 0, []⟩,
 ⟨some 16, none, .ext (.t 10) 1, []⟩,
 ⟨some 17, none, .ext (.t 10) 2, []⟩,
 ⟨some 18, none, .ext (.t 10) 3, []⟩,
 ⟨some 8, none, .alloc (List.replicate 128 (.int .u64 0)) false, []⟩,
 ⟨some 9, none, .alloc (List.replicate 128 (.int .u64 0)) false, []⟩,
 ⟨none, none, .st 128 (.t 8) (.t 15), []⟩,
 ⟨none, none, .st 128 (.t 9) (.t 16), []⟩,
 ⟨some 6, none, .mv (.t 17), []⟩,
 ⟨some 7, none, .mv (.t 18), []⟩])
 (.seq
 (.ops 2 [⟨some 19, none, .fld 0 (.t 2), []⟩,
 ⟨some 20, none, .ld 1 false (.t 19), []⟩,
 ⟨some 21, none, .ld 128 true (.t 8), []⟩,
 ⟨some 22, none, .build [.int .i64 0, .int .u64 0, .int .u64 0, .int .u64 0, .int .u64 0, .int .u64 0, .int .u64 0, .int .u64 0, .int .u64 0, .int .u64 0, .int .u64 0, .int .u64 0, .int .u64 0, .int .u64 0, .int .u64 0, .int .u64 0, .int .u64 0, .int .u64 0, .int .u64 0, .int .u64 0, .int .u64 0, .int .u64 0, .int .u64 0, .int .u64 0, .int .u64 0, .int .u64 0, .int .u64 0, .int .u64 0, .int .u64 0, .int .u64 0, .int .u64 0, .int .u64 0, .int .u64 0, .int .u64 0, .int .u64 0, .int .u64 0, .int .u64 0, .int .u64 0, .int .u64 0, .int .u64 0, .int .u64 0, .int .u64 0, .int .u64 0, .int .u64 0, .int .u64 0, .int .u64 0, .int .u64 0, .int .u64 0, .int .u64 0, .int .u64 0, .int .u64 0, .int .u64 0, .int .u64 0, .int .u64 0, .int .u64 0, .int .u64 0, .int .u64 0, .int .u64 0, .int .u64 0, .int .u64 0, .int .u64 0, .int .u64 0, .int .u64 0, .int .u64 0, .int .u64 0, .int .u64 0, .int .u64 0, .int .u64 0, .int .u64 0, .int .u64 0, .int .u64 0, .int .u64 0, .int .u64 0, .int .u64 0, .int .u64 0, .int .u64 0, .int .u64 0, .int .u64 0, .int .u64 0, .int .u64 0, .int .u64 0, .int .u64 0, .int .u64 0, .int .u64 0, .int .u64 0, .int .u64 0, .int .u64 0, .int .u64 0, .int .u64 0, .int .u64 0, .int .u64 0, .int .u64 0, .int .u64 0, .int .u64 0, .int .u64 0, .int .u64 0, .int .u64 0, .int .u64 0, .int .u64 0, .int .u64 0, .int .u64 0, .int .u64 0, .int .u64 0, .int .u64 0, .int .u64 0, .int .u64 0, .int .u64 0, .int .u64 0, .int .u64 0, .int .u64 0, .int .u64 0, .int .u64 0, .int .u64 0, .int .u64 0, .int .u64 0, .int .u64 0, .int .u64 0, .int .u64 0, .int .u64 0, .int .u64 0, .int .u64 0, .int .u64 0, .int .u64 0, .int .u64 0, .int .u64 0, .int .u64 0, .int .u64 0, .int .u64 0, .int .u64 0, .int .u64 0] [(0, 1, (.t 20)), (1, 128, (.t 21))], []⟩,
 ⟨some 23, none, .mv (.t 1), []⟩,
 ⟨some 24, none, .ld 128 true (.t 9), []⟩,
 ⟨some 25, none, .build [.int .i64 0, .int .u64 0, .int .u64 0, .int .u64 0, .int .u64 0, .int .u64 0, .int .u64 0, .int .u64 0, .int .u64 0, .int .u64 0, .int .u64 0, .int .u64 0, .int .u64 0, .int .u64 0, .int .u64 0, .int .u64 0, .int .u64 0, .int .u64 0, .int .u64 0, .int .u64 0, .int .u64 0, .int .u64 0, .int .u64 0, .int .u64 0, .int .u64 0, .int .u64 0, .int .u64 0, .int .u64 0, .int .u64 0, .int .u64 0, .int .u64 0, .int .u64 0, .int .u64 0, .int .u64 0, .int .u64 0, .int .u64 0, .int .u64 0, .int .u64 0, .int .u64 0, .int .u64 0, .int .u64 0, .int .u64 0, .int .u64 0, .int .u64 0, .int .u64 0, .int .u64 0, .int .u64 0, .int .u64 0, .int .u64 0, .int .u64 0, .int .u64 0, .int .u64 0, .int .u64 0, .int .u64 0, .int .u64 0, .int .u64 0, .int .u64 0, .int .u64 0, .int .u64 0, .int .u64 0, .int .u64 0, .int .u64 0, .int .u64 0, .int .u64 0, .int .u64 0, .int .u64 0, .int .u64 0, .int .u64 0, .int .u64 0, .int .u64 0, .int .u64 0, .int .u64 0, .int .u64 0, .int .u64 0, .int .u64 0, .int .u64 0, .int .u64 0, .int .u64 0, .int .u64 0, .int .u64 0, .int .u64 0, .int .u64 0, .int .u64 0, .int .u64 0, .int .u64 0, .int .u64 0, .int .u64 0, .int .u64 0, .int .u64 0, .int .u64 0, .int .u64 0, .int .u64 0, .int .u64 0, .int .u64 0, .int .u64 0, .int .u64 0, .int .u64 0, .int .u64 0, .int .u64 0, .int .u64 0, .int .u64 0, .int .u64 0, .int .u64 0, .int .u64 0, .int .u64 0, .int .u64 0, .int .u64 0, .int .u64 0, .int .u64 0, .int .u64 0, .int .u64 0, .int .u64 0, .int .u64 0, .int .u64 0, .int .u64 0, .int .u64 0, .int .u64 0, .int .u64 0, .int .u64 0, .int .u64 0, .int .u64 0, .int .u64 0, .int .u64 0, .int .u64 0, .int .u64 0, .int .u64 0, .int .u64 0, .int .u64 0, .int .u64 0, .int .u64 0] [(0, 1, (.t 23)), (1, 128, (.t 24))], []⟩,
 ⟨some 26, none, .mv (.t 6), []⟩,
 ⟨some 27, none, .mv (.t 7), []⟩,
 ⟨none, none, .st 130 (.t 4) (.t 22), [(24, .ld 128 true (.t 9))]⟩,
 ⟨none, none, .st 130 (.t 5) (.t 25), []⟩,
 ⟨some 6, none, .mv (.t 26), []⟩,
 ⟨some 7, none, .mv (.t 27), []⟩])
 .ret)))⟩
theorem F110_code : cfgA.code 110 = some F110 := by kernel_rfl

/-- (*ticketline/grow.Root).take -/
noncomputable def F113 : AFn := ⟨100, [], (.seq
 (.ops 0 [⟨some 5, none, .mv (.t 0), []⟩,
 ⟨some 6, none, .nilc (.t 5) (mok Tryz.prog), []⟩,
 ⟨some 7, none, .fld 394 (.t 6), []⟩,
 ⟨some 8, none, .ld 1 false (.t 7), []⟩,
 ⟨some 9, none, .invk (.t 8) "Result" [], []⟩,
 ⟨some 10, none, .cvi .i64 (.t 9), []⟩,
 ⟨some 2, none, .mv (.t 10), []⟩])
 (.block 0
 (.seq
 (.ops 3 [⟨some 35, none, .mv (.t 2), []⟩,
 ⟨some 36, none, .bin .eql (.t 35) (.c (.int .i64 0)), []⟩,
 ⟨some 37, none, .mv (.t 36), []⟩,
 ⟨some 38, some (37, true), .mv (.t 0), []⟩,
 ⟨some 39, some (37, true), .nilc (.t 38) (mok Tryz.prog), []⟩,
 ⟨some 40, some (37, true), .fld 393 (.t 39), []⟩,
 ⟨some 41, some (37, true), .ld 1 false (.t 40), []⟩,
 ⟨some 42, some (37, true), .bin .eql (.t 41) (.c (.int .i64 8)), []⟩,
 ⟨some 43, none, .pick (.t 37) (.t 42) (.c (.bool false)), []⟩,
 ⟨some 34, none, .mv (.t 43), []⟩])
 (.cond (.t 34)
 (.ops 4 [⟨some 44, none, .mv (.t 0), []⟩,
 ⟨some 45, none, .nilc (.t 44) (mok Tryz.prog), []⟩,
 ⟨some 46, none, .fld 393 (.t 45), []⟩,
 ⟨none, none, .st 1 (.t 46) (.c (.int .i64 17)), []⟩])
 (.seq
 (.ops 5 [⟨some 48, none, .mv (.t 2), []⟩,
 ⟨some 49, none, .bin .eql (.t 48) (.c (.int .i64 0)), []⟩,
 ⟨some 47, none, .mv (.t 49), []⟩])
 (.cond (.t 47)
 (.ops 6 [⟨some 50, none, .mv (.t 0), []⟩,
 ⟨some 51, none, .mv (.t 0), []⟩,
 ⟨some 52, none, .mv (.t 0), []⟩,
 ⟨some 53, none, .nilc (.t 52) (mok Tryz.prog), []⟩,
 ⟨some 54, none, .fld 0 (.t 53), []⟩,
 ⟨some 55, none, .ld 2 true (.t 54), []⟩,
 ⟨some 56, none, .mv (.t 0), []⟩,
 ⟨some 57, none, .nilc (.t 56) (mok Tryz.prog), []⟩,
 ⟨some 58, none, .fld 2 (.t 57), []⟩,
 ⟨some 59, none, .ld 1 false (.t 58), []⟩,
 ⟨some 60, none, .mv (.t 0), []⟩,
 ⟨some 61, none, .nilc (.t 60) (mok Tryz.prog), []⟩,
 ⟨some 62, none, .fld 395 (.t 61), []⟩,
 ⟨some 63, none, .ld 1 false (.t 62), []⟩,
 ⟨some 64, none, .call 170 [.t 55, .t 59, .t 63], []⟩,
 ⟨some 65, none, .mki 241 (.t 64), []⟩,
 ⟨some 66, none, .nilc (.t 50) (mok Tryz.prog), []⟩,
 ⟨some 67, none, .fld 394 (.t 66), []⟩,
 ⟨none, none, .st 1 (.t 67) (.t 65), []⟩,
 ⟨some 68, none, .nilc (.t 51) (mok Tryz.prog), []⟩,
 ⟨some 69, none, .fld 393 (.t 68), []⟩,
 ⟨none, none, .st 1 (.t 69) (.c (.int .i64 10)), []⟩])
 (.seq
 (.ops 7 [⟨some 71, none, .mv (.t 0), []⟩,
 ⟨some 72, none, .nilc (.t 71) (mok Tryz.prog), []⟩,
 ⟨some 73, none, .fld 393 (.t 72), []⟩,
 ⟨some 74, none, .ld 1 false (.t 73), []⟩,
 ⟨some 75, none, .bin .eql (.t 74) (.c (.int .i64 8)), []⟩,
 ⟨some 70, none, .mv (.t 75), []⟩])
 (.cond (.t 70)
 (.seq
 (.ops 8 [⟨some 77, none, .mv (.t 0), []⟩,
 ⟨some 78, none, .nilc (.t 77) (mok Tryz.prog), []⟩,
 ⟨some 79, none, .fld 0 (.t 78), []⟩,
 ⟨some 80, none, .ld 2 true (.t 79), []⟩,
 ⟨some 81, none, .mv (.t 0), []⟩,
 ⟨some 82, none, .nilc (.t 81) (mok Tryz.prog), []⟩,
 ⟨some 83, none, .fld 2 (.t 82), []⟩,
 ⟨some 84, none, .ld 1 false (.t 83), []⟩,
 ⟨some 85, none, .call 82 [.t 80, .t 84], []⟩,
 ⟨some 76, none, .mv (.t 85), []⟩,
 ⟨some 86, none, .ext (.t 76) 0, []⟩,
 ⟨some 87, none, .ext (.t 76) 1, []⟩,
 ⟨some 3, none, .mv (.t 86), []⟩,
 ⟨some 4, none, .mv (.t 87), []⟩])
 (.ops 9 [⟨some 88, none, .mv (.t 0), []⟩,
 ⟨some 89, none, .mv (.t 0), []⟩,
 ⟨some 90, none, .mv (.t 0), []⟩,
 ⟨some 91, none, .mv (.t 2), []⟩,
 ⟨some 92, none, .mv (.t 3), []⟩,
 ⟨some 93, none, .mki 60 (.t 92), []⟩,
 ⟨some 94, none, .nilc (.t 88) (mok Tryz.prog), []⟩,
 ⟨some 95, none, .fld 395 (.t 94), []⟩,
 ⟨none, none, .st 1 (.t 95) (.t 91), []⟩,
 ⟨some 96, none, .nilc (.t 89) (mok Tryz.prog), []⟩,
 ⟨some 97, none, .fld 394 (.t 96), []⟩,
 ⟨none, none, .st 1 (.t 97) (.t 93), []⟩,
 ⟨some 98, none, .nilc (.t 90) (mok Tryz.prog), []⟩,
 ⟨some 99, none, .fld 393 (.t 98), []⟩,
 ⟨none, none, .st 1 (.t 99) (.c (.int .i64 9)), []⟩]))
 (.seq
 (.ops 1 [⟨some 11, none, .mv (.t 0), []⟩,
 ⟨some 12, none, .mv (.t 2), []⟩,
 ⟨some 13, none, .nilc (.t 11) (mok Tryz.prog), []⟩,
 ⟨some 14, none, .fld 396 (.t 13), []⟩,
 ⟨none, none, .st 1 (.t 14) (.t 12), []⟩])
 (.ops 2 [⟨some 15, none, .mv (.t 0), []⟩,
 ⟨some 16, none, .mv (.t 0), []⟩,
 ⟨some 17, none, .mv (.t 0), []⟩,
 ⟨some 18, none, .nilc (.t 17) (mok Tryz.prog), []⟩,
 ⟨some 19, none, .fld 0 (.t 18), []⟩,
 ⟨some 20, none, .ld 2 true (.t 19), []⟩,
 ⟨some 21, none, .mv (.t 0), []⟩,
 ⟨some 22, none, .nilc (.t 21) (mok Tryz.prog), []⟩,
 ⟨some 23, none, .fld 2 (.t 22), []⟩,
 ⟨some 24, none, .ld 1 false (.t 23), []⟩,
 ⟨some 25, none, .mv (.t 0), []⟩,
 ⟨some 26, none, .nilc (.t 25) (mok Tryz.prog), []⟩,
 ⟨some 27, none, .fld 396 (.t 26), []⟩,
 ⟨some 28, none, .ld 1 false (.t 27), []⟩,
 ⟨some 29, none, .call 109 [.t 20, .t 24, .t 28], []⟩,
 ⟨some 30, none, .nilc (.t 15) (mok Tryz.prog), []⟩,
 ⟨some 31, none, .fld 394 (.t 30), []⟩,
 ⟨none, none, .st 1 (.t 31) (.t 29), []⟩,
 ⟨some 32, none, .nilc (.t 16) (mok Tryz.prog), []⟩,
 ⟨some 33, none, .fld 393 (.t 32), []⟩,
 ⟨none, none, .st 1 (.t 33) (.c (.int .i64 12)), []⟩]))))))))))⟩
theorem F113_code : cfgA.code 113 = some F113 := by kernel_rfl

/-- (*ticketline/grow.Root).plan -/
noncomputable def F114 : AFn := ⟨67, [.tmp 2], (.seq
 (.ops 0 [⟨some 2, none, .mv (.c (.int .i64 0)), []⟩])
 (.seq
 (.ops 1 [⟨some 9, none, .mv (.t 0), []⟩,
 ⟨some 10, none, .nilc (.t 9) (mok Tryz.prog), []⟩,
 ⟨some 11, none, .fld 133 (.t 10), []⟩,
 ⟨some 12, none, .ld 130 true (.t 11), []⟩,
 ⟨some 13, none, .mv (.t 0), []⟩,
 ⟨some 14, none, .nilc (.t 13) (mok Tryz.prog), []⟩,
 ⟨some 15, none, .fld 395 (.t 14), []⟩,
 ⟨some 16, none, .ld 1 false (.t 15), []⟩,
 ⟨some 3, none, .alloc [.int .i64 0, .int .u64 0, .int .u64 0, .int .u64 0, .int .u64 0, .int .u64 0, .int .u64 0, .int .u64 0, .int .u64 0, .int .u64 0, .int .u64 0, .int .u64 0, .int .u64 0, .int .u64 0, .int .u64 0, .int .u64 0, .int .u64 0, .int .u64 0, .int .u64 0, .int .u64 0, .int .u64 0, .int .u64 0, .int .u64 0, .int .u64 0, .int .u64 0, .int .u64 0, .int .u64 0, .int .u64 0, .int .u64 0, .int .u64 0, .int .u64 0, .int .u64 0, .int .u64 0, .int .u64 0, .int .u64 0, .int .u64 0, .int .u64 0, .int .u64 0, .int .u64 0, .int .u64 0, .int .u64 0, .int .u64 0, .int .u64 0, .int .u64 0, .int .u64 0, .int .u64 0, .int .u64 0, .int .u64 0, .int .u64 0, .int .u64 0, .int .u64 0, .int .u64 0, .int .u64 0, .int .u64 0, .int .u64 0, .int .u64 0, .int .u64 0, .int .u64 0, .int .u64 0, .int .u64 0, .int .u64 0, .int .u64 0, .int .u64 0, .int .u64 0, .int .u64 0, .int .u64 0, .int .u64 0, .int .u64 0, .int .u64 0, .int .u64 0, .int .u64 0, .int .u64 0, .int .u64 0, .int .u64 0, .int .u64 0, .int .u64 0, .int .u64 0, .int .u64 0, .int .u64 0, .int .u64 0, .int .u64 0, .int .u64 0, .int .u64 0, .int .u64 0, .int .u64 0, .int .u64 0, .int .u64 0, .int .u64 0, .int .u64 0, .int .u64 0, .int .u64 0, .int .u64 0, .int .u64 0, .int .u64 0, .int .u64 0, .int .u64 0, .int .u64 0, .int .u64 0, .int .u64 0, .int .u64 0, .int .u64 0, .int .u64 0, .int .u64 0, .int .u64 0, .int .u64 0, .int .u64 0, .int .u64 0, .int .u64 0, .int .u64 0, .int .u64 0, .int .u64 0, .int .u64 0, .int .u64 0, .int .u64 0, .int .u64 0, .int .u64 0, .int .u64 0, .int .u64 0, .int .u64 0, .int .u64 0, .int .u64 0, .int .u64 0, .int .u64 0, .int .u64 0, .int .u64 0, .int .u64 0, .int .u64 0, .int .u64 0, .int .u64 0, .int .u64 0] false, []⟩,
 ⟨some 4, none, .alloc [.int .i64 0, .int .u64 0, .int .u64 0, .int .u64 0, .int .u64 0, .int .u64 0, .int .u64 0, .int .u64 0, .int .u64 0, .int .u64 0, .int .u64 0, .int .u64 0, .int .u64 0, .int .u64 0, .int .u64 0, .int .u64 0, .int .u64 0, .int .u64 0, .int .u64 0, .int .u64 0, .int .u64 0, .int .u64 0, .int .u64 0, .int .u64 0, .int .u64 0, .int .u64 0, .int .u64 0, .int .u64 0, .int .u64 0, .int .u64 0, .int .u64 0, .int .u64 0, .int .u64 0, .int .u64 0, .int .u64 0, .int .u64 0, .int .u64 0, .int .u64 0, .int .u64 0, .int .u64 0, .int .u64 0, .int .u64 0, .int .u64 0, .int .u64 0, .int .u64 0, .int .u64 0, .int .u64 0, .int .u64 0, .int .u64 0, .int .u64 0, .int .u64 0, .int .u64 0, .int .u64 0, .int .u64 0, .int .u64 0, .int .u64 0, .int .u64 0, .int .u64 0, .int .u64 0, .int .u64 0, .int .u64 0, .int .u64 0, .int .u64 0, .int .u64 0, .int .u64 0, .int .u64 0, .int .u64 0, .int .u64 0, .int .u64 0, .int .u64 0, .int .u64 0, .int .u64 0, .int .u64 0, .int .u64 0, .int .u64 0, .int .u64 0, .int .u64 0, .int .u64 0, .int .u64 0, .int .u64 0, .int .u64 0, .int .u64 0, .int .u64 0, .int .u64 0, .int .u64 0, .int .u64 0, .int .u64 0, .int .u64 0, .int .u64 0, .int .u64 0, .int .u64 0, .int .u64 0, .int .u64 0, .int .u64 0, .int .u64 0, .int .u64 0, .int .u64 0, .int .u64 0, .int .u64 0, .int .u64 0, .int .u64 0, .int .u64 0, .int .u64 0, .int .u64 0, .int .u64 0, .int .u64 0, .int .u64 0, .int .u64 0, .int .u64 0, .int .u64 0, .int .u64 0, .int .u64 0, .int .u64 0, .int .u64 0, .int .u64 0, .int .u64 0, .int .u64 0, .int .u64 0, .int .u64 0, .int .u64 0, .int .u64 0, .int .u64 0, .int .u64 0, .int .u64 0, .int .u64 0, .int .u64 0, .int .u64 0, .int .u64 0, .int .u64 0, .int .u64 0] false, []⟩,
 ⟨some 17, none, .call 110 [.t 12, .t 16], []⟩,
 ⟨some 8, none, .mv (.t 17), []⟩,
 ⟨some 18, none, .ext (.t 8) 0, []⟩,
 ⟨some 19, none, .ext (.t 8) 1, []⟩,
 ⟨some 20, none, .ext (.t 8) 2, []⟩,
 ⟨some 21, none, .ext (.t 8) 3, []⟩,
 ⟨none, none, .st 130 (.t 3) (.t 18), []⟩,
 ⟨none, none, .st 130 (.t 4) (.t 19), []⟩,
 ⟨some 5, none, .mv (.t 20), []⟩,
 ⟨some 6, none, .mv (.t 21), []⟩])
 (.seq
 (.seq
 (.ops 2 [⟨some 22, none, .mv (.t 6), []⟩,
 ⟨some 23, none, .bin .neq (.t 22) (.c (.int .i64 0)), []⟩])
 (.cond (.t 23)
 (.seq
 (.ops 3 [⟨some 24, none, .mv (.t 6), []⟩,
 ⟨some 2, none, .mv (.t 24), []⟩])
 .ret)
 .skip))
 (.seq
 (.ops 4 [⟨some 26, none, .mv (.t 0), []⟩,
 ⟨some 27, none, .nilc (.t 26) (mok Tryz.prog), []⟩,
 ⟨some 28, none, .fld 133 (.t 27), []⟩,
 ⟨some 29, none, .fld 1 (.t 28), []⟩,
 ⟨some 30, none, .ld 128 true (.t 29), []⟩,
 ⟨some 33, none, .fld 0 (.t 3), []⟩,
 ⟨some 34, none, .ld 1 false (.t 33), []⟩,
 ⟨some 35, none, .fld 0 (.t 4), []⟩,
 ⟨some 36, none, .ld 1 false (.t 35), []⟩,
 ⟨some 37, none, .mv (.t 5), []⟩,
 ⟨some 7, none, .alloc (List.replicate 128 (.int .u64 0)) false, []⟩,
 ⟨some 31, none, .call 77 [.t 30], [(34, .ld 1 false (.t 33)), (36, .ld 1 false (.t 35))]⟩,
 ⟨some 32, none, .bin .add (.t 31) (.c (.int .i64 1)), []⟩,
 ⟨some 38, none, .call 171 [.t 32, .t 34, .t 36, .t 37], []⟩,
 ⟨some 25, none, .mv (.t 38), []⟩,
 ⟨some 39, none, .ext (.t 25) 0, []⟩,
 ⟨some 40, none, .ext (.t 25) 1, []⟩,
 ⟨none, none, .st 128 (.t 7) (.t 39), []⟩,
 ⟨some 6, none, .mv (.t 40), []⟩])
 (.seq
 (.seq
 (.ops 5 [⟨some 41, none, .mv (.t 6), []⟩,
 ⟨some 42, none, .bin .neq (.t 41) (.c (.int .i64 0)), []⟩])
 (.cond (.t 42)
 (.seq
 (.ops 6 [⟨some 43, none, .mv (.t 6), []⟩,
 ⟨some 2, none, .mv (.t 43), []⟩])
 .ret)
 .skip))
 (.seq
 (.ops 7 [⟨some 44, none, .mv (.t 0), []⟩,
 ⟨some 45, none, .mv (.t 0), []⟩,
 ⟨some 46, none, .mv (.t 0), []⟩,
 ⟨some 47, none, .ld 130 true (.t 3), []⟩,
 ⟨some 48, none, .ld 130 true (.t 4), []⟩,
 ⟨some 49, none, .mv (.t 0), []⟩,
 ⟨some 50, none, .nilc (.t 49) (mok Tryz.prog), []⟩,
 ⟨some 51, none, .fld 396 (.t 50), []⟩,
 ⟨some 52, none, .ld 1 false (.t 51), []⟩,
 ⟨some 53, none, .ld 128 true (.t 7), []⟩,
 ⟨some 54, none, .build [.int .i64 0, .int .u64 0, .int .u64 0, .int .u64 0, .int .u64 0, .int .u64 0, .int .u64 0, .int .u64 0, .int .u64 0, .int .u64 0, .int .u64 0, .int .u64 0, .int .u64 0, .int .u64 0, .int .u64 0, .int .u64 0, .int .u64 0, .int .u64 0, .int .u64 0, .int .u64 0, .int .u64 0, .int .u64 0, .int .u64 0, .int .u64 0, .int .u64 0, .int .u64 0, .int .u64 0, .int .u64 0, .int .u64 0, .int .u64 0, .int .u64 0, .int .u64 0, .int .u64 0, .int .u64 0, .int .u64 0, .int .u64 0, .int .u64 0, .int .u64 0, .int .u64 0, .int .u64 0, .int .u64 0, .int .u64 0, .int .u64 0, .int .u64 0, .int .u64 0, .int .u64 0, .int .u64 0, .int .u64 0, .int .u64 0, .int .u64 0, .int .u64 0, .int .u64 0, .int .u64 0, .int .u64 0, .int .u64 0, .int .u64 0, .int .u64 0, .int .u64 0, .int .u64 0, .int .u64 0, .int .u64 0, .int .u64 0, .int .u64 0, .int .u64 0, .int .u64 0, .int .u64 0, .int .u64 0, .int .u64 0, .int .u64 0, .int .u64 0, .int .u64 0, .int .u64 0, .int .u64 0, .int .u64 0, .int .u64 0, .int .u64 0, .int .u64 0, .int .u64 0, .int .u64 0, .int .u64 0, .int .u64 0, .int .u64 0, .int .u64 0, .int .u64 0, .int .u64 0, .int .u64 0, .int .u64 0, .int .u64 0, .int .u64 0, .int .u64 0, .int .u64 0, .int .u64 0, .int .u64 0, .int .u64 0, .int .u64 0, .int .u64 0, .int .u64 0, .int .u64 0, .int .u64 0, .int .u64 0, .int .u64 0, .int .u64 0, .int .u64 0, .int .u64 0, .int .u64 0, .int .u64 0, .int .u64 0, .int .u64 0, .int .u64 0, .int .u64 0, .int .u64 0, .int .u64 0, .int .u64 0, .int .u64 0, .int .u64 0, .int .u64 0, .int .u64 0, .int .u64 0, .int .u64 0, .int .u64 0, .int .u64 0, .int .u64 0, .int .u64 0, .int .u64 0, .int .u64 0, .int .u64 0, .int .u64 0, .int .u64 0, .int .u64 0, .int .u64 0] [(0, 1, (.t 52)), (1, 128, (.t 53))], []⟩,
 ⟨some 55, none, .nilc (.t 44) (mok Tryz.prog), []⟩,
 ⟨some 56, none, .fld 133 (.t 55), []⟩,
 ⟨none, none, .st 130 (.t 56) (.t 47), [(48, .ld 130 true (.t 4)), (53, .ld 128 true (.t 7))]⟩,
 ⟨some 57, none, .nilc (.t 45) (mok Tryz.prog), []⟩,
 ⟨some 58, none, .fld 263 (.t 57), []⟩,
 ⟨none, none, .st 130 (.t 58) (.t 48), [(53, .ld 128 true (.t 7))]⟩,
 ⟨some 59, none, .nilc (.t 46) (mok Tryz.prog), []⟩,
 ⟨some 60, none, .fld 3 (.t 59), []⟩,
 ⟨none, none, .st 130 (.t 60) (.t 54), []⟩])
 (.seq
 (.ops 8 [⟨some 61, none, .mv (.t 0), []⟩,
 ⟨some 62, none, .mv (.t 0), []⟩,
 ⟨some 63, none, .nilc (.t 62) (mok Tryz.prog), []⟩,
 ⟨some 64, none, .fld 263 (.t 63), []⟩,
 ⟨some 65, none, .ld 130 true (.t 64), []⟩,
 ⟨some 66, none, .call 115 [.t 61, .t 65, .c (.int .i64 13)], []⟩,
 ⟨some 2, none, .mv (.t 66), []⟩])
 .ret)))))))⟩
theorem F114_code : cfgA.code 114 = some F114 := by kernel_rfl

/-- (*ticketline/grow.Root).write -/
noncomputable def F115 : AFn := ⟨30, [.tmp 6], (.seq
 (.ops 0 [⟨some 4, none, .box 130 (.t 1) false, []⟩,
 ⟨some 6, none, .mv (.c (.int .i64 0)), []⟩])
 (.seq
 (.ops 1 [⟨some 10, none, .mv (.t 0), []⟩,
 ⟨some 11, none, .nilc (.t 10) (mok Tryz.prog), []⟩,
 ⟨some 12, none, .fld 0 (.t 11), []⟩,
 ⟨some 13, none, .ld 2 true (.t 12), []⟩,
 ⟨some 14, none, .fld 0 (.t 4), []⟩,
 ⟨some 15, none, .ld 1 false (.t 14), []⟩,
 ⟨some 16, none, .fld 1 (.t 4), []⟩,
 ⟨some 17, none, .ld 128 true (.t 16), []⟩,
 ⟨some 18, none, .call 73 [.t 13, .t 15, .t 17], []⟩,
 ⟨some 9, none, .mv (.t 18), []⟩,
 ⟨some 19, none, .ext (.t 9) 0, []⟩,
 ⟨some 20, none, .ext (.t 9) 1, []⟩,
 ⟨some 7, none, .mv (.t 19), []⟩,
 ⟨some 8, none, .mv (.t 20), []⟩])
 (.seq
 (.ops 2 [⟨some 21, none, .mv (.t 0), []⟩,
 ⟨some 22, none, .mv (.t 0), []⟩,
 ⟨some 23, none, .mv (.t 7), []⟩,
 ⟨some 24, none, .mv (.t 2), []⟩,
 ⟨some 25, none, .nilc (.t 21) (mok Tryz.prog), []⟩,
 ⟨some 26, none, .fld 394 (.t 25), []⟩,
 ⟨none, none, .st 1 (.t 26) (.t 23), []⟩,
 ⟨some 27, none, .nilc (.t 22) (mok Tryz.prog), []⟩,
 ⟨some 28, none, .fld 393 (.t 27), []⟩,
 ⟨none, none, .st 1 (.t 28) (.t 24), []⟩])
 (.seq
 (.ops 3 [⟨some 29, none, .mv (.t 8), []⟩,
 ⟨some 6, none, .mv (.t 29), []⟩])
 .ret))))⟩
theorem F115_code : cfgA.code 115 = some F115 := by kernel_rfl

/-- ticketline/version.NewWrite -/
noncomputable def F116 : AFn := ⟨19, [.tmp 6, .tmp 7], (.seq
 (.ops 0 [⟨some 6, none, .mv (.c (.nilp)), []⟩,
 ⟨some 7, none, .mv (.c (.int .i64 0)), []⟩])
 (.seq
 (.seq
 (.ops 1 [⟨some 8, none, .mv (.t 0), []⟩,
 ⟨some 9, none, .mv (.t 1), []⟩,
 ⟨some 10, none, .mv (.t 2), []⟩,
 ⟨some 11, none, .len .slice (.t 10), []⟩,
 ⟨some 12, none, .call 172 [.t 8, .t 9, .t 11], []⟩])
 (.cond (.t 12)
 (.seq
 (.ops 2 [⟨some 6, none, .mv (.c (.nilp)), []⟩,
 ⟨some 7, none, .mv (.c (.int .i64 2)), []⟩])
 .ret)
 .skip))
 (.seq
 (.ops 3 [⟨some 13, none, .mv (.t 0), []⟩,
 ⟨some 14, none, .mv (.t 1), []⟩,
 ⟨some 15, none, .mv (.t 2), []⟩,
 ⟨some 16, none, .call 173 [.t 15], []⟩,
 ⟨some 17, none, .build [.bool false, .int .i64 0, .int .i64 0, .nils, .int .u64 0, .int .i64 0, .bool false] [(0, 1, (.c (.bool true))), (1, 1, (.t 13)), (2, 1, (.t 14)), (3, 1, (.t 16))], []⟩,
 ⟨some 18, none, .box 7 (.t 17) true, []⟩,
 ⟨some 6, none, .mv (.t 18), []⟩,
 ⟨some 7, none, .mv (.c (.int .i64 0)), []⟩])
 .ret)))⟩
theorem F116_code : cfgA.code 116 = some F116 := by kernel_rfl

/-- (*ticketline/mem.Mem).Words -/
noncomputable def F117 : AFn := ⟨36, [.tmp 6, .tmp 7], (.seq
 (.ops 0 [⟨some 6, none, .mv (.c (.nils)), []⟩,
 ⟨some 7, none, .mv (.c (.int .i64 0)), []⟩])
 (.seq
 (.block 0
 (.seq
 (.ops 1 [⟨some 9, none, .mv (.t 0), []⟩,
 ⟨some 10, none, .call 174 [.t 9], []⟩,
 ⟨some 8, none, .mv (.t 10), []⟩])
 (.cond (.t 8)
 (.seq
 (.ops 2 [⟨some 6, none, .mv (.c (.nils)), []⟩,
 ⟨some 7, none, .mv (.c (.int .i64 1)), []⟩])
 .ret)
 (.seq
 (.ops 3 [⟨some 12, none, .mv (.t 1), []⟩,
 ⟨some 13, none, .bin .lss (.t 12) (.c (.int .i64 0)), []⟩,
 ⟨some 14, none, .mv (.t 13), []⟩,
 ⟨some 15, some (14, false), .mv (.t 2), []⟩,
 ⟨some 16, some (14, false), .mv (.t 1), []⟩,
 ⟨some 17, some (14, false), .bin .lss (.t 15) (.t 16), []⟩,
 ⟨some 18, none, .pick (.t 14) (.c (.bool true)) (.t 17), []⟩,
 ⟨some 19, none, .mv (.t 18), []⟩,
 ⟨some 20, some (19, false), .mv (.t 2), []⟩,
 ⟨some 21, some (19, false), .mv (.t 0), []⟩,
 ⟨some 22, some (19, false), .nilc (.t 21) (mok Tryz.prog), []⟩,
 ⟨some 23, some (19, false), .fld 0 (.t 22), []⟩,
 ⟨some 24, some (19, false), .ld 1 false (.t 23), []⟩,
 ⟨some 25, some (19, false), .len .slice (.t 24), []⟩,
 ⟨some 26, some (19, false), .bin .gtr (.t 20) (.t 25), []⟩,
 ⟨some 27, none, .pick (.t 19) (.c (.bool true)) (.t 26), []⟩,
 ⟨some 11, none, .mv (.t 27), []⟩])
 (.cond (.t 11)
 (.seq
 (.ops 4 [⟨some 6, none, .mv (.c (.nils)), []⟩,
 ⟨some 7, none, .mv (.c (.int .i64 3)), []⟩])
 .ret)
 .skip)))))
 (.seq
 (.ops 5 [⟨some 28, none, .mv (.t 0), []⟩,
 ⟨some 29, none, .nilc (.t 28) (mok Tryz.prog), []⟩,
 ⟨some 30, none, .fld 0 (.t 29), []⟩,
 ⟨some 31, none, .ld 1 false (.t 30), []⟩,
 ⟨some 32, none, .mv (.t 1), []⟩,
 ⟨some 33, none, .mv (.t 2), []⟩,
 ⟨some 34, none, .slc none 1 (.t 31) (some (.t 32)) (some (.t 33)), []⟩,
 ⟨some 35, none, .call 173 [.t 34], []⟩,
 ⟨some 6, none, .mv (.t 35), []⟩,
 ⟨some 7, none, .mv (.c (.int .i64 0)), []⟩])
 .ret)))⟩
theorem F117_code : cfgA.code 117 = some F117 := by kernel_rfl

/-- ticketline/ticketlineref27.At -/
noncomputable def F118 : AFn := ⟨9, [.tmp 2], (.seq
 (.ops 0 [⟨some 2, none, .mv (.c (.int .i64 0)), []⟩])
 (.seq
 (.seq
 (.ops 1 [⟨some 3, none, .mv (.t 0), []⟩,
 ⟨some 4, none, .bin .eql (.t 3) (.c (.int .i64 0)), []⟩])
 (.cond (.t 4)
 (.seq
 (.ops 2 [⟨some 2, none, .mv (.c (.int .i64 8)), []⟩])
 .ret)
 .skip))
 (.seq
 (.ops 3 [⟨some 5, none, .mv (.t 0), []⟩,
 ⟨some 6, none, .bin .sub (.t 5) (.c (.int .i64 1)), []⟩,
 ⟨some 7, none, .bin .mul (.c (.int .i64 128)) (.t 6), []⟩,
 ⟨some 8, none, .bin .add (.c (.int .i64 16)) (.t 7), []⟩,
 ⟨some 2, none, .mv (.t 8), []⟩])
 .ret)))⟩
theorem F118_code : cfgA.code 118 = some F118 := by kernel_rfl

/-- ticketline/page.find -/
noncomputable def F119 : AFn := ⟨31, [.tmp 6, .tmp 7, .tmp 8], (.seq
 (.ops 0 [⟨some 3, none, .box 128 (.t 0) false, []⟩,
 ⟨some 6, none, .mv (.c (.int .i64 0)), []⟩,
 ⟨some 7, none, .mv (.c (.bool false)), []⟩,
 ⟨some 8, none, .mv (.c (.int .i64 0)), []⟩])
 (.seq
 (.ops 1 [⟨some 13, none, .ld 128 true (.t 3), []⟩,
 ⟨some 14, none, .mv (.t 1), []⟩,
 ⟨some 15, none, .call 175 [.t 13, .t 14], []⟩,
 ⟨some 12, none, .mv (.t 15), []⟩,
 ⟨some 16, none, .ext (.t 12) 0, []⟩,
 ⟨some 17, none, .ext (.t 12) 1, []⟩,
 ⟨some 18, none, .ext (.t 12) 2, []⟩,
 ⟨some 9, none, .mv (.t 16), []⟩,
 ⟨some 10, none, .mv (.t 17), []⟩,
 ⟨some 11, none, .mv (.t 18), []⟩])
 (.seq
 (.seq
 (.ops 2 [⟨some 19, none, .mv (.t 11), []⟩,
 ⟨some 20, none, .bin .neq (.t 19) (.c (.int .i64 0)), []⟩])
 (.cond (.t 20)
 (.seq
 (.ops 3 [⟨some 21, none, .mv (.t 11), []⟩,
 ⟨some 6, none, .mv (.c (.int .i64 0)), []⟩,
 ⟨some 7, none, .mv (.c (.bool false)), []⟩,
 ⟨some 8, none, .mv (.t 21), []⟩])
 .ret)
 .skip))
 (.seq
 (.ops 4 [⟨some 22, none, .mv (.t 9), []⟩,
 ⟨some 23, none, .mv (.t 10), []⟩,
 ⟨some 24, none, .ld 128 true (.t 3), []⟩,
 ⟨some 25, none, .call 77 [.t 24], []⟩,
 ⟨some 26, none, .bin .eql (.t 25) (.c (.int .i64 0)), []⟩,
 ⟨some 27, none, .mv (.t 9), []⟩,
 ⟨some 28, none, .mv (.t 1), []⟩,
 ⟨some 29, none, .mv (.t 2), []⟩,
 ⟨some 30, none, .call 176 [.t 26, .t 27, .t 28, .t 29], []⟩,
 ⟨some 6, none, .mv (.t 22), []⟩,
 ⟨some 7, none, .mv (.t 23), []⟩,
 ⟨some 8, none, .mv (.t 30), []⟩])
 .ret))))⟩
theorem F119_code : cfgA.code 119 = some F119 := by kernel_rfl

/-- ticketline/page.Insert -/
noncomputable def F120 : AFn := ⟨46, [.cell 6 128 true, .tmp 7], (.seq
 (.ops 0 [⟨some 3, none, .box 128 (.t 0) false, []⟩,
 ⟨some 6, none, .alloc (List.replicate 128 (.int .u64 0)) false, []⟩,
 ⟨some 7, none, .mv (.c (.int .i64 0)), []⟩])
 (.seq
 (.ops 1 [⟨some 14, none, .ld 128 true (.t 3), []⟩,
 ⟨some 15, none, .mv (.t 1), []⟩,
 ⟨some 16, none, .mv (.t 2), []⟩,
 ⟨some 17, none, .call 119 [.t 14, .t 15, .t 16], []⟩,
 ⟨some 13, none, .mv (.t 17), []⟩,
 ⟨some 18, none, .ext (.t 13) 0, []⟩,
 ⟨some 19, none, .ext (.t 13) 1, []⟩,
 ⟨some 20, none, .ext (.t 13) 2, []⟩,
 ⟨some 8, none, .mv (.t 18), []⟩,
 ⟨some 9, none, .mv (.t 19), []⟩,
 ⟨some 10, none, .mv (.t 20), []⟩])
 (.seq
 (.block 0
 (.seq
 (.ops 2 [⟨some 22, none, .mv (.t 10), []⟩,
 ⟨some 23, none, .bin .neq (.t 22) (.c (.int .i64 0)), []⟩,
 ⟨some 21, none, .mv (.t 23), []⟩])
 (.cond (.t 21)
 (.seq
 (.ops 3 [⟨some 24, none, .build (List.replicate 128 (.int .u64 0)) [], []⟩,
 ⟨some 25, none, .mv (.t 10), []⟩,
 ⟨none, none, .st 128 (.t 6) (.t 24), []⟩,
 ⟨some 7, none, .mv (.t 25), []⟩])
 .ret)
 (.seq
 (.ops 4 [⟨some 27, none, .mv (.t 9), []⟩,
 ⟨some 26, none, .mv (.t 27), []⟩])
 (.cond (.t 26)
 (.seq
 (.ops 5 [⟨some 28, none, .build (List.replicate 128 (.int .u64 0)) [], []⟩,
 ⟨none, none, .st 128 (.t 6) (.t 28), []⟩,
 ⟨some 7, none, .mv (.c (.int .i64 11)), []⟩])
 .ret)
 .skip)))))
 (.seq
 (.seq
 (.ops 6 [⟨some 29, none, .ld 128 true (.t 3), []⟩,
 ⟨some 30, none, .mv (.t 1), []⟩,
 ⟨some 31, none, .mv (.t 2), []⟩,
 ⟨some 32, none, .call 122 [.t 29, .t 30, .t 31, .c (.int .i64 0)], []⟩,
 ⟨some 11, none, .mv (.t 32), []⟩])
 (.seq
 (.ops 7 [⟨some 33, none, .mv (.t 11), []⟩,
 ⟨some 34, none, .bin .neq (.t 33) (.c (.int .i64 0)), []⟩])
 (.cond (.t 34)
 (.seq
 (.ops 8 [⟨some 35, none, .build (List.replicate 128 (.int .u64 0)) [], []⟩,
 ⟨some 36, none, .mv (.t 11), []⟩,
 ⟨none, none, .st 128 (.t 6) (.t 35), []⟩,
 ⟨some 7, none, .mv (.t 36), []⟩])
 .ret)
 .skip)))
 (.seq
 (.seq
 (.ops 9 [⟨some 37, none, .mv (.t 8), []⟩,
 ⟨some 38, none, .mv (.t 1), []⟩,
 ⟨some 39, none, .mv (.t 2), []⟩,
 ⟨some 40, none, .call 127 [.t 3, .t 37, .t 38, .t 39], []⟩,
 ⟨some 12, none, .mv (.t 40), []⟩])
 (.seq
 (.ops 10 [⟨some 41, none, .mv (.t 12), []⟩,
 ⟨some 42, none, .bin .neq (.t 41) (.c (.int .i64 0)), []⟩])
 (.cond (.t 42)
 (.seq
 (.ops 11 [⟨some 43, none, .build (List.replicate 128 (.int .u64 0)) [], []⟩,
 ⟨some 44, none, .mv (.t 12), []⟩,
 ⟨none, none, .st 128 (.t 6) (.t 43), []⟩,
 ⟨some 7, none, .mv (.t 44), []⟩])
 .ret)
 .skip)))
 (.seq
 (.ops 12 [⟨some 45, none, .ld 128 true (.t 3), []⟩,
 ⟨none, none, .st 128 (.t 6) (.t 45), []⟩,
 ⟨some 7, none, .mv (.c (.int .i64 0)), []⟩])
 .ret))))))⟩
theorem F120_code : cfgA.code 120 = some F120 := by kernel_rfl

/-- ticketline/page.room -/
noncomputable def F122 : AFn := ⟨29, [.tmp 8], (.seq
 (.ops 0 [⟨some 4, none, .box 128 (.t 0) false, []⟩,
 ⟨some 8, none, .mv (.c (.int .i64 0)), []⟩])
 (.seq
 (.ops 1 [⟨some 12, none, .ld 128 true (.t 4), []⟩,
 ⟨some 13, none, .call 178 [.t 12], []⟩,
 ⟨some 11, none, .mv (.t 13), []⟩,
 ⟨some 14, none, .ext (.t 11) 0, []⟩,
 ⟨some 15, none, .ext (.t 11) 1, []⟩,
 ⟨some 9, none, .mv (.t 14), []⟩,
 ⟨some 10, none, .mv (.t 15), []⟩])
 (.seq
 (.block 0
 (.seq
 (.ops 2 [⟨some 17, none, .mv (.t 10), []⟩,
 ⟨some 18, none, .bin .neq (.t 17) (.c (.int .i64 0)), []⟩,
 ⟨some 16, none, .mv (.t 18), []⟩])
 (.cond (.t 16)
 (.seq
 (.ops 3 [⟨some 19, none, .mv (.t 10), []⟩,
 ⟨some 8, none, .mv (.t 19), []⟩])
 .ret)
 (.seq
 (.ops 4 [⟨some 21, none, .mv (.t 9), []⟩,
 ⟨some 22, none, .mv (.t 3), []⟩,
 ⟨some 23, none, .bin .sub (.t 21) (.t 22), []⟩,
 ⟨some 24, none, .mv (.t 1), []⟩,
 ⟨some 25, none, .mv (.t 2), []⟩,
 ⟨some 26, none, .call 123 [.t 24, .t 25], []⟩,
 ⟨some 27, none, .bin .add (.t 23) (.t 26), []⟩,
 ⟨some 28, none, .bin .gtr (.t 27) (.c (.int .i64 108)), []⟩,
 ⟨some 20, none, .mv (.t 28), []⟩])
 (.cond (.t 20)
 (.seq
 (.ops 5 [⟨some 8, none, .mv (.c (.int .i64 7)), []⟩])
 .ret)
 .skip)))))
 (.seq
 (.ops 6 [⟨some 8, none, .mv (.c (.int .i64 0)), []⟩])
 .ret))))⟩
theorem F122_code : cfgA.code 122 = some F122 := by kernel_rfl

/-- ticketline/slot.Cost -/
noncomputable def F123 : AFn := ⟨13, [.tmp 4], (.seq
 (.ops 0 [⟨some 4, none, .mv (.c (.int .i64 0)), []⟩])
 (.seq
 (.ops 1 [⟨some 5, none, .mv (.t 0), []⟩,
 ⟨some 6, none, .len .string (.t 5), []⟩,
 ⟨some 7, none, .call 124 [.t 6], []⟩,
 ⟨some 8, none, .bin .add (.c (.int .i64 1)) (.t 7), []⟩,
 ⟨some 9, none, .mv (.t 1), []⟩,
 ⟨some 10, none, .len .string (.t 9), []⟩,
 ⟨some 11, none, .call 124 [.t 10], []⟩,
 ⟨some 12, none, .bin .add (.t 8) (.t 11), []⟩,
 ⟨some 4, none, .mv (.t 12), []⟩])
 .ret))⟩
theorem F123_code : cfgA.code 123 = some F123 := by kernel_rfl

/-- ticketline/keys.Words -/
noncomputable def F124 : AFn := ⟨9, [.tmp 2], (.seq
 (.ops 0 [⟨some 2, none, .mv (.c (.int .i64 0)), []⟩])
 (.seq
 (.seq
 (.ops 1 [⟨some 3, none, .mv (.t 0), []⟩,
 ⟨some 4, none, .bin .leq (.t 3) (.c (.int .i64 0)), []⟩])
 (.cond (.t 4)
 (.seq
 (.ops 2 [⟨some 2, none, .mv (.c (.int .i64 0)), []⟩])
 .ret)
 .skip))
 (.seq
 (.ops 3 [⟨some 5, none, .mv (.t 0), []⟩,
 ⟨some 6, none, .bin .sub (.t 5) (.c (.int .i64 1)), []⟩,
 ⟨some 7, none, .bin .quo (.t 6) (.c (.int .i64 8)), []⟩,
 ⟨some 8, none, .bin .add (.t 7) (.c (.int .i64 1)), []⟩,
 ⟨some 2, none, .mv (.t 8), []⟩])
 .ret)))⟩
theorem F124_code : cfgA.code 124 = some F124 := by kernel_rfl

/-- ticketline/keys.Pack: the round 0 -/
noncomputable def B125x0 : AC := (.seq
 (.ops 9 [⟨some 19, none, .bin .lss (.t 18) (.c (.int .i64 8)), []⟩])
 (.seq
 (.cond (.t 19)
 .skip
 (.exit 2))
 (.seq
 (.block 3
 (.seq
 (.ops 10 [⟨some 20, none, .mv (.t 18), []⟩,
 ⟨some 7, none, .mv (.t 20), []⟩])
 (.seq
 (.ops 11 [⟨some 21, none, .mv (.t 6), []⟩,
 ⟨some 22, none, .bin .shl (.t 21) (.c (.int .u64 8)), []⟩,
 ⟨some 6, none, .mv (.t 22), []⟩])
 (.seq
 (.ops 12 [⟨some 23, none, .mv (.t 5), []⟩,
 ⟨some 24, none, .bin .mul (.t 23) (.c (.int .i64 8)), []⟩,
 ⟨some 25, none, .mv (.t 7), []⟩,
 ⟨some 26, none, .bin .add (.t 24) (.t 25), []⟩,
 ⟨some 8, none, .mv (.t 26), []⟩])
 (.seq
 (.ops 13 [⟨some 27, none, .mv (.t 8), []⟩,
 ⟨some 28, none, .mv (.t 0), []⟩,
 ⟨some 29, none, .len .string (.t 28), []⟩,
 ⟨some 30, none, .bin .lss (.t 27) (.t 29), []⟩])
 (.cond (.t 30)
 (.ops 14 [⟨some 31, none, .mv (.t 6), []⟩,
 ⟨some 32, none, .mv (.t 0), []⟩,
 ⟨some 33, none, .mv (.t 8), []⟩,
 ⟨some 34, none, .ixs (.t 32) (.t 33), []⟩,
 ⟨some 35, none, .cvi .u64 (.t 34), []⟩,
 ⟨some 36, none, .bin .or (.t 31) (.t 35), []⟩,
 ⟨some 6, none, .mv (.t 36), []⟩])
 .skip))))))
 (.ops 15 [⟨some 37, none, .bin .add (.t 18) (.c (.int .i64 1)), []⟩,
 ⟨some 18, none, .mv (.t 37), []⟩]))))
/-- ticketline/keys.Pack: the round 1 -/
noncomputable def B125x1 : AC := (.seq
 (.ops 5 [⟨some 16, none, .bin .lss (.t 15) (.t 14), []⟩])
 (.seq
 (.cond (.t 16)
 .skip
 (.exit 0))
 (.seq
 (.block 1
 (.seq
 (.ops 6 [⟨some 17, none, .mv (.t 15), []⟩,
 ⟨some 5, none, .mv (.t 17), []⟩])
 (.seq
 (.ops 7 [⟨some 6, none, .mv (.c (.int .u64 0)), []⟩])
 (.seq
 (.seq
 (.ops 8 [⟨some 18, none, .mv (.c (.int .i64 0)), []⟩])
 (.block 2
 (.loop [] B125x0)))
 (.ops 16 [⟨some 38, none, .mv (.t 4), []⟩,
 ⟨some 39, none, .mv (.t 6), []⟩,
 ⟨some 40, none, .bslice [.int .u64 0] 1 1 [(0, (.t 39))] false false, []⟩,
 ⟨some 41, none, .app 1 8 (.t 38) (.t 40) false, []⟩,
 ⟨some 4, none, .mv (.t 41), []⟩])))))
 (.ops 17 [⟨some 42, none, .bin .add (.t 15) (.c (.int .i64 1)), []⟩,
 ⟨some 15, none, .mv (.t 42), []⟩]))))
/-- ticketline/keys.Pack -/
noncomputable def F125 : AFn := ⟨44, [.tmp 2, .tmp 3], (.seq
 (.ops 0 [⟨some 2, none, .mv (.c (.nils)), []⟩,
 ⟨some 3, none, .mv (.c (.int .i64 0)), []⟩])
 (.seq
 (.seq
 (.ops 1 [⟨some 9, none, .mv (.t 0), []⟩,
 ⟨some 10, none, .call 179 [.t 9], []⟩,
 ⟨some 11, none, .un .not (.t 10), []⟩])
 (.cond (.t 11)
 (.seq
 (.ops 2 [⟨some 2, none, .mv (.c (.nils)), []⟩,
 ⟨some 3, none, .mv (.c (.int .i64 5)), []⟩])
 .ret)
 .skip))
 (.seq
 (.ops 3 [⟨some 4, none, .mv (.c (.nils)), []⟩])
 (.seq
 (.seq
 (.ops 4 [⟨some 12, none, .mv (.t 0), []⟩,
 ⟨some 13, none, .len .string (.t 12), []⟩,
 ⟨some 14, none, .call 124 [.t 13], []⟩,
 ⟨some 15, none, .mv (.c (.int .i64 0)), []⟩])
 (.block 0
 (.loop [] B125x1)))
 (.seq
 (.ops 18 [⟨some 43, none, .mv (.t 4), []⟩,
 ⟨some 2, none, .mv (.t 43), []⟩,
 ⟨some 3, none, .mv (.c (.int .i64 0)), []⟩])
 .ret)))))⟩
theorem F125_code : cfgA.code 125 = some F125 := by kernel_rfl

/-- ticketline/page.add -/
noncomputable def F127 : AFn := ⟨80, [.tmp 8], (.seq
 (.ops 0 [⟨some 8, none, .mv (.c (.int .i64 0)), []⟩])
 (.seq
 (.ops 1 [⟨some 16, none, .mv (.t 0), []⟩,
 ⟨some 17, none, .nilc (.t 16) (mok Tryz.prog), []⟩,
 ⟨some 18, none, .ld 128 true (.t 17), []⟩,
 ⟨some 19, none, .call 180 [.t 18], []⟩,
 ⟨some 15, none, .mv (.t 19), []⟩,
 ⟨some 20, none, .ext (.t 15) 0, []⟩,
 ⟨some 21, none, .ext (.t 15) 1, []⟩,
 ⟨some 9, none, .mv (.t 20), []⟩,
 ⟨some 10, none, .mv (.t 21), []⟩])
 (.seq
 (.seq
 (.ops 2 [⟨some 22, none, .mv (.t 10), []⟩,
 ⟨some 23, none, .bin .neq (.t 22) (.c (.int .i64 0)), []⟩])
 (.cond (.t 23)
 (.seq
 (.ops 3 [⟨some 24, none, .mv (.t 10), []⟩,
 ⟨some 8, none, .mv (.t 24), []⟩])
 .ret)
 .skip))
 (.seq
 (.seq
 (.ops 4 [⟨some 25, none, .mv (.t 2), []⟩,
 ⟨some 26, none, .mv (.t 3), []⟩,
 ⟨some 27, none, .call 123 [.t 25, .t 26], []⟩,
 ⟨some 28, none, .mv (.t 9), []⟩,
 ⟨some 29, none, .bin .gtr (.t 27) (.t 28), []⟩])
 (.cond (.t 29)
 (.seq
 (.ops 5 [⟨some 31, none, .mv (.t 0), []⟩,
 ⟨some 32, none, .nilc (.t 31) (mok Tryz.prog), []⟩,
 ⟨some 33, none, .ld 128 true (.t 32), []⟩,
 ⟨some 34, none, .call 87 [.t 33], []⟩,
 ⟨some 30, none, .mv (.t 34), []⟩,
 ⟨some 35, none, .ext (.t 30) 0, []⟩,
 ⟨some 36, none, .ext (.t 30) 1, []⟩,
 ⟨some 11, none, .mv (.t 35), []⟩,
 ⟨some 12, none, .mv (.t 36), []⟩])
 (.seq
 (.seq
 (.ops 6 [⟨some 37, none, .mv (.t 12), []⟩,
 ⟨some 38, none, .bin .neq (.t 37) (.c (.int .i64 0)), []⟩])
 (.cond (.t 38)
 (.seq
 (.ops 7 [⟨some 39, none, .mv (.t 12), []⟩,
 ⟨some 8, none, .mv (.t 39), []⟩])
 .ret)
 .skip))
 (.ops 8 [⟨some 40, none, .mv (.t 0), []⟩,
 ⟨some 41, none, .mv (.t 11), []⟩,
 ⟨some 42, none, .call 181 [.t 40, .t 41], []⟩])))
 .skip))
 (.seq
 (.ops 9 [⟨some 43, none, .mv (.t 0), []⟩,
 ⟨some 44, none, .mv (.t 2), []⟩,
 ⟨some 45, none, .mv (.t 3), []⟩,
 ⟨some 46, none, .call 182 [.t 43, .t 44, .t 45], []⟩])
 (.seq
 (.ops 10 [⟨some 47, none, .mv (.t 0), []⟩,
 ⟨some 48, none, .nilc (.t 47) (mok Tryz.prog), []⟩,
 ⟨some 49, none, .ixa (some 128) 1 (.t 48) (.c (.int .i64 9)), []⟩,
 ⟨some 50, none, .ld 1 false (.t 49), []⟩,
 ⟨some 51, none, .cvi .i64 (.t 50), []⟩,
 ⟨some 52, none, .bin .add (.c (.int .i64 20)) (.t 51), []⟩,
 ⟨some 53, none, .bin .sub (.t 52) (.c (.int .i64 1)), []⟩,
 ⟨some 13, none, .mv (.t 53), []⟩])
 (.seq
 (.ops 11 [⟨some 54, none, .mv (.t 0), []⟩,
 ⟨some 55, none, .mv (.t 13), []⟩,
 ⟨some 56, none, .nilc (.t 54) (mok Tryz.prog), []⟩,
 ⟨some 57, none, .ixa (some 128) 1 (.t 56) (.t 55), []⟩,
 ⟨some 58, none, .ld 1 false (.t 57), []⟩,
 ⟨some 14, none, .mv (.t 58), []⟩])
 (.seq
 (.ops 12 [⟨some 59, none, .mv (.t 0), []⟩,
 ⟨some 60, none, .nilc (.t 59) (mok Tryz.prog), []⟩,
 ⟨some 61, none, .mv (.t 1), []⟩,
 ⟨some 62, none, .bin .add (.c (.int .i64 20)) (.t 61), []⟩,
 ⟨some 63, none, .bin .add (.t 62) (.c (.int .i64 1)), []⟩,
 ⟨some 64, none, .mv (.t 13), []⟩,
 ⟨some 65, none, .bin .add (.t 64) (.c (.int .i64 1)), []⟩,
 ⟨some 66, none, .slc (some 128) 1 (.t 60) (some (.t 63)) (some (.t 65)), []⟩,
 ⟨some 67, none, .mv (.t 0), []⟩,
 ⟨some 68, none, .nilc (.t 67) (mok Tryz.prog), []⟩,
 ⟨some 69, none, .mv (.t 1), []⟩,
 ⟨some 70, none, .bin .add (.c (.int .i64 20)) (.t 69), []⟩,
 ⟨some 71, none, .mv (.t 13), []⟩,
 ⟨some 72, none, .slc (some 128) 1 (.t 68) (some (.t 70)) (some (.t 71)), []⟩,
 ⟨some 73, none, .cpy 1 (.t 66) (.t 72), []⟩])
 (.seq
 (.ops 13 [⟨some 74, none, .mv (.t 0), []⟩,
 ⟨some 75, none, .mv (.t 1), []⟩,
 ⟨some 76, none, .bin .add (.c (.int .i64 20)) (.t 75), []⟩,
 ⟨some 77, none, .mv (.t 14), []⟩,
 ⟨some 78, none, .nilc (.t 74) (mok Tryz.prog), []⟩,
 ⟨some 79, none, .ixa (some 128) 1 (.t 78) (.t 76), []⟩,
 ⟨none, none, .st 1 (.t 79) (.t 77), []⟩])
 (.seq
 (.ops 14 [⟨some 8, none, .mv (.c (.int .i64 0)), []⟩])
 .ret))))))))))⟩
theorem F127_code : cfgA.code 127 = some F127 := by kernel_rfl

/-- ticketline/descend.Of -/
noncomputable def F128 : AFn := ⟨19, [.tmp 4, .tmp 5], (.seq
 (.ops 0 [⟨some 2, none, .box 2 (.t 0) false, []⟩,
 ⟨some 4, none, .mv (.c (.int .i64 0)), []⟩,
 ⟨some 5, none, .mv (.c (.int .i64 0)), []⟩])
 (.seq
 (.ops 1 [⟨some 9, none, .ld 2 true (.t 2), []⟩,
 ⟨some 10, none, .mv (.t 1), []⟩,
 ⟨some 11, none, .call 103 [.t 9, .t 10], []⟩,
 ⟨some 8, none, .mv (.t 11), []⟩,
 ⟨some 12, none, .ext (.t 8) 0, []⟩,
 ⟨some 13, none, .ext (.t 8) 1, []⟩,
 ⟨some 6, none, .mv (.t 12), []⟩,
 ⟨some 7, none, .mv (.t 13), []⟩])
 (.seq
 (.seq
 (.ops 2 [⟨some 14, none, .mv (.t 7), []⟩,
 ⟨some 15, none, .bin .neq (.t 14) (.c (.int .i64 0)), []⟩])
 (.cond (.t 15)
 (.seq
 (.ops 3 [⟨some 16, none, .mv (.t 7), []⟩,
 ⟨some 4, none, .mv (.c (.int .i64 0)), []⟩,
 ⟨some 5, none, .mv (.t 16), []⟩])
 .ret)
 .skip))
 (.seq
 (.ops 4 [⟨some 17, none, .mv (.t 6), []⟩,
 ⟨some 18, none, .bin .add (.t 17) (.c (.int .i64 3)), []⟩,
 ⟨some 4, none, .mv (.t 18), []⟩,
 ⟨some 5, none, .mv (.c (.int .i64 0)), []⟩])
 .ret))))⟩
theorem F128_code : cfgA.code 128 = some F128 := by kernel_rfl

/-- ticketline/latch.NewAcquire -/
noncomputable def F129 : AFn := ⟨17, [.tmp 8, .tmp 9], (.seq
 (.ops 0 [⟨some 8, none, .mv (.c (.nilp)), []⟩,
 ⟨some 9, none, .mv (.c (.int .i64 0)), []⟩])
 (.seq
 (.ops 1 [⟨some 10, none, .mv (.t 0), []⟩,
 ⟨some 11, none, .mv (.t 1), []⟩,
 ⟨some 12, none, .mv (.t 2), []⟩,
 ⟨some 13, none, .mv (.t 3), []⟩,
 ⟨some 14, none, .call 183 [.t 10, .t 11, .t 12, .c (.int .i64 1), .t 13], []⟩,
 ⟨some 15, none, .ext (.t 14) 0, []⟩,
 ⟨some 16, none, .ext (.t 14) 1, []⟩,
 ⟨some 8, none, .mv (.t 15), []⟩,
 ⟨some 9, none, .mv (.t 16), []⟩])
 .ret))⟩
theorem F129_code : cfgA.code 129 = some F129 := by kernel_rfl

/-- (*ticketline/latch.Move).Result -/
noncomputable def F130 : AFn := ⟨16, [.tmp 2], (.seq
 (.ops 0 [⟨some 2, none, .mv (.c (.int .u64 0)), []⟩])
 (.seq
 (.seq
 (.ops 1 [⟨some 3, none, .mv (.t 0), []⟩,
 ⟨some 4, none, .eqn .ptr false (.t 3), []⟩,
 ⟨some 5, none, .mv (.t 4), []⟩,
 ⟨some 6, some (5, false), .mv (.t 0), []⟩,
 ⟨some 7, some (5, false), .nilc (.t 6) (mok Tryz.prog), []⟩,
 ⟨some 8, some (5, false), .fld 26 (.t 7), []⟩,
 ⟨some 9, some (5, false), .ld 1 false (.t 8), []⟩,
 ⟨some 10, some (5, false), .un .not (.t 9), []⟩,
 ⟨some 11, none, .pick (.t 5) (.c (.bool true)) (.t 10), []⟩])
 (.cond (.t 11)
 (.seq
 (.ops 2 [⟨some 2, none, .mv (.c (.int .u64 0)), []⟩])
 .ret)
 .skip))
 (.seq
 (.ops 3 [⟨some 12, none, .mv (.t 0), []⟩,
 ⟨some 13, none, .nilc (.t 12) (mok Tryz.prog), []⟩,
 ⟨some 14, none, .fld 25 (.t 13), []⟩,
 ⟨some 15, none, .ld 1 false (.t 14), []⟩,
 ⟨some 2, none, .mv (.t 15), []⟩])
 .ret)))⟩
theorem F130_code : cfgA.code 130 = some F130 := by kernel_rfl

/-- ticketline/ticketlinelaw29.step -/
noncomputable def F131 : AFn := ⟨25, [.tmp 4, .tmp 5], (.seq
 (.ops 0 [⟨some 4, none, .mv (.c (.bool false)), []⟩,
 ⟨some 5, none, .mv (.c (.bool false)), []⟩])
 (.seq
 (.ops 1 [⟨some 9, none, .mv (.t 1), []⟩,
 ⟨some 10, none, .call 154 [.t 9], []⟩,
 ⟨some 8, none, .mv (.t 10), []⟩,
 ⟨some 11, none, .ext (.t 8) 0, []⟩,
 ⟨some 12, none, .ext (.t 8) 1, []⟩,
 ⟨some 6, none, .mv (.t 11), []⟩,
 ⟨some 7, none, .mv (.t 12), []⟩])
 (.seq
 (.seq
 (.ops 2 [⟨some 13, none, .mv (.t 7), []⟩,
 ⟨some 14, none, .bin .neq (.t 13) (.c (.int .i64 0)), []⟩])
 (.cond (.t 14)
 (.seq
 (.ops 3 [⟨some 4, none, .mv (.c (.bool false)), []⟩,
 ⟨some 5, none, .mv (.c (.bool true)), []⟩])
 .ret)
 .skip))
 (.seq
 (.ops 4 [⟨some 16, none, .mv (.t 0), []⟩,
 ⟨some 17, none, .mv (.t 6), []⟩,
 ⟨some 18, none, .mki 210 (.t 17), []⟩,
 ⟨some 19, none, .invk (.t 16) "Step" [.t 18], []⟩,
 ⟨some 15, none, .mv (.t 19), []⟩,
 ⟨some 20, none, .ext (.t 15) 0, []⟩,
 ⟨some 21, none, .ext (.t 15) 1, []⟩,
 ⟨some 4, none, .mv (.t 20), []⟩,
 ⟨some 7, none, .mv (.t 21), []⟩])
 (.seq
 (.ops 5 [⟨some 22, none, .mv (.t 4), []⟩,
 ⟨some 23, none, .mv (.t 7), []⟩,
 ⟨some 24, none, .bin .neq (.t 23) (.c (.int .i64 0)), []⟩,
 ⟨some 4, none, .mv (.t 22), []⟩,
 ⟨some 5, none, .mv (.t 24), []⟩])
 .ret)))))⟩
theorem F131_code : cfgA.code 131 = some F131 := by kernel_rfl

/-- ticketline/grow.allowed -/
noncomputable def F132 : AFn := ⟨27, [.tmp 6], (.seq
 (.ops 0 [⟨some 3, none, .box 2 (.t 0) false, []⟩,
 ⟨some 6, none, .mv (.c (.bool false)), []⟩])
 (.seq
 (.ops 1 [⟨some 10, none, .ld 2 true (.t 3), []⟩,
 ⟨some 11, none, .mv (.t 2), []⟩,
 ⟨some 12, none, .call 103 [.t 10, .t 11], []⟩,
 ⟨some 9, none, .mv (.t 12), []⟩,
 ⟨some 13, none, .ext (.t 9) 0, []⟩,
 ⟨some 14, none, .ext (.t 9) 1, []⟩,
 ⟨some 7, none, .mv (.t 13), []⟩,
 ⟨some 8, none, .mv (.t 14), []⟩])
 (.seq
 (.ops 2 [⟨some 15, none, .mv (.t 8), []⟩,
 ⟨some 16, none, .bin .eql (.t 15) (.c (.int .i64 0)), []⟩,
 ⟨some 17, none, .mv (.t 16), []⟩,
 ⟨some 18, some (17, true), .mv (.t 1), []⟩,
 ⟨some 19, some (17, true), .bin .geq (.t 18) (.c (.int .i64 0)), []⟩,
 ⟨some 20, none, .pick (.t 17) (.t 19) (.c (.bool false)), []⟩,
 ⟨some 21, none, .mv (.t 20), []⟩,
 ⟨some 22, some (21, true), .mv (.t 1), []⟩,
 ⟨some 23, some (21, true), .fld 1 (.t 3), []⟩,
 ⟨some 24, some (21, true), .ld 1 false (.t 23), []⟩,
 ⟨some 25, some (21, true), .bin .lss (.t 22) (.t 24), []⟩,
 ⟨some 26, none, .pick (.t 21) (.t 25) (.c (.bool false)), []⟩,
 ⟨some 6, none, .mv (.t 26), []⟩])
 .ret)))⟩
theorem F132_code : cfgA.code 132 = some F132 := by kernel_rfl

/-- ticketline/slot.Valid -/
noncomputable def F133 : AFn := ⟨10, [.tmp 2], (.seq
 (.ops 0 [⟨some 1, none, .box 128 (.t 0) false, []⟩,
 ⟨some 2, none, .mv (.c (.bool false)), []⟩])
 (.seq
 (.ops 1 [⟨some 6, none, .call 141 [.t 1], []⟩,
 ⟨some 5, none, .mv (.t 6), []⟩,
 ⟨some 7, none, .ext (.t 5) 0, []⟩,
 ⟨some 8, none, .ext (.t 5) 1, []⟩,
 ⟨some 3, none, .mv (.t 7), []⟩,
 ⟨some 4, none, .mv (.t 8), []⟩])
 (.seq
 (.ops 2 [⟨some 9, none, .mv (.t 4), []⟩,
 ⟨some 2, none, .mv (.t 9), []⟩])
 .ret)))⟩
theorem F133_code : cfgA.code 133 = some F133 := by kernel_rfl

/-- ticketline/slot.Child -/
noncomputable def F134 : AFn := ⟨28, [.tmp 4, .tmp 5], (.seq
 (.ops 0 [⟨some 2, none, .box 128 (.t 0) false, []⟩,
 ⟨some 4, none, .mv (.c (.int .i64 0)), []⟩,
 ⟨some 5, none, .mv (.c (.int .i64 0)), []⟩])
 (.seq
 (.seq
 (.ops 1 [⟨some 9, none, .mv (.t 1), []⟩,
 ⟨some 10, none, .call 177 [.t 2, .t 9], []⟩,
 ⟨some 8, none, .mv (.t 10), []⟩,
 ⟨some 11, none, .ext (.t 8) 0, []⟩,
 ⟨some 12, none, .ext (.t 8) 1, []⟩,
 ⟨some 6, none, .alloc [.str [], .str []] false, []⟩,
 ⟨none, none, .st 2 (.t 6) (.t 11), []⟩,
 ⟨some 7, none, .mv (.t 12), []⟩])
 (.seq
 (.ops 2 [⟨some 13, none, .mv (.t 7), []⟩,
 ⟨some 14, none, .bin .neq (.t 13) (.c (.int .i64 0)), []⟩])
 (.cond (.t 14)
 (.seq
 (.ops 3 [⟨some 15, none, .mv (.t 7), []⟩,
 ⟨some 4, none, .mv (.c (.int .i64 0)), []⟩,
 ⟨some 5, none, .mv (.t 15), []⟩])
 .ret)
 .skip)))
 (.seq
 (.seq
 (.ops 4 [⟨some 16, none, .ixa (some 128) 1 (.t 2) (.c (.int .i64 8)), []⟩,
 ⟨some 17, none, .ld 1 false (.t 16), []⟩,
 ⟨some 18, none, .bin .eql (.t 17) (.c (.int .u64 1)), []⟩])
 (.cond (.t 18)
 (.seq
 (.ops 5 [⟨some 4, none, .mv (.c (.int .i64 0)), []⟩,
 ⟨some 5, none, .mv (.c (.int .i64 8)), []⟩])
 .ret)
 .skip))
 (.seq
 (.ops 6 [⟨some 19, none, .mv (.t 1), []⟩,
 ⟨some 20, none, .bin .add (.c (.int .i64 20)) (.t 19), []⟩,
 ⟨some 21, none, .ixa (some 128) 1 (.t 2) (.t 20), []⟩,
 ⟨some 22, none, .ld 1 false (.t 21), []⟩,
 ⟨some 23, none, .call 184 [.t 22], []⟩,
 ⟨some 24, none, .fdv 1 1 false (.t 23), []⟩,
 ⟨some 25, none, .ixa (some 128) 1 (.t 2) (.t 24), []⟩,
 ⟨some 26, none, .ld 1 false (.t 25), []⟩,
 ⟨some 27, none, .cvi .i64 (.t 26), []⟩,
 ⟨some 4, none, .mv (.t 27), []⟩,
 ⟨some 5, none, .mv (.c (.int .i64 0)), []⟩])
 .ret))))⟩
theorem F134_code : cfgA.code 134 = some F134 := by kernel_rfl

/-- ticketline/slot.Len -/
noncomputable def F135 : AFn := ⟨11, [.tmp 2], (.seq
 (.ops 0 [⟨some 1, none, .box 128 (.t 0) false, []⟩,
 ⟨some 2, none, .mv (.c (.int .i64 0)), []⟩])
 (.seq
 (.ops 1 [⟨some 6, none, .call 141 [.t 1], []⟩,
 ⟨some 5, none, .mv (.t 6), []⟩,
 ⟨some 7, none, .ext (.t 5) 0, []⟩,
 ⟨some 8, none, .ext (.t 5) 1, []⟩,
 ⟨some 3, none, .mv (.t 7), []⟩,
 ⟨some 4, none, .mv (.t 8), []⟩])
 (.seq
 (.ops 2 [⟨some 9, none, .mv (.t 3), []⟩,
 ⟨some 10, none, .len .slice (.t 9), []⟩,
 ⟨some 2, none, .mv (.t 10), []⟩])
 .ret)))⟩
theorem F135_code : cfgA.code 135 = some F135 := by kernel_rfl

/-- ticketline/slot.Key -/
noncomputable def F136 : AFn := ⟨16, [.tmp 4, .tmp 5], (.seq
 (.ops 0 [⟨some 2, none, .box 128 (.t 0) false, []⟩,
 ⟨some 4, none, .mv (.c (.str [])), []⟩,
 ⟨some 5, none, .mv (.c (.int .i64 0)), []⟩])
 (.seq
 (.ops 1 [⟨some 9, none, .mv (.t 1), []⟩,
 ⟨some 10, none, .call 177 [.t 2, .t 9], []⟩,
 ⟨some 8, none, .mv (.t 10), []⟩,
 ⟨some 11, none, .ext (.t 8) 0, []⟩,
 ⟨some 12, none, .ext (.t 8) 1, []⟩,
 ⟨some 6, none, .alloc [.str [], .str []] false, []⟩,
 ⟨none, none, .st 2 (.t 6) (.t 11), []⟩,
 ⟨some 7, none, .mv (.t 12), []⟩])
 (.seq
 (.ops 2 [⟨some 13, none, .fld 0 (.t 6), []⟩,
 ⟨some 14, none, .ld 1 false (.t 13), []⟩,
 ⟨some 15, none, .mv (.t 7), []⟩,
 ⟨some 4, none, .mv (.t 14), []⟩,
 ⟨some 5, none, .mv (.t 15), []⟩])
 .ret)))⟩
theorem F136_code : cfgA.code 136 = some F136 := by kernel_rfl

/-- ticketline/grow.lock -/
noncomputable def F137 : AFn := ⟨30, [.tmp 4], (.seq
 (.ops 0 [⟨some 2, none, .box 2 (.t 0) false, []⟩,
 ⟨some 4, none, .mv (.c (.nili)), []⟩])
 (.seq
 (.ops 1 [⟨some 12, none, .ld 2 true (.t 2), []⟩,
 ⟨some 13, none, .call 102 [.t 12], []⟩,
 ⟨some 11, none, .mv (.t 13), []⟩,
 ⟨some 14, none, .ext (.t 11) 0, []⟩,
 ⟨some 15, none, .ext (.t 11) 1, []⟩,
 ⟨some 5, none, .mv (.t 14), []⟩,
 ⟨some 6, none, .mv (.t 15), []⟩])
 (.seq
 (.ops 2 [⟨some 17, none, .mv (.t 5), []⟩,
 ⟨some 18, none, .mv (.t 1), []⟩,
 ⟨some 19, none, .call 107 [.t 17, .t 18, .c (.int .i64 0)], []⟩,
 ⟨some 16, none, .mv (.t 19), []⟩,
 ⟨some 20, none, .ext (.t 16) 0, []⟩,
 ⟨some 21, none, .ext (.t 16) 1, []⟩,
 ⟨some 7, none, .mv (.t 20), []⟩,
 ⟨some 8, none, .mv (.t 21), []⟩])
 (.seq
 (.ops 3 [⟨some 23, none, .mv (.t 5), []⟩,
 ⟨some 24, none, .mv (.t 7), []⟩,
 ⟨some 25, none, .call 185 [.t 23, .c (.int .i64 5), .t 24], []⟩,
 ⟨some 22, none, .mv (.t 25), []⟩,
 ⟨some 26, none, .ext (.t 22) 0, []⟩,
 ⟨some 27, none, .ext (.t 22) 1, []⟩,
 ⟨some 9, none, .mv (.t 26), []⟩,
 ⟨some 10, none, .mv (.t 27), []⟩])
 (.seq
 (.ops 4 [⟨some 28, none, .mv (.t 9), []⟩,
 ⟨some 29, none, .mki 261 (.t 28), []⟩,
 ⟨some 4, none, .mv (.t 29), []⟩])
 .ret)))))⟩
theorem F137_code : cfgA.code 137 = some F137 := by kernel_rfl

/-- ticketline/slot.list: the round 0 -/
noncomputable def B141x0 : AC := (.seq
 (.seq
 (.ops 15 [⟨some 68, none, .mv (.t 10), []⟩,
 ⟨some 69, none, .fld 2 (.t 7), []⟩,
 ⟨some 70, none, .ld 1 false (.t 69), []⟩,
 ⟨some 71, none, .bin .lss (.t 68) (.t 70), []⟩])
 (.cond (.t 71)
 .skip
 (.exit 2)))
 (.seq
 (.block 3
 (.seq
 (.seq
 (.ops 17 [⟨some 74, none, .mv (.t 10), []⟩,
 ⟨some 75, none, .ixa (some 128) 1 (.t 5) (.t 74), []⟩,
 ⟨some 76, none, .ld 1 false (.t 75), []⟩])
 (.cond (.t 76)
 (.seq
 (.ops 18 [⟨some 2, none, .mv (.c (.nils)), []⟩,
 ⟨some 3, none, .mv (.c (.bool false)), []⟩])
 .ret)
 .skip))
 (.ops 19 [⟨some 77, none, .mv (.t 10), []⟩,
 ⟨some 78, none, .ixa (some 128) 1 (.t 5) (.t 77), []⟩,
 ⟨none, none, .st 1 (.t 78) (.c (.bool true)), []⟩])))
 (.ops 16 [⟨some 72, none, .mv (.t 10), []⟩,
 ⟨some 73, none, .bin .add (.t 72) (.c (.int .i64 1)), []⟩,
 ⟨some 10, none, .mv (.t 73), []⟩])))
/-- ticketline/slot.list: the round 1 -/
noncomputable def B141x1 : AC := (.seq
 (.ops 6 [⟨some 20, none, .bin .lss (.t 19) (.t 18), []⟩])
 (.seq
 (.cond (.t 20)
 .skip
 (.exit 0))
 (.seq
 (.block 1
 (.seq
 (.ops 7 [⟨some 21, none, .mv (.t 19), []⟩,
 ⟨some 6, none, .mv (.t 21), []⟩])
 (.seq
 (.seq
 (.ops 8 [⟨some 22, none, .mv (.t 0), []⟩,
 ⟨some 23, none, .mv (.t 6), []⟩,
 ⟨some 24, none, .call 187 [.t 22, .t 23], []⟩,
 ⟨some 25, none, .un .not (.t 24), []⟩])
 (.cond (.t 25)
 (.seq
 (.ops 9 [⟨some 2, none, .mv (.c (.nils)), []⟩,
 ⟨some 3, none, .mv (.c (.bool false)), []⟩])
 .ret)
 .skip))
 (.seq
 (.ops 10 [⟨some 26, none, .mv (.t 0), []⟩,
 ⟨some 27, none, .mv (.t 6), []⟩,
 ⟨some 28, none, .bin .add (.c (.int .i64 20)) (.t 27), []⟩,
 ⟨some 29, none, .nilc (.t 26) (mok Tryz.prog), []⟩,
 ⟨some 30, none, .ixa (some 128) 1 (.t 29) (.t 28), []⟩,
 ⟨some 31, none, .ld 1 false (.t 30), []⟩,
 ⟨some 32, none, .call 184 [.t 31], []⟩,
 ⟨some 7, none, .alloc [.int .i64 0, .int .i64 0, .int .i64 0, .int .i64 0, .int .i64 0] false, []⟩,
 ⟨none, none, .st 5 (.t 7) (.t 32), []⟩])
 (.seq
 (.ops 11 [⟨some 34, none, .mv (.t 0), []⟩,
 ⟨some 35, none, .ld 5 true (.t 7), []⟩,
 ⟨some 36, none, .call 188 [.t 34, .t 35], []⟩,
 ⟨some 33, none, .mv (.t 36), []⟩,
 ⟨some 37, none, .ext (.t 33) 0, []⟩,
 ⟨some 38, none, .ext (.t 33) 1, []⟩,
 ⟨some 8, none, .alloc [.str [], .str []] false, []⟩,
 ⟨none, none, .st 2 (.t 8) (.t 37), []⟩,
 ⟨some 9, none, .mv (.t 38), []⟩])
 (.seq
 (.seq
 (.ops 12 [⟨some 39, none, .mv (.t 9), []⟩,
 ⟨some 40, none, .bin .neq (.t 39) (.c (.int .i64 0)), []⟩,
 ⟨some 41, none, .mv (.t 40), []⟩,
 ⟨some 42, some (41, false), .mv (.t 0), []⟩,
 ⟨some 43, some (41, false), .nilc (.t 42) (mok Tryz.prog), []⟩,
 ⟨some 44, some (41, false), .ixa (some 128) 1 (.t 43) (.c (.int .i64 8)), []⟩,
 ⟨some 45, some (41, false), .ld 1 false (.t 44), []⟩,
 ⟨some 46, some (41, false), .bin .gtr (.t 45) (.c (.int .u64 1)), []⟩,
 ⟨some 47, some (41, false), .mv (.t 46), []⟩,
 ⟨some 48, some (47, true), .mv (.t 0), []⟩,
 ⟨some 49, some (47, true), .fld 1 (.t 7), []⟩,
 ⟨some 50, some (47, true), .ld 1 false (.t 49), []⟩,
 ⟨some 51, some (47, true), .nilc (.t 48) (mok Tryz.prog), []⟩,
 ⟨some 52, some (47, true), .ixa (some 128) 1 (.t 51) (.t 50), []⟩,
 ⟨some 53, some (47, true), .ld 1 false (.t 52), []⟩,
 ⟨some 54, some (47, true), .bin .lss (.t 53) (.c (.int .u64 1)), []⟩,
 ⟨some 55, some (47, true), .mv (.t 54), []⟩,
 ⟨some 56, some (55, false), .mv (.t 0), []⟩,
 ⟨some 57, some (55, false), .fld 1 (.t 7), []⟩,
 ⟨some 58, some (55, false), .ld 1 false (.t 57), []⟩,
 ⟨some 59, some (55, false), .nilc (.t 56) (mok Tryz.prog), []⟩,
 ⟨some 60, some (55, false), .ixa (some 128) 1 (.t 59) (.t 58), []⟩,
 ⟨some 61, some (55, false), .ld 1 false (.t 60), []⟩,
 ⟨some 62, some (55, false), .bin .gtr (.t 61) (.c (.int .u64 511)), []⟩,
 ⟨some 63, some (47, true), .pick (.t 55) (.c (.bool true)) (.t 62), []⟩,
 ⟨some 64, some (41, false), .pick (.t 47) (.t 63) (.c (.bool false)), []⟩,
 ⟨some 65, none, .pick (.t 41) (.c (.bool true)) (.t 64), []⟩])
 (.cond (.t 65)
 (.seq
 (.ops 13 [⟨some 2, none, .mv (.c (.nils)), []⟩,
 ⟨some 3, none, .mv (.c (.bool false)), []⟩])
 .ret)
 .skip))
 (.seq
 (.seq
 (.ops 14 [⟨some 66, none, .fld 0 (.t 7), []⟩,
 ⟨some 67, none, .ld 1 false (.t 66), []⟩,
 ⟨some 10, none, .mv (.t 67), []⟩])
 (.block 2
 (.loop [] B141x0)))
 (.ops 20 [⟨some 79, none, .mv (.t 4), []⟩,
 ⟨some 80, none, .ld 2 true (.t 8), []⟩,
 ⟨some 81, none, .bslice [.str [], .str []] 2 1 [(0, (.t 80))] false false, []⟩,
 ⟨some 82, none, .app 2 32 (.t 79) (.t 81) false, []⟩,
 ⟨some 4, none, .mv (.t 82), []⟩]))))))))
 (.ops 21 [⟨some 83, none, .bin .add (.t 19) (.c (.int .i64 1)), []⟩,
 ⟨some 19, none, .mv (.t 83), []⟩]))))
/-- ticketline/slot.list -/
noncomputable def F141 : AFn := ⟨85, [.tmp 2, .tmp 3], (.seq
 (.ops 0 [⟨some 2, none, .mv (.c (.nils)), []⟩,
 ⟨some 3, none, .mv (.c (.bool false)), []⟩])
 (.seq
 (.seq
 (.ops 1 [⟨some 11, none, .mv (.t 0), []⟩,
 ⟨some 12, none, .call 186 [.t 11], []⟩,
 ⟨some 13, none, .un .not (.t 12), []⟩])
 (.cond (.t 13)
 (.seq
 (.ops 2 [⟨some 2, none, .mv (.c (.nils)), []⟩,
 ⟨some 3, none, .mv (.c (.bool false)), []⟩])
 .ret)
 .skip))
 (.seq
 (.ops 3 [⟨some 4, none, .mv (.c (.nils)), []⟩])
 (.seq
 (.ops 4 [⟨some 5, none, .alloc (List.replicate 128 (.bool false)) false, []⟩])
 (.seq
 (.seq
 (.ops 5 [⟨some 14, none, .mv (.t 0), []⟩,
 ⟨some 15, none, .nilc (.t 14) (mok Tryz.prog), []⟩,
 ⟨some 16, none, .ixa (some 128) 1 (.t 15) (.c (.int .i64 9)), []⟩,
 ⟨some 17, none, .ld 1 false (.t 16), []⟩,
 ⟨some 18, none, .cvi .i64 (.t 17), []⟩,
 ⟨some 19, none, .mv (.c (.int .i64 0)), []⟩])
 (.block 0
 (.loop [] B141x1)))
 (.seq
 (.ops 22 [⟨some 84, none, .mv (.t 4), []⟩,
 ⟨some 2, none, .mv (.t 84), []⟩,
 ⟨some 3, none, .mv (.c (.bool true)), []⟩])
 .ret))))))⟩
theorem F141_code : cfgA.code 141 = some F141 := by kernel_rfl

/-- ticketline/slot.fence: the round 0 -/
noncomputable def B142x0 : AC := (.seq
 (.ops 6 [⟨some 35, none, .bin .lss (.t 34) (.t 33), []⟩])
 (.seq
 (.cond (.t 35)
 .skip
 (.exit 0))
 (.seq
 (.block 1
 (.seq
 (.ops 7 [⟨some 36, none, .ixa none 1 (.t 32) (.t 34), []⟩,
 ⟨some 37, none, .ld 1 false (.t 36), []⟩,
 ⟨some 9, none, .mv (.t 37), []⟩])
 (.seq
 (.ops 8 [⟨some 38, none, .mv (.t 9), []⟩,
 ⟨some 39, none, .bin .neq (.t 38) (.c (.int .u64 0)), []⟩])
 (.cond (.t 39)
 (.seq
 (.ops 9 [⟨some 4, none, .mv (.c (.str [])), []⟩,
 ⟨some 5, none, .mv (.c (.int .i64 12)), []⟩])
 .ret)
 .skip))))
 (.ops 10 [⟨some 40, none, .bin .add (.t 34) (.c (.int .i64 1)), []⟩,
 ⟨some 34, none, .mv (.t 40), []⟩]))))
/-- ticketline/slot.fence -/
noncomputable def F142 : AFn := ⟨51, [.tmp 4, .tmp 5], (.seq
 (.ops 0 [⟨some 4, none, .mv (.c (.str [])), []⟩,
 ⟨some 5, none, .mv (.c (.int .i64 0)), []⟩])
 (.seq
 (.seq
 (.ops 1 [⟨some 10, none, .mv (.t 0), []⟩,
 ⟨some 11, none, .mv (.t 1), []⟩,
 ⟨some 12, none, .nilc (.t 10) (mok Tryz.prog), []⟩,
 ⟨some 13, none, .ixa (some 128) 1 (.t 12) (.t 11), []⟩,
 ⟨some 14, none, .ld 1 false (.t 13), []⟩,
 ⟨some 15, none, .bin .gtr (.t 14) (.c (.int .u64 24)), []⟩])
 (.cond (.t 15)
 (.seq
 (.ops 2 [⟨some 4, none, .mv (.c (.str [])), []⟩,
 ⟨some 5, none, .mv (.c (.int .i64 12)), []⟩])
 .ret)
 .skip))
 (.seq
 (.ops 3 [⟨some 16, none, .mv (.t 0), []⟩,
 ⟨some 17, none, .mv (.t 1), []⟩,
 ⟨some 18, none, .nilc (.t 16) (mok Tryz.prog), []⟩,
 ⟨some 19, none, .ixa (some 128) 1 (.t 18) (.t 17), []⟩,
 ⟨some 20, none, .ld 1 false (.t 19), []⟩,
 ⟨some 21, none, .cvi .i64 (.t 20), []⟩,
 ⟨some 6, none, .mv (.t 21), []⟩])
 (.seq
 (.ops 4 [⟨some 22, none, .mv (.t 1), []⟩,
 ⟨some 23, none, .bin .add (.t 22) (.c (.int .i64 1)), []⟩,
 ⟨some 24, none, .mv (.t 6), []⟩,
 ⟨some 25, none, .call 124 [.t 24], []⟩,
 ⟨some 26, none, .bin .add (.t 23) (.t 25), []⟩,
 ⟨some 7, none, .mv (.t 26), []⟩])
 (.seq
 (.seq
 (.ops 5 [⟨some 27, none, .mv (.t 0), []⟩,
 ⟨some 28, none, .nilc (.t 27) (mok Tryz.prog), []⟩,
 ⟨some 29, none, .mv (.t 7), []⟩,
 ⟨some 30, none, .mv (.t 1), []⟩,
 ⟨some 31, none, .bin .add (.t 30) (.c (.int .i64 4)), []⟩,
 ⟨some 32, none, .slc (some 128) 1 (.t 28) (some (.t 29)) (some (.t 31)), []⟩,
 ⟨some 33, none, .len .slice (.t 32), []⟩,
 ⟨some 34, none, .mv (.c (.int .i64 0)), []⟩])
 (.block 0
 (.loop [] B142x0)))
 (.seq
 (.ops 11 [⟨some 41, none, .mv (.t 0), []⟩,
 ⟨some 42, none, .nilc (.t 41) (mok Tryz.prog), []⟩,
 ⟨some 43, none, .mv (.t 1), []⟩,
 ⟨some 44, none, .bin .add (.t 43) (.c (.int .i64 1)), []⟩,
 ⟨some 45, none, .mv (.t 7), []⟩,
 ⟨some 46, none, .slc (some 128) 1 (.t 42) (some (.t 44)) (some (.t 45)), []⟩,
 ⟨some 47, none, .mv (.t 6), []⟩,
 ⟨some 48, none, .call 189 [.t 46, .t 47], []⟩,
 ⟨some 49, none, .ext (.t 48) 0, []⟩,
 ⟨some 50, none, .ext (.t 48) 1, []⟩,
 ⟨some 4, none, .mv (.t 49), []⟩,
 ⟨some 5, none, .mv (.t 50), []⟩])
 .ret))))))⟩
theorem F142_code : cfgA.code 142 = some F142 := by kernel_rfl

/-- ticketline/descend.valid -/
noncomputable def F143 : AFn := ⟨21, [.tmp 2], (.seq
 (.ops 0 [⟨some 1, none, .box 2 (.t 0) false, []⟩,
 ⟨some 2, none, .mv (.c (.bool false)), []⟩])
 (.seq
 (.ops 1 [⟨some 3, none, .fld 0 (.t 1), []⟩,
 ⟨some 4, none, .ld 1 false (.t 3), []⟩,
 ⟨some 5, none, .bin .geq (.t 4) (.c (.int .i64 1)), []⟩,
 ⟨some 6, none, .mv (.t 5), []⟩,
 ⟨some 7, some (6, true), .fld 0 (.t 1), []⟩,
 ⟨some 8, some (6, true), .ld 1 false (.t 7), []⟩,
 ⟨some 9, some (6, true), .bin .leq (.t 8) (.c (.int .i64 511)), []⟩,
 ⟨some 10, none, .pick (.t 6) (.t 9) (.c (.bool false)), []⟩,
 ⟨some 11, none, .mv (.t 10), []⟩,
 ⟨some 12, some (11, true), .fld 1 (.t 1), []⟩,
 ⟨some 13, some (11, true), .ld 1 false (.t 12), []⟩,
 ⟨some 14, some (11, true), .bin .geq (.t 13) (.c (.int .i64 1)), []⟩,
 ⟨some 15, none, .pick (.t 11) (.t 14) (.c (.bool false)), []⟩,
 ⟨some 16, none, .mv (.t 15), []⟩,
 ⟨some 17, some (16, true), .fld 1 (.t 1), []⟩,
 ⟨some 18, some (16, true), .ld 1 false (.t 17), []⟩,
 ⟨some 19, some (16, true), .bin .leq (.t 18) (.c (.int .i64 17)), []⟩,
 ⟨some 20, none, .pick (.t 16) (.t 19) (.c (.bool false)), []⟩,
 ⟨some 2, none, .mv (.t 20), []⟩])
 .ret))⟩
theorem F143_code : cfgA.code 143 = some F143 := by kernel_rfl

/-- ticketline/descend.nodes -/
noncomputable def F144 : AFn := ⟨7, [.tmp 2], (.seq
 (.ops 0 [⟨some 1, none, .box 2 (.t 0) false, []⟩,
 ⟨some 2, none, .mv (.c (.int .i64 0)), []⟩])
 (.seq
 (.ops 1 [⟨some 3, none, .fld 0 (.t 1), []⟩,
 ⟨some 4, none, .ld 1 false (.t 3), []⟩,
 ⟨some 5, none, .bin .mul (.c (.int .i64 128)) (.t 4), []⟩,
 ⟨some 6, none, .bin .add (.c (.int .i64 16)) (.t 5), []⟩,
 ⟨some 2, none, .mv (.t 6), []⟩])
 .ret))⟩
theorem F144_code : cfgA.code 144 = some F144 := by kernel_rfl

/-- (*ticketline/mem.Mem).Len -/
noncomputable def F145 : AFn := ⟨10, [.tmp 2], (.seq
 (.ops 0 [⟨some 2, none, .mv (.c (.int .i64 0)), []⟩])
 (.seq
 (.seq
 (.ops 1 [⟨some 3, none, .mv (.t 0), []⟩,
 ⟨some 4, none, .call 174 [.t 3], []⟩])
 (.cond (.t 4)
 (.seq
 (.ops 2 [⟨some 2, none, .mv (.c (.int .i64 0)), []⟩])
 .ret)
 .skip))
 (.seq
 (.ops 3 [⟨some 5, none, .mv (.t 0), []⟩,
 ⟨some 6, none, .nilc (.t 5) (mok Tryz.prog), []⟩,
 ⟨some 7, none, .fld 0 (.t 6), []⟩,
 ⟨some 8, none, .ld 1 false (.t 7), []⟩,
 ⟨some 9, none, .len .slice (.t 8), []⟩,
 ⟨some 2, none, .mv (.t 9), []⟩])
 .ret)))⟩
theorem F145_code : cfgA.code 145 = some F145 := by kernel_rfl

/-- (*ticketline/mem.Mem).Copy -/
noncomputable def F146 : AFn := ⟨12, [.tmp 2], (.seq
 (.ops 0 [⟨some 2, none, .mv (.c (.nilp)), []⟩])
 (.seq
 (.seq
 (.ops 1 [⟨some 3, none, .mv (.t 0), []⟩,
 ⟨some 4, none, .call 174 [.t 3], []⟩])
 (.cond (.t 4)
 (.seq
 (.ops 2 [⟨some 2, none, .mv (.c (.nilp)), []⟩])
 .ret)
 .skip))
 (.seq
 (.ops 3 [⟨some 5, none, .mv (.t 0), []⟩,
 ⟨some 6, none, .nilc (.t 5) (mok Tryz.prog), []⟩,
 ⟨some 7, none, .fld 0 (.t 6), []⟩,
 ⟨some 8, none, .ld 1 false (.t 7), []⟩,
 ⟨some 9, none, .call 173 [.t 8], []⟩,
 ⟨some 10, none, .build [.nils] [(0, 1, (.t 9))], []⟩,
 ⟨some 11, none, .box 1 (.t 10) true, []⟩,
 ⟨some 2, none, .mv (.t 11), []⟩])
 .ret)))⟩
theorem F146_code : cfgA.code 146 = some F146 := by kernel_rfl

/-- (ticketline/arena.words).set -/
noncomputable def F147 : AFn := ⟨11, [], (.seq
 (.ops 0 [⟨some 3, none, .box 1 (.t 0) false, []⟩])
 (.ops 1 [⟨some 6, none, .fld 0 (.t 3), []⟩,
 ⟨some 7, none, .ld 1 false (.t 6), []⟩,
 ⟨some 8, none, .mv (.t 1), []⟩,
 ⟨some 9, none, .mv (.t 2), []⟩,
 ⟨some 10, none, .call 190 [.t 7, .t 8, .t 9], []⟩]))⟩
theorem F147_code : cfgA.code 147 = some F147 := by kernel_rfl

/-- ticketline/keys.Compare -/
noncomputable def F148 : AFn := ⟨8, [.tmp 4], (.seq
 (.ops 0 [⟨some 4, none, .mv (.c (.int .i64 0)), []⟩])
 (.seq
 (.ops 1 [⟨some 5, none, .mv (.t 0), []⟩,
 ⟨some 6, none, .mv (.t 1), []⟩,
 ⟨some 7, none, .call 191 [.t 5, .t 6], []⟩,
 ⟨some 4, none, .mv (.t 7), []⟩])
 .ret))⟩
theorem F148_code : cfgA.code 148 = some F148 := by kernel_rfl

/-- ticketline/slot.setFence -/
noncomputable def F149 : AFn := ⟨33, [.tmp 6], (.seq
 (.ops 0 [⟨some 6, none, .mv (.c (.int .i64 0)), []⟩])
 (.seq
 (.ops 1 [⟨some 10, none, .mv (.t 2), []⟩,
 ⟨some 11, none, .call 125 [.t 10], []⟩,
 ⟨some 9, none, .mv (.t 11), []⟩,
 ⟨some 12, none, .ext (.t 9) 0, []⟩,
 ⟨some 13, none, .ext (.t 9) 1, []⟩,
 ⟨some 7, none, .mv (.t 12), []⟩,
 ⟨some 8, none, .mv (.t 13), []⟩])
 (.seq
 (.seq
 (.ops 2 [⟨some 14, none, .mv (.t 8), []⟩,
 ⟨some 15, none, .bin .neq (.t 14) (.c (.int .i64 0)), []⟩])
 (.cond (.t 15)
 (.seq
 (.ops 3 [⟨some 16, none, .mv (.t 8), []⟩,
 ⟨some 6, none, .mv (.t 16), []⟩])
 .ret)
 .skip))
 (.seq
 (.ops 4 [⟨some 17, none, .mv (.t 0), []⟩,
 ⟨some 18, none, .mv (.t 1), []⟩,
 ⟨some 19, none, .mv (.t 2), []⟩,
 ⟨some 20, none, .len .string (.t 19), []⟩,
 ⟨some 21, none, .cvi .u64 (.t 20), []⟩,
 ⟨some 22, none, .nilc (.t 17) (mok Tryz.prog), []⟩,
 ⟨some 23, none, .ixa (some 128) 1 (.t 22) (.t 18), []⟩,
 ⟨none, none, .st 1 (.t 23) (.t 21), []⟩])
 (.seq
 (.ops 5 [⟨some 24, none, .mv (.t 0), []⟩,
 ⟨some 25, none, .nilc (.t 24) (mok Tryz.prog), []⟩,
 ⟨some 26, none, .mv (.t 1), []⟩,
 ⟨some 27, none, .bin .add (.t 26) (.c (.int .i64 1)), []⟩,
 ⟨some 28, none, .mv (.t 1), []⟩,
 ⟨some 29, none, .bin .add (.t 28) (.c (.int .i64 4)), []⟩,
 ⟨some 30, none, .slc (some 128) 1 (.t 25) (some (.t 27)) (some (.t 29)), []⟩,
 ⟨some 31, none, .mv (.t 7), []⟩,
 ⟨some 32, none, .cpy 1 (.t 30) (.t 31), []⟩])
 (.seq
 (.ops 6 [⟨some 6, none, .mv (.c (.int .i64 0)), []⟩])
 .ret))))))⟩
theorem F149_code : cfgA.code 149 = some F149 := by kernel_rfl

/-- (*ticketline/arena.Arena).none -/
noncomputable def F150 : AFn := ⟨13, [.tmp 2], (.seq
 (.ops 0 [⟨some 2, none, .mv (.c (.bool false)), []⟩])
 (.seq
 (.ops 1 [⟨some 3, none, .mv (.t 0), []⟩,
 ⟨some 4, none, .eqn .ptr false (.t 3), []⟩,
 ⟨some 5, none, .mv (.t 4), []⟩,
 ⟨some 6, some (5, false), .mv (.t 0), []⟩,
 ⟨some 7, some (5, false), .nilc (.t 6) (mok Tryz.prog), []⟩,
 ⟨some 8, some (5, false), .fld 0 (.t 7), []⟩,
 ⟨some 9, some (5, false), .fld 0 (.t 8), []⟩,
 ⟨some 10, some (5, false), .ld 1 false (.t 9), []⟩,
 ⟨some 11, some (5, false), .eqn .ptr false (.t 10), []⟩,
 ⟨some 12, none, .pick (.t 5) (.c (.bool true)) (.t 11), []⟩,
 ⟨some 2, none, .mv (.t 12), []⟩])
 .ret))⟩
theorem F150_code : cfgA.code 150 = some F150 := by kernel_rfl

/-- (ticketline/arena.words).get -/
noncomputable def F151 : AFn := ⟨15, [.tmp 4], (.seq
 (.ops 0 [⟨some 2, none, .box 1 (.t 0) false, []⟩,
 ⟨some 4, none, .mv (.c (.int .u64 0)), []⟩])
 (.seq
 (.ops 1 [⟨some 8, none, .fld 0 (.t 2), []⟩,
 ⟨some 9, none, .ld 1 false (.t 8), []⟩,
 ⟨some 10, none, .mv (.t 1), []⟩,
 ⟨some 11, none, .call 192 [.t 9, .t 10], []⟩,
 ⟨some 7, none, .mv (.t 11), []⟩,
 ⟨some 12, none, .ext (.t 7) 0, []⟩,
 ⟨some 13, none, .ext (.t 7) 1, []⟩,
 ⟨some 5, none, .mv (.t 12), []⟩,
 ⟨some 6, none, .mv (.t 13), []⟩])
 (.seq
 (.ops 2 [⟨some 14, none, .mv (.t 5), []⟩,
 ⟨some 4, none, .mv (.t 14), []⟩])
 .ret)))⟩
theorem F151_code : cfgA.code 151 = some F151 := by kernel_rfl

/-- (*ticketline/arena.Arena).put: the round 0 -/
noncomputable def B152x0 : AC := (.seq
 (.seq
 (.ops 2 [⟨some 7, none, .mv (.t 6), []⟩,
 ⟨some 8, none, .bin .lss (.t 7) (.c (.int .i64 128)), []⟩])
 (.cond (.t 8)
 .skip
 (.exit 0)))
 (.seq
 (.block 1
 (.ops 4 [⟨some 11, none, .mv (.t 0), []⟩,
 ⟨some 12, none, .nilc (.t 11) (mok Tryz.prog), []⟩,
 ⟨some 13, none, .fld 0 (.t 12), []⟩,
 ⟨some 14, none, .ld 1 true (.t 13), []⟩,
 ⟨some 15, none, .mv (.t 1), []⟩,
 ⟨some 16, none, .mv (.t 6), []⟩,
 ⟨some 18, none, .mv (.t 6), []⟩,
 ⟨some 19, none, .ixa (some 128) 1 (.t 5) (.t 18), []⟩,
 ⟨some 20, none, .ld 1 false (.t 19), []⟩,
 ⟨some 17, none, .call 106 [.t 15, .t 16], [(14, .ld 1 true (.t 13)), (20, .ld 1 false (.t 19))]⟩,
 ⟨some 21, none, .call 147 [.t 14, .t 17, .t 20], []⟩]))
 (.ops 3 [⟨some 9, none, .mv (.t 6), []⟩,
 ⟨some 10, none, .bin .add (.t 9) (.c (.int .i64 1)), []⟩,
 ⟨some 6, none, .mv (.t 10), []⟩])))
/-- (*ticketline/arena.Arena).put -/
noncomputable def F152 : AFn := ⟨22, [], (.seq
 (.ops 0 [⟨some 5, none, .box 128 (.t 2) false, []⟩])
 (.seq
 (.ops 1 [⟨some 6, none, .mv (.c (.int .i64 8)), []⟩])
 (.block 0
 (.loop [] B152x0))))⟩
theorem F152_code : cfgA.code 152 = some F152 := by kernel_rfl

/-- (*ticketline/arena.Arena).busy -/
noncomputable def F153 : AFn := ⟨28, [.tmp 6], (.seq
 (.ops 0 [⟨some 6, none, .mv (.c (.int .i64 0)), []⟩])
 (.seq
 (.ops 1 [⟨some 8, none, .mv (.t 0), []⟩,
 ⟨some 9, none, .mv (.t 1), []⟩,
 ⟨some 10, none, .call 193 [.t 8, .t 9], []⟩,
 ⟨some 7, none, .mv (.t 10), []⟩])
 (.seq
 (.block 0
 (.seq
 (.ops 2 [⟨some 12, none, .mv (.t 7), []⟩,
 ⟨some 13, none, .bin .neq (.t 12) (.c (.int .i64 0)), []⟩,
 ⟨some 11, none, .mv (.t 13), []⟩])
 (.cond (.t 11)
 (.seq
 (.ops 3 [⟨some 14, none, .mv (.t 7), []⟩,
 ⟨some 6, none, .mv (.t 14), []⟩])
 .ret)
 (.seq
 (.ops 4 [⟨some 16, none, .mv (.t 0), []⟩,
 ⟨some 17, none, .mv (.t 1), []⟩,
 ⟨some 18, none, .call 194 [.t 16, .t 17], []⟩,
 ⟨some 19, none, .un .not (.t 18), []⟩,
 ⟨some 15, none, .mv (.t 19), []⟩])
 (.cond (.t 15)
 (.seq
 (.ops 5 [⟨some 6, none, .mv (.c (.int .i64 8)), []⟩])
 .ret)
 (.seq
 (.ops 6 [⟨some 21, none, .mv (.t 2), []⟩,
 ⟨some 22, none, .mv (.t 21), []⟩,
 ⟨some 23, some (22, true), .mv (.t 0), []⟩,
 ⟨some 24, some (22, true), .call 195 [.t 23], []⟩,
 ⟨some 25, some (22, true), .mv (.t 1), []⟩,
 ⟨some 26, some (22, true), .bin .eql (.t 24) (.t 25), []⟩,
 ⟨some 27, none, .pick (.t 22) (.t 26) (.c (.bool false)), []⟩,
 ⟨some 20, none, .mv (.t 27), []⟩])
 (.cond (.t 20)
 (.seq
 (.ops 7 [⟨some 6, none, .mv (.c (.int .i64 11)), []⟩])
 .ret)
 .skip)))))))
 (.seq
 (.ops 8 [⟨some 6, none, .mv (.c (.int .i64 0)), []⟩])
 .ret))))⟩
theorem F153_code : cfgA.code 153 = some F153 := by kernel_rfl

/-- ticketline/mem.NewOnce -/
noncomputable def F154 : AFn := ⟨9, [.tmp 2, .tmp 3], (.seq
 (.ops 0 [⟨some 2, none, .mv (.c (.nilp)), []⟩,
 ⟨some 3, none, .mv (.c (.int .i64 0)), []⟩])
 (.seq
 (.seq
 (.ops 1 [⟨some 4, none, .mv (.t 0), []⟩,
 ⟨some 5, none, .call 174 [.t 4], []⟩])
 (.cond (.t 5)
 (.seq
 (.ops 2 [⟨some 2, none, .mv (.c (.nilp)), []⟩,
 ⟨some 3, none, .mv (.c (.int .i64 1)), []⟩])
 .ret)
 .skip))
 (.seq
 (.ops 3 [⟨some 6, none, .mv (.t 0), []⟩,
 ⟨some 7, none, .build [.nilp, .int .i64 0, .int .i64 0, .int .u64 0, .int .u64 0] [(0, 1, (.t 6))], []⟩,
 ⟨some 8, none, .box 5 (.t 7) true, []⟩,
 ⟨some 2, none, .mv (.t 8), []⟩,
 ⟨some 3, none, .mv (.c (.int .i64 0)), []⟩])
 .ret)))⟩
theorem F154_code : cfgA.code 154 = some F154 := by kernel_rfl

/-- ticketline/qnode.New -/
noncomputable def F155 : AFn := ⟨28, [.tmp 4, .tmp 5], (.seq
 (.ops 0 [⟨some 4, none, .mv (.c (.nilp)), []⟩,
 ⟨some 5, none, .mv (.c (.int .i64 0)), []⟩])
 (.seq
 (.seq
 (.ops 1 [⟨some 6, none, .mv (.t 0), []⟩,
 ⟨some 7, none, .bin .lss (.t 6) (.c (.int .i64 0)), []⟩,
 ⟨some 8, none, .mv (.t 7), []⟩,
 ⟨some 9, some (8, false), .mv (.t 1), []⟩,
 ⟨some 10, some (8, false), .bin .lss (.t 9) (.c (.int .i64 1)), []⟩,
 ⟨some 11, none, .pick (.t 8) (.c (.bool true)) (.t 10), []⟩,
 ⟨some 12, none, .mv (.t 11), []⟩,
 ⟨some 13, some (12, false), .mv (.t 1), []⟩,
 ⟨some 14, some (12, false), .bin .gtr (.t 13) (.c (.int .i64 64)), []⟩,
 ⟨some 15, none, .pick (.t 12) (.c (.bool true)) (.t 14), []⟩,
 ⟨some 16, none, .mv (.t 15), []⟩,
 ⟨some 17, some (16, false), .mv (.t 0), []⟩,
 ⟨some 18, some (16, false), .mv (.t 1), []⟩,
 ⟨some 19, some (16, false), .bin .mul (.t 18) (.c (.int .i64 2)), []⟩,
 ⟨some 20, some (16, false), .bin .mul (.t 19) (.c (.int .i64 3)), []⟩,
 ⟨some 21, some (16, false), .bin .sub (.c (.int .i64 65536)) (.t 20), []⟩,
 ⟨some 22, some (16, false), .bin .gtr (.t 17) (.t 21), []⟩,
 ⟨some 23, none, .pick (.t 16) (.c (.bool true)) (.t 22), []⟩])
 (.cond (.t 23)
 (.seq
 (.ops 2 [⟨some 4, none, .mv (.c (.nilp)), []⟩,
 ⟨some 5, none, .mv (.c (.int .i64 2)), []⟩])
 .ret)
 .skip))
 (.seq
 (.ops 3 [⟨some 24, none, .mv (.t 0), []⟩,
 ⟨some 25, none, .mv (.t 1), []⟩,
 ⟨some 26, none, .build [.int .i64 0, .int .i64 0] [(0, 1, (.t 24)), (1, 1, (.t 25))], []⟩,
 ⟨some 27, none, .box 2 (.t 26) true, []⟩,
 ⟨some 4, none, .mv (.t 27), []⟩,
 ⟨some 5, none, .mv (.c (.int .i64 0)), []⟩])
 .ret)))⟩
theorem F155_code : cfgA.code 155 = some F155 := by kernel_rfl

/-- (*ticketline/qnode.Nodes).Threads -/
noncomputable def F156 : AFn := ⟨6, [.tmp 2], (.seq
 (.ops 0 [⟨some 2, none, .mv (.c (.int .i64 0)), []⟩])
 (.seq
 (.ops 1 [⟨some 3, none, .mv (.t 0), []⟩,
 ⟨some 4, none, .call 196 [.t 3], []⟩,
 ⟨some 5, none, .bin .quo (.t 4) (.c (.int .i64 2)), []⟩,
 ⟨some 2, none, .mv (.t 5), []⟩])
 .ret))⟩
theorem F156_code : cfgA.code 156 = some F156 := by kernel_rfl

/-- ticketline/latch.apart -/
noncomputable def F157 : AFn := ⟨32, [.tmp 4], (.seq
 (.ops 0 [⟨some 4, none, .mv (.c (.int .i64 0)), []⟩])
 (.seq
 (.block 0
 (.seq
 (.ops 1 [⟨some 6, none, .mv (.t 0), []⟩,
 ⟨some 7, none, .call 156 [.t 6], []⟩,
 ⟨some 8, none, .bin .eql (.t 7) (.c (.int .i64 0)), []⟩,
 ⟨some 5, none, .mv (.t 8), []⟩])
 (.cond (.t 5)
 (.seq
 (.ops 2 [⟨some 4, none, .mv (.c (.int .i64 1)), []⟩])
 .ret)
 (.seq
 (.ops 3 [⟨some 10, none, .mv (.t 1), []⟩,
 ⟨some 11, none, .bin .lss (.t 10) (.c (.int .i64 0)), []⟩,
 ⟨some 12, none, .mv (.t 11), []⟩,
 ⟨some 13, some (12, false), .mv (.t 1), []⟩,
 ⟨some 14, some (12, false), .bin .gtr (.t 13) (.c (.int .i64 65533)), []⟩,
 ⟨some 15, none, .pick (.t 12) (.c (.bool true)) (.t 14), []⟩,
 ⟨some 16, none, .mv (.t 15), []⟩,
 ⟨some 17, some (16, false), .mv (.t 1), []⟩,
 ⟨some 18, some (16, false), .mv (.t 0), []⟩,
 ⟨some 19, some (16, false), .call 197 [.t 18], []⟩,
 ⟨some 20, some (16, false), .mv (.t 0), []⟩,
 ⟨some 21, some (16, false), .call 198 [.t 20], []⟩,
 ⟨some 22, some (16, false), .bin .add (.t 19) (.t 21), []⟩,
 ⟨some 23, some (16, false), .bin .lss (.t 17) (.t 22), []⟩,
 ⟨some 24, some (16, false), .mv (.t 23), []⟩,
 ⟨some 25, some (24, true), .mv (.t 1), []⟩,
 ⟨some 26, some (24, true), .bin .add (.t 25) (.c (.int .i64 3)), []⟩,
 ⟨some 27, some (24, true), .mv (.t 0), []⟩,
 ⟨some 28, some (24, true), .call 197 [.t 27], []⟩,
 ⟨some 29, some (24, true), .bin .gtr (.t 26) (.t 28), []⟩,
 ⟨some 30, some (16, false), .pick (.t 24) (.t 29) (.c (.bool false)), []⟩,
 ⟨some 31, none, .pick (.t 16) (.c (.bool true)) (.t 30), []⟩,
 ⟨some 9, none, .mv (.t 31), []⟩])
 (.cond (.t 9)
 (.seq
 (.ops 4 [⟨some 4, none, .mv (.c (.int .i64 2)), []⟩])
 .ret)
 .skip)))))
 (.seq
 (.ops 5 [⟨some 4, none, .mv (.c (.int .i64 0)), []⟩])
 .ret)))⟩
theorem F157_code : cfgA.code 157 = some F157 := by kernel_rfl

/-- ticketline/latch.Unpack: the round 0 -/
noncomputable def B158x0 : AC := (.seq
 (.ops 5 [⟨some 21, none, .bin .lss (.t 20) (.c (.int .i64 64)), []⟩])
 (.seq
 (.cond (.t 21)
 .skip
 (.exit 0))
 (.seq
 (.block 1
 (.seq
 (.ops 6 [⟨some 22, none, .mv (.t 20), []⟩,
 ⟨some 8, none, .mv (.t 22), []⟩])
 (.seq
 (.ops 7 [⟨some 23, none, .fld 0 (.t 6), []⟩,
 ⟨some 24, none, .ld 1 false (.t 23), []⟩,
 ⟨some 25, none, .mv (.t 8), []⟩,
 ⟨some 26, none, .bin .shr (.t 24) (.t 25), []⟩,
 ⟨some 27, none, .bin .and (.t 26) (.c (.int .u64 1)), []⟩,
 ⟨some 28, none, .bin .eql (.t 27) (.c (.int .u64 1)), []⟩])
 (.cond (.t 28)
 (.ops 8 [⟨some 29, none, .fld 0 (.t 2), []⟩,
 ⟨some 30, none, .ld 1 false (.t 29), []⟩,
 ⟨some 31, none, .mv (.t 8), []⟩,
 ⟨some 32, none, .bslice [.int .i64 0] 1 1 [(0, (.t 31))] false false, []⟩,
 ⟨some 33, none, .app 1 8 (.t 30) (.t 32) true, []⟩,
 ⟨some 34, none, .fld 0 (.t 2), []⟩,
 ⟨none, none, .st 1 (.t 34) (.t 33), []⟩])
 .skip))))
 (.ops 9 [⟨some 35, none, .bin .add (.t 20) (.c (.int .i64 1)), []⟩,
 ⟨some 20, none, .mv (.t 35), []⟩]))))
/-- ticketline/latch.Unpack -/
noncomputable def F158 : AFn := ⟨64, [.cell 2 6 true, .tmp 3, .tmp 4, .tmp 5], (.seq
 (.ops 0 [⟨some 1, none, .box 2 (.t 0) false, []⟩,
 ⟨some 2, none, .alloc [.nils, .int .i64 0, .int .i64 0, .int .i64 0, .int .i64 0, .nils] false, []⟩,
 ⟨some 3, none, .mv (.c (.int .i64 0)), []⟩,
 ⟨some 4, none, .mv (.c (.int .i64 0)), []⟩,
 ⟨some 5, none, .mv (.c (.int .i64 0)), []⟩])
 (.seq
 (.ops 1 [⟨some 10, none, .ixa (some 2) 1 (.t 1) (.c (.int .i64 0)), []⟩,
 ⟨some 11, none, .ld 1 false (.t 10), []⟩,
 ⟨some 12, none, .ixa (some 2) 1 (.t 1) (.c (.int .i64 1)), []⟩,
 ⟨some 13, none, .ld 1 false (.t 12), []⟩,
 ⟨some 14, none, .call 159 [.t 11, .t 13], []⟩,
 ⟨some 9, none, .mv (.t 14), []⟩,
 ⟨some 15, none, .ext (.t 9) 0, []⟩,
 ⟨some 16, none, .ext (.t 9) 1, []⟩,
 ⟨some 6, none, .alloc [.int .u64 0, .int .u64 0, .int .u64 0, .int .u64 0, .int .u64 0, .int .u64 0, .int .u64 0] false, []⟩,
 ⟨none, none, .st 7 (.t 6) (.t 15), []⟩,
 ⟨some 7, none, .mv (.t 16), []⟩])
 (.seq
 (.seq
 (.ops 2 [⟨some 17, none, .mv (.t 7), []⟩,
 ⟨some 18, none, .un .not (.t 17), []⟩])
 (.cond (.t 18)
 (.seq
 (.ops 3 [⟨some 19, none, .build [.nils, .int .i64 0, .int .i64 0, .int .i64 0, .int .i64 0, .nils] [], []⟩,
 ⟨none, none, .st 6 (.t 2) (.t 19), []⟩,
 ⟨some 3, none, .mv (.c (.int .i64 0)), []⟩,
 ⟨some 4, none, .mv (.c (.int .i64 0)), []⟩,
 ⟨some 5, none, .mv (.c (.int .i64 12)), []⟩])
 .ret)
 .skip))
 (.seq
 (.seq
 (.ops 4 [⟨some 20, none, .mv (.c (.int .i64 0)), []⟩])
 (.block 0
 (.loop [] B158x0)))
 (.seq
 (.ops 10 [⟨some 36, none, .fld 1 (.t 6), []⟩,
 ⟨some 37, none, .ld 1 false (.t 36), []⟩,
 ⟨some 38, none, .cvi .i64 (.t 37), []⟩,
 ⟨some 39, none, .bin .sub (.t 38) (.c (.int .i64 1)), []⟩,
 ⟨some 40, none, .fld 2 (.t 6), []⟩,
 ⟨some 41, none, .ld 1 false (.t 40), []⟩,
 ⟨some 42, none, .cvi .i64 (.t 41), []⟩,
 ⟨some 43, none, .bin .sub (.t 42) (.c (.int .i64 1)), []⟩,
 ⟨some 44, none, .fld 3 (.t 6), []⟩,
 ⟨some 45, none, .ld 1 false (.t 44), []⟩,
 ⟨some 46, none, .cvi .i64 (.t 45), []⟩,
 ⟨some 47, none, .bin .sub (.t 46) (.c (.int .i64 1)), []⟩,
 ⟨some 48, none, .fld 6 (.t 6), []⟩,
 ⟨some 49, none, .ld 1 false (.t 48), []⟩,
 ⟨some 50, none, .cvi .i64 (.t 49), []⟩,
 ⟨some 51, none, .fld 1 (.t 2), []⟩,
 ⟨none, none, .st 1 (.t 51) (.t 39), [(41, .ld 1 false (.t 40)), (45, .ld 1 false (.t 44)), (49, .ld 1 false (.t 48))]⟩,
 ⟨some 52, none, .fld 2 (.t 2), []⟩,
 ⟨none, none, .st 1 (.t 52) (.t 43), [(45, .ld 1 false (.t 44)), (49, .ld 1 false (.t 48))]⟩,
 ⟨some 53, none, .fld 3 (.t 2), []⟩,
 ⟨none, none, .st 1 (.t 53) (.t 47), [(49, .ld 1 false (.t 48))]⟩,
 ⟨some 54, none, .fld 4 (.t 2), []⟩,
 ⟨none, none, .st 1 (.t 54) (.t 50), []⟩])
 (.seq
 (.ops 11 [⟨some 55, none, .ld 6 true (.t 2), []⟩,
 ⟨some 56, none, .fld 4 (.t 6), []⟩,
 ⟨some 57, none, .ld 1 false (.t 56), []⟩,
 ⟨some 58, none, .cvi .i64 (.t 57), []⟩,
 ⟨some 59, none, .bin .sub (.t 58) (.c (.int .i64 1)), []⟩,
 ⟨some 60, none, .fld 5 (.t 6), []⟩,
 ⟨some 61, none, .ld 1 false (.t 60), []⟩,
 ⟨some 62, none, .cvi .i64 (.t 61), []⟩,
 ⟨some 63, none, .bin .sub (.t 62) (.c (.int .i64 1)), []⟩,
 ⟨none, none, .st 6 (.t 2) (.t 55), [(57, .ld 1 false (.t 56)), (61, .ld 1 false (.t 60))]⟩,
 ⟨some 3, none, .mv (.t 59), []⟩,
 ⟨some 4, none, .mv (.t 63), []⟩,
 ⟨some 5, none, .mv (.c (.int .i64 0)), []⟩])
 .ret))))))⟩
theorem F158_code : cfgA.code 158 = some F158 := by kernel_rfl

/-- ticketline/latch.of: the round 0 -/
noncomputable def B159x0 : AC := (.seq
 (.ops 3 [⟨some 20, none, .bin .lss (.t 19) (.t 18), []⟩])
 (.seq
 (.cond (.t 20)
 .skip
 (.exit 0))
 (.seq
 (.block 1
 (.seq
 (.ops 4 [⟨some 21, none, .ixa none 1 (.t 17) (.t 19), []⟩,
 ⟨some 22, none, .ld 1 false (.t 21), []⟩,
 ⟨some 8, none, .mv (.t 22), []⟩])
 (.ops 5 [⟨some 23, none, .mv (.t 8), []⟩,
 ⟨some 24, none, .mv (.t 1), []⟩,
 ⟨some 25, none, .bin .and (.t 24) (.c (.int .u64 255)), []⟩,
 ⟨some 26, none, .mv (.t 1), []⟩,
 ⟨some 27, none, .bin .shr (.t 26) (.c (.int .u64 8)), []⟩,
 ⟨some 28, none, .nilc (.t 23) (mok Tryz.prog), []⟩,
 ⟨none, none, .st 1 (.t 28) (.t 25), []⟩,
 ⟨some 1, none, .mv (.t 27), []⟩])))
 (.ops 6 [⟨some 29, none, .bin .add (.t 19) (.c (.int .i64 1)), []⟩,
 ⟨some 19, none, .mv (.t 29), []⟩]))))
/-- ticketline/latch.of -/
noncomputable def F159 : AFn := ⟨37, [.cell 4 7 true, .tmp 5], (.seq
 (.ops 0 [⟨some 4, none, .alloc [.int .u64 0, .int .u64 0, .int .u64 0, .int .u64 0, .int .u64 0, .int .u64 0, .int .u64 0] false, []⟩,
 ⟨some 5, none, .mv (.c (.bool false)), []⟩])
 (.seq
 (.ops 1 [⟨some 9, none, .mv (.t 0), []⟩,
 ⟨some 10, none, .build [.int .u64 0, .int .u64 0, .int .u64 0, .int .u64 0, .int .u64 0, .int .u64 0, .int .u64 0] [(0, 1, (.t 9))], []⟩,
 ⟨some 6, none, .alloc [.int .u64 0, .int .u64 0, .int .u64 0, .int .u64 0, .int .u64 0, .int .u64 0, .int .u64 0] false, []⟩,
 ⟨none, none, .st 7 (.t 6) (.t 10), []⟩])
 (.seq
 (.seq
 (.ops 2 [⟨some 11, none, .fld 1 (.t 6), []⟩,
 ⟨some 12, none, .fld 2 (.t 6), []⟩,
 ⟨some 13, none, .fld 3 (.t 6), []⟩,
 ⟨some 14, none, .fld 4 (.t 6), []⟩,
 ⟨some 15, none, .fld 5 (.t 6), []⟩,
 ⟨some 16, none, .fld 6 (.t 6), []⟩,
 ⟨some 17, none, .bslice [.nilp] 1 6 [(0, (.t 11)), (1, (.t 12)), (2, (.t 13)), (3, (.t 14)), (4, (.t 15)), (5, (.t 16))] true false, []⟩,
 ⟨some 18, none, .len .slice (.t 17), []⟩,
 ⟨some 19, none, .mv (.c (.int .i64 0)), []⟩])
 (.block 0
 (.loop [] B159x0)))
 (.seq
 (.ops 7 [⟨some 30, none, .ld 7 true (.t 6), []⟩,
 ⟨some 31, none, .mv (.t 1), []⟩,
 ⟨some 32, none, .bin .eql (.t 31) (.c (.int .u64 0)), []⟩,
 ⟨some 33, none, .mv (.t 32), []⟩,
 ⟨some 34, some (33, true), .ld 7 true (.t 6), []⟩,
 ⟨some 35, some (33, true), .call 199 [.t 34], [(30, .ld 7 true (.t 6))]⟩,
 ⟨some 36, none, .pick (.t 33) (.t 35) (.c (.bool false)), []⟩,
 ⟨none, none, .st 7 (.t 4) (.t 30), []⟩,
 ⟨some 5, none, .mv (.t 36), []⟩])
 .ret))))⟩
theorem F159_code : cfgA.code 159 = some F159 := by kernel_rfl

/-- (ticketline/latch.state).within -/
noncomputable def F160 : AFn := ⟨34, [.tmp 4], (.seq
 (.ops 0 [⟨some 2, none, .box 7 (.t 0) false, []⟩,
 ⟨some 4, none, .mv (.c (.bool false)), []⟩])
 (.seq
 (.ops 1 [⟨some 6, none, .mv (.t 1), []⟩,
 ⟨some 7, none, .call 156 [.t 6], []⟩,
 ⟨some 8, none, .cvi .u64 (.t 7), []⟩,
 ⟨some 5, none, .mv (.t 8), []⟩])
 (.seq
 (.ops 2 [⟨some 9, none, .fld 1 (.t 2), []⟩,
 ⟨some 10, none, .ld 1 false (.t 9), []⟩,
 ⟨some 11, none, .fld 2 (.t 2), []⟩,
 ⟨some 12, none, .ld 1 false (.t 11), []⟩,
 ⟨some 13, none, .mx true (.t 10) [.t 12], []⟩,
 ⟨some 14, none, .mv (.t 5), []⟩,
 ⟨some 15, none, .bin .leq (.t 13) (.t 14), []⟩,
 ⟨some 16, none, .mv (.t 15), []⟩,
 ⟨some 17, some (16, true), .fld 4 (.t 2), []⟩,
 ⟨some 18, some (16, true), .ld 1 false (.t 17), []⟩,
 ⟨some 19, some (16, true), .fld 5 (.t 2), []⟩,
 ⟨some 20, some (16, true), .ld 1 false (.t 19), []⟩,
 ⟨some 21, some (16, true), .mx true (.t 18) [.t 20], []⟩,
 ⟨some 22, some (16, true), .mv (.t 5), []⟩,
 ⟨some 23, some (16, true), .bin .mul (.t 22) (.c (.int .u64 2)), []⟩,
 ⟨some 24, some (16, true), .bin .leq (.t 21) (.t 23), []⟩,
 ⟨some 25, none, .pick (.t 16) (.t 24) (.c (.bool false)), []⟩,
 ⟨some 26, none, .mv (.t 25), []⟩,
 ⟨some 27, some (26, true), .fld 0 (.t 2), []⟩,
 ⟨some 28, some (26, true), .ld 1 false (.t 27), []⟩,
 ⟨some 29, some (26, true), .call 200 [.t 28], []⟩,
 ⟨some 30, some (26, true), .mv (.t 1), []⟩,
 ⟨some 31, some (26, true), .call 156 [.t 30], []⟩,
 ⟨some 32, some (26, true), .bin .leq (.t 29) (.t 31), []⟩,
 ⟨some 33, none, .pick (.t 26) (.t 32) (.c (.bool false)), []⟩,
 ⟨some 4, none, .mv (.t 33), []⟩])
 .ret)))⟩
theorem F160_code : cfgA.code 160 = some F160 := by kernel_rfl

/-- (*ticketline/qnode.Nodes).Mode -/
noncomputable def F162 : AFn := ⟨8, [.tmp 4], (.seq
 (.ops 0 [⟨some 4, none, .mv (.c (.int .i64 0)), []⟩])
 (.seq
 (.ops 1 [⟨some 5, none, .mv (.t 0), []⟩,
 ⟨some 6, none, .mv (.t 1), []⟩,
 ⟨some 7, none, .call 202 [.t 5, .t 6, .c (.int .i64 2)], []⟩,
 ⟨some 4, none, .mv (.t 7), []⟩])
 .ret))⟩
theorem F162_code : cfgA.code 162 = some F162 := by kernel_rfl

/-- (*ticketline/qnode.Nodes).Next -/
noncomputable def F163 : AFn := ⟨8, [.tmp 4], (.seq
 (.ops 0 [⟨some 4, none, .mv (.c (.int .i64 0)), []⟩])
 (.seq
 (.ops 1 [⟨some 5, none, .mv (.t 0), []⟩,
 ⟨some 6, none, .mv (.t 1), []⟩,
 ⟨some 7, none, .call 202 [.t 5, .t 6, .c (.int .i64 0)], []⟩,
 ⟨some 4, none, .mv (.t 7), []⟩])
 .ret))⟩
theorem F163_code : cfgA.code 163 = some F163 := by kernel_rfl

/-- (*ticketline/qnode.Nodes).zero -/
noncomputable def F166 : AFn := ⟨12, [.tmp 2], (.seq
 (.ops 0 [⟨some 2, none, .mv (.c (.bool false)), []⟩])
 (.seq
 (.ops 1 [⟨some 3, none, .mv (.t 0), []⟩,
 ⟨some 4, none, .eqn .ptr false (.t 3), []⟩,
 ⟨some 5, none, .mv (.t 4), []⟩,
 ⟨some 6, some (5, false), .mv (.t 0), []⟩,
 ⟨some 7, some (5, false), .nilc (.t 6) (mok Tryz.prog), []⟩,
 ⟨some 8, some (5, false), .fld 1 (.t 7), []⟩,
 ⟨some 9, some (5, false), .ld 1 false (.t 8), []⟩,
 ⟨some 10, some (5, false), .bin .eql (.t 9) (.c (.int .i64 0)), []⟩,
 ⟨some 11, none, .pick (.t 5) (.c (.bool true)) (.t 10), []⟩,
 ⟨some 2, none, .mv (.t 11), []⟩])
 .ret))⟩
theorem F166_code : cfgA.code 166 = some F166 := by kernel_rfl

/-- ticketline/mcs.made -/
noncomputable def F167 : AFn := ⟨52, [.cell 6 6 true, .tmp 7], (.seq
 (.ops 0 [⟨some 6, none, .alloc [.nilp, .int .i64 0, .int .i64 0, .int .i64 0, .int .u64 0, .bool false] false, []⟩,
 ⟨some 7, none, .mv (.c (.int .i64 0)), []⟩])
 (.seq
 (.seq
 (.ops 1 [⟨some 11, none, .mv (.t 0), []⟩,
 ⟨some 12, none, .call 156 [.t 11], []⟩,
 ⟨some 13, none, .bin .eql (.t 12) (.c (.int .i64 0)), []⟩])
 (.cond (.t 13)
 (.seq
 (.ops 2 [⟨some 14, none, .build [.nilp, .int .i64 0, .int .i64 0, .int .i64 0, .int .u64 0, .bool false] [], []⟩,
 ⟨none, none, .st 6 (.t 6) (.t 14), []⟩,
 ⟨some 7, none, .mv (.c (.int .i64 1)), []⟩])
 .ret)
 .skip))
 (.seq
 (.ops 3 [⟨some 15, none, .mv (.t 1), []⟩,
 ⟨some 16, none, .mv (.t 0), []⟩,
 ⟨some 17, none, .call 197 [.t 16], []⟩,
 ⟨some 18, none, .bin .geq (.t 15) (.t 17), []⟩,
 ⟨some 19, none, .mv (.t 18), []⟩,
 ⟨some 20, some (19, true), .mv (.t 1), []⟩,
 ⟨some 21, some (19, true), .mv (.t 0), []⟩,
 ⟨some 22, some (19, true), .call 197 [.t 21], []⟩,
 ⟨some 23, some (19, true), .mv (.t 0), []⟩,
 ⟨some 24, some (19, true), .call 198 [.t 23], []⟩,
 ⟨some 25, some (19, true), .bin .add (.t 22) (.t 24), []⟩,
 ⟨some 26, some (19, true), .bin .lss (.t 20) (.t 25), []⟩,
 ⟨some 27, none, .pick (.t 19) (.t 26) (.c (.bool false)), []⟩,
 ⟨some 8, none, .mv (.t 27), []⟩])
 (.seq
 (.seq
 (.ops 4 [⟨some 29, none, .mv (.t 0), []⟩,
 ⟨some 30, none, .mv (.t 2), []⟩,
 ⟨some 31, none, .call 203 [.t 29, .t 30], []⟩,
 ⟨some 28, none, .mv (.t 31), []⟩,
 ⟨some 32, none, .ext (.t 28) 0, []⟩,
 ⟨some 33, none, .ext (.t 28) 1, []⟩,
 ⟨some 9, none, .mv (.t 32), []⟩,
 ⟨some 10, none, .mv (.t 33), []⟩])
 (.seq
 (.ops 5 [⟨some 34, none, .mv (.t 1), []⟩,
 ⟨some 35, none, .bin .lss (.t 34) (.c (.int .i64 0)), []⟩,
 ⟨some 36, none, .mv (.t 35), []⟩,
 ⟨some 37, some (36, false), .mv (.t 1), []⟩,
 ⟨some 38, some (36, false), .bin .geq (.t 37) (.c (.int .i64 65536)), []⟩,
 ⟨some 39, none, .pick (.t 36) (.c (.bool true)) (.t 38), []⟩,
 ⟨some 40, none, .mv (.t 39), []⟩,
 ⟨some 41, some (40, false), .mv (.t 8), []⟩,
 ⟨some 42, none, .pick (.t 40) (.c (.bool true)) (.t 41), []⟩,
 ⟨some 43, none, .mv (.t 42), []⟩,
 ⟨some 44, some (43, false), .mv (.t 10), []⟩,
 ⟨some 45, some (43, false), .bin .neq (.t 44) (.c (.int .i64 0)), []⟩,
 ⟨some 46, none, .pick (.t 43) (.c (.bool true)) (.t 45), []⟩])
 (.cond (.t 46)
 (.seq
 (.ops 6 [⟨some 47, none, .build [.nilp, .int .i64 0, .int .i64 0, .int .i64 0, .int .u64 0, .bool false] [], []⟩,
 ⟨none, none, .st 6 (.t 6) (.t 47), []⟩,
 ⟨some 7, none, .mv (.c (.int .i64 2)), []⟩])
 .ret)
 .skip)))
 (.seq
 (.ops 7 [⟨some 48, none, .mv (.t 0), []⟩,
 ⟨some 49, none, .mv (.t 1), []⟩,
 ⟨some 50, none, .mv (.t 2), []⟩,
 ⟨some 51, none, .build [.nilp, .int .i64 0, .int .i64 0, .int .i64 0, .int .u64 0, .bool false] [(0, 1, (.t 48)), (1, 1, (.t 49)), (2, 1, (.t 50)), (3, 1, (.c (.int .i64 1)))], []⟩,
 ⟨none, none, .st 6 (.t 6) (.t 51), []⟩,
 ⟨some 7, none, .mv (.c (.int .i64 0)), []⟩])
 .ret)))))⟩
theorem F167_code : cfgA.code 167 = some F167 := by kernel_rfl

/-- ticketline/split.Split -/
noncomputable def F168 : AFn := ⟨98, [.cell 4 128 true, .cell 5 128 true, .tmp 6, .tmp 7], (.seq
 (.ops 0 [⟨some 2, none, .box 128 (.t 0) false, []⟩,
 ⟨some 4, none, .alloc (List.replicate 128 (.int .u64 0)) false, []⟩,
 ⟨some 5, none, .alloc (List.replicate 128 (.int .u64 0)) false, []⟩,
 ⟨some 6, none, .mv (.c (.str [])), []⟩,
 ⟨some 7, none, .mv (.c (.int .i64 0)), []⟩])
 (.seq
 (.ops 1 [⟨some 8, none, .alloc (List.replicate 128 (.int .u64 0)) false, []⟩])
 (.seq
 (.ops 2 [⟨some 14, none, .ld 128 true (.t 2), []⟩,
 ⟨some 15, none, .call 204 [.t 14], []⟩,
 ⟨some 13, none, .mv (.t 15), []⟩,
 ⟨some 16, none, .ext (.t 13) 0, []⟩,
 ⟨some 17, none, .ext (.t 13) 1, []⟩,
 ⟨some 9, none, .mv (.t 16), []⟩,
 ⟨some 7, none, .mv (.t 17), []⟩])
 (.seq
 (.block 0
 (.seq
 (.ops 3 [⟨some 19, none, .mv (.t 7), []⟩,
 ⟨some 20, none, .bin .neq (.t 19) (.c (.int .i64 0)), []⟩,
 ⟨some 18, none, .mv (.t 20), []⟩])
 (.cond (.t 18)
 (.seq
 (.ops 4 [⟨some 21, none, .ld 128 true (.t 8), []⟩,
 ⟨some 22, none, .ld 128 true (.t 8), []⟩,
 ⟨some 23, none, .mv (.t 7), []⟩,
 ⟨none, none, .st 128 (.t 4) (.t 21), [(22, .ld 128 true (.t 8))]⟩,
 ⟨none, none, .st 128 (.t 5) (.t 22), []⟩,
 ⟨some 6, none, .mv (.c (.str [])), []⟩,
 ⟨some 7, none, .mv (.t 23), []⟩])
 .ret)
 (.seq
 (.ops 5 [⟨some 25, none, .mv (.t 1), []⟩,
 ⟨some 26, none, .bin .lss (.t 25) (.c (.int .i64 1)), []⟩,
 ⟨some 27, none, .mv (.t 26), []⟩,
 ⟨some 28, some (27, false), .mv (.t 1), []⟩,
 ⟨some 29, some (27, false), .bin .gtr (.t 28) (.c (.int .i64 511)), []⟩,
 ⟨some 30, none, .pick (.t 27) (.c (.bool true)) (.t 29), []⟩,
 ⟨some 24, none, .mv (.t 30), []⟩])
 (.cond (.t 24)
 (.seq
 (.ops 6 [⟨some 31, none, .ld 128 true (.t 8), []⟩,
 ⟨some 32, none, .ld 128 true (.t 8), []⟩,
 ⟨none, none, .st 128 (.t 4) (.t 31), [(32, .ld 128 true (.t 8))]⟩,
 ⟨none, none, .st 128 (.t 5) (.t 32), []⟩,
 ⟨some 6, none, .mv (.c (.str [])), []⟩,
 ⟨some 7, none, .mv (.c (.int .i64 2)), []⟩])
 .ret)
 (.seq
 (.ops 7 [⟨some 34, none, .mv (.t 9), []⟩,
 ⟨some 35, none, .len .slice (.t 34), []⟩,
 ⟨some 36, none, .bin .lss (.t 35) (.c (.int .i64 2)), []⟩,
 ⟨some 33, none, .mv (.t 36), []⟩])
 (.cond (.t 33)
 (.seq
 (.ops 8 [⟨some 37, none, .ld 128 true (.t 8), []⟩,
 ⟨some 38, none, .ld 128 true (.t 8), []⟩,
 ⟨none, none, .st 128 (.t 4) (.t 37), [(38, .ld 128 true (.t 8))]⟩,
 ⟨none, none, .st 128 (.t 5) (.t 38), []⟩,
 ⟨some 6, none, .mv (.c (.str [])), []⟩,
 ⟨some 7, none, .mv (.c (.int .i64 9)), []⟩])
 .ret)
 .skip)))))))
 (.seq
 (.ops 9 [⟨some 39, none, .mv (.t 9), []⟩,
 ⟨some 40, none, .call 205 [.t 39], []⟩,
 ⟨some 10, none, .mv (.t 40), []⟩])
 (.seq
 (.ops 10 [⟨some 41, none, .mv (.t 9), []⟩,
 ⟨some 42, none, .mv (.t 10), []⟩,
 ⟨some 43, none, .ixa none 2 (.t 41) (.t 42), []⟩,
 ⟨some 44, none, .fld 0 (.t 43), []⟩,
 ⟨some 45, none, .ld 1 false (.t 44), []⟩,
 ⟨some 6, none, .mv (.t 45), []⟩])
 (.seq
 (.ops 11 [⟨some 47, none, .ld 128 true (.t 2), []⟩,
 ⟨some 48, none, .call 88 [.t 47], []⟩,
 ⟨some 46, none, .mv (.t 48), []⟩,
 ⟨some 49, none, .ext (.t 46) 0, []⟩,
 ⟨some 50, none, .ext (.t 46) 1, []⟩,
 ⟨some 51, none, .ext (.t 46) 2, []⟩,
 ⟨some 11, none, .mv (.t 49), []⟩,
 ⟨some 12, none, .mv (.t 50), []⟩,
 ⟨some 7, none, .mv (.t 51), []⟩])
 (.seq
 (.seq
 (.ops 12 [⟨some 52, none, .mv (.t 7), []⟩,
 ⟨some 53, none, .bin .neq (.t 52) (.c (.int .i64 0)), []⟩])
 (.cond (.t 53)
 (.seq
 (.ops 13 [⟨some 54, none, .ld 128 true (.t 8), []⟩,
 ⟨some 55, none, .ld 128 true (.t 8), []⟩,
 ⟨some 56, none, .mv (.t 7), []⟩,
 ⟨none, none, .st 128 (.t 4) (.t 54), [(55, .ld 128 true (.t 8))]⟩,
 ⟨none, none, .st 128 (.t 5) (.t 55), []⟩,
 ⟨some 6, none, .mv (.c (.str [])), []⟩,
 ⟨some 7, none, .mv (.t 56), []⟩])
 .ret)
 .skip))
 (.seq
 (.ops 14 [⟨some 58, none, .ld 128 true (.t 2), []⟩,
 ⟨some 60, none, .mv (.t 11), []⟩,
 ⟨some 61, none, .mv (.t 6), []⟩,
 ⟨some 62, none, .mv (.t 1), []⟩,
 ⟨some 63, none, .mv (.t 9), []⟩,
 ⟨some 64, none, .mv (.t 10), []⟩,
 ⟨some 65, none, .slc none 2 (.t 63) none (some (.t 64)), []⟩,
 ⟨some 59, none, .call 77 [.t 58], []⟩,
 ⟨some 66, none, .call 206 [.t 59, .t 60, .t 61, .t 62, .t 65], []⟩,
 ⟨some 57, none, .mv (.t 66), []⟩,
 ⟨some 67, none, .ext (.t 57) 0, []⟩,
 ⟨some 68, none, .ext (.t 57) 1, []⟩,
 ⟨none, none, .st 128 (.t 4) (.t 67), []⟩,
 ⟨some 7, none, .mv (.t 68), []⟩])
 (.seq
 (.seq
 (.ops 15 [⟨some 69, none, .mv (.t 7), []⟩,
 ⟨some 70, none, .bin .neq (.t 69) (.c (.int .i64 0)), []⟩])
 (.cond (.t 70)
 (.seq
 (.ops 16 [⟨some 71, none, .ld 128 true (.t 8), []⟩,
 ⟨some 72, none, .ld 128 true (.t 8), []⟩,
 ⟨some 73, none, .mv (.t 7), []⟩,
 ⟨none, none, .st 128 (.t 4) (.t 71), [(72, .ld 128 true (.t 8))]⟩,
 ⟨none, none, .st 128 (.t 5) (.t 72), []⟩,
 ⟨some 6, none, .mv (.c (.str [])), []⟩,
 ⟨some 7, none, .mv (.t 73), []⟩])
 .ret)
 .skip))
 (.seq
 (.ops 17 [⟨some 75, none, .ld 128 true (.t 2), []⟩,
 ⟨some 77, none, .mv (.t 6), []⟩,
 ⟨some 78, none, .mv (.t 12), []⟩,
 ⟨some 79, none, .ld 128 true (.t 2), []⟩,
 ⟨some 81, none, .mv (.t 9), []⟩,
 ⟨some 82, none, .mv (.t 10), []⟩,
 ⟨some 83, none, .slc none 2 (.t 81) (some (.t 82)) none, []⟩,
 ⟨some 76, none, .call 77 [.t 75], [(79, .ld 128 true (.t 2))]⟩,
 ⟨some 80, none, .call 90 [.t 79], []⟩,
 ⟨some 84, none, .call 206 [.t 76, .t 77, .t 78, .t 80, .t 83], []⟩,
 ⟨some 74, none, .mv (.t 84), []⟩,
 ⟨some 85, none, .ext (.t 74) 0, []⟩,
 ⟨some 86, none, .ext (.t 74) 1, []⟩,
 ⟨none, none, .st 128 (.t 5) (.t 85), []⟩,
 ⟨some 7, none, .mv (.t 86), []⟩])
 (.seq
 (.seq
 (.ops 18 [⟨some 87, none, .mv (.t 7), []⟩,
 ⟨some 88, none, .bin .neq (.t 87) (.c (.int .i64 0)), []⟩])
 (.cond (.t 88)
 (.seq
 (.ops 19 [⟨some 89, none, .ld 128 true (.t 8), []⟩,
 ⟨some 90, none, .ld 128 true (.t 8), []⟩,
 ⟨some 91, none, .mv (.t 7), []⟩,
 ⟨none, none, .st 128 (.t 4) (.t 89), [(90, .ld 128 true (.t 8))]⟩,
 ⟨none, none, .st 128 (.t 5) (.t 90), []⟩,
 ⟨some 6, none, .mv (.c (.str [])), []⟩,
 ⟨some 7, none, .mv (.t 91), []⟩])
 .ret)
 .skip))
 (.seq
 (.ops 20 [⟨some 92, none, .slc (some 128) 1 (.t 4) none (some (.c (.int .i64 8))), []⟩,
 ⟨some 93, none, .slc (some 128) 1 (.t 2) none (some (.c (.int .i64 8))), []⟩,
 ⟨some 94, none, .cpy 1 (.t 92) (.t 93), []⟩])
 (.seq
 (.ops 21 [⟨some 95, none, .ld 128 true (.t 4), []⟩,
 ⟨some 96, none, .ld 128 true (.t 5), []⟩,
 ⟨some 97, none, .mv (.t 6), []⟩,
 ⟨none, none, .st 128 (.t 4) (.t 95), [(96, .ld 128 true (.t 5))]⟩,
 ⟨none, none, .st 128 (.t 5) (.t 96), []⟩,
 ⟨some 6, none, .mv (.t 97), []⟩,
 ⟨some 7, none, .mv (.c (.int .i64 0)), []⟩])
 .ret))))))))))))))⟩
theorem F168_code : cfgA.code 168 = some F168 := by kernel_rfl

/-- ticketline/page.Number -/
noncomputable def F169 : AFn := ⟨17, [.tmp 2, .tmp 3], (.seq
 (.ops 0 [⟨some 2, none, .mv (.c (.str [])), []⟩,
 ⟨some 3, none, .mv (.c (.int .i64 0)), []⟩])
 (.seq
 (.seq
 (.ops 1 [⟨some 4, none, .mv (.t 0), []⟩,
 ⟨some 5, none, .bin .lss (.t 4) (.c (.int .i64 1)), []⟩,
 ⟨some 6, none, .mv (.t 5), []⟩,
 ⟨some 7, some (6, false), .mv (.t 0), []⟩,
 ⟨some 8, some (6, false), .bin .gtr (.t 7) (.c (.int .i64 511)), []⟩,
 ⟨some 9, none, .pick (.t 6) (.c (.bool true)) (.t 8), []⟩])
 (.cond (.t 9)
 (.seq
 (.ops 2 [⟨some 2, none, .mv (.c (.str [])), []⟩,
 ⟨some 3, none, .mv (.c (.int .i64 2)), []⟩])
 .ret)
 .skip))
 (.seq
 (.ops 3 [⟨some 10, none, .mv (.t 0), []⟩,
 ⟨some 11, none, .bin .shr (.t 10) (.c (.int .u64 8)), []⟩,
 ⟨some 12, none, .cvi .u8 (.t 11), []⟩,
 ⟨some 13, none, .mv (.t 0), []⟩,
 ⟨some 14, none, .cvi .u8 (.t 13), []⟩,
 ⟨some 15, none, .bslice [.int .u8 0] 1 8 [(0, (.c (.int .u8 0))), (1, (.c (.int .u8 0))), (2, (.c (.int .u8 0))), (3, (.c (.int .u8 0))), (4, (.c (.int .u8 0))), (5, (.c (.int .u8 0))), (6, (.t 12)), (7, (.t 14))] false false, []⟩,
 ⟨some 16, none, .cvs (.t 15), []⟩,
 ⟨some 2, none, .mv (.t 16), []⟩,
 ⟨some 3, none, .mv (.c (.int .i64 0)), []⟩])
 .ret)))⟩
theorem F169_code : cfgA.code 169 = some F169 := by kernel_rfl

/-- ticketline/split.Root -/
noncomputable def F171 : AFn := ⟨64, [.cell 8 128 true, .tmp 9], (.seq
 (.ops 0 [⟨some 8, none, .alloc (List.replicate 128 (.int .u64 0)) false, []⟩,
 ⟨some 9, none, .mv (.c (.int .i64 0)), []⟩])
 (.seq
 (.ops 1 [⟨some 15, none, .mv (.t 1), []⟩,
 ⟨some 16, none, .call 169 [.t 15], []⟩,
 ⟨some 14, none, .mv (.t 16), []⟩,
 ⟨some 17, none, .ext (.t 14) 0, []⟩,
 ⟨some 18, none, .ext (.t 14) 1, []⟩,
 ⟨some 10, none, .mv (.t 17), []⟩,
 ⟨some 11, none, .mv (.t 18), []⟩])
 (.seq
 (.ops 2 [⟨some 20, none, .mv (.t 2), []⟩,
 ⟨some 21, none, .call 169 [.t 20], []⟩,
 ⟨some 19, none, .mv (.t 21), []⟩,
 ⟨some 22, none, .ext (.t 19) 0, []⟩,
 ⟨some 23, none, .ext (.t 19) 1, []⟩,
 ⟨some 12, none, .mv (.t 22), []⟩,
 ⟨some 13, none, .mv (.t 23), []⟩])
 (.seq
 (.block 0
 (.seq
 (.ops 3 [⟨some 25, none, .mv (.t 0), []⟩,
 ⟨some 26, none, .bin .lss (.t 25) (.c (.int .i64 1)), []⟩,
 ⟨some 27, none, .mv (.t 26), []⟩,
 ⟨some 28, some (27, false), .mv (.t 0), []⟩,
 ⟨some 29, some (27, false), .bin .geq (.t 28) (.c (.int .i64 6)), []⟩,
 ⟨some 30, none, .pick (.t 27) (.c (.bool true)) (.t 29), []⟩,
 ⟨some 31, none, .mv (.t 30), []⟩,
 ⟨some 32, some (31, false), .mv (.t 11), []⟩,
 ⟨some 33, some (31, false), .bin .neq (.t 32) (.c (.int .i64 0)), []⟩,
 ⟨some 34, none, .pick (.t 31) (.c (.bool true)) (.t 33), []⟩,
 ⟨some 35, none, .mv (.t 34), []⟩,
 ⟨some 36, some (35, false), .mv (.t 13), []⟩,
 ⟨some 37, some (35, false), .bin .neq (.t 36) (.c (.int .i64 0)), []⟩,
 ⟨some 38, none, .pick (.t 35) (.c (.bool true)) (.t 37), []⟩,
 ⟨some 39, none, .mv (.t 38), []⟩,
 ⟨some 40, some (39, false), .mv (.t 1), []⟩,
 ⟨some 41, some (39, false), .mv (.t 2), []⟩,
 ⟨some 42, some (39, false), .bin .eql (.t 40) (.t 41), []⟩,
 ⟨some 43, none, .pick (.t 39) (.c (.bool true)) (.t 42), []⟩,
 ⟨some 44, none, .mv (.t 43), []⟩,
 ⟨some 45, some (44, false), .mv (.t 3), []⟩,
 ⟨some 46, some (44, false), .bin .eql (.t 45) (.c (.str [])), []⟩,
 ⟨some 47, none, .pick (.t 44) (.c (.bool true)) (.t 46), []⟩,
 ⟨some 24, none, .mv (.t 47), []⟩])
 (.cond (.t 24)
 (.seq
 (.ops 4 [⟨some 48, none, .build (List.replicate 128 (.int .u64 0)) [], []⟩,
 ⟨none, none, .st 128 (.t 8) (.t 48), []⟩,
 ⟨some 9, none, .mv (.c (.int .i64 2)), []⟩])
 .ret)
 (.seq
 (.ops 5 [⟨some 50, none, .mv (.t 3), []⟩,
 ⟨some 51, none, .len .string (.t 50), []⟩,
 ⟨some 52, none, .bin .gtr (.t 51) (.c (.int .i64 24)), []⟩,
 ⟨some 49, none, .mv (.t 52), []⟩])
 (.cond (.t 49)
 (.seq
 (.ops 6 [⟨some 53, none, .build (List.replicate 128 (.int .u64 0)) [], []⟩,
 ⟨none, none, .st 128 (.t 8) (.t 53), []⟩,
 ⟨some 9, none, .mv (.c (.int .i64 5)), []⟩])
 .ret)
 .skip)))))
 (.seq
 (.ops 7 [⟨some 54, none, .mv (.t 0), []⟩,
 ⟨some 55, none, .mv (.t 10), []⟩,
 ⟨some 56, none, .build [.str [], .str []] [(1, 1, (.t 55))], []⟩,
 ⟨some 57, none, .mv (.t 3), []⟩,
 ⟨some 58, none, .mv (.t 12), []⟩,
 ⟨some 59, none, .build [.str [], .str []] [(0, 1, (.t 57)), (1, 1, (.t 58))], []⟩,
 ⟨some 60, none, .bslice [.str [], .str []] 2 2 [(0, (.t 56)), (1, (.t 59))] false false, []⟩,
 ⟨some 61, none, .call 206 [.t 54, .c (.str []), .c (.str []), .c (.int .i64 0), .t 60], []⟩,
 ⟨some 62, none, .ext (.t 61) 0, []⟩,
 ⟨some 63, none, .ext (.t 61) 1, []⟩,
 ⟨none, none, .st 128 (.t 8) (.t 62), []⟩,
 ⟨some 9, none, .mv (.t 63), []⟩])
 .ret)))))⟩
theorem F171_code : cfgA.code 171 = some F171 := by kernel_rfl

/-- ticketline/version.wrong -/
noncomputable def F172 : AFn := ⟨43, [.tmp 6], (.seq
 (.ops 0 [⟨some 6, none, .mv (.c (.bool false)), []⟩])
 (.seq
 (.seq
 (.ops 1 [⟨some 7, none, .mv (.t 0), []⟩,
 ⟨some 8, none, .call 207 [.t 7], []⟩,
 ⟨some 9, none, .un .not (.t 8), []⟩,
 ⟨some 10, none, .mv (.t 9), []⟩,
 ⟨some 11, some (10, false), .mv (.t 2), []⟩,
 ⟨some 12, some (10, false), .bin .lss (.t 11) (.c (.int .i64 0)), []⟩,
 ⟨some 13, none, .pick (.t 10) (.c (.bool true)) (.t 12), []⟩,
 ⟨some 14, none, .mv (.t 13), []⟩,
 ⟨some 15, some (14, false), .mv (.t 2), []⟩,
 ⟨some 16, some (14, false), .bin .gtr (.t 15) (.c (.int .i64 256)), []⟩,
 ⟨some 17, none, .pick (.t 14) (.c (.bool true)) (.t 16), []⟩])
 (.cond (.t 17)
 (.seq
 (.ops 2 [⟨some 6, none, .mv (.c (.bool true)), []⟩])
 .ret)
 .skip))
 (.seq
 (.ops 3 [⟨some 18, none, .mv (.t 2), []⟩,
 ⟨some 19, none, .bin .gtr (.t 18) (.c (.int .i64 0)), []⟩,
 ⟨some 20, none, .mv (.t 19), []⟩,
 ⟨some 21, some (20, true), .mv (.t 1), []⟩,
 ⟨some 22, some (20, true), .call 207 [.t 21], []⟩,
 ⟨some 23, some (20, true), .un .not (.t 22), []⟩,
 ⟨some 24, some (20, true), .mv (.t 23), []⟩,
 ⟨some 25, some (24, false), .mv (.t 1), []⟩,
 ⟨some 26, some (24, false), .mv (.t 2), []⟩,
 ⟨some 27, some (24, false), .bin .sub (.c (.int .i64 65536)) (.t 26), []⟩,
 ⟨some 28, some (24, false), .bin .gtr (.t 25) (.t 27), []⟩,
 ⟨some 29, some (20, true), .pick (.t 24) (.c (.bool true)) (.t 28), []⟩,
 ⟨some 30, some (20, true), .mv (.t 29), []⟩,
 ⟨some 31, some (30, false), .mv (.t 0), []⟩,
 ⟨some 32, some (30, false), .mv (.t 1), []⟩,
 ⟨some 33, some (30, false), .bin .geq (.t 31) (.t 32), []⟩,
 ⟨some 34, some (30, false), .mv (.t 33), []⟩,
 ⟨some 35, some (34, true), .mv (.t 0), []⟩,
 ⟨some 36, some (34, true), .mv (.t 1), []⟩,
 ⟨some 37, some (34, true), .mv (.t 2), []⟩,
 ⟨some 38, some (34, true), .bin .add (.t 36) (.t 37), []⟩,
 ⟨some 39, some (34, true), .bin .lss (.t 35) (.t 38), []⟩,
 ⟨some 40, some (30, false), .pick (.t 34) (.t 39) (.c (.bool false)), []⟩,
 ⟨some 41, some (20, true), .pick (.t 30) (.c (.bool true)) (.t 40), []⟩,
 ⟨some 42, none, .pick (.t 20) (.t 41) (.c (.bool false)), []⟩,
 ⟨some 6, none, .mv (.t 42), []⟩])
 .ret)))⟩
theorem F172_code : cfgA.code 172 = some F172 := by kernel_rfl

/-- slices.Clone[[]uint64,uint64] -/
noncomputable def F173 : AFn := ⟨8, [.tmp 2], (.seq
 (.ops 0 [⟨some 2, none, .mv (.c (.nils)), []⟩])
 (.seq
 (.seq
 (.ops 1 [⟨some 3, none, .mv (.t 0), []⟩,
 ⟨some 4, none, .eqn .slice false (.t 3), []⟩])
 (.cond (.t 4)
 (.seq
 (.ops 2 [⟨some 2, none, .mv (.c (.nils)), []⟩])
 .ret)
 .skip))
 (.seq
 (.ops 3 [⟨some 5, none, .bslice [.int .u64 0] 1 0 [] false false, []⟩,
 ⟨some 6, none, .mv (.t 0), []⟩,
 ⟨some 7, none, .app 1 8 (.t 5) (.t 6) true, []⟩,
 ⟨some 2, none, .mv (.t 7), []⟩])
 .ret)))⟩
theorem F173_code : cfgA.code 173 = some F173 := by kernel_rfl

/-- (*ticketline/mem.Mem).zero -/
noncomputable def F174 : AFn := ⟨13, [.tmp 2], (.seq
 (.ops 0 [⟨some 2, none, .mv (.c (.bool false)), []⟩])
 (.seq
 (.ops 1 [⟨some 3, none, .mv (.t 0), []⟩,
 ⟨some 4, none, .eqn .ptr false (.t 3), []⟩,
 ⟨some 5, none, .mv (.t 4), []⟩,
 ⟨some 6, some (5, false), .mv (.t 0), []⟩,
 ⟨some 7, some (5, false), .nilc (.t 6) (mok Tryz.prog), []⟩,
 ⟨some 8, some (5, false), .fld 0 (.t 7), []⟩,
 ⟨some 9, some (5, false), .ld 1 false (.t 8), []⟩,
 ⟨some 10, some (5, false), .len .slice (.t 9), []⟩,
 ⟨some 11, some (5, false), .bin .eql (.t 10) (.c (.int .i64 0)), []⟩,
 ⟨some 12, none, .pick (.t 5) (.c (.bool true)) (.t 11), []⟩,
 ⟨some 2, none, .mv (.t 12), []⟩])
 .ret))⟩
theorem F174_code : cfgA.code 174 = some F174 := by kernel_rfl

/-- ticketline/search.Find -/
noncomputable def F175 : AFn := ⟨24, [.tmp 4, .tmp 5, .tmp 6], (.seq
 (.ops 0 [⟨some 2, none, .box 128 (.t 0) false, []⟩,
 ⟨some 4, none, .mv (.c (.int .i64 0)), []⟩,
 ⟨some 5, none, .mv (.c (.bool false)), []⟩,
 ⟨some 6, none, .mv (.c (.int .i64 0)), []⟩])
 (.seq
 (.ops 1 [⟨some 9, none, .ld 128 true (.t 2), []⟩,
 ⟨some 10, none, .call 208 [.t 9], []⟩,
 ⟨some 8, none, .mv (.t 10), []⟩,
 ⟨some 11, none, .ext (.t 8) 0, []⟩,
 ⟨some 12, none, .ext (.t 8) 1, []⟩,
 ⟨some 7, none, .mv (.t 11), []⟩,
 ⟨some 6, none, .mv (.t 12), []⟩])
 (.seq
 (.seq
 (.ops 2 [⟨some 13, none, .mv (.t 6), []⟩,
 ⟨some 14, none, .bin .neq (.t 13) (.c (.int .i64 0)), []⟩])
 (.cond (.t 14)
 (.seq
 (.ops 3 [⟨some 15, none, .mv (.t 6), []⟩,
 ⟨some 4, none, .mv (.c (.int .i64 0)), []⟩,
 ⟨some 5, none, .mv (.c (.bool false)), []⟩,
 ⟨some 6, none, .mv (.t 15), []⟩])
 .ret)
 .skip))
 (.seq
 (.ops 4 [⟨some 17, none, .mv (.t 7), []⟩,
 ⟨some 18, none, .mv (.t 1), []⟩,
 ⟨some 19, none, .call 209 [.t 17, .t 18], []⟩,
 ⟨some 16, none, .mv (.t 19), []⟩,
 ⟨some 20, none, .ext (.t 16) 0, []⟩,
 ⟨some 21, none, .ext (.t 16) 1, []⟩,
 ⟨some 4, none, .mv (.t 20), []⟩,
 ⟨some 5, none, .mv (.t 21), []⟩])
 (.seq
 (.ops 5 [⟨some 22, none, .mv (.t 4), []⟩,
 ⟨some 23, none, .mv (.t 5), []⟩,
 ⟨some 4, none, .mv (.t 22), []⟩,
 ⟨some 5, none, .mv (.t 23), []⟩,
 ⟨some 6, none, .mv (.c (.int .i64 0)), []⟩])
 .ret)))))⟩
theorem F175_code : cfgA.code 175 = some F175 := by kernel_rfl

/-- ticketline/page.allowed -/
noncomputable def F176 : AFn := ⟨33, [.tmp 8], (.seq
 (.ops 0 [⟨some 8, none, .mv (.c (.int .i64 0)), []⟩])
 (.seq
 (.block 0
 (.seq
 (.seq
 (.ops 1 [⟨some 10, none, .mv (.t 2), []⟩,
 ⟨some 11, none, .bin .eql (.t 10) (.c (.str [])), []⟩,
 ⟨some 12, none, .mv (.t 11), []⟩,
 ⟨some 13, some (12, true), .mv (.t 0), []⟩,
 ⟨some 14, some (12, true), .mv (.t 13), []⟩,
 ⟨some 15, some (14, false), .mv (.t 1), []⟩,
 ⟨some 16, some (14, false), .bin .gtr (.t 15) (.c (.int .i64 0)), []⟩,
 ⟨some 17, some (12, true), .pick (.t 14) (.c (.bool true)) (.t 16), []⟩,
 ⟨some 18, none, .pick (.t 12) (.t 17) (.c (.bool false)), []⟩,
 ⟨some 9, none, .mv (.t 18), []⟩])
 (.cond (.t 9)
 .skip
 (.ops 2 [⟨some 19, none, .mv (.t 0), []⟩,
 ⟨some 20, none, .un .not (.t 19), []⟩,
 ⟨some 21, none, .mv (.t 20), []⟩,
 ⟨some 22, some (21, true), .mv (.t 3), []⟩,
 ⟨some 23, some (21, true), .call 210 [.t 22], []⟩,
 ⟨some 24, some (21, true), .un .not (.t 23), []⟩,
 ⟨some 25, none, .pick (.t 21) (.t 24) (.c (.bool false)), []⟩,
 ⟨some 9, none, .mv (.t 25), []⟩])))
 (.cond (.t 9)
 (.seq
 (.ops 3 [⟨some 8, none, .mv (.c (.int .i64 2)), []⟩])
 .ret)
 (.seq
 (.seq
 (.ops 4 [⟨some 27, none, .mv (.t 2), []⟩,
 ⟨some 28, none, .len .string (.t 27), []⟩,
 ⟨some 29, none, .bin .gtr (.t 28) (.c (.int .i64 24)), []⟩,
 ⟨some 26, none, .mv (.t 29), []⟩])
 (.cond (.t 26)
 .skip
 (.ops 5 [⟨some 30, none, .mv (.t 3), []⟩,
 ⟨some 31, none, .call 179 [.t 30], []⟩,
 ⟨some 32, none, .un .not (.t 31), []⟩,
 ⟨some 26, none, .mv (.t 32), []⟩])))
 (.cond (.t 26)
 (.seq
 (.ops 6 [⟨some 8, none, .mv (.c (.int .i64 5)), []⟩])
 .ret)
 .skip)))))
 (.seq
 (.ops 7 [⟨some 8, none, .mv (.c (.int .i64 0)), []⟩])
 .ret)))⟩
theorem F176_code : cfgA.code 176 = some F176 := by kernel_rfl

/-- ticketline/slot.pair -/
noncomputable def F177 : AFn := ⟨31, [.cell 4 2 true, .tmp 5], (.seq
 (.ops 0 [⟨some 4, none, .alloc [.str [], .str []] false, []⟩,
 ⟨some 5, none, .mv (.c (.int .i64 0)), []⟩])
 (.seq
 (.ops 1 [⟨some 9, none, .mv (.t 0), []⟩,
 ⟨some 10, none, .call 141 [.t 9], []⟩,
 ⟨some 8, none, .mv (.t 10), []⟩,
 ⟨some 11, none, .ext (.t 8) 0, []⟩,
 ⟨some 12, none, .ext (.t 8) 1, []⟩,
 ⟨some 6, none, .mv (.t 11), []⟩,
 ⟨some 7, none, .mv (.t 12), []⟩])
 (.seq
 (.block 0
 (.seq
 (.ops 2 [⟨some 14, none, .mv (.t 7), []⟩,
 ⟨some 15, none, .un .not (.t 14), []⟩,
 ⟨some 13, none, .mv (.t 15), []⟩])
 (.cond (.t 13)
 (.seq
 (.ops 3 [⟨some 16, none, .build [.str [], .str []] [], []⟩,
 ⟨none, none, .st 2 (.t 4) (.t 16), []⟩,
 ⟨some 5, none, .mv (.c (.int .i64 12)), []⟩])
 .ret)
 (.seq
 (.ops 4 [⟨some 18, none, .mv (.t 1), []⟩,
 ⟨some 19, none, .bin .lss (.t 18) (.c (.int .i64 0)), []⟩,
 ⟨some 20, none, .mv (.t 19), []⟩,
 ⟨some 21, some (20, false), .mv (.t 1), []⟩,
 ⟨some 22, some (20, false), .mv (.t 6), []⟩,
 ⟨some 23, some (20, false), .len .slice (.t 22), []⟩,
 ⟨some 24, some (20, false), .bin .geq (.t 21) (.t 23), []⟩,
 ⟨some 25, none, .pick (.t 20) (.c (.bool true)) (.t 24), []⟩,
 ⟨some 17, none, .mv (.t 25), []⟩])
 (.cond (.t 17)
 (.seq
 (.ops 5 [⟨some 26, none, .build [.str [], .str []] [], []⟩,
 ⟨none, none, .st 2 (.t 4) (.t 26), []⟩,
 ⟨some 5, none, .mv (.c (.int .i64 3)), []⟩])
 .ret)
 .skip)))))
 (.seq
 (.ops 6 [⟨some 27, none, .mv (.t 6), []⟩,
 ⟨some 28, none, .mv (.t 1), []⟩,
 ⟨some 29, none, .ixa none 2 (.t 27) (.t 28), []⟩,
 ⟨some 30, none, .ld 2 true (.t 29), []⟩,
 ⟨none, none, .st 2 (.t 4) (.t 30), []⟩,
 ⟨some 5, none, .mv (.c (.int .i64 0)), []⟩])
 .ret))))⟩
theorem F177_code : cfgA.code 177 = some F177 := by kernel_rfl

/-- ticketline/slot.Load: the round 0 -/
noncomputable def B178x0 : AC := (.seq
 (.ops 6 [⟨some 18, none, .bin .lss (.t 17) (.t 16), []⟩])
 (.seq
 (.cond (.t 18)
 .skip
 (.exit 0))
 (.seq
 (.block 1
 (.seq
 (.ops 7 [⟨some 19, none, .ixa none 2 (.t 15) (.t 17), []⟩,
 ⟨some 20, none, .ld 2 true (.t 19), []⟩,
 ⟨some 8, none, .alloc [.str [], .str []] false, []⟩,
 ⟨none, none, .st 2 (.t 8) (.t 20), []⟩])
 (.ops 8 [⟨some 21, none, .mv (.t 6), []⟩,
 ⟨some 22, none, .fld 0 (.t 8), []⟩,
 ⟨some 23, none, .ld 1 false (.t 22), []⟩,
 ⟨some 24, none, .fld 1 (.t 8), []⟩,
 ⟨some 25, none, .ld 1 false (.t 24), []⟩,
 ⟨some 26, none, .call 123 [.t 23, .t 25], []⟩,
 ⟨some 27, none, .bin .add (.t 21) (.t 26), []⟩,
 ⟨some 6, none, .mv (.t 27), []⟩])))
 (.ops 9 [⟨some 28, none, .bin .add (.t 17) (.c (.int .i64 1)), []⟩,
 ⟨some 17, none, .mv (.t 28), []⟩]))))
/-- ticketline/slot.Load -/
noncomputable def F178 : AFn := ⟨30, [.tmp 2, .tmp 3], (.seq
 (.ops 0 [⟨some 1, none, .box 128 (.t 0) false, []⟩,
 ⟨some 2, none, .mv (.c (.int .i64 0)), []⟩,
 ⟨some 3, none, .mv (.c (.int .i64 0)), []⟩])
 (.seq
 (.ops 1 [⟨some 10, none, .call 141 [.t 1], []⟩,
 ⟨some 9, none, .mv (.t 10), []⟩,
 ⟨some 11, none, .ext (.t 9) 0, []⟩,
 ⟨some 12, none, .ext (.t 9) 1, []⟩,
 ⟨some 4, none, .mv (.t 11), []⟩,
 ⟨some 5, none, .mv (.t 12), []⟩])
 (.seq
 (.seq
 (.ops 2 [⟨some 13, none, .mv (.t 5), []⟩,
 ⟨some 14, none, .un .not (.t 13), []⟩])
 (.cond (.t 14)
 (.seq
 (.ops 3 [⟨some 2, none, .mv (.c (.int .i64 0)), []⟩,
 ⟨some 3, none, .mv (.c (.int .i64 12)), []⟩])
 .ret)
 .skip))
 (.seq
 (.ops 4 [⟨some 6, none, .mv (.c (.int .i64 0)), []⟩])
 (.seq
 (.seq
 (.ops 5 [⟨some 15, none, .mv (.t 4), []⟩,
 ⟨some 16, none, .len .slice (.t 15), []⟩,
 ⟨some 17, none, .mv (.c (.int .i64 0)), []⟩])
 (.block 0
 (.loop [] B178x0)))
 (.seq
 (.ops 10 [⟨some 29, none, .mv (.t 6), []⟩,
 ⟨some 2, none, .mv (.t 29), []⟩,
 ⟨some 3, none, .mv (.c (.int .i64 0)), []⟩])
 .ret))))))⟩
theorem F178_code : cfgA.code 178 = some F178 := by kernel_rfl

/-- ticketline/keys.ValidValue -/
noncomputable def F179 : AFn := ⟨6, [.tmp 2], (.seq
 (.ops 0 [⟨some 2, none, .mv (.c (.bool false)), []⟩])
 (.seq
 (.ops 1 [⟨some 3, none, .mv (.t 0), []⟩,
 ⟨some 4, none, .len .string (.t 3), []⟩,
 ⟨some 5, none, .bin .leq (.t 4) (.c (.int .i64 40)), []⟩,
 ⟨some 2, none, .mv (.t 5), []⟩])
 .ret))⟩
theorem F179_code : cfgA.code 179 = some F179 := by kernel_rfl

/-- ticketline/slot.Gap -/
noncomputable def F180 : AFn := ⟨14, [.tmp 2, .tmp 3], (.seq
 (.ops 0 [⟨some 1, none, .box 128 (.t 0) false, []⟩,
 ⟨some 2, none, .mv (.c (.int .i64 0)), []⟩,
 ⟨some 3, none, .mv (.c (.int .i64 0)), []⟩])
 (.seq
 (.seq
 (.ops 1 [⟨some 4, none, .ld 128 true (.t 1), []⟩,
 ⟨some 5, none, .call 133 [.t 4], []⟩,
 ⟨some 6, none, .un .not (.t 5), []⟩])
 (.cond (.t 6)
 (.seq
 (.ops 2 [⟨some 2, none, .mv (.c (.int .i64 0)), []⟩,
 ⟨some 3, none, .mv (.c (.int .i64 12)), []⟩])
 .ret)
 .skip))
 (.seq
 (.ops 3 [⟨some 7, none, .ixa (some 128) 1 (.t 1) (.c (.int .i64 11)), []⟩,
 ⟨some 8, none, .ld 1 false (.t 7), []⟩,
 ⟨some 9, none, .ixa (some 128) 1 (.t 1) (.c (.int .i64 9)), []⟩,
 ⟨some 10, none, .ld 1 false (.t 9), []⟩,
 ⟨some 11, none, .bin .sub (.t 8) (.t 10), []⟩,
 ⟨some 12, none, .cvi .i64 (.t 11), []⟩,
 ⟨some 13, none, .bin .sub (.t 12) (.c (.int .i64 20)), []⟩,
 ⟨some 2, none, .mv (.t 13), []⟩,
 ⟨some 3, none, .mv (.c (.int .i64 0)), []⟩])
 .ret)))⟩
theorem F180_code : cfgA.code 180 = some F180 := by kernel_rfl

/-- ticketline/page.compact: the round 0 -/
noncomputable def B181x0 : AC := (.seq
 (.ops 3 [⟨some 18, none, .bin .lss (.t 17) (.t 16), []⟩])
 (.seq
 (.cond (.t 18)
 .skip
 (.exit 0))
 (.seq
 (.block 1
 (.seq
 (.ops 4 [⟨some 19, none, .ixa none 2 (.t 15) (.t 17), []⟩,
 ⟨some 20, none, .ld 2 true (.t 19), []⟩,
 ⟨some 5, none, .alloc [.str [], .str []] false, []⟩,
 ⟨none, none, .st 2 (.t 5) (.t 20), []⟩])
 (.ops 5 [⟨some 21, none, .mv (.t 0), []⟩,
 ⟨some 22, none, .fld 0 (.t 5), []⟩,
 ⟨some 23, none, .ld 1 false (.t 22), []⟩,
 ⟨some 24, none, .fld 1 (.t 5), []⟩,
 ⟨some 25, none, .ld 1 false (.t 24), []⟩,
 ⟨some 26, none, .call 182 [.t 21, .t 23, .t 25], []⟩])))
 (.ops 6 [⟨some 27, none, .bin .add (.t 17) (.c (.int .i64 1)), []⟩,
 ⟨some 17, none, .mv (.t 27), []⟩]))))
/-- ticketline/page.compact -/
noncomputable def F181 : AFn := ⟨28, [], (.seq
 (.ops 0 [⟨some 6, none, .mv (.t 0), []⟩,
 ⟨some 7, none, .nilc (.t 6) (mok Tryz.prog), []⟩,
 ⟨some 8, none, .slc (some 128) 1 (.t 7) (some (.c (.int .i64 20))) none, []⟩,
 ⟨none, none, .clr [.int .u64 0] (.t 8), []⟩])
 (.seq
 (.ops 1 [⟨some 9, none, .mv (.t 0), []⟩,
 ⟨some 10, none, .mv (.t 0), []⟩,
 ⟨some 11, none, .nilc (.t 9) (mok Tryz.prog), []⟩,
 ⟨some 12, none, .ixa (some 128) 1 (.t 11) (.c (.int .i64 9)), []⟩,
 ⟨some 13, none, .nilc (.t 10) (mok Tryz.prog), []⟩,
 ⟨none, none, .st 1 (.t 12) (.c (.int .u64 0)), []⟩,
 ⟨some 14, none, .ixa (some 128) 1 (.t 13) (.c (.int .i64 11)), []⟩,
 ⟨none, none, .st 1 (.t 14) (.c (.int .u64 128)), []⟩])
 (.seq
 (.ops 2 [⟨some 15, none, .mv (.t 1), []⟩,
 ⟨some 16, none, .len .slice (.t 15), []⟩,
 ⟨some 17, none, .mv (.c (.int .i64 0)), []⟩])
 (.block 0
 (.loop [] B181x0)))))⟩
theorem F181_code : cfgA.code 181 = some F181 := by kernel_rfl

/-- ticketline/page.record -/
noncomputable def F182 : AFn := ⟨80, [], (.seq
 (.ops 0 [⟨some 12, none, .mv (.t 1), []⟩,
 ⟨some 13, none, .call 125 [.t 12], []⟩,
 ⟨some 11, none, .mv (.t 13), []⟩,
 ⟨some 14, none, .ext (.t 11) 0, []⟩,
 ⟨some 15, none, .ext (.t 11) 1, []⟩,
 ⟨some 6, none, .mv (.t 14), []⟩,
 ⟨some 7, none, .mv (.t 15), []⟩])
 (.seq
 (.ops 1 [⟨some 17, none, .mv (.t 2), []⟩,
 ⟨some 18, none, .call 125 [.t 17], []⟩,
 ⟨some 16, none, .mv (.t 18), []⟩,
 ⟨some 19, none, .ext (.t 16) 0, []⟩,
 ⟨some 20, none, .ext (.t 16) 1, []⟩,
 ⟨some 8, none, .mv (.t 19), []⟩,
 ⟨some 9, none, .mv (.t 20), []⟩])
 (.seq
 (.ops 2 [⟨some 21, none, .mv (.t 0), []⟩,
 ⟨some 22, none, .nilc (.t 21) (mok Tryz.prog), []⟩,
 ⟨some 23, none, .ixa (some 128) 1 (.t 22) (.c (.int .i64 11)), []⟩,
 ⟨some 24, none, .ld 1 false (.t 23), []⟩,
 ⟨some 25, none, .mv (.t 6), []⟩,
 ⟨some 26, none, .len .slice (.t 25), []⟩,
 ⟨some 27, none, .mv (.t 8), []⟩,
 ⟨some 28, none, .len .slice (.t 27), []⟩,
 ⟨some 29, none, .bin .add (.t 26) (.t 28), []⟩,
 ⟨some 30, none, .cvi .u64 (.t 29), []⟩,
 ⟨some 31, none, .bin .sub (.t 24) (.t 30), []⟩,
 ⟨some 32, none, .nilc (.t 21) (mok Tryz.prog), []⟩,
 ⟨some 33, none, .ixa (some 128) 1 (.t 32) (.c (.int .i64 11)), []⟩,
 ⟨none, none, .st 1 (.t 33) (.t 31), []⟩])
 (.seq
 (.ops 3 [⟨some 34, none, .mv (.t 0), []⟩,
 ⟨some 35, none, .nilc (.t 34) (mok Tryz.prog), []⟩,
 ⟨some 36, none, .ixa (some 128) 1 (.t 35) (.c (.int .i64 11)), []⟩,
 ⟨some 37, none, .ld 1 false (.t 36), []⟩,
 ⟨some 10, none, .mv (.t 37), []⟩])
 (.seq
 (.ops 4 [⟨some 38, none, .mv (.t 0), []⟩,
 ⟨some 39, none, .nilc (.t 38) (mok Tryz.prog), []⟩,
 ⟨some 40, none, .mv (.t 10), []⟩,
 ⟨some 41, none, .slc (some 128) 1 (.t 39) (some (.t 40)) none, []⟩,
 ⟨some 42, none, .mv (.t 6), []⟩,
 ⟨some 43, none, .cpy 1 (.t 41) (.t 42), []⟩])
 (.seq
 (.ops 5 [⟨some 44, none, .mv (.t 0), []⟩,
 ⟨some 45, none, .nilc (.t 44) (mok Tryz.prog), []⟩,
 ⟨some 46, none, .mv (.t 10), []⟩,
 ⟨some 47, none, .cvi .i64 (.t 46), []⟩,
 ⟨some 48, none, .mv (.t 6), []⟩,
 ⟨some 49, none, .len .slice (.t 48), []⟩,
 ⟨some 50, none, .bin .add (.t 47) (.t 49), []⟩,
 ⟨some 51, none, .slc (some 128) 1 (.t 45) (some (.t 50)) none, []⟩,
 ⟨some 52, none, .mv (.t 8), []⟩,
 ⟨some 53, none, .cpy 1 (.t 51) (.t 52), []⟩])
 (.seq
 (.ops 6 [⟨some 54, none, .mv (.t 0), []⟩,
 ⟨some 55, none, .mv (.t 0), []⟩,
 ⟨some 56, none, .nilc (.t 55) (mok Tryz.prog), []⟩,
 ⟨some 57, none, .ixa (some 128) 1 (.t 56) (.c (.int .i64 9)), []⟩,
 ⟨some 58, none, .ld 1 false (.t 57), []⟩,
 ⟨some 59, none, .bin .add (.c (.int .u64 20)) (.t 58), []⟩,
 ⟨some 60, none, .mv (.t 10), []⟩,
 ⟨some 61, none, .bin .shl (.t 60) (.c (.int .u64 16)), []⟩,
 ⟨some 62, none, .mv (.t 1), []⟩,
 ⟨some 63, none, .len .string (.t 62), []⟩,
 ⟨some 64, none, .cvi .u64 (.t 63), []⟩,
 ⟨some 65, none, .bin .shl (.t 64) (.c (.int .u64 8)), []⟩,
 ⟨some 66, none, .bin .or (.t 61) (.t 65), []⟩,
 ⟨some 67, none, .mv (.t 2), []⟩,
 ⟨some 68, none, .len .string (.t 67), []⟩,
 ⟨some 69, none, .cvi .u64 (.t 68), []⟩,
 ⟨some 70, none, .bin .or (.t 66) (.t 69), []⟩,
 ⟨some 71, none, .nilc (.t 54) (mok Tryz.prog), []⟩,
 ⟨some 72, none, .ixa (some 128) 1 (.t 71) (.t 59), []⟩,
 ⟨none, none, .st 1 (.t 72) (.t 70), []⟩])
 (.ops 7 [⟨some 73, none, .mv (.t 0), []⟩,
 ⟨some 74, none, .nilc (.t 73) (mok Tryz.prog), []⟩,
 ⟨some 75, none, .ixa (some 128) 1 (.t 74) (.c (.int .i64 9)), []⟩,
 ⟨some 76, none, .ld 1 false (.t 75), []⟩,
 ⟨some 77, none, .bin .add (.t 76) (.c (.int .u64 1)), []⟩,
 ⟨some 78, none, .nilc (.t 73) (mok Tryz.prog), []⟩,
 ⟨some 79, none, .ixa (some 128) 1 (.t 78) (.c (.int .i64 9)), []⟩,
 ⟨none, none, .st 1 (.t 79) (.t 77), []⟩]))))))))⟩
theorem F182_code : cfgA.code 182 = some F182 := by kernel_rfl

/-- ticketline/latch.made -/
noncomputable def F183 : AFn := ⟨58, [.tmp 10, .tmp 11], (.seq
 (.ops 0 [⟨some 10, none, .mv (.c (.nilp)), []⟩,
 ⟨some 11, none, .mv (.c (.int .i64 0)), []⟩])
 (.seq
 (.seq
 (.ops 1 [⟨some 16, none, .mv (.t 0), []⟩,
 ⟨some 17, none, .mv (.t 1), []⟩,
 ⟨some 18, none, .call 157 [.t 16, .t 17], []⟩,
 ⟨some 12, none, .mv (.t 18), []⟩])
 (.seq
 (.ops 2 [⟨some 19, none, .mv (.t 12), []⟩,
 ⟨some 20, none, .bin .neq (.t 19) (.c (.int .i64 0)), []⟩])
 (.cond (.t 20)
 (.seq
 (.ops 3 [⟨some 21, none, .mv (.t 12), []⟩,
 ⟨some 10, none, .mv (.c (.nilp)), []⟩,
 ⟨some 11, none, .mv (.t 21), []⟩])
 .ret)
 .skip)))
 (.seq
 (.ops 4 [⟨some 23, none, .mv (.t 0), []⟩,
 ⟨some 24, none, .mv (.t 2), []⟩,
 ⟨some 25, none, .call 107 [.t 23, .t 24, .c (.int .i64 0)], []⟩,
 ⟨some 22, none, .mv (.t 25), []⟩,
 ⟨some 26, none, .ext (.t 22) 0, []⟩,
 ⟨some 27, none, .ext (.t 22) 1, []⟩,
 ⟨some 13, none, .mv (.t 26), []⟩,
 ⟨some 14, none, .mv (.t 27), []⟩])
 (.seq
 (.seq
 (.ops 5 [⟨some 28, none, .mv (.t 14), []⟩,
 ⟨some 29, none, .bin .neq (.t 28) (.c (.int .i64 0)), []⟩,
 ⟨some 30, none, .mv (.t 29), []⟩,
 ⟨some 31, some (30, false), .mv (.t 3), []⟩,
 ⟨some 32, some (30, false), .bin .neq (.t 31) (.c (.int .i64 2)), []⟩,
 ⟨some 33, some (30, false), .mv (.t 32), []⟩,
 ⟨some 34, some (33, true), .mv (.t 4), []⟩,
 ⟨some 35, some (33, true), .call 211 [.t 34], []⟩,
 ⟨some 36, some (33, true), .un .not (.t 35), []⟩,
 ⟨some 37, some (30, false), .pick (.t 33) (.t 36) (.c (.bool false)), []⟩,
 ⟨some 38, none, .pick (.t 30) (.c (.bool true)) (.t 37), []⟩])
 (.cond (.t 38)
 (.seq
 (.ops 6 [⟨some 10, none, .mv (.c (.nilp)), []⟩,
 ⟨some 11, none, .mv (.c (.int .i64 2)), []⟩])
 .ret)
 .skip))
 (.seq
 (.ops 7 [⟨some 40, none, .mv (.t 0), []⟩,
 ⟨some 41, none, .mv (.t 1), []⟩,
 ⟨some 42, none, .mv (.t 13), []⟩,
 ⟨some 43, none, .call 185 [.t 40, .t 41, .t 42], []⟩,
 ⟨some 39, none, .mv (.t 43), []⟩,
 ⟨some 44, none, .ext (.t 39) 0, []⟩,
 ⟨some 45, none, .ext (.t 39) 1, []⟩,
 ⟨some 15, none, .mv (.t 44), []⟩,
 ⟨some 14, none, .mv (.t 45), []⟩])
 (.seq
 (.seq
 (.ops 8 [⟨some 46, none, .mv (.t 14), []⟩,
 ⟨some 47, none, .bin .neq (.t 46) (.c (.int .i64 0)), []⟩])
 (.cond (.t 47)
 (.seq
 (.ops 9 [⟨some 48, none, .mv (.t 14), []⟩,
 ⟨some 10, none, .mv (.c (.nilp)), []⟩,
 ⟨some 11, none, .mv (.t 48), []⟩])
 .ret)
 .skip))
 (.seq
 (.ops 10 [⟨some 49, none, .mv (.t 0), []⟩,
 ⟨some 50, none, .mv (.t 1), []⟩,
 ⟨some 51, none, .mv (.t 2), []⟩,
 ⟨some 52, none, .mv (.t 3), []⟩,
 ⟨some 53, none, .mv (.t 4), []⟩,
 ⟨some 54, none, .mv (.t 15), []⟩,
 ⟨some 55, none, .mki 261 (.t 54), []⟩,
 ⟨some 56, none, .build [.nilp, .int .i64 0, .int .i64 0, .int .i64 0, .int .i64 0, .int .i64 0, .nili, .int .u64 0, .int .u64 0, .int .u64 0, .int .u64 0, .int .u64 0, .int .u64 0, .int .u64 0, .int .u64 0, .int .u64 0, .int .u64 0, .int .u64 0, .int .u64 0, .int .u64 0, .int .u64 0, .int .i64 0, .nils, .nils, .bool false, .int .u64 0, .bool false] [(0, 1, (.t 49)), (1, 1, (.t 50)), (2, 1, (.t 51)), (3, 1, (.t 52)), (4, 1, (.t 53)), (6, 1, (.t 55))], []⟩,
 ⟨some 57, none, .box 27 (.t 56) true, []⟩,
 ⟨some 10, none, .mv (.t 57), []⟩,
 ⟨some 11, none, .mv (.c (.int .i64 0)), []⟩])
 .ret)))))))⟩
theorem F183_code : cfgA.code 183 = some F183 := by kernel_rfl

/-- ticketline/slot.entryOf -/
noncomputable def F184 : AFn := ⟨30, [.cell 2 5 true], (.seq
 (.ops 0 [⟨some 2, none, .alloc [.int .i64 0, .int .i64 0, .int .i64 0, .int .i64 0, .int .i64 0] false, []⟩])
 (.seq
 (.ops 1 [⟨some 4, none, .mv (.t 0), []⟩,
 ⟨some 5, none, .bin .shr (.t 4) (.c (.int .u64 16)), []⟩,
 ⟨some 6, none, .cvi .i64 (.t 5), []⟩,
 ⟨some 7, none, .mv (.t 0), []⟩,
 ⟨some 8, none, .bin .shr (.t 7) (.c (.int .u64 8)), []⟩,
 ⟨some 9, none, .bin .and (.t 8) (.c (.int .u64 255)), []⟩,
 ⟨some 10, none, .cvi .i64 (.t 9), []⟩,
 ⟨some 11, none, .mv (.t 0), []⟩,
 ⟨some 12, none, .bin .and (.t 11) (.c (.int .u64 255)), []⟩,
 ⟨some 13, none, .cvi .i64 (.t 12), []⟩,
 ⟨some 14, none, .build [.int .i64 0, .int .i64 0, .int .i64 0, .int .i64 0, .int .i64 0] [(0, 1, (.t 6)), (3, 1, (.t 10)), (4, 1, (.t 13))], []⟩,
 ⟨some 3, none, .alloc [.int .i64 0, .int .i64 0, .int .i64 0, .int .i64 0, .int .i64 0] false, []⟩,
 ⟨none, none, .st 5 (.t 3) (.t 14), []⟩])
 (.seq
 (.ops 2 [⟨some 15, none, .fld 0 (.t 3), []⟩,
 ⟨some 16, none, .ld 1 false (.t 15), []⟩,
 ⟨some 17, none, .fld 3 (.t 3), []⟩,
 ⟨some 18, none, .ld 1 false (.t 17), []⟩,
 ⟨some 19, none, .call 124 [.t 18], [(16, .ld 1 false (.t 15))]⟩,
 ⟨some 20, none, .bin .add (.t 16) (.t 19), []⟩,
 ⟨some 21, none, .fld 1 (.t 3), []⟩,
 ⟨none, none, .st 1 (.t 21) (.t 20), []⟩])
 (.seq
 (.ops 3 [⟨some 22, none, .fld 1 (.t 3), []⟩,
 ⟨some 23, none, .ld 1 false (.t 22), []⟩,
 ⟨some 24, none, .fld 4 (.t 3), []⟩,
 ⟨some 25, none, .ld 1 false (.t 24), []⟩,
 ⟨some 26, none, .call 124 [.t 25], [(23, .ld 1 false (.t 22))]⟩,
 ⟨some 27, none, .bin .add (.t 23) (.t 26), []⟩,
 ⟨some 28, none, .fld 2 (.t 3), []⟩,
 ⟨none, none, .st 1 (.t 28) (.t 27), []⟩])
 (.seq
 (.ops 4 [⟨some 29, none, .ld 5 true (.t 3), []⟩,
 ⟨none, none, .st 5 (.t 2) (.t 29), []⟩])
 .ret)))))⟩
theorem F184_code : cfgA.code 184 = some F184 := by kernel_rfl

/-- ticketline/mcs.NewAcquire -/
noncomputable def F185 : AFn := ⟨23, [.tmp 6, .tmp 7], (.seq
 (.ops 0 [⟨some 6, none, .mv (.c (.nilp)), []⟩,
 ⟨some 7, none, .mv (.c (.int .i64 0)), []⟩])
 (.seq
 (.ops 1 [⟨some 11, none, .mv (.t 0), []⟩,
 ⟨some 12, none, .mv (.t 1), []⟩,
 ⟨some 13, none, .mv (.t 2), []⟩,
 ⟨some 14, none, .call 167 [.t 11, .t 12, .t 13], []⟩,
 ⟨some 10, none, .mv (.t 14), []⟩,
 ⟨some 15, none, .ext (.t 10) 0, []⟩,
 ⟨some 16, none, .ext (.t 10) 1, []⟩,
 ⟨some 8, none, .alloc [.nilp, .int .i64 0, .int .i64 0, .int .i64 0, .int .u64 0, .bool false] false, []⟩,
 ⟨none, none, .st 6 (.t 8) (.t 15), []⟩,
 ⟨some 9, none, .mv (.t 16), []⟩])
 (.seq
 (.seq
 (.ops 2 [⟨some 17, none, .mv (.t 9), []⟩,
 ⟨some 18, none, .bin .neq (.t 17) (.c (.int .i64 0)), []⟩])
 (.cond (.t 18)
 (.seq
 (.ops 3 [⟨some 19, none, .mv (.t 9), []⟩,
 ⟨some 6, none, .mv (.c (.nilp)), []⟩,
 ⟨some 7, none, .mv (.t 19), []⟩])
 .ret)
 .skip))
 (.seq
 (.ops 4 [⟨some 20, none, .ld 6 true (.t 8), []⟩,
 ⟨some 21, none, .build [.nilp, .int .i64 0, .int .i64 0, .int .i64 0, .int .u64 0, .bool false] [(0, 6, (.t 20))], []⟩,
 ⟨some 22, none, .box 6 (.t 21) true, []⟩,
 ⟨some 6, none, .mv (.t 22), []⟩,
 ⟨some 7, none, .mv (.c (.int .i64 0)), []⟩])
 .ret))))⟩
theorem F185_code : cfgA.code 185 = some F185 := by kernel_rfl

/-- ticketline/slot.head -/
noncomputable def F186 : AFn := ⟨68, [.tmp 2], (.seq
 (.ops 0 [⟨some 2, none, .mv (.c (.bool false)), []⟩])
 (.seq
 (.seq
 (.ops 1 [⟨some 7, none, .mv (.t 0), []⟩,
 ⟨some 8, none, .nilc (.t 7) (mok Tryz.prog), []⟩,
 ⟨some 9, none, .ixa (some 128) 1 (.t 8) (.c (.int .i64 8)), []⟩,
 ⟨some 10, none, .ld 1 false (.t 9), []⟩,
 ⟨some 11, none, .bin .lss (.t 10) (.c (.int .u64 1)), []⟩,
 ⟨some 12, none, .mv (.t 11), []⟩,
 ⟨some 13, some (12, false), .mv (.t 0), []⟩,
 ⟨some 14, some (12, false), .nilc (.t 13) (mok Tryz.prog), []⟩,
 ⟨some 15, some (12, false), .ixa (some 128) 1 (.t 14) (.c (.int .i64 8)), []⟩,
 ⟨some 16, some (12, false), .ld 1 false (.t 15), []⟩,
 ⟨some 17, some (12, false), .bin .gtr (.t 16) (.c (.int .u64 6)), []⟩,
 ⟨some 18, none, .pick (.t 12) (.c (.bool true)) (.t 17), []⟩,
 ⟨some 19, none, .mv (.t 18), []⟩,
 ⟨some 20, some (19, false), .mv (.t 0), []⟩,
 ⟨some 21, some (19, false), .nilc (.t 20) (mok Tryz.prog), []⟩,
 ⟨some 22, some (19, false), .ixa (some 128) 1 (.t 21) (.c (.int .i64 9)), []⟩,
 ⟨some 23, some (19, false), .ld 1 false (.t 22), []⟩,
 ⟨some 24, some (19, false), .bin .gtr (.t 23) (.c (.int .u64 108)), []⟩,
 ⟨some 25, none, .pick (.t 19) (.c (.bool true)) (.t 24), []⟩,
 ⟨some 26, none, .mv (.t 25), []⟩,
 ⟨some 27, some (26, false), .mv (.t 0), []⟩,
 ⟨some 28, some (26, false), .nilc (.t 27) (mok Tryz.prog), []⟩,
 ⟨some 29, some (26, false), .ixa (some 128) 1 (.t 28) (.c (.int .i64 10)), []⟩,
 ⟨some 30, some (26, false), .ld 1 false (.t 29), []⟩,
 ⟨some 31, some (26, false), .bin .gtr (.t 30) (.c (.int .u64 511)), []⟩,
 ⟨some 32, none, .pick (.t 26) (.c (.bool true)) (.t 31), []⟩,
 ⟨some 33, none, .mv (.t 32), []⟩,
 ⟨some 34, some (33, false), .mv (.t 0), []⟩,
 ⟨some 35, some (33, false), .nilc (.t 34) (mok Tryz.prog), []⟩,
 ⟨some 36, some (33, false), .ixa (some 128) 1 (.t 35) (.c (.int .i64 11)), []⟩,
 ⟨some 37, some (33, false), .ld 1 false (.t 36), []⟩,
 ⟨some 38, some (33, false), .bin .gtr (.t 37) (.c (.int .u64 128)), []⟩,
 ⟨some 39, none, .pick (.t 33) (.c (.bool true)) (.t 38), []⟩,
 ⟨some 40, none, .mv (.t 39), []⟩,
 ⟨some 41, some (40, false), .mv (.t 0), []⟩,
 ⟨some 42, some (40, false), .nilc (.t 41) (mok Tryz.prog), []⟩,
 ⟨some 43, some (40, false), .ixa (some 128) 1 (.t 42) (.c (.int .i64 11)), []⟩,
 ⟨some 44, some (40, false), .ld 1 false (.t 43), []⟩,
 ⟨some 45, some (40, false), .mv (.t 0), []⟩,
 ⟨some 46, some (40, false), .nilc (.t 45) (mok Tryz.prog), []⟩,
 ⟨some 47, some (40, false), .ixa (some 128) 1 (.t 46) (.c (.int .i64 9)), []⟩,
 ⟨some 48, some (40, false), .ld 1 false (.t 47), []⟩,
 ⟨some 49, some (40, false), .bin .add (.c (.int .u64 20)) (.t 48), []⟩,
 ⟨some 50, some (40, false), .bin .lss (.t 44) (.t 49), []⟩,
 ⟨some 51, none, .pick (.t 40) (.c (.bool true)) (.t 50), []⟩])
 (.cond (.t 51)
 (.seq
 (.ops 2 [⟨some 2, none, .mv (.c (.bool false)), []⟩])
 .ret)
 .skip))
 (.seq
 (.ops 3 [⟨some 53, none, .mv (.t 0), []⟩,
 ⟨some 54, none, .call 142 [.t 53, .c (.int .i64 12)], []⟩,
 ⟨some 52, none, .mv (.t 54), []⟩,
 ⟨some 55, none, .ext (.t 52) 0, []⟩,
 ⟨some 56, none, .ext (.t 52) 1, []⟩,
 ⟨some 3, none, .mv (.t 55), []⟩,
 ⟨some 4, none, .mv (.t 56), []⟩])
 (.seq
 (.ops 4 [⟨some 58, none, .mv (.t 0), []⟩,
 ⟨some 59, none, .call 142 [.t 58, .c (.int .i64 16)], []⟩,
 ⟨some 57, none, .mv (.t 59), []⟩,
 ⟨some 60, none, .ext (.t 57) 0, []⟩,
 ⟨some 61, none, .ext (.t 57) 1, []⟩,
 ⟨some 5, none, .mv (.t 60), []⟩,
 ⟨some 6, none, .mv (.t 61), []⟩])
 (.seq
 (.ops 5 [⟨some 62, none, .mv (.t 4), []⟩,
 ⟨some 63, none, .bin .eql (.t 62) (.c (.int .i64 0)), []⟩,
 ⟨some 64, none, .mv (.t 63), []⟩,
 ⟨some 65, some (64, true), .mv (.t 6), []⟩,
 ⟨some 66, some (64, true), .bin .eql (.t 65) (.c (.int .i64 0)), []⟩,
 ⟨some 67, none, .pick (.t 64) (.t 66) (.c (.bool false)), []⟩,
 ⟨some 2, none, .mv (.t 67), []⟩])
 .ret)))))⟩
theorem F186_code : cfgA.code 186 = some F186 := by kernel_rfl

/-- ticketline/slot.sized -/
noncomputable def F187 : AFn := ⟨69, [.tmp 4], (.seq
 (.ops 0 [⟨some 4, none, .mv (.c (.bool false)), []⟩])
 (.seq
 (.ops 1 [⟨some 8, none, .mv (.t 0), []⟩,
 ⟨some 9, none, .mv (.t 1), []⟩,
 ⟨some 10, none, .bin .add (.c (.int .i64 20)) (.t 9), []⟩,
 ⟨some 11, none, .nilc (.t 8) (mok Tryz.prog), []⟩,
 ⟨some 12, none, .ixa (some 128) 1 (.t 11) (.t 10), []⟩,
 ⟨some 13, none, .ld 1 false (.t 12), []⟩,
 ⟨some 5, none, .mv (.t 13), []⟩])
 (.seq
 (.seq
 (.ops 2 [⟨some 14, none, .mv (.t 5), []⟩,
 ⟨some 15, none, .bin .shr (.t 14) (.c (.int .u64 16)), []⟩,
 ⟨some 16, none, .bin .geq (.t 15) (.c (.int .u64 128)), []⟩])
 (.cond (.t 16)
 (.seq
 (.ops 3 [⟨some 4, none, .mv (.c (.bool false)), []⟩])
 .ret)
 .skip))
 (.seq
 (.ops 4 [⟨some 17, none, .mv (.t 5), []⟩,
 ⟨some 18, none, .call 184 [.t 17], []⟩,
 ⟨some 6, none, .alloc [.int .i64 0, .int .i64 0, .int .i64 0, .int .i64 0, .int .i64 0] false, []⟩,
 ⟨none, none, .st 5 (.t 6) (.t 18), []⟩])
 (.seq
 (.ops 5 [⟨some 19, none, .mv (.t 0), []⟩,
 ⟨some 20, none, .nilc (.t 19) (mok Tryz.prog), []⟩,
 ⟨some 21, none, .ixa (some 128) 1 (.t 20) (.c (.int .i64 8)), []⟩,
 ⟨some 22, none, .ld 1 false (.t 21), []⟩,
 ⟨some 23, none, .bin .eql (.t 22) (.c (.int .u64 1)), []⟩,
 ⟨some 7, none, .mv (.t 23), []⟩])
 (.seq
 (.block 0
 (.seq
 (.ops 6 [⟨some 25, none, .fld 3 (.t 6), []⟩,
 ⟨some 26, none, .ld 1 false (.t 25), []⟩,
 ⟨some 27, none, .bin .gtr (.t 26) (.c (.int .i64 24)), []⟩,
 ⟨some 28, none, .mv (.t 27), []⟩,
 ⟨some 29, some (28, false), .fld 3 (.t 6), []⟩,
 ⟨some 30, some (28, false), .ld 1 false (.t 29), []⟩,
 ⟨some 31, some (28, false), .bin .eql (.t 30) (.c (.int .i64 0)), []⟩,
 ⟨some 32, some (28, false), .mv (.t 31), []⟩,
 ⟨some 33, some (32, true), .mv (.t 7), []⟩,
 ⟨some 34, some (32, true), .mv (.t 33), []⟩,
 ⟨some 35, some (34, false), .mv (.t 1), []⟩,
 ⟨some 36, some (34, false), .bin .gtr (.t 35) (.c (.int .i64 0)), []⟩,
 ⟨some 37, some (32, true), .pick (.t 34) (.c (.bool true)) (.t 36), []⟩,
 ⟨some 38, some (28, false), .pick (.t 32) (.t 37) (.c (.bool false)), []⟩,
 ⟨some 39, none, .pick (.t 28) (.c (.bool true)) (.t 38), []⟩,
 ⟨some 24, none, .mv (.t 39), []⟩])
 (.cond (.t 24)
 (.seq
 (.ops 7 [⟨some 4, none, .mv (.c (.bool false)), []⟩])
 .ret)
 (.seq
 (.ops 8 [⟨some 41, none, .mv (.t 7), []⟩,
 ⟨some 42, none, .mv (.t 41), []⟩,
 ⟨some 43, some (42, true), .fld 4 (.t 6), []⟩,
 ⟨some 44, some (42, true), .ld 1 false (.t 43), []⟩,
 ⟨some 45, some (42, true), .bin .gtr (.t 44) (.c (.int .i64 40)), []⟩,
 ⟨some 46, none, .pick (.t 42) (.t 45) (.c (.bool false)), []⟩,
 ⟨some 47, none, .mv (.t 46), []⟩,
 ⟨some 48, some (47, false), .mv (.t 7), []⟩,
 ⟨some 49, some (47, false), .un .not (.t 48), []⟩,
 ⟨some 50, some (47, false), .mv (.t 49), []⟩,
 ⟨some 51, some (50, true), .fld 4 (.t 6), []⟩,
 ⟨some 52, some (50, true), .ld 1 false (.t 51), []⟩,
 ⟨some 53, some (50, true), .bin .neq (.t 52) (.c (.int .i64 8)), []⟩,
 ⟨some 54, some (47, false), .pick (.t 50) (.t 53) (.c (.bool false)), []⟩,
 ⟨some 55, none, .pick (.t 47) (.c (.bool true)) (.t 54), []⟩,
 ⟨some 40, none, .mv (.t 55), []⟩])
 (.cond (.t 40)
 (.seq
 (.ops 9 [⟨some 4, none, .mv (.c (.bool false)), []⟩])
 .ret)
 .skip)))))
 (.seq
 (.ops 10 [⟨some 56, none, .fld 0 (.t 6), []⟩,
 ⟨some 57, none, .ld 1 false (.t 56), []⟩,
 ⟨some 58, none, .cvi .u64 (.t 57), []⟩,
 ⟨some 59, none, .mv (.t 0), []⟩,
 ⟨some 60, none, .nilc (.t 59) (mok Tryz.prog), []⟩,
 ⟨some 61, none, .ixa (some 128) 1 (.t 60) (.c (.int .i64 11)), []⟩,
 ⟨some 62, none, .ld 1 false (.t 61), []⟩,
 ⟨some 63, none, .bin .geq (.t 58) (.t 62), []⟩,
 ⟨some 64, none, .mv (.t 63), []⟩,
 ⟨some 65, some (64, true), .fld 2 (.t 6), []⟩,
 ⟨some 66, some (64, true), .ld 1 false (.t 65), []⟩,
 ⟨some 67, some (64, true), .bin .leq (.t 66) (.c (.int .i64 128)), []⟩,
 ⟨some 68, none, .pick (.t 64) (.t 67) (.c (.bool false)), []⟩,
 ⟨some 4, none, .mv (.t 68), []⟩])
 .ret)))))))⟩
theorem F187_code : cfgA.code 187 = some F187 := by kernel_rfl

/-- ticketline/slot.text -/
noncomputable def F188 : AFn := ⟨43, [.cell 4 2 true, .tmp 5], (.seq
 (.ops 0 [⟨some 3, none, .box 5 (.t 1) false, []⟩,
 ⟨some 4, none, .alloc [.str [], .str []] false, []⟩,
 ⟨some 5, none, .mv (.c (.int .i64 0)), []⟩])
 (.seq
 (.ops 1 [⟨some 10, none, .mv (.t 0), []⟩,
 ⟨some 11, none, .nilc (.t 10) (mok Tryz.prog), []⟩,
 ⟨some 12, none, .fld 0 (.t 3), []⟩,
 ⟨some 13, none, .ld 1 false (.t 12), []⟩,
 ⟨some 14, none, .fld 1 (.t 3), []⟩,
 ⟨some 15, none, .ld 1 false (.t 14), []⟩,
 ⟨some 16, none, .slc (some 128) 1 (.t 11) (some (.t 13)) (some (.t 15)), []⟩,
 ⟨some 17, none, .fld 3 (.t 3), []⟩,
 ⟨some 18, none, .ld 1 false (.t 17), []⟩,
 ⟨some 19, none, .call 189 [.t 16, .t 18], []⟩,
 ⟨some 9, none, .mv (.t 19), []⟩,
 ⟨some 20, none, .ext (.t 9) 0, []⟩,
 ⟨some 21, none, .ext (.t 9) 1, []⟩,
 ⟨some 6, none, .mv (.t 20), []⟩,
 ⟨some 7, none, .mv (.t 21), []⟩])
 (.seq
 (.seq
 (.ops 2 [⟨some 22, none, .mv (.t 7), []⟩,
 ⟨some 23, none, .bin .neq (.t 22) (.c (.int .i64 0)), []⟩])
 (.cond (.t 23)
 (.seq
 (.ops 3 [⟨some 24, none, .build [.str [], .str []] [], []⟩,
 ⟨some 25, none, .mv (.t 7), []⟩,
 ⟨none, none, .st 2 (.t 4) (.t 24), []⟩,
 ⟨some 5, none, .mv (.t 25), []⟩])
 .ret)
 .skip))
 (.seq
 (.ops 4 [⟨some 27, none, .mv (.t 0), []⟩,
 ⟨some 28, none, .nilc (.t 27) (mok Tryz.prog), []⟩,
 ⟨some 29, none, .fld 1 (.t 3), []⟩,
 ⟨some 30, none, .ld 1 false (.t 29), []⟩,
 ⟨some 31, none, .fld 2 (.t 3), []⟩,
 ⟨some 32, none, .ld 1 false (.t 31), []⟩,
 ⟨some 33, none, .slc (some 128) 1 (.t 28) (some (.t 30)) (some (.t 32)), []⟩,
 ⟨some 34, none, .fld 4 (.t 3), []⟩,
 ⟨some 35, none, .ld 1 false (.t 34), []⟩,
 ⟨some 36, none, .call 189 [.t 33, .t 35], []⟩,
 ⟨some 26, none, .mv (.t 36), []⟩,
 ⟨some 37, none, .ext (.t 26) 0, []⟩,
 ⟨some 38, none, .ext (.t 26) 1, []⟩,
 ⟨some 8, none, .mv (.t 37), []⟩,
 ⟨some 7, none, .mv (.t 38), []⟩])
 (.seq
 (.ops 5 [⟨some 39, none, .mv (.t 6), []⟩,
 ⟨some 40, none, .mv (.t 8), []⟩,
 ⟨some 41, none, .build [.str [], .str []] [(0, 1, (.t 39)), (1, 1, (.t 40))], []⟩,
 ⟨some 42, none, .mv (.t 7), []⟩,
 ⟨none, none, .st 2 (.t 4) (.t 41), []⟩,
 ⟨some 5, none, .mv (.t 42), []⟩])
 .ret)))))⟩
theorem F188_code : cfgA.code 188 = some F188 := by kernel_rfl

/-- ticketline/keys.Unpack: the round 0 -/
noncomputable def B189x0 : AC := (.seq
 (.seq
 (.ops 12 [⟨some 30, none, .mv (.t 9), []⟩,
 ⟨some 31, none, .bin .geq (.t 30) (.c (.int .i64 0)), []⟩])
 (.cond (.t 31)
 .skip
 (.exit 3)))
 (.seq
 (.block 4
 (.ops 14 [⟨some 34, none, .mv (.t 6), []⟩,
 ⟨some 35, none, .mv (.t 8), []⟩,
 ⟨some 36, none, .mv (.t 9), []⟩,
 ⟨some 37, none, .bin .mul (.c (.int .i64 8)) (.t 36), []⟩,
 ⟨some 38, none, .bin .shr (.t 35) (.t 37), []⟩,
 ⟨some 39, none, .cvi .u8 (.t 38), []⟩,
 ⟨some 40, none, .bslice [.int .u8 0] 1 1 [(0, (.t 39))] false false, []⟩,
 ⟨some 41, none, .app 1 1 (.t 34) (.t 40) false, []⟩,
 ⟨some 6, none, .mv (.t 41), []⟩]))
 (.ops 13 [⟨some 32, none, .mv (.t 9), []⟩,
 ⟨some 33, none, .bin .sub (.t 32) (.c (.int .i64 1)), []⟩,
 ⟨some 9, none, .mv (.t 33), []⟩])))
/-- ticketline/keys.Unpack: the round 1 -/
noncomputable def B189x1 : AC := (.seq
 (.ops 9 [⟨some 27, none, .bin .lss (.t 26) (.t 25), []⟩])
 (.seq
 (.cond (.t 27)
 .skip
 (.exit 1))
 (.seq
 (.block 2
 (.seq
 (.ops 10 [⟨some 28, none, .ixa none 1 (.t 24) (.t 26), []⟩,
 ⟨some 29, none, .ld 1 false (.t 28), []⟩,
 ⟨some 8, none, .mv (.t 29), []⟩])
 (.seq
 (.ops 11 [⟨some 9, none, .mv (.c (.int .i64 7)), []⟩])
 (.block 3
 (.loop [] B189x0)))))
 (.ops 15 [⟨some 42, none, .bin .add (.t 26) (.c (.int .i64 1)), []⟩,
 ⟨some 26, none, .mv (.t 42), []⟩]))))
/-- ticketline/keys.Unpack: the round 2 -/
noncomputable def B189x2 : AC := (.seq
 (.ops 17 [⟨some 48, none, .bin .lss (.t 47) (.t 46), []⟩])
 (.seq
 (.cond (.t 48)
 .skip
 (.exit 5))
 (.seq
 (.block 6
 (.seq
 (.ops 18 [⟨some 49, none, .ixa none 1 (.t 45) (.t 47), []⟩,
 ⟨some 50, none, .ld 1 false (.t 49), []⟩,
 ⟨some 11, none, .mv (.t 50), []⟩])
 (.seq
 (.ops 19 [⟨some 51, none, .mv (.t 11), []⟩,
 ⟨some 52, none, .bin .neq (.t 51) (.c (.int .u8 0)), []⟩])
 (.cond (.t 52)
 (.seq
 (.ops 20 [⟨some 4, none, .mv (.c (.str [])), []⟩,
 ⟨some 5, none, .mv (.c (.int .i64 12)), []⟩])
 .ret)
 .skip))))
 (.ops 21 [⟨some 53, none, .bin .add (.t 47) (.c (.int .i64 1)), []⟩,
 ⟨some 47, none, .mv (.t 53), []⟩]))))
/-- ticketline/keys.Unpack -/
noncomputable def F189 : AFn := ⟨58, [.tmp 4, .tmp 5], (.seq
 (.ops 0 [⟨some 4, none, .mv (.c (.str [])), []⟩,
 ⟨some 5, none, .mv (.c (.int .i64 0)), []⟩])
 (.seq
 (.block 0
 (.seq
 (.ops 1 [⟨some 13, none, .mv (.t 1), []⟩,
 ⟨some 14, none, .bin .lss (.t 13) (.c (.int .i64 0)), []⟩,
 ⟨some 12, none, .mv (.t 14), []⟩])
 (.cond (.t 12)
 (.seq
 (.ops 2 [⟨some 4, none, .mv (.c (.str [])), []⟩,
 ⟨some 5, none, .mv (.c (.int .i64 2)), []⟩])
 .ret)
 (.seq
 (.ops 3 [⟨some 16, none, .mv (.t 1), []⟩,
 ⟨some 17, none, .bin .gtr (.t 16) (.c (.int .i64 40)), []⟩,
 ⟨some 15, none, .mv (.t 17), []⟩])
 (.cond (.t 15)
 (.seq
 (.ops 4 [⟨some 4, none, .mv (.c (.str [])), []⟩,
 ⟨some 5, none, .mv (.c (.int .i64 5)), []⟩])
 .ret)
 (.seq
 (.ops 5 [⟨some 19, none, .mv (.t 0), []⟩,
 ⟨some 20, none, .len .slice (.t 19), []⟩,
 ⟨some 21, none, .mv (.t 1), []⟩,
 ⟨some 22, none, .call 124 [.t 21], []⟩,
 ⟨some 23, none, .bin .neq (.t 20) (.t 22), []⟩,
 ⟨some 18, none, .mv (.t 23), []⟩])
 (.cond (.t 18)
 (.seq
 (.ops 6 [⟨some 4, none, .mv (.c (.str [])), []⟩,
 ⟨some 5, none, .mv (.c (.int .i64 12)), []⟩])
 .ret)
 .skip)))))))
 (.seq
 (.ops 7 [⟨some 6, none, .mv (.c (.nils)), []⟩])
 (.seq
 (.seq
 (.ops 8 [⟨some 24, none, .mv (.t 0), []⟩,
 ⟨some 25, none, .len .slice (.t 24), []⟩,
 ⟨some 26, none, .mv (.c (.int .i64 0)), []⟩])
 (.block 1
 (.loop [] B189x1)))
 (.seq
 (.seq
 (.ops 16 [⟨some 43, none, .mv (.t 6), []⟩,
 ⟨some 44, none, .mv (.t 1), []⟩,
 ⟨some 45, none, .slc none 1 (.t 43) (some (.t 44)) none, []⟩,
 ⟨some 46, none, .len .slice (.t 45), []⟩,
 ⟨some 47, none, .mv (.c (.int .i64 0)), []⟩])
 (.block 5
 (.loop [] B189x2)))
 (.seq
 (.ops 22 [⟨some 54, none, .mv (.t 6), []⟩,
 ⟨some 55, none, .mv (.t 1), []⟩,
 ⟨some 56, none, .slc none 1 (.t 54) none (some (.t 55)), []⟩,
 ⟨some 57, none, .cvs (.t 56), []⟩,
 ⟨some 4, none, .mv (.t 57), []⟩,
 ⟨some 5, none, .mv (.c (.int .i64 0)), []⟩])
 .ret))))))⟩
theorem F189_code : cfgA.code 189 = some F189 := by kernel_rfl

/-- (*ticketline/mem.Mem).Store -/
noncomputable def F190 : AFn := ⟨18, [.tmp 6], (.seq
 (.ops 0 [⟨some 6, none, .mv (.c (.int .i64 0)), []⟩])
 (.seq
 (.ops 1 [⟨some 10, none, .mv (.t 0), []⟩,
 ⟨some 11, none, .mv (.t 1), []⟩,
 ⟨some 12, none, .mv (.t 2), []⟩,
 ⟨some 13, none, .build [.int .i64 0, .int .i64 0, .int .u64 0, .int .u64 0] [(0, 1, (.c (.int .i64 2))), (1, 1, (.t 11)), (3, 1, (.t 12))], []⟩,
 ⟨some 14, none, .call 212 [.t 10, .t 13], []⟩,
 ⟨some 9, none, .mv (.t 14), []⟩,
 ⟨some 15, none, .ext (.t 9) 0, []⟩,
 ⟨some 16, none, .ext (.t 9) 1, []⟩,
 ⟨some 7, none, .alloc [.int .i64 0, .int .i64 0, .int .u64 0, .int .u64 0] false, []⟩,
 ⟨none, none, .st 4 (.t 7) (.t 15), []⟩,
 ⟨some 8, none, .mv (.t 16), []⟩])
 (.seq
 (.ops 2 [⟨some 17, none, .mv (.t 8), []⟩,
 ⟨some 6, none, .mv (.t 17), []⟩])
 .ret)))⟩
theorem F190_code : cfgA.code 190 = some F190 := by kernel_rfl

/-- strings.Compare -/
noncomputable def F191 : AFn := ⟨8, [.tmp 4], (.seq
 (.ops 0 [⟨some 4, none, .mv (.c (.int .i64 0)), []⟩])
 (.seq
 (.ops 1 [⟨some 5, none, .mv (.t 0), []⟩,
 ⟨some 6, none, .mv (.t 1), []⟩,
 ⟨some 7, none, .call 213 [.t 5, .t 6], []⟩,
 ⟨some 4, none, .mv (.t 7), []⟩])
 .ret))⟩
theorem F191_code : cfgA.code 191 = some F191 := by kernel_rfl

/-- (*ticketline/mem.Mem).Load -/
noncomputable def F192 : AFn := ⟨18, [.tmp 4, .tmp 5], (.seq
 (.ops 0 [⟨some 4, none, .mv (.c (.int .u64 0)), []⟩,
 ⟨some 5, none, .mv (.c (.int .i64 0)), []⟩])
 (.seq
 (.ops 1 [⟨some 9, none, .mv (.t 0), []⟩,
 ⟨some 10, none, .mv (.t 1), []⟩,
 ⟨some 11, none, .build [.int .i64 0, .int .i64 0, .int .u64 0, .int .u64 0] [(0, 1, (.c (.int .i64 1))), (1, 1, (.t 10))], []⟩,
 ⟨some 12, none, .call 212 [.t 9, .t 11], []⟩,
 ⟨some 8, none, .mv (.t 12), []⟩,
 ⟨some 13, none, .ext (.t 8) 0, []⟩,
 ⟨some 14, none, .ext (.t 8) 1, []⟩,
 ⟨some 6, none, .alloc [.int .i64 0, .int .i64 0, .int .u64 0, .int .u64 0] false, []⟩,
 ⟨none, none, .st 4 (.t 6) (.t 13), []⟩,
 ⟨some 7, none, .mv (.t 14), []⟩])
 (.seq
 (.ops 2 [⟨some 15, none, .fld 2 (.t 6), []⟩,
 ⟨some 16, none, .ld 1 false (.t 15), []⟩,
 ⟨some 17, none, .mv (.t 7), []⟩,
 ⟨some 4, none, .mv (.t 16), []⟩,
 ⟨some 5, none, .mv (.t 17), []⟩])
 .ret)))⟩
theorem F192_code : cfgA.code 192 = some F192 := by kernel_rfl

/-- (*ticketline/arena.Arena).there -/
noncomputable def F193 : AFn := ⟨17, [.tmp 4], (.seq
 (.ops 0 [⟨some 4, none, .mv (.c (.int .i64 0)), []⟩])
 (.seq
 (.block 0
 (.seq
 (.ops 1 [⟨some 6, none, .mv (.t 0), []⟩,
 ⟨some 7, none, .call 150 [.t 6], []⟩,
 ⟨some 5, none, .mv (.t 7), []⟩])
 (.cond (.t 5)
 (.seq
 (.ops 2 [⟨some 4, none, .mv (.c (.int .i64 1)), []⟩])
 .ret)
 (.seq
 (.ops 3 [⟨some 9, none, .mv (.t 1), []⟩,
 ⟨some 10, none, .bin .lss (.t 9) (.c (.int .i64 1)), []⟩,
 ⟨some 11, none, .mv (.t 10), []⟩,
 ⟨some 12, some (11, false), .mv (.t 1), []⟩,
 ⟨some 13, some (11, false), .mv (.t 0), []⟩,
 ⟨some 14, some (11, false), .call 214 [.t 13], []⟩,
 ⟨some 15, some (11, false), .bin .gtr (.t 12) (.t 14), []⟩,
 ⟨some 16, none, .pick (.t 11) (.c (.bool true)) (.t 15), []⟩,
 ⟨some 8, none, .mv (.t 16), []⟩])
 (.cond (.t 8)
 (.seq
 (.ops 4 [⟨some 4, none, .mv (.c (.int .i64 3)), []⟩])
 .ret)
 .skip)))))
 (.seq
 (.ops 5 [⟨some 4, none, .mv (.c (.int .i64 0)), []⟩])
 .ret)))⟩
theorem F193_code : cfgA.code 193 = some F193 := by kernel_rfl

/-- (*ticketline/arena.Arena).used -/
noncomputable def F194 : AFn := ⟨15, [.tmp 4], (.seq
 (.ops 0 [⟨some 4, none, .mv (.c (.bool false)), []⟩])
 (.seq
 (.ops 1 [⟨some 6, none, .mv (.t 0), []⟩,
 ⟨some 7, none, .mv (.t 1), []⟩,
 ⟨some 8, none, .call 215 [.t 6, .t 7], []⟩,
 ⟨some 5, none, .mv (.t 8), []⟩])
 (.seq
 (.ops 2 [⟨some 9, none, .mv (.t 5), []⟩,
 ⟨some 10, none, .bin .geq (.t 9) (.c (.int .u64 1)), []⟩,
 ⟨some 11, none, .mv (.t 10), []⟩,
 ⟨some 12, some (11, true), .mv (.t 5), []⟩,
 ⟨some 13, some (11, true), .bin .leq (.t 12) (.c (.int .u64 6)), []⟩,
 ⟨some 14, none, .pick (.t 11) (.t 13) (.c (.bool false)), []⟩,
 ⟨some 4, none, .mv (.t 14), []⟩])
 .ret)))⟩
theorem F194_code : cfgA.code 194 = some F194 := by kernel_rfl

/-- (*ticketline/qnode.Nodes).many -/
noncomputable def F196 : AFn := ⟨10, [.tmp 2], (.seq
 (.ops 0 [⟨some 2, none, .mv (.c (.int .i64 0)), []⟩])
 (.seq
 (.seq
 (.ops 1 [⟨some 3, none, .mv (.t 0), []⟩,
 ⟨some 4, none, .call 166 [.t 3], []⟩])
 (.cond (.t 4)
 (.seq
 (.ops 2 [⟨some 2, none, .mv (.c (.int .i64 0)), []⟩])
 .ret)
 .skip))
 (.seq
 (.ops 3 [⟨some 5, none, .mv (.t 0), []⟩,
 ⟨some 6, none, .nilc (.t 5) (mok Tryz.prog), []⟩,
 ⟨some 7, none, .fld 1 (.t 6), []⟩,
 ⟨some 8, none, .ld 1 false (.t 7), []⟩,
 ⟨some 9, none, .bin .mul (.t 8) (.c (.int .i64 2)), []⟩,
 ⟨some 2, none, .mv (.t 9), []⟩])
 .ret)))⟩
theorem F196_code : cfgA.code 196 = some F196 := by kernel_rfl

/-- (*ticketline/qnode.Nodes).Base -/
noncomputable def F197 : AFn := ⟨9, [.tmp 2], (.seq
 (.ops 0 [⟨some 2, none, .mv (.c (.int .i64 0)), []⟩])
 (.seq
 (.seq
 (.ops 1 [⟨some 3, none, .mv (.t 0), []⟩,
 ⟨some 4, none, .call 166 [.t 3], []⟩])
 (.cond (.t 4)
 (.seq
 (.ops 2 [⟨some 2, none, .mv (.c (.int .i64 0)), []⟩])
 .ret)
 .skip))
 (.seq
 (.ops 3 [⟨some 5, none, .mv (.t 0), []⟩,
 ⟨some 6, none, .nilc (.t 5) (mok Tryz.prog), []⟩,
 ⟨some 7, none, .fld 0 (.t 6), []⟩,
 ⟨some 8, none, .ld 1 false (.t 7), []⟩,
 ⟨some 2, none, .mv (.t 8), []⟩])
 .ret)))⟩
theorem F197_code : cfgA.code 197 = some F197 := by kernel_rfl

/-- (*ticketline/qnode.Nodes).Len -/
noncomputable def F198 : AFn := ⟨6, [.tmp 2], (.seq
 (.ops 0 [⟨some 2, none, .mv (.c (.int .i64 0)), []⟩])
 (.seq
 (.ops 1 [⟨some 3, none, .mv (.t 0), []⟩,
 ⟨some 4, none, .call 196 [.t 3], []⟩,
 ⟨some 5, none, .bin .mul (.t 4) (.c (.int .i64 3)), []⟩,
 ⟨some 2, none, .mv (.t 5), []⟩])
 .ret))⟩
theorem F198_code : cfgA.code 198 = some F198 := by kernel_rfl

/-- (ticketline/latch.state).right -/
noncomputable def F199 : AFn := ⟨79, [.tmp 2], (.seq
 (.ops 0 [⟨some 1, none, .box 7 (.t 0) false, []⟩,
 ⟨some 2, none, .mv (.c (.bool false)), []⟩])
 (.seq
 (.ops 1 [⟨some 3, none, .mv (.c (.func 216 [])), []⟩])
 (.seq
 (.block 0
 (.seq
 (.ops 2 [⟨some 5, none, .fld 1 (.t 1), []⟩,
 ⟨some 6, none, .ld 1 false (.t 5), []⟩,
 ⟨some 7, none, .fld 2 (.t 1), []⟩,
 ⟨some 8, none, .ld 1 false (.t 7), []⟩,
 ⟨some 9, none, .fld 3 (.t 1), []⟩,
 ⟨some 10, none, .ld 1 false (.t 9), []⟩,
 ⟨some 11, none, .mx true (.t 6) [.t 8, .t 10], []⟩,
 ⟨some 12, none, .bin .gtr (.t 11) (.c (.int .u64 64)), []⟩,
 ⟨some 13, none, .mv (.t 12), []⟩,
 ⟨some 14, some (13, false), .fld 6 (.t 1), []⟩,
 ⟨some 15, some (13, false), .ld 1 false (.t 14), []⟩,
 ⟨some 16, some (13, false), .bin .gtr (.t 15) (.c (.int .u64 4)), []⟩,
 ⟨some 17, none, .pick (.t 13) (.c (.bool true)) (.t 16), []⟩,
 ⟨some 4, none, .mv (.t 17), []⟩])
 (.cond (.t 4)
 (.seq
 (.ops 3 [⟨some 2, none, .mv (.c (.bool false)), []⟩])
 .ret)
 (.seq
 (.ops 4 [⟨some 19, none, .mv (.t 3), []⟩,
 ⟨some 20, none, .fld 4 (.t 1), []⟩,
 ⟨some 21, none, .ld 1 false (.t 20), []⟩,
 ⟨some 22, none, .calld (.t 19) [.t 21], []⟩,
 ⟨some 23, none, .un .not (.t 22), []⟩,
 ⟨some 24, none, .mv (.t 23), []⟩,
 ⟨some 25, some (24, false), .mv (.t 3), []⟩,
 ⟨some 26, some (24, false), .fld 5 (.t 1), []⟩,
 ⟨some 27, some (24, false), .ld 1 false (.t 26), []⟩,
 ⟨some 28, some (24, false), .calld (.t 25) [.t 27], []⟩,
 ⟨some 29, some (24, false), .un .not (.t 28), []⟩,
 ⟨some 30, none, .pick (.t 24) (.c (.bool true)) (.t 29), []⟩,
 ⟨some 31, none, .mv (.t 30), []⟩,
 ⟨some 32, some (31, false), .fld 4 (.t 1), []⟩,
 ⟨some 33, some (31, false), .ld 1 false (.t 32), []⟩,
 ⟨some 34, some (31, false), .bin .eql (.t 33) (.c (.int .u64 0)), []⟩,
 ⟨some 35, some (31, false), .fld 5 (.t 1), []⟩,
 ⟨some 36, some (31, false), .ld 1 false (.t 35), []⟩,
 ⟨some 37, some (31, false), .bin .eql (.t 36) (.c (.int .u64 0)), []⟩,
 ⟨some 38, some (31, false), .eqb true (.t 34) (.t 37), []⟩,
 ⟨some 39, none, .pick (.t 31) (.c (.bool true)) (.t 38), []⟩,
 ⟨some 18, none, .mv (.t 39), []⟩])
 (.cond (.t 18)
 (.seq
 (.ops 5 [⟨some 2, none, .mv (.c (.bool false)), []⟩])
 .ret)
 (.seq
 (.ops 6 [⟨some 41, none, .fld 3 (.t 1), []⟩,
 ⟨some 42, none, .ld 1 false (.t 41), []⟩,
 ⟨some 43, none, .bin .neq (.t 42) (.c (.int .u64 0)), []⟩,
 ⟨some 44, none, .mv (.t 43), []⟩,
 ⟨some 45, some (44, true), .fld 3 (.t 1), []⟩,
 ⟨some 46, some (44, true), .ld 1 false (.t 45), []⟩,
 ⟨some 47, some (44, true), .fld 1 (.t 1), []⟩,
 ⟨some 48, some (44, true), .ld 1 false (.t 47), []⟩,
 ⟨some 49, some (44, true), .bin .neq (.t 46) (.t 48), []⟩,
 ⟨some 50, none, .pick (.t 44) (.t 49) (.c (.bool false)), []⟩,
 ⟨some 51, none, .mv (.t 50), []⟩,
 ⟨some 52, some (51, false), .fld 0 (.t 1), []⟩,
 ⟨some 53, some (51, false), .ld 1 false (.t 52), []⟩,
 ⟨some 54, some (51, false), .bin .eql (.t 53) (.c (.int .u64 0)), []⟩,
 ⟨some 55, some (51, false), .mv (.t 54), []⟩,
 ⟨some 56, some (55, true), .fld 6 (.t 1), []⟩,
 ⟨some 57, some (55, true), .ld 1 false (.t 56), []⟩,
 ⟨some 58, some (55, true), .bin .neq (.t 57) (.c (.int .u64 0)), []⟩,
 ⟨some 59, some (51, false), .pick (.t 55) (.t 58) (.c (.bool false)), []⟩,
 ⟨some 60, none, .pick (.t 51) (.c (.bool true)) (.t 59), []⟩,
 ⟨some 40, none, .mv (.t 60), []⟩])
 (.cond (.t 40)
 (.seq
 (.ops 7 [⟨some 2, none, .mv (.c (.bool false)), []⟩])
 .ret)
 .skip)))))))
 (.seq
 (.ops 8 [⟨some 61, none, .ld 7 true (.t 1), []⟩,
 ⟨some 62, none, .call 218 [.t 61], []⟩,
 ⟨some 63, none, .call 217 [.t 62], []⟩,
 ⟨some 64, none, .mv (.t 63), []⟩,
 ⟨some 65, some (64, true), .fld 1 (.t 1), []⟩,
 ⟨some 66, some (64, true), .ld 1 false (.t 65), []⟩,
 ⟨some 67, some (64, true), .bin .eql (.t 66) (.c (.int .u64 0)), []⟩,
 ⟨some 68, some (64, true), .mv (.t 67), []⟩,
 ⟨some 69, some (68, false), .fld 0 (.t 1), []⟩,
 ⟨some 70, some (68, false), .ld 1 false (.t 69), []⟩,
 ⟨some 71, some (68, false), .fld 1 (.t 1), []⟩,
 ⟨some 72, some (68, false), .ld 1 false (.t 71), []⟩,
 ⟨some 73, some (68, false), .bin .sub (.t 72) (.c (.int .u64 1)), []⟩,
 ⟨some 74, some (68, false), .bin .shr (.t 70) (.t 73), []⟩,
 ⟨some 75, some (68, false), .bin .and (.t 74) (.c (.int .u64 1)), []⟩,
 ⟨some 76, some (68, false), .bin .eql (.t 75) (.c (.int .u64 0)), []⟩,
 ⟨some 77, some (64, true), .pick (.t 68) (.c (.bool true)) (.t 76), []⟩,
 ⟨some 78, none, .pick (.t 64) (.t 77) (.c (.bool false)), []⟩,
 ⟨some 2, none, .mv (.t 78), []⟩])
 .ret))))⟩
theorem F199_code : cfgA.code 199 = some F199 := by kernel_rfl

/-- math/bits.Len64 -/
noncomputable def F200 : AFn := ⟨25, [.tmp 2], (.seq
 (.ops 0 [⟨some 2, none, .mv (.c (.int .i64 0)), []⟩])
 (.seq
 (.seq
 (.ops 1 [⟨some 3, none, .mv (.t 0), []⟩,
 ⟨some 4, none, .bin .geq (.t 3) (.c (.int .u64 4294967296)), []⟩])
 (.cond (.t 4)
 (.seq
 (.ops 2 [⟨some 5, none, .mv (.t 0), []⟩,
 ⟨some 6, none, .bin .shr (.t 5) (.c (.int .u64 32)), []⟩,
 ⟨some 0, none, .mv (.t 6), []⟩])
 (.ops 3 [⟨some 2, none, .mv (.c (.int .i64 32)), []⟩]))
 .skip))
 (.seq
 (.seq
 (.ops 4 [⟨some 7, none, .mv (.t 0), []⟩,
 ⟨some 8, none, .bin .geq (.t 7) (.c (.int .u64 65536)), []⟩])
 (.cond (.t 8)
 (.seq
 (.ops 5 [⟨some 9, none, .mv (.t 0), []⟩,
 ⟨some 10, none, .bin .shr (.t 9) (.c (.int .u64 16)), []⟩,
 ⟨some 0, none, .mv (.t 10), []⟩])
 (.ops 6 [⟨some 11, none, .mv (.t 2), []⟩,
 ⟨some 12, none, .bin .add (.t 11) (.c (.int .i64 16)), []⟩,
 ⟨some 2, none, .mv (.t 12), []⟩]))
 .skip))
 (.seq
 (.seq
 (.ops 7 [⟨some 13, none, .mv (.t 0), []⟩,
 ⟨some 14, none, .bin .geq (.t 13) (.c (.int .u64 256)), []⟩])
 (.cond (.t 14)
 (.seq
 (.ops 8 [⟨some 15, none, .mv (.t 0), []⟩,
 ⟨some 16, none, .bin .shr (.t 15) (.c (.int .u64 8)), []⟩,
 ⟨some 0, none, .mv (.t 16), []⟩])
 (.ops 9 [⟨some 17, none, .mv (.t 2), []⟩,
 ⟨some 18, none, .bin .add (.t 17) (.c (.int .i64 8)), []⟩,
 ⟨some 2, none, .mv (.t 18), []⟩]))
 .skip))
 (.seq
 (.ops 10 [⟨some 19, none, .mv (.t 2), []⟩,
 ⟨some 20, none, .mv (.t 0), []⟩,
 ⟨some 21, none, .cvi .u8 (.t 20), []⟩,
 ⟨some 22, none, .ixs (.c (.str [0, 1, 2, 2, 3, 3, 3, 3, 4, 4, 4, 4, 4, 4, 4, 4, 5, 5, 5, 5, 5, 5, 5, 5, 5, 5, 5, 5, 5, 5, 5, 5, 6, 6, 6, 6, 6, 6, 6, 6, 6, 6, 6, 6, 6, 6, 6, 6, 6, 6, 6, 6, 6, 6, 6, 6, 6, 6, 6, 6, 6, 6, 6, 6, 7, 7, 7, 7, 7, 7, 7, 7, 7, 7, 7, 7, 7, 7, 7, 7, 7, 7, 7, 7, 7, 7, 7, 7, 7, 7, 7, 7, 7, 7, 7, 7, 7, 7, 7, 7, 7, 7, 7, 7, 7, 7, 7, 7, 7, 7, 7, 7, 7, 7, 7, 7, 7, 7, 7, 7, 7, 7, 7, 7, 7, 7, 7, 7, 8, 8, 8, 8, 8, 8, 8, 8, 8, 8, 8, 8, 8, 8, 8, 8, 8, 8, 8, 8, 8, 8, 8, 8, 8, 8, 8, 8, 8, 8, 8, 8, 8, 8, 8, 8, 8, 8, 8, 8, 8, 8, 8, 8, 8, 8, 8, 8, 8, 8, 8, 8, 8, 8, 8, 8, 8, 8, 8, 8, 8, 8, 8, 8, 8, 8, 8, 8, 8, 8, 8, 8, 8, 8, 8, 8, 8, 8, 8, 8, 8, 8, 8, 8, 8, 8, 8, 8, 8, 8, 8, 8, 8, 8, 8, 8, 8, 8, 8, 8, 8, 8, 8, 8, 8, 8, 8, 8, 8, 8, 8, 8, 8, 8, 8, 8, 8, 8, 8, 8, 8, 8, 8, 8, 8, 8, 8, 8])) (.t 21), []⟩,
 ⟨some 23, none, .cvi .i64 (.t 22), []⟩,
 ⟨some 24, none, .bin .add (.t 19) (.t 23), []⟩,
 ⟨some 2, none, .mv (.t 24), []⟩])
 .ret)))))⟩
theorem F200_code : cfgA.code 200 = some F200 := by kernel_rfl

/-- (*ticketline/qnode.Nodes).word -/
noncomputable def F202 : AFn := ⟨20, [.tmp 6], (.seq
 (.ops 0 [⟨some 6, none, .mv (.c (.int .i64 0)), []⟩])
 (.seq
 (.seq
 (.ops 1 [⟨some 7, none, .mv (.t 0), []⟩,
 ⟨some 8, none, .mv (.t 1), []⟩,
 ⟨some 9, none, .call 219 [.t 7, .t 8], []⟩,
 ⟨some 10, none, .un .not (.t 9), []⟩])
 (.cond (.t 10)
 (.seq
 (.ops 2 [⟨some 6, none, .mv (.c (.int .i64 (-1))), []⟩])
 .ret)
 .skip))
 (.seq
 (.ops 3 [⟨some 11, none, .mv (.t 0), []⟩,
 ⟨some 12, none, .nilc (.t 11) (mok Tryz.prog), []⟩,
 ⟨some 13, none, .fld 0 (.t 12), []⟩,
 ⟨some 14, none, .ld 1 false (.t 13), []⟩,
 ⟨some 15, none, .mv (.t 1), []⟩,
 ⟨some 16, none, .bin .mul (.t 15) (.c (.int .i64 3)), []⟩,
 ⟨some 17, none, .bin .add (.t 14) (.t 16), []⟩,
 ⟨some 18, none, .mv (.t 2), []⟩,
 ⟨some 19, none, .bin .add (.t 17) (.t 18), []⟩,
 ⟨some 6, none, .mv (.t 19), []⟩])
 .ret)))⟩
theorem F202_code : cfgA.code 202 = some F202 := by kernel_rfl

/-- (*ticketline/qnode.Nodes).Owner -/
noncomputable def F203 : AFn := ⟨16, [.tmp 4, .tmp 5], (.seq
 (.ops 0 [⟨some 4, none, .mv (.c (.int .i64 0)), []⟩,
 ⟨some 5, none, .mv (.c (.int .i64 0)), []⟩])
 (.seq
 (.block 0
 (.seq
 (.ops 1 [⟨some 7, none, .mv (.t 0), []⟩,
 ⟨some 8, none, .call 166 [.t 7], []⟩,
 ⟨some 6, none, .mv (.t 8), []⟩])
 (.cond (.t 6)
 (.seq
 (.ops 2 [⟨some 4, none, .mv (.c (.int .i64 0)), []⟩,
 ⟨some 5, none, .mv (.c (.int .i64 1)), []⟩])
 .ret)
 (.seq
 (.ops 3 [⟨some 10, none, .mv (.t 0), []⟩,
 ⟨some 11, none, .mv (.t 1), []⟩,
 ⟨some 12, none, .call 219 [.t 10, .t 11], []⟩,
 ⟨some 13, none, .un .not (.t 12), []⟩,
 ⟨some 9, none, .mv (.t 13), []⟩])
 (.cond (.t 9)
 (.seq
 (.ops 4 [⟨some 4, none, .mv (.c (.int .i64 0)), []⟩,
 ⟨some 5, none, .mv (.c (.int .i64 9)), []⟩])
 .ret)
 .skip)))))
 (.seq
 (.ops 5 [⟨some 14, none, .mv (.t 1), []⟩,
 ⟨some 15, none, .bin .quo (.t 14) (.c (.int .i64 2)), []⟩,
 ⟨some 4, none, .mv (.t 15), []⟩,
 ⟨some 5, none, .mv (.c (.int .i64 0)), []⟩])
 .ret)))⟩
theorem F203_code : cfgA.code 203 = some F203 := by kernel_rfl

/-- ticketline/split.sorted -/
noncomputable def F204 : AFn := ⟨20, [.tmp 2, .tmp 3], (.seq
 (.ops 0 [⟨some 1, none, .box 128 (.t 0) false, []⟩,
 ⟨some 2, none, .mv (.c (.nils)), []⟩,
 ⟨some 3, none, .mv (.c (.int .i64 0)), []⟩])
 (.seq
 (.ops 1 [⟨some 7, none, .ld 128 true (.t 1), []⟩,
 ⟨some 8, none, .call 87 [.t 7], []⟩,
 ⟨some 6, none, .mv (.t 8), []⟩,
 ⟨some 9, none, .ext (.t 6) 0, []⟩,
 ⟨some 10, none, .ext (.t 6) 1, []⟩,
 ⟨some 4, none, .mv (.t 9), []⟩,
 ⟨some 5, none, .mv (.t 10), []⟩])
 (.seq
 (.block 0
 (.seq
 (.ops 2 [⟨some 12, none, .mv (.t 5), []⟩,
 ⟨some 13, none, .bin .neq (.t 12) (.c (.int .i64 0)), []⟩,
 ⟨some 11, none, .mv (.t 13), []⟩])
 (.cond (.t 11)
 (.seq
 (.ops 3 [⟨some 14, none, .mv (.t 5), []⟩,
 ⟨some 2, none, .mv (.c (.nils)), []⟩,
 ⟨some 3, none, .mv (.t 14), []⟩])
 .ret)
 (.seq
 (.ops 4 [⟨some 16, none, .ld 128 true (.t 1), []⟩,
 ⟨some 17, none, .call 220 [.t 16], []⟩,
 ⟨some 18, none, .un .not (.t 17), []⟩,
 ⟨some 15, none, .mv (.t 18), []⟩])
 (.cond (.t 15)
 (.seq
 (.ops 5 [⟨some 2, none, .mv (.c (.nils)), []⟩,
 ⟨some 3, none, .mv (.c (.int .i64 13)), []⟩])
 .ret)
 .skip)))))
 (.seq
 (.ops 6 [⟨some 19, none, .mv (.t 4), []⟩,
 ⟨some 2, none, .mv (.t 19), []⟩,
 ⟨some 3, none, .mv (.c (.int .i64 0)), []⟩])
 .ret))))⟩
theorem F204_code : cfgA.code 204 = some F204 := by kernel_rfl

/-- ticketline/split.place: the round 0 -/
noncomputable def B205x0 : AC := (.seq
 (.ops 3 [⟨some 18, none, .bin .lss (.t 17) (.t 16), []⟩])
 (.seq
 (.cond (.t 18)
 .skip
 (.exit 0))
 (.seq
 (.block 1
 (.seq
 (.ops 4 [⟨some 19, none, .mv (.t 17), []⟩,
 ⟨some 20, none, .ixa none 2 (.t 15) (.t 17), []⟩,
 ⟨some 21, none, .ld 2 true (.t 20), []⟩,
 ⟨some 5, none, .alloc [.str [], .str []] false, []⟩,
 ⟨some 4, none, .mv (.t 19), []⟩,
 ⟨none, none, .st 2 (.t 5) (.t 21), []⟩])
 (.ops 5 [⟨some 22, none, .mv (.t 3), []⟩,
 ⟨some 23, none, .mv (.t 4), []⟩,
 ⟨some 24, none, .bin .add (.t 23) (.c (.int .i64 1)), []⟩,
 ⟨some 25, none, .mv (.t 3), []⟩,
 ⟨some 26, none, .mv (.t 4), []⟩,
 ⟨some 27, none, .ixa none 1 (.t 25) (.t 26), []⟩,
 ⟨some 28, none, .ld 1 false (.t 27), []⟩,
 ⟨some 29, none, .fld 0 (.t 5), []⟩,
 ⟨some 30, none, .ld 1 false (.t 29), []⟩,
 ⟨some 31, none, .fld 1 (.t 5), []⟩,
 ⟨some 32, none, .ld 1 false (.t 31), []⟩,
 ⟨some 33, none, .call 123 [.t 30, .t 32], [(28, .ld 1 false (.t 27))]⟩,
 ⟨some 34, none, .bin .add (.t 28) (.t 33), []⟩,
 ⟨some 35, none, .ixa none 1 (.t 22) (.t 24), []⟩,
 ⟨none, none, .st 1 (.t 35) (.t 34), []⟩])))
 (.ops 6 [⟨some 36, none, .bin .add (.t 17) (.c (.int .i64 1)), []⟩,
 ⟨some 17, none, .mv (.t 36), []⟩]))))
/-- ticketline/split.place: the round 1 -/
noncomputable def B205x1 : AC := (.seq
 (.seq
 (.ops 10 [⟨some 44, none, .mv (.t 9), []⟩,
 ⟨some 45, none, .mv (.t 0), []⟩,
 ⟨some 46, none, .len .slice (.t 45), []⟩,
 ⟨some 47, none, .bin .lss (.t 44) (.t 46), []⟩])
 (.cond (.t 47)
 .skip
 (.exit 2)))
 (.seq
 (.block 3
 (.seq
 (.ops 12 [⟨some 50, none, .mv (.t 3), []⟩,
 ⟨some 51, none, .mv (.t 9), []⟩,
 ⟨some 52, none, .ixa none 1 (.t 50) (.t 51), []⟩,
 ⟨some 53, none, .ld 1 false (.t 52), []⟩,
 ⟨some 54, none, .bin .mul (.c (.int .i64 2)) (.t 53), []⟩,
 ⟨some 55, none, .mv (.t 6), []⟩,
 ⟨some 56, none, .bin .sub (.t 54) (.t 55), []⟩,
 ⟨some 10, none, .mv (.t 56), []⟩])
 (.seq
 (.seq
 (.ops 13 [⟨some 57, none, .mv (.t 10), []⟩,
 ⟨some 58, none, .bin .lss (.t 57) (.c (.int .i64 0)), []⟩])
 (.cond (.t 58)
 (.ops 14 [⟨some 59, none, .mv (.t 10), []⟩,
 ⟨some 60, none, .un .neg (.t 59), []⟩,
 ⟨some 10, none, .mv (.t 60), []⟩])
 .skip))
 (.seq
 (.ops 15 [⟨some 61, none, .mv (.t 10), []⟩,
 ⟨some 62, none, .mv (.t 7), []⟩,
 ⟨some 63, none, .bin .lss (.t 61) (.t 62), []⟩])
 (.cond (.t 63)
 (.ops 16 [⟨some 64, none, .mv (.t 10), []⟩,
 ⟨some 65, none, .mv (.t 9), []⟩,
 ⟨some 7, none, .mv (.t 64), []⟩,
 ⟨some 8, none, .mv (.t 65), []⟩])
 .skip)))))
 (.ops 11 [⟨some 48, none, .mv (.t 9), []⟩,
 ⟨some 49, none, .bin .add (.t 48) (.c (.int .i64 1)), []⟩,
 ⟨some 9, none, .mv (.t 49), []⟩])))
/-- ticketline/split.place -/
noncomputable def F205 : AFn := ⟨67, [.tmp 2], (.seq
 (.ops 0 [⟨some 2, none, .mv (.c (.int .i64 0)), []⟩])
 (.seq
 (.ops 1 [⟨some 11, none, .mv (.t 0), []⟩,
 ⟨some 12, none, .len .slice (.t 11), []⟩,
 ⟨some 13, none, .bin .add (.t 12) (.c (.int .i64 1)), []⟩,
 ⟨some 14, none, .mks [.int .i64 0] 1 8 (.t 13) (.t 13) false, []⟩,
 ⟨some 3, none, .mv (.t 14), []⟩])
 (.seq
 (.seq
 (.ops 2 [⟨some 15, none, .mv (.t 0), []⟩,
 ⟨some 16, none, .len .slice (.t 15), []⟩,
 ⟨some 17, none, .mv (.c (.int .i64 0)), []⟩])
 (.block 0
 (.loop [] B205x0)))
 (.seq
 (.ops 7 [⟨some 37, none, .mv (.t 3), []⟩,
 ⟨some 38, none, .mv (.t 0), []⟩,
 ⟨some 39, none, .len .slice (.t 38), []⟩,
 ⟨some 40, none, .ixa none 1 (.t 37) (.t 39), []⟩,
 ⟨some 41, none, .ld 1 false (.t 40), []⟩,
 ⟨some 6, none, .mv (.t 41), []⟩])
 (.seq
 (.ops 8 [⟨some 42, none, .mv (.t 6), []⟩,
 ⟨some 43, none, .bin .add (.t 42) (.c (.int .i64 1)), []⟩,
 ⟨some 7, none, .mv (.t 43), []⟩,
 ⟨some 8, none, .mv (.c (.int .i64 0)), []⟩])
 (.seq
 (.seq
 (.ops 9 [⟨some 9, none, .mv (.c (.int .i64 1)), []⟩])
 (.block 2
 (.loop [] B205x1)))
 (.seq
 (.ops 17 [⟨some 66, none, .mv (.t 8), []⟩,
 ⟨some 2, none, .mv (.t 66), []⟩])
 .ret)))))))⟩
theorem F205_code : cfgA.code 205 = some F205 := by kernel_rfl

/-- ticketline/page.Of: the round 0 -/
noncomputable def B206x0 : AC := (.seq
 (.ops 8 [⟨some 39, none, .bin .lss (.t 38) (.t 37), []⟩])
 (.seq
 (.cond (.t 39)
 .skip
 (.exit 0))
 (.seq
 (.block 1
 (.seq
 (.ops 9 [⟨some 40, none, .mv (.t 38), []⟩,
 ⟨some 41, none, .ixa none 2 (.t 36) (.t 38), []⟩,
 ⟨some 42, none, .ld 2 true (.t 41), []⟩,
 ⟨some 16, none, .alloc [.str [], .str []] false, []⟩,
 ⟨some 15, none, .mv (.t 40), []⟩,
 ⟨none, none, .st 2 (.t 16) (.t 42), []⟩])
 (.seq
 (.seq
 (.ops 10 [⟨some 43, none, .mv (.t 0), []⟩,
 ⟨some 44, none, .bin .eql (.t 43) (.c (.int .i64 0)), []⟩,
 ⟨some 45, none, .mv (.t 15), []⟩,
 ⟨some 46, none, .fld 0 (.t 16), []⟩,
 ⟨some 47, none, .ld 1 false (.t 46), []⟩,
 ⟨some 48, none, .fld 1 (.t 16), []⟩,
 ⟨some 49, none, .ld 1 false (.t 48), []⟩,
 ⟨some 50, none, .call 176 [.t 44, .t 45, .t 47, .t 49], []⟩,
 ⟨some 17, none, .mv (.t 50), []⟩])
 (.seq
 (.ops 11 [⟨some 51, none, .mv (.t 17), []⟩,
 ⟨some 52, none, .bin .neq (.t 51) (.c (.int .i64 0)), []⟩])
 (.cond (.t 52)
 (.seq
 (.ops 12 [⟨some 53, none, .build (List.replicate 128 (.int .u64 0)) [], []⟩,
 ⟨some 54, none, .mv (.t 17), []⟩,
 ⟨none, none, .st 128 (.t 10) (.t 53), []⟩,
 ⟨some 11, none, .mv (.t 54), []⟩])
 .ret)
 .skip)))
 (.seq
 (.seq
 (.ops 13 [⟨some 55, none, .mv (.t 15), []⟩,
 ⟨some 56, none, .bin .gtr (.t 55) (.c (.int .i64 0)), []⟩,
 ⟨some 57, none, .mv (.t 56), []⟩,
 ⟨some 58, some (57, true), .mv (.t 4), []⟩,
 ⟨some 59, some (57, true), .mv (.t 15), []⟩,
 ⟨some 60, some (57, true), .bin .sub (.t 59) (.c (.int .i64 1)), []⟩,
 ⟨some 61, some (57, true), .ixa none 2 (.t 58) (.t 60), []⟩,
 ⟨some 62, some (57, true), .fld 0 (.t 61), []⟩,
 ⟨some 63, some (57, true), .ld 1 false (.t 62), []⟩,
 ⟨some 64, some (57, true), .fld 0 (.t 16), []⟩,
 ⟨some 65, some (57, true), .ld 1 false (.t 64), []⟩,
 ⟨some 66, some (57, true), .call 148 [.t 63, .t 65], []⟩,
 ⟨some 67, some (57, true), .bin .geq (.t 66) (.c (.int .i64 0)), []⟩,
 ⟨some 68, none, .pick (.t 57) (.t 67) (.c (.bool false)), []⟩])
 (.cond (.t 68)
 (.seq
 (.ops 14 [⟨some 69, none, .build (List.replicate 128 (.int .u64 0)) [], []⟩,
 ⟨none, none, .st 128 (.t 10) (.t 69), []⟩,
 ⟨some 11, none, .mv (.c (.int .i64 13)), []⟩])
 .ret)
 .skip))
 (.ops 15 [⟨some 70, none, .mv (.t 14), []⟩,
 ⟨some 71, none, .fld 0 (.t 16), []⟩,
 ⟨some 72, none, .ld 1 false (.t 71), []⟩,
 ⟨some 73, none, .fld 1 (.t 16), []⟩,
 ⟨some 74, none, .ld 1 false (.t 73), []⟩,
 ⟨some 75, none, .call 123 [.t 72, .t 74], []⟩,
 ⟨some 76, none, .bin .add (.t 70) (.t 75), []⟩,
 ⟨some 14, none, .mv (.t 76), []⟩])))))
 (.ops 16 [⟨some 77, none, .bin .add (.t 38) (.c (.int .i64 1)), []⟩,
 ⟨some 38, none, .mv (.t 77), []⟩]))))
/-- ticketline/page.Of -/
noncomputable def F206 : AFn := ⟨87, [.cell 10 128 true, .tmp 11], (.seq
 (.ops 0 [⟨some 10, none, .alloc (List.replicate 128 (.int .u64 0)) false, []⟩,
 ⟨some 11, none, .mv (.c (.int .i64 0)), []⟩])
 (.seq
 (.ops 1 [⟨some 19, none, .mv (.t 0), []⟩,
 ⟨some 20, none, .mv (.t 1), []⟩,
 ⟨some 21, none, .mv (.t 2), []⟩,
 ⟨some 22, none, .call 94 [.t 19, .t 20, .t 21], []⟩,
 ⟨some 18, none, .mv (.t 22), []⟩,
 ⟨some 23, none, .ext (.t 18) 0, []⟩,
 ⟨some 24, none, .ext (.t 18) 1, []⟩,
 ⟨some 12, none, .alloc (List.replicate 128 (.int .u64 0)) false, []⟩,
 ⟨none, none, .st 128 (.t 12) (.t 23), []⟩,
 ⟨some 13, none, .mv (.t 24), []⟩])
 (.seq
 (.seq
 (.ops 2 [⟨some 25, none, .mv (.t 13), []⟩,
 ⟨some 26, none, .bin .neq (.t 25) (.c (.int .i64 0)), []⟩])
 (.cond (.t 26)
 (.seq
 (.ops 3 [⟨some 27, none, .build (List.replicate 128 (.int .u64 0)) [], []⟩,
 ⟨some 28, none, .mv (.t 13), []⟩,
 ⟨none, none, .st 128 (.t 10) (.t 27), []⟩,
 ⟨some 11, none, .mv (.t 28), []⟩])
 .ret)
 .skip))
 (.seq
 (.seq
 (.ops 4 [⟨some 29, none, .mv (.t 3), []⟩,
 ⟨some 30, none, .bin .lss (.t 29) (.c (.int .i64 0)), []⟩,
 ⟨some 31, none, .mv (.t 30), []⟩,
 ⟨some 32, some (31, false), .mv (.t 3), []⟩,
 ⟨some 33, some (31, false), .bin .gtr (.t 32) (.c (.int .i64 511)), []⟩,
 ⟨some 34, none, .pick (.t 31) (.c (.bool true)) (.t 33), []⟩])
 (.cond (.t 34)
 (.seq
 (.ops 5 [⟨some 35, none, .build (List.replicate 128 (.int .u64 0)) [], []⟩,
 ⟨none, none, .st 128 (.t 10) (.t 35), []⟩,
 ⟨some 11, none, .mv (.c (.int .i64 3)), []⟩])
 .ret)
 .skip))
 (.seq
 (.ops 6 [⟨some 14, none, .mv (.c (.int .i64 0)), []⟩])
 (.seq
 (.seq
 (.ops 7 [⟨some 36, none, .mv (.t 4), []⟩,
 ⟨some 37, none, .len .slice (.t 36), []⟩,
 ⟨some 38, none, .mv (.c (.int .i64 0)), []⟩])
 (.block 0
 (.loop [] B206x0)))
 (.seq
 (.seq
 (.ops 17 [⟨some 78, none, .mv (.t 14), []⟩,
 ⟨some 79, none, .bin .gtr (.t 78) (.c (.int .i64 108)), []⟩])
 (.cond (.t 79)
 (.seq
 (.ops 18 [⟨some 80, none, .build (List.replicate 128 (.int .u64 0)) [], []⟩,
 ⟨none, none, .st 128 (.t 10) (.t 80), []⟩,
 ⟨some 11, none, .mv (.c (.int .i64 7)), []⟩])
 .ret)
 .skip))
 (.seq
 (.ops 19 [⟨some 81, none, .mv (.t 3), []⟩,
 ⟨some 82, none, .cvi .u64 (.t 81), []⟩,
 ⟨some 83, none, .ixa (some 128) 1 (.t 12) (.c (.int .i64 10)), []⟩,
 ⟨none, none, .st 1 (.t 83) (.t 82), []⟩])
 (.seq
 (.ops 20 [⟨some 84, none, .mv (.t 4), []⟩,
 ⟨some 85, none, .call 181 [.t 12, .t 84], []⟩])
 (.seq
 (.ops 21 [⟨some 86, none, .ld 128 true (.t 12), []⟩,
 ⟨none, none, .st 128 (.t 10) (.t 86), []⟩,
 ⟨some 11, none, .mv (.c (.int .i64 0)), []⟩])
 .ret))))))))))⟩
theorem F206_code : cfgA.code 206 = some F206 := by kernel_rfl

/-- ticketline/version.word -/
noncomputable def F207 : AFn := ⟨9, [.tmp 2], (.seq
 (.ops 0 [⟨some 2, none, .mv (.c (.bool false)), []⟩])
 (.seq
 (.ops 1 [⟨some 3, none, .mv (.t 0), []⟩,
 ⟨some 4, none, .bin .geq (.t 3) (.c (.int .i64 0)), []⟩,
 ⟨some 5, none, .mv (.t 4), []⟩,
 ⟨some 6, some (5, true), .mv (.t 0), []⟩,
 ⟨some 7, some (5, true), .bin .lss (.t 6) (.c (.int .i64 65536)), []⟩,
 ⟨some 8, none, .pick (.t 5) (.t 7) (.c (.bool false)), []⟩,
 ⟨some 2, none, .mv (.t 8), []⟩])
 .ret))⟩
theorem F207_code : cfgA.code 207 = some F207 := by kernel_rfl

/-- ticketline/search.sorted: the round 0 -/
noncomputable def B208x0 : AC := (.seq
 (.seq
 (.ops 5 [⟨some 15, none, .mv (.t 6), []⟩,
 ⟨some 16, none, .mv (.t 4), []⟩,
 ⟨some 17, none, .len .slice (.t 16), []⟩,
 ⟨some 18, none, .bin .lss (.t 15) (.t 17), []⟩])
 (.cond (.t 18)
 .skip
 (.exit 0)))
 (.seq
 (.block 1
 (.seq
 (.ops 7 [⟨some 21, none, .mv (.t 4), []⟩,
 ⟨some 22, none, .mv (.t 6), []⟩,
 ⟨some 23, none, .bin .sub (.t 22) (.c (.int .i64 1)), []⟩,
 ⟨some 24, none, .ixa none 2 (.t 21) (.t 23), []⟩,
 ⟨some 25, none, .fld 0 (.t 24), []⟩,
 ⟨some 26, none, .ld 1 false (.t 25), []⟩,
 ⟨some 27, none, .mv (.t 4), []⟩,
 ⟨some 28, none, .mv (.t 6), []⟩,
 ⟨some 29, none, .ixa none 2 (.t 27) (.t 28), []⟩,
 ⟨some 30, none, .fld 0 (.t 29), []⟩,
 ⟨some 31, none, .ld 1 false (.t 30), []⟩,
 ⟨some 32, none, .call 148 [.t 26, .t 31], []⟩,
 ⟨some 33, none, .bin .geq (.t 32) (.c (.int .i64 0)), []⟩])
 (.cond (.t 33)
 (.seq
 (.ops 8 [⟨some 2, none, .mv (.c (.nils)), []⟩,
 ⟨some 3, none, .mv (.c (.int .i64 13)), []⟩])
 .ret)
 .skip)))
 (.ops 6 [⟨some 19, none, .mv (.t 6), []⟩,
 ⟨some 20, none, .bin .add (.t 19) (.c (.int .i64 1)), []⟩,
 ⟨some 6, none, .mv (.t 20), []⟩])))
/-- ticketline/search.sorted -/
noncomputable def F208 : AFn := ⟨35, [.tmp 2, .tmp 3], (.seq
 (.ops 0 [⟨some 1, none, .box 128 (.t 0) false, []⟩,
 ⟨some 2, none, .mv (.c (.nils)), []⟩,
 ⟨some 3, none, .mv (.c (.int .i64 0)), []⟩])
 (.seq
 (.ops 1 [⟨some 8, none, .ld 128 true (.t 1), []⟩,
 ⟨some 9, none, .call 87 [.t 8], []⟩,
 ⟨some 7, none, .mv (.t 9), []⟩,
 ⟨some 10, none, .ext (.t 7) 0, []⟩,
 ⟨some 11, none, .ext (.t 7) 1, []⟩,
 ⟨some 4, none, .mv (.t 10), []⟩,
 ⟨some 5, none, .mv (.t 11), []⟩])
 (.seq
 (.seq
 (.ops 2 [⟨some 12, none, .mv (.t 5), []⟩,
 ⟨some 13, none, .bin .neq (.t 12) (.c (.int .i64 0)), []⟩])
 (.cond (.t 13)
 (.seq
 (.ops 3 [⟨some 14, none, .mv (.t 5), []⟩,
 ⟨some 2, none, .mv (.c (.nils)), []⟩,
 ⟨some 3, none, .mv (.t 14), []⟩])
 .ret)
 .skip))
 (.seq
 (.seq
 (.ops 4 [⟨some 6, none, .mv (.c (.int .i64 1)), []⟩])
 (.block 0
 (.loop [] B208x0)))
 (.seq
 (.ops 9 [⟨some 34, none, .mv (.t 4), []⟩,
 ⟨some 2, none, .mv (.t 34), []⟩,
 ⟨some 3, none, .mv (.c (.int .i64 0)), []⟩])
 .ret)))))⟩
theorem F208_code : cfgA.code 208 = some F208 := by kernel_rfl

/-- ticketline/search.place: the round 0 -/
noncomputable def B209x0 : AC := (.seq
 (.seq
 (.ops 2 [⟨some 12, none, .mv (.t 6), []⟩,
 ⟨some 13, none, .mv (.t 7), []⟩,
 ⟨some 14, none, .bin .lss (.t 12) (.t 13), []⟩])
 (.cond (.t 14)
 .skip
 (.exit 0)))
 (.block 1
 (.seq
 (.ops 3 [⟨some 15, none, .mv (.t 6), []⟩,
 ⟨some 16, none, .mv (.t 7), []⟩,
 ⟨some 17, none, .bin .add (.t 15) (.t 16), []⟩,
 ⟨some 18, none, .bin .quo (.t 17) (.c (.int .i64 2)), []⟩,
 ⟨some 9, none, .mv (.t 18), []⟩])
 (.seq
 (.ops 4 [⟨some 19, none, .mv (.t 0), []⟩,
 ⟨some 20, none, .mv (.t 9), []⟩,
 ⟨some 21, none, .ixa none 2 (.t 19) (.t 20), []⟩,
 ⟨some 22, none, .fld 0 (.t 21), []⟩,
 ⟨some 23, none, .ld 1 false (.t 22), []⟩,
 ⟨some 24, none, .mv (.t 1), []⟩,
 ⟨some 25, none, .call 148 [.t 23, .t 24], []⟩])
 (.block 2
 (.seq
 (.ops 6 [⟨some 28, none, .bin .eql (.t 25) (.c (.int .i64 (-1))), []⟩,
 ⟨some 27, none, .mv (.t 28), []⟩])
 (.cond (.t 27)
 (.ops 7 [⟨some 29, none, .mv (.t 9), []⟩,
 ⟨some 30, none, .bin .add (.t 29) (.c (.int .i64 1)), []⟩,
 ⟨some 6, none, .mv (.t 30), []⟩])
 (.seq
 (.ops 8 [⟨some 32, none, .bin .eql (.t 25) (.c (.int .i64 1)), []⟩,
 ⟨some 31, none, .mv (.t 32), []⟩])
 (.cond (.t 31)
 (.ops 9 [⟨some 33, none, .mv (.t 9), []⟩,
 ⟨some 7, none, .mv (.t 33), []⟩])
 (.seq
 (.ops 5 [⟨some 26, none, .mv (.t 9), []⟩,
 ⟨some 6, none, .mv (.t 26), []⟩,
 ⟨some 8, none, .mv (.c (.bool true)), []⟩])
 (.exit 0)))))))))))
/-- ticketline/search.place -/
noncomputable def F209 : AFn := ⟨36, [.tmp 4, .tmp 5], (.seq
 (.ops 0 [⟨some 4, none, .mv (.c (.int .i64 0)), []⟩,
 ⟨some 5, none, .mv (.c (.bool false)), []⟩])
 (.seq
 (.ops 1 [⟨some 10, none, .mv (.t 0), []⟩,
 ⟨some 11, none, .len .slice (.t 10), []⟩,
 ⟨some 6, none, .mv (.c (.int .i64 0)), []⟩,
 ⟨some 7, none, .mv (.t 11), []⟩,
 ⟨some 8, none, .mv (.c (.bool false)), []⟩])
 (.seq
 .skip
 (.seq
 (.block 0
 (.loop [] B209x0))
 (.seq
 (.ops 10 [⟨some 34, none, .mv (.t 6), []⟩,
 ⟨some 35, none, .mv (.t 8), []⟩,
 ⟨some 4, none, .mv (.t 34), []⟩,
 ⟨some 5, none, .mv (.t 35), []⟩])
 .ret)))))⟩
theorem F209_code : cfgA.code 209 = some F209 := by kernel_rfl

/-- ticketline/page.child -/
noncomputable def F210 : AFn := ⟨27, [.tmp 2], (.seq
 (.ops 0 [⟨some 2, none, .mv (.c (.bool false)), []⟩])
 (.seq
 (.seq
 (.ops 1 [⟨some 5, none, .mv (.t 0), []⟩,
 ⟨some 6, none, .len .string (.t 5), []⟩,
 ⟨some 7, none, .bin .neq (.t 6) (.c (.int .i64 8)), []⟩])
 (.cond (.t 7)
 (.seq
 (.ops 2 [⟨some 2, none, .mv (.c (.bool false)), []⟩])
 .ret)
 .skip))
 (.seq
 (.ops 3 [⟨some 9, none, .mv (.t 0), []⟩,
 ⟨some 10, none, .ixs (.t 9) (.c (.int .i64 6)), []⟩,
 ⟨some 11, none, .cvi .i64 (.t 10), []⟩,
 ⟨some 12, none, .bin .shl (.t 11) (.c (.int .u64 8)), []⟩,
 ⟨some 13, none, .mv (.t 0), []⟩,
 ⟨some 14, none, .ixs (.t 13) (.c (.int .i64 7)), []⟩,
 ⟨some 15, none, .cvi .i64 (.t 14), []⟩,
 ⟨some 16, none, .bin .or (.t 12) (.t 15), []⟩,
 ⟨some 17, none, .call 169 [.t 16], []⟩,
 ⟨some 8, none, .mv (.t 17), []⟩,
 ⟨some 18, none, .ext (.t 8) 0, []⟩,
 ⟨some 19, none, .ext (.t 8) 1, []⟩,
 ⟨some 3, none, .mv (.t 18), []⟩,
 ⟨some 4, none, .mv (.t 19), []⟩])
 (.seq
 (.ops 4 [⟨some 20, none, .mv (.t 4), []⟩,
 ⟨some 21, none, .bin .eql (.t 20) (.c (.int .i64 0)), []⟩,
 ⟨some 22, none, .mv (.t 21), []⟩,
 ⟨some 23, some (22, true), .mv (.t 3), []⟩,
 ⟨some 24, some (22, true), .mv (.t 0), []⟩,
 ⟨some 25, some (22, true), .bin .eql (.t 23) (.t 24), []⟩,
 ⟨some 26, none, .pick (.t 22) (.t 25) (.c (.bool false)), []⟩,
 ⟨some 2, none, .mv (.t 26), []⟩])
 .ret))))⟩
theorem F210_code : cfgA.code 210 = some F210 := by kernel_rfl

/-- ticketline/modes.Valid -/
noncomputable def F211 : AFn := ⟨9, [.tmp 2], (.seq
 (.ops 0 [⟨some 2, none, .mv (.c (.bool false)), []⟩])
 (.seq
 (.ops 1 [⟨some 3, none, .mv (.t 0), []⟩,
 ⟨some 4, none, .bin .geq (.t 3) (.c (.int .i64 1)), []⟩,
 ⟨some 5, none, .mv (.t 4), []⟩,
 ⟨some 6, some (5, true), .mv (.t 0), []⟩,
 ⟨some 7, some (5, true), .bin .leq (.t 6) (.c (.int .i64 3)), []⟩,
 ⟨some 8, none, .pick (.t 5) (.t 7) (.c (.bool false)), []⟩,
 ⟨some 2, none, .mv (.t 8), []⟩])
 .ret))⟩
theorem F211_code : cfgA.code 211 = some F211 := by kernel_rfl

/-- (*ticketline/mem.Mem).Do -/
noncomputable def F212 : AFn := ⟨86, [.cell 4 4 true, .tmp 5], (.seq
 (.ops 0 [⟨some 3, none, .box 4 (.t 1) false, []⟩,
 ⟨some 4, none, .alloc [.int .i64 0, .int .i64 0, .int .u64 0, .int .u64 0] false, []⟩,
 ⟨some 5, none, .mv (.c (.int .i64 0)), []⟩])
 (.seq
 (.block 0
 (.seq
 (.ops 1 [⟨some 8, none, .mv (.t 0), []⟩,
 ⟨some 9, none, .call 174 [.t 8], []⟩,
 ⟨some 7, none, .mv (.t 9), []⟩])
 (.cond (.t 7)
 (.seq
 (.ops 2 [⟨some 10, none, .build [.int .i64 0, .int .i64 0, .int .u64 0, .int .u64 0] [], []⟩,
 ⟨none, none, .st 4 (.t 4) (.t 10), []⟩,
 ⟨some 5, none, .mv (.c (.int .i64 1)), []⟩])
 .ret)
 (.seq
 (.ops 3 [⟨some 12, none, .fld 0 (.t 3), []⟩,
 ⟨some 13, none, .ld 1 false (.t 12), []⟩,
 ⟨some 14, none, .bin .lss (.t 13) (.c (.int .i64 1)), []⟩,
 ⟨some 15, none, .mv (.t 14), []⟩,
 ⟨some 16, some (15, false), .fld 0 (.t 3), []⟩,
 ⟨some 17, some (15, false), .ld 1 false (.t 16), []⟩,
 ⟨some 18, some (15, false), .bin .gtr (.t 17) (.c (.int .i64 4)), []⟩,
 ⟨some 19, none, .pick (.t 15) (.c (.bool true)) (.t 18), []⟩,
 ⟨some 11, none, .mv (.t 19), []⟩])
 (.cond (.t 11)
 (.seq
 (.ops 4 [⟨some 20, none, .build [.int .i64 0, .int .i64 0, .int .u64 0, .int .u64 0] [], []⟩,
 ⟨none, none, .st 4 (.t 4) (.t 20), []⟩,
 ⟨some 5, none, .mv (.c (.int .i64 2)), []⟩])
 .ret)
 (.seq
 (.ops 5 [⟨some 22, none, .fld 1 (.t 3), []⟩,
 ⟨some 23, none, .ld 1 false (.t 22), []⟩,
 ⟨some 24, none, .bin .lss (.t 23) (.c (.int .i64 0)), []⟩,
 ⟨some 25, none, .mv (.t 24), []⟩,
 ⟨some 26, some (25, false), .fld 1 (.t 3), []⟩,
 ⟨some 27, some (25, false), .ld 1 false (.t 26), []⟩,
 ⟨some 28, some (25, false), .mv (.t 0), []⟩,
 ⟨some 29, some (25, false), .nilc (.t 28) (mok Tryz.prog), []⟩,
 ⟨some 30, some (25, false), .fld 0 (.t 29), []⟩,
 ⟨some 31, some (25, false), .ld 1 false (.t 30), []⟩,
 ⟨some 32, some (25, false), .len .slice (.t 31), []⟩,
 ⟨some 33, some (25, false), .bin .geq (.t 27) (.t 32), []⟩,
 ⟨some 34, none, .pick (.t 25) (.c (.bool true)) (.t 33), []⟩,
 ⟨some 21, none, .mv (.t 34), []⟩])
 (.cond (.t 21)
 (.seq
 (.ops 6 [⟨some 35, none, .build [.int .i64 0, .int .i64 0, .int .u64 0, .int .u64 0] [], []⟩,
 ⟨none, none, .st 4 (.t 4) (.t 35), []⟩,
 ⟨some 5, none, .mv (.c (.int .i64 3)), []⟩])
 .ret)
 .skip)))))))
 (.seq
 (.ops 7 [⟨some 36, none, .mv (.t 0), []⟩,
 ⟨some 37, none, .nilc (.t 36) (mok Tryz.prog), []⟩,
 ⟨some 38, none, .fld 0 (.t 37), []⟩,
 ⟨some 39, none, .ld 1 false (.t 38), []⟩,
 ⟨some 40, none, .fld 1 (.t 3), []⟩,
 ⟨some 41, none, .ld 1 false (.t 40), []⟩,
 ⟨some 42, none, .ixa none 1 (.t 39) (.t 41), []⟩,
 ⟨some 43, none, .ld 1 false (.t 42), []⟩,
 ⟨some 6, none, .mv (.t 43), []⟩])
 (.seq
 (.seq
 (.ops 8 [⟨some 44, none, .fld 0 (.t 3), []⟩,
 ⟨some 45, none, .ld 1 false (.t 44), []⟩,
 ⟨some 46, none, .bin .eql (.t 45) (.c (.int .i64 2)), []⟩,
 ⟨some 47, none, .mv (.t 46), []⟩,
 ⟨some 48, some (47, false), .fld 0 (.t 3), []⟩,
 ⟨some 49, some (47, false), .ld 1 false (.t 48), []⟩,
 ⟨some 50, some (47, false), .bin .eql (.t 49) (.c (.int .i64 4)), []⟩,
 ⟨some 51, none, .pick (.t 47) (.c (.bool true)) (.t 50), []⟩,
 ⟨some 52, none, .mv (.t 51), []⟩,
 ⟨some 53, some (52, false), .fld 0 (.t 3), []⟩,
 ⟨some 54, some (52, false), .ld 1 false (.t 53), []⟩,
 ⟨some 55, some (52, false), .bin .eql (.t 54) (.c (.int .i64 3)), []⟩,
 ⟨some 56, some (52, false), .mv (.t 55), []⟩,
 ⟨some 57, some (56, true), .mv (.t 6), []⟩,
 ⟨some 58, some (56, true), .fld 2 (.t 3), []⟩,
 ⟨some 59, some (56, true), .ld 1 false (.t 58), []⟩,
 ⟨some 60, some (56, true), .bin .eql (.t 57) (.t 59), []⟩,
 ⟨some 61, some (52, false), .pick (.t 56) (.t 60) (.c (.bool false)), []⟩,
 ⟨some 62, none, .pick (.t 52) (.c (.bool true)) (.t 61), []⟩])
 (.cond (.t 62)
 (.ops 9 [⟨some 63, none, .mv (.t 0), []⟩,
 ⟨some 64, none, .nilc (.t 63) (mok Tryz.prog), []⟩,
 ⟨some 65, none, .fld 0 (.t 64), []⟩,
 ⟨some 66, none, .ld 1 false (.t 65), []⟩,
 ⟨some 67, none, .fld 1 (.t 3), []⟩,
 ⟨some 68, none, .ld 1 false (.t 67), []⟩,
 ⟨some 69, none, .fld 3 (.t 3), []⟩,
 ⟨some 70, none, .ld 1 false (.t 69), []⟩,
 ⟨some 71, none, .ixa none 1 (.t 66) (.t 68), []⟩,
 ⟨none, none, .st 1 (.t 71) (.t 70), []⟩])
 .skip))
 (.seq
 (.ops 10 [⟨some 72, none, .fld 0 (.t 3), []⟩,
 ⟨some 73, none, .ld 1 false (.t 72), []⟩,
 ⟨some 74, none, .fld 1 (.t 3), []⟩,
 ⟨some 75, none, .ld 1 false (.t 74), []⟩,
 ⟨some 76, none, .mv (.t 6), []⟩,
 ⟨some 77, none, .mv (.t 0), []⟩,
 ⟨some 78, none, .nilc (.t 77) (mok Tryz.prog), []⟩,
 ⟨some 79, none, .fld 0 (.t 78), []⟩,
 ⟨some 80, none, .ld 1 false (.t 79), []⟩,
 ⟨some 81, none, .fld 1 (.t 3), []⟩,
 ⟨some 82, none, .ld 1 false (.t 81), []⟩,
 ⟨some 83, none, .ixa none 1 (.t 80) (.t 82), []⟩,
 ⟨some 84, none, .ld 1 false (.t 83), []⟩,
 ⟨some 85, none, .build [.int .i64 0, .int .i64 0, .int .u64 0, .int .u64 0] [(0, 1, (.t 73)), (1, 1, (.t 75)), (2, 1, (.t 76)), (3, 1, (.t 84))], []⟩,
 ⟨none, none, .st 4 (.t 4) (.t 85), []⟩,
 ⟨some 5, none, .mv (.c (.int .i64 0)), []⟩])
 .ret)))))⟩
theorem F212_code : cfgA.code 212 = some F212 := by kernel_rfl

/-- (*ticketline/arena.Arena).pages -/
noncomputable def F214 : AFn := ⟨9, [.tmp 2], (.seq
 (.ops 0 [⟨some 2, none, .mv (.c (.int .i64 0)), []⟩])
 (.seq
 (.ops 1 [⟨some 3, none, .mv (.t 0), []⟩,
 ⟨some 4, none, .nilc (.t 3) (mok Tryz.prog), []⟩,
 ⟨some 5, none, .fld 0 (.t 4), []⟩,
 ⟨some 6, none, .ld 1 true (.t 5), []⟩,
 ⟨some 7, none, .call 151 [.t 6, .c (.int .i64 0)], []⟩,
 ⟨some 8, none, .cvi .i64 (.t 7), []⟩,
 ⟨some 2, none, .mv (.t 8), []⟩])
 .ret))⟩
theorem F214_code : cfgA.code 214 = some F214 := by kernel_rfl

/-- (*ticketline/arena.Arena).kind -/
noncomputable def F215 : AFn := ⟨12, [.tmp 4], (.seq
 (.ops 0 [⟨some 4, none, .mv (.c (.int .u64 0)), []⟩])
 (.seq
 (.ops 1 [⟨some 5, none, .mv (.t 0), []⟩,
 ⟨some 6, none, .nilc (.t 5) (mok Tryz.prog), []⟩,
 ⟨some 7, none, .fld 0 (.t 6), []⟩,
 ⟨some 8, none, .ld 1 true (.t 7), []⟩,
 ⟨some 9, none, .mv (.t 1), []⟩,
 ⟨some 10, none, .call 106 [.t 9, .c (.int .i64 8)], [(8, .ld 1 true (.t 7))]⟩,
 ⟨some 11, none, .call 151 [.t 8, .t 10], []⟩,
 ⟨some 4, none, .mv (.t 11), []⟩])
 .ret))⟩
theorem F215_code : cfgA.code 215 = some F215 := by kernel_rfl

/-- (ticketline/latch.state).right$1 -/
noncomputable def F216 : AFn := ⟨10, [.tmp 2], (.seq
 (.ops 0 [⟨some 2, none, .mv (.c (.bool false)), []⟩])
 (.seq
 (.ops 1 [⟨some 3, none, .mv (.t 0), []⟩,
 ⟨some 4, none, .bin .leq (.t 3) (.c (.int .u64 128)), []⟩,
 ⟨some 5, none, .mv (.t 4), []⟩,
 ⟨some 6, some (5, true), .mv (.t 0), []⟩,
 ⟨some 7, some (5, true), .bin .rem (.t 6) (.c (.int .u64 2)), []⟩,
 ⟨some 8, some (5, true), .bin .eql (.t 7) (.c (.int .u64 0)), []⟩,
 ⟨some 9, none, .pick (.t 5) (.t 8) (.c (.bool false)), []⟩,
 ⟨some 2, none, .mv (.t 9), []⟩])
 .ret))⟩
theorem F216_code : cfgA.code 216 = some F216 := by kernel_rfl

/-- ticketline/modes.All: the round 0 -/
noncomputable def B217x0 : AC := (.seq
 (.ops 2 [⟨some 8, none, .bin .lss (.t 7) (.t 6), []⟩])
 (.seq
 (.cond (.t 8)
 .skip
 (.exit 0))
 (.seq
 (.block 1
 (.seq
 (.ops 3 [⟨some 9, none, .mv (.t 7), []⟩,
 ⟨some 10, none, .ixa none 1 (.t 5) (.t 7), []⟩,
 ⟨some 11, none, .ld 1 false (.t 10), []⟩,
 ⟨some 3, none, .mv (.t 9), []⟩,
 ⟨some 4, none, .mv (.t 11), []⟩])
 (.seq
 (.ops 4 [⟨some 12, none, .mv (.t 4), []⟩,
 ⟨some 13, none, .call 211 [.t 12], []⟩,
 ⟨some 14, none, .un .not (.t 13), []⟩,
 ⟨some 15, none, .mv (.t 14), []⟩,
 ⟨some 16, some (15, false), .mv (.t 4), []⟩,
 ⟨some 17, some (15, false), .mv (.t 0), []⟩,
 ⟨some 18, some (15, false), .mv (.t 3), []⟩,
 ⟨some 19, some (15, false), .slc none 1 (.t 17) none (some (.t 18)), []⟩,
 ⟨some 20, some (15, false), .call 222 [.t 16, .t 19], []⟩,
 ⟨some 21, some (15, false), .un .not (.t 20), []⟩,
 ⟨some 22, none, .pick (.t 15) (.c (.bool true)) (.t 21), []⟩])
 (.cond (.t 22)
 (.seq
 (.ops 5 [⟨some 2, none, .mv (.c (.bool false)), []⟩])
 .ret)
 .skip))))
 (.ops 6 [⟨some 23, none, .bin .add (.t 7) (.c (.int .i64 1)), []⟩,
 ⟨some 7, none, .mv (.t 23), []⟩]))))
/-- ticketline/modes.All -/
noncomputable def F217 : AFn := ⟨24, [.tmp 2], (.seq
 (.ops 0 [⟨some 2, none, .mv (.c (.bool false)), []⟩])
 (.seq
 (.seq
 (.ops 1 [⟨some 5, none, .mv (.t 0), []⟩,
 ⟨some 6, none, .len .slice (.t 5), []⟩,
 ⟨some 7, none, .mv (.c (.int .i64 0)), []⟩])
 (.block 0
 (.loop [] B217x0)))
 (.seq
 (.ops 7 [⟨some 2, none, .mv (.c (.bool true)), []⟩])
 .ret)))⟩
theorem F217_code : cfgA.code 217 = some F217 := by kernel_rfl

/-- (ticketline/latch.state).held: the round 0 -/
noncomputable def B218x0 : AC := (.seq
 (.ops 3 [⟨some 8, none, .bin .lss (.t 7) (.t 6), []⟩])
 (.seq
 (.cond (.t 8)
 .skip
 (.exit 0))
 (.seq
 (.block 1
 (.ops 4 [⟨some 9, none, .mv (.t 3), []⟩,
 ⟨some 10, none, .bslice [.int .i64 0] 1 1 [(0, (.c (.int .i64 1)))] false false, []⟩,
 ⟨some 11, none, .app 1 8 (.t 9) (.t 10) false, []⟩,
 ⟨some 3, none, .mv (.t 11), []⟩]))
 (.ops 5 [⟨some 12, none, .bin .add (.t 7) (.c (.int .i64 1)), []⟩,
 ⟨some 7, none, .mv (.t 12), []⟩]))))
/-- (ticketline/latch.state).held -/
noncomputable def F218 : AFn := ⟨26, [.tmp 2], (.seq
 (.ops 0 [⟨some 1, none, .box 7 (.t 0) false, []⟩,
 ⟨some 2, none, .mv (.c (.nils)), []⟩])
 (.seq
 (.ops 1 [⟨some 3, none, .mv (.c (.nils)), []⟩])
 (.seq
 (.seq
 (.ops 2 [⟨some 4, none, .fld 0 (.t 1), []⟩,
 ⟨some 5, none, .ld 1 false (.t 4), []⟩,
 ⟨some 6, none, .call 223 [.t 5], []⟩,
 ⟨some 7, none, .mv (.c (.int .i64 0)), []⟩])
 (.block 0
 (.loop [] B218x0)))
 (.seq
 (.seq
 (.ops 6 [⟨some 13, none, .fld 1 (.t 1), []⟩,
 ⟨some 14, none, .ld 1 false (.t 13), []⟩,
 ⟨some 15, none, .bin .neq (.t 14) (.c (.int .u64 0)), []⟩])
 (.cond (.t 15)
 (.ops 7 [⟨some 16, none, .mv (.t 3), []⟩,
 ⟨some 17, none, .bslice [.int .i64 0] 1 1 [(0, (.c (.int .i64 2)))] false false, []⟩,
 ⟨some 18, none, .app 1 8 (.t 16) (.t 17) false, []⟩,
 ⟨some 3, none, .mv (.t 18), []⟩])
 .skip))
 (.seq
 (.seq
 (.ops 8 [⟨some 19, none, .fld 2 (.t 1), []⟩,
 ⟨some 20, none, .ld 1 false (.t 19), []⟩,
 ⟨some 21, none, .bin .neq (.t 20) (.c (.int .u64 0)), []⟩])
 (.cond (.t 21)
 (.ops 9 [⟨some 22, none, .mv (.t 3), []⟩,
 ⟨some 23, none, .bslice [.int .i64 0] 1 1 [(0, (.c (.int .i64 3)))] false false, []⟩,
 ⟨some 24, none, .app 1 8 (.t 22) (.t 23) false, []⟩,
 ⟨some 3, none, .mv (.t 24), []⟩])
 .skip))
 (.seq
 (.ops 10 [⟨some 25, none, .mv (.t 3), []⟩,
 ⟨some 2, none, .mv (.t 25), []⟩])
 .ret))))))⟩
theorem F218_code : cfgA.code 218 = some F218 := by kernel_rfl

/-- (*ticketline/qnode.Nodes).has -/
noncomputable def F219 : AFn := ⟨13, [.tmp 4], (.seq
 (.ops 0 [⟨some 4, none, .mv (.c (.bool false)), []⟩])
 (.seq
 (.ops 1 [⟨some 5, none, .mv (.t 1), []⟩,
 ⟨some 6, none, .bin .geq (.t 5) (.c (.int .i64 0)), []⟩,
 ⟨some 7, none, .mv (.t 6), []⟩,
 ⟨some 8, some (7, true), .mv (.t 1), []⟩,
 ⟨some 9, some (7, true), .mv (.t 0), []⟩,
 ⟨some 10, some (7, true), .call 196 [.t 9], []⟩,
 ⟨some 11, some (7, true), .bin .lss (.t 8) (.t 10), []⟩,
 ⟨some 12, none, .pick (.t 7) (.t 11) (.c (.bool false)), []⟩,
 ⟨some 4, none, .mv (.t 12), []⟩])
 .ret))⟩
theorem F219_code : cfgA.code 219 = some F219 := by kernel_rfl

/-- ticketline/search.Sorted -/
noncomputable def F220 : AFn := ⟨12, [.tmp 2], (.seq
 (.ops 0 [⟨some 1, none, .box 128 (.t 0) false, []⟩,
 ⟨some 2, none, .mv (.c (.bool false)), []⟩])
 (.seq
 (.ops 1 [⟨some 6, none, .ld 128 true (.t 1), []⟩,
 ⟨some 7, none, .call 208 [.t 6], []⟩,
 ⟨some 5, none, .mv (.t 7), []⟩,
 ⟨some 8, none, .ext (.t 5) 0, []⟩,
 ⟨some 9, none, .ext (.t 5) 1, []⟩,
 ⟨some 3, none, .mv (.t 8), []⟩,
 ⟨some 4, none, .mv (.t 9), []⟩])
 (.seq
 (.ops 2 [⟨some 10, none, .mv (.t 4), []⟩,
 ⟨some 11, none, .bin .eql (.t 10) (.c (.int .i64 0)), []⟩,
 ⟨some 2, none, .mv (.t 11), []⟩])
 .ret)))⟩
theorem F220_code : cfgA.code 220 = some F220 := by kernel_rfl

/-- ticketline/modes.with -/
noncomputable def F222 : AFn := ⟨9, [.tmp 4], (.seq
 (.ops 0 [⟨some 2, none, .box 1 (.t 0) false, []⟩,
 ⟨some 4, none, .mv (.c (.bool false)), []⟩])
 (.seq
 (.ops 1 [⟨some 5, none, .mv (.t 1), []⟩,
 ⟨some 6, none, .mkf 225 [.t 2], []⟩,
 ⟨some 7, none, .call 224 [.t 5, .t 6], []⟩,
 ⟨some 8, none, .un .not (.t 7), []⟩,
 ⟨some 4, none, .mv (.t 8), []⟩])
 .ret))⟩
theorem F222_code : cfgA.code 222 = some F222 := by kernel_rfl

/-- math/bits.OnesCount64 -/
noncomputable def F223 : AFn := ⟨35, [.tmp 2], (.seq
 (.ops 0 [⟨some 2, none, .mv (.c (.int .i64 0)), []⟩])
 (.seq
 (.ops 1 [⟨some 3, none, .mv (.t 0), []⟩,
 ⟨some 4, none, .bin .shr (.t 3) (.c (.int .u64 1)), []⟩,
 ⟨some 5, none, .bin .and (.t 4) (.c (.int .u64 6148914691236517205)), []⟩,
 ⟨some 6, none, .mv (.t 0), []⟩,
 ⟨some 7, none, .bin .and (.t 6) (.c (.int .u64 6148914691236517205)), []⟩,
 ⟨some 8, none, .bin .add (.t 5) (.t 7), []⟩,
 ⟨some 0, none, .mv (.t 8), []⟩])
 (.seq
 (.ops 2 [⟨some 9, none, .mv (.t 0), []⟩,
 ⟨some 10, none, .bin .shr (.t 9) (.c (.int .u64 2)), []⟩,
 ⟨some 11, none, .bin .and (.t 10) (.c (.int .u64 3689348814741910323)), []⟩,
 ⟨some 12, none, .mv (.t 0), []⟩,
 ⟨some 13, none, .bin .and (.t 12) (.c (.int .u64 3689348814741910323)), []⟩,
 ⟨some 14, none, .bin .add (.t 11) (.t 13), []⟩,
 ⟨some 0, none, .mv (.t 14), []⟩])
 (.seq
 (.ops 3 [⟨some 15, none, .mv (.t 0), []⟩,
 ⟨some 16, none, .bin .shr (.t 15) (.c (.int .u64 4)), []⟩,
 ⟨some 17, none, .mv (.t 0), []⟩,
 ⟨some 18, none, .bin .add (.t 16) (.t 17), []⟩,
 ⟨some 19, none, .bin .and (.t 18) (.c (.int .u64 1085102592571150095)), []⟩,
 ⟨some 0, none, .mv (.t 19), []⟩])
 (.seq
 (.ops 4 [⟨some 20, none, .mv (.t 0), []⟩,
 ⟨some 21, none, .mv (.t 0), []⟩,
 ⟨some 22, none, .bin .shr (.t 21) (.c (.int .u64 8)), []⟩,
 ⟨some 23, none, .bin .add (.t 20) (.t 22), []⟩,
 ⟨some 0, none, .mv (.t 23), []⟩])
 (.seq
 (.ops 5 [⟨some 24, none, .mv (.t 0), []⟩,
 ⟨some 25, none, .mv (.t 0), []⟩,
 ⟨some 26, none, .bin .shr (.t 25) (.c (.int .u64 16)), []⟩,
 ⟨some 27, none, .bin .add (.t 24) (.t 26), []⟩,
 ⟨some 0, none, .mv (.t 27), []⟩])
 (.seq
 (.ops 6 [⟨some 28, none, .mv (.t 0), []⟩,
 ⟨some 29, none, .mv (.t 0), []⟩,
 ⟨some 30, none, .bin .shr (.t 29) (.c (.int .u64 32)), []⟩,
 ⟨some 31, none, .bin .add (.t 28) (.t 30), []⟩,
 ⟨some 0, none, .mv (.t 31), []⟩])
 (.seq
 (.ops 7 [⟨some 32, none, .mv (.t 0), []⟩,
 ⟨some 33, none, .cvi .i64 (.t 32), []⟩,
 ⟨some 34, none, .bin .and (.t 33) (.c (.int .i64 127)), []⟩,
 ⟨some 2, none, .mv (.t 34), []⟩])
 .ret))))))))⟩
theorem F223_code : cfgA.code 223 = some F223 := by kernel_rfl

/-- slices.ContainsFunc[[]ticketline/api.Mode,ticketline/api.Mode] -/
noncomputable def F224 : AFn := ⟨9, [.tmp 4], (.seq
 (.ops 0 [⟨some 4, none, .mv (.c (.bool false)), []⟩])
 (.seq
 (.ops 1 [⟨some 5, none, .mv (.t 0), []⟩,
 ⟨some 6, none, .mv (.t 1), []⟩,
 ⟨some 7, none, .call 227 [.t 5, .t 6], []⟩,
 ⟨some 8, none, .bin .geq (.t 7) (.c (.int .i64 0)), []⟩,
 ⟨some 4, none, .mv (.t 8), []⟩])
 .ret))⟩
theorem F224_code : cfgA.code 224 = some F224 := by kernel_rfl

end Den
