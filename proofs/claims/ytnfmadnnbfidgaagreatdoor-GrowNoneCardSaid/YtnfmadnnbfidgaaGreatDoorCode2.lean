/- Functions of the program, as den reads them. -/
import Derived.Test.YtnfmadnnbfidgaaGreatDoorA
namespace Den
open Go Go.Proofs
set_option maxRecDepth 1000000

/-- slices.IndexFunc[[]ticketline/api.Mode,ticketline/api.Mode]: the round 0 -/
noncomputable def B227x0 : AC := (.seq
 (.ops 2 [⟨some 9, none, .bin .lss (.t 8) (.t 7), []⟩])
 (.seq
 (.cond (.t 9)
 .skip
 (.exit 0))
 (.seq
 (.block 1
 (.seq
 (.ops 3 [⟨some 10, none, .mv (.t 8), []⟩,
 ⟨some 5, none, .mv (.t 10), []⟩])
 (.seq
 (.ops 4 [⟨some 11, none, .mv (.t 1), []⟩,
 ⟨some 12, none, .mv (.t 0), []⟩,
 ⟨some 13, none, .mv (.t 5), []⟩,
 ⟨some 14, none, .ixa none 1 (.t 12) (.t 13), []⟩,
 ⟨some 15, none, .ld 1 false (.t 14), []⟩,
 ⟨some 16, none, .calld (.t 11) [.t 15], []⟩])
 (.cond (.t 16)
 (.seq
 (.ops 5 [⟨some 17, none, .mv (.t 5), []⟩,
 ⟨some 4, none, .mv (.t 17), []⟩])
 .ret)
 .skip))))
 (.ops 6 [⟨some 18, none, .bin .add (.t 8) (.c (.int .i64 1)), []⟩,
 ⟨some 8, none, .mv (.t 18), []⟩]))))
/-- slices.IndexFunc[[]ticketline/api.Mode,ticketline/api.Mode] -/
noncomputable def F227 : AFn := ⟨19, [.tmp 4], (.seq
 (.ops 0 [⟨some 4, none, .mv (.c (.int .i64 0)), []⟩])
 (.seq
 (.seq
 (.ops 1 [⟨some 6, none, .mv (.t 0), []⟩,
 ⟨some 7, none, .len .slice (.t 6), []⟩,
 ⟨some 8, none, .mv (.c (.int .i64 0)), []⟩])
 (.block 0
 (.loop [] B227x0)))
 (.seq
 (.ops 7 [⟨some 4, none, .mv (.c (.int .i64 (-1))), []⟩])
 .ret)))⟩
theorem F227_code : cfgA.code 227 = some F227 := by kernel_rfl

/-- (*ticketline/mcs.Release).Done -/
noncomputable def F245 : AFn := ⟨11, [.tmp 2], (.seq
 (.ops 0 [⟨some 2, none, .mv (.c (.bool false)), []⟩])
 (.seq
 (.ops 1 [⟨some 3, none, .mv (.t 0), []⟩,
 ⟨some 4, none, .eqn .ptr false (.t 3), []⟩,
 ⟨some 5, none, .mv (.t 4), []⟩,
 ⟨some 6, some (5, false), .mv (.t 0), []⟩,
 ⟨some 7, some (5, false), .nilc (.t 6) (mok Tryz.prog), []⟩,
 ⟨some 8, some (5, false), .fld 0 (.t 7), []⟩,
 ⟨some 9, some (5, false), .call 248 [.t 8], []⟩,
 ⟨some 10, none, .pick (.t 5) (.c (.bool true)) (.t 9), []⟩,
 ⟨some 2, none, .mv (.t 10), []⟩])
 .ret))⟩
theorem F245_code : cfgA.code 245 = some F245 := by kernel_rfl

/-- (*ticketline/mcs.Release).Step -/
noncomputable def F247 : AFn := ⟨149, [.tmp 4, .tmp 5], (.seq
 (.ops 0 [⟨some 4, none, .mv (.c (.bool false)), []⟩,
 ⟨some 5, none, .mv (.c (.int .i64 0)), []⟩])
 (.seq
 (.seq
 (.ops 1 [⟨some 14, none, .mv (.t 0), []⟩,
 ⟨some 15, none, .eqn .ptr false (.t 14), []⟩])
 (.cond (.t 15)
 (.seq
 (.ops 2 [⟨some 4, none, .mv (.c (.bool false)), []⟩,
 ⟨some 5, none, .mv (.c (.int .i64 1)), []⟩])
 .ret)
 .skip))
 (.seq
 (.seq
 (.ops 3 [⟨some 16, none, .mv (.t 0), []⟩,
 ⟨some 17, none, .nilc (.t 16) (mok Tryz.prog), []⟩,
 ⟨some 18, none, .fld 0 (.t 17), []⟩,
 ⟨some 19, none, .mv (.t 1), []⟩,
 ⟨some 20, none, .call 250 [.t 18, .t 19], []⟩,
 ⟨some 6, none, .mv (.t 20), []⟩])
 (.seq
 (.ops 4 [⟨some 21, none, .mv (.t 6), []⟩,
 ⟨some 22, none, .bin .neq (.t 21) (.c (.int .i64 0)), []⟩])
 (.cond (.t 22)
 (.seq
 (.ops 5 [⟨some 23, none, .mv (.t 6), []⟩,
 ⟨some 4, none, .mv (.c (.bool false)), []⟩,
 ⟨some 5, none, .mv (.t 23), []⟩])
 .ret)
 .skip)))
 (.seq
 (.seq
 (.ops 6 [⟨some 24, none, .mv (.t 0), []⟩,
 ⟨some 25, none, .nilc (.t 24) (mok Tryz.prog), []⟩,
 ⟨some 26, none, .fld 0 (.t 25), []⟩,
 ⟨some 27, none, .fld 3 (.t 26), []⟩,
 ⟨some 28, none, .ld 1 false (.t 27), []⟩])
 (.block 0
 (.seq
 (.seq
 (.ops 7 [⟨some 30, none, .bin .eql (.t 28) (.c (.int .i64 1)), []⟩,
 ⟨some 29, none, .mv (.t 30), []⟩])
 (.cond (.t 29)
 .skip
 (.ops 8 [⟨some 31, none, .bin .eql (.t 28) (.c (.int .i64 3)), []⟩,
 ⟨some 29, none, .mv (.t 31), []⟩])))
 (.cond (.t 29)
 (.seq
 (.ops 9 [⟨some 33, none, .mv (.t 1), []⟩,
 ⟨some 34, none, .mv (.t 0), []⟩,
 ⟨some 35, none, .nilc (.t 34) (mok Tryz.prog), []⟩,
 ⟨some 36, none, .fld 0 (.t 35), []⟩,
 ⟨some 37, none, .fld 0 (.t 36), []⟩,
 ⟨some 38, none, .ld 1 false (.t 37), []⟩,
 ⟨some 39, none, .mv (.t 0), []⟩,
 ⟨some 40, none, .nilc (.t 39) (mok Tryz.prog), []⟩,
 ⟨some 41, none, .fld 0 (.t 40), []⟩,
 ⟨some 42, none, .fld 2 (.t 41), []⟩,
 ⟨some 43, none, .ld 1 false (.t 42), []⟩,
 ⟨some 45, none, .mkv "Load" (.t 33), []⟩,
 ⟨some 46, none, .nilc (.t 45) (mok Tryz.prog), []⟩,
 ⟨some 47, none, .mv (.t 33), []⟩,
 ⟨some 44, none, .call 163 [.t 38, .t 43], []⟩,
 ⟨some 48, none, .invk (.t 47) "Load" [.t 44], []⟩,
 ⟨some 32, none, .mv (.t 48), []⟩,
 ⟨some 49, none, .ext (.t 32) 0, []⟩,
 ⟨some 50, none, .ext (.t 32) 1, []⟩,
 ⟨some 7, none, .mv (.t 49), []⟩,
 ⟨some 8, none, .mv (.t 50), []⟩])
 (.seq
 (.block 1
 (.seq
 (.ops 10 [⟨some 52, none, .mv (.t 8), []⟩,
 ⟨some 53, none, .bin .neq (.t 52) (.c (.int .i64 0)), []⟩,
 ⟨some 51, none, .mv (.t 53), []⟩])
 (.cond (.t 51)
 (.seq
 (.ops 11 [⟨some 54, none, .mv (.t 8), []⟩,
 ⟨some 4, none, .mv (.c (.bool false)), []⟩,
 ⟨some 5, none, .mv (.t 54), []⟩])
 .ret)
 (.seq
 (.ops 12 [⟨some 56, none, .mv (.t 7), []⟩,
 ⟨some 57, none, .bin .neq (.t 56) (.c (.int .u64 0)), []⟩,
 ⟨some 55, none, .mv (.t 57), []⟩])
 (.cond (.t 55)
 (.seq
 (.ops 13 [⟨some 58, none, .mv (.t 0), []⟩,
 ⟨some 59, none, .mv (.t 7), []⟩,
 ⟨some 60, none, .nilc (.t 58) (mok Tryz.prog), []⟩,
 ⟨some 61, none, .fld 0 (.t 60), []⟩,
 ⟨some 62, none, .fld 4 (.t 61), []⟩,
 ⟨none, none, .st 1 (.t 62) (.t 59), []⟩])
 (.seq
 (.ops 14 [⟨some 63, none, .mv (.t 0), []⟩,
 ⟨some 64, none, .nilc (.t 63) (mok Tryz.prog), []⟩,
 ⟨some 65, none, .fld 0 (.t 64), []⟩,
 ⟨some 66, none, .mv (.t 8), []⟩,
 ⟨some 67, none, .call 251 [.t 65, .t 66, .c (.int .i64 4)], []⟩,
 ⟨some 68, none, .ext (.t 67) 0, []⟩,
 ⟨some 69, none, .ext (.t 67) 1, []⟩,
 ⟨some 4, none, .mv (.t 68), []⟩,
 ⟨some 5, none, .mv (.t 69), []⟩])
 .ret))
 .skip)))))
 (.seq
 (.ops 15 [⟨some 70, none, .mv (.t 0), []⟩,
 ⟨some 71, none, .nilc (.t 70) (mok Tryz.prog), []⟩,
 ⟨some 72, none, .fld 0 (.t 71), []⟩,
 ⟨some 73, none, .fld 3 (.t 72), []⟩,
 ⟨some 74, none, .ld 1 false (.t 73), []⟩,
 ⟨some 75, none, .bin .eql (.t 74) (.c (.int .i64 3)), []⟩,
 ⟨some 9, none, .mv (.t 75), []⟩])
 (.seq
 (.ops 16 [⟨some 76, none, .mv (.t 0), []⟩,
 ⟨some 77, none, .mv (.t 0), []⟩,
 ⟨some 78, none, .nilc (.t 77) (mok Tryz.prog), []⟩,
 ⟨some 79, none, .fld 0 (.t 78), []⟩,
 ⟨some 80, none, .fld 3 (.t 79), []⟩,
 ⟨some 81, none, .ld 1 false (.t 80), []⟩,
 ⟨some 82, none, .mx true (.t 81) [.c (.int .i64 2)], []⟩,
 ⟨some 83, none, .nilc (.t 76) (mok Tryz.prog), []⟩,
 ⟨some 84, none, .fld 0 (.t 83), []⟩,
 ⟨some 85, none, .fld 3 (.t 84), []⟩,
 ⟨none, none, .st 1 (.t 85) (.t 82), []⟩])
 (.seq
 (.ops 17 [⟨some 86, none, .mv (.t 9), []⟩,
 ⟨some 4, none, .mv (.t 86), []⟩,
 ⟨some 5, none, .mv (.c (.int .i64 0)), []⟩])
 .ret)))))
 (.seq
 (.ops 18 [⟨some 88, none, .bin .eql (.t 28) (.c (.int .i64 2)), []⟩,
 ⟨some 87, none, .mv (.t 88), []⟩])
 (.cond (.t 87)
 (.seq
 (.ops 19 [⟨some 90, none, .mv (.t 1), []⟩,
 ⟨some 91, none, .mv (.t 0), []⟩,
 ⟨some 92, none, .nilc (.t 91) (mok Tryz.prog), []⟩,
 ⟨some 93, none, .fld 0 (.t 92), []⟩,
 ⟨some 94, none, .fld 1 (.t 93), []⟩,
 ⟨some 95, none, .ld 1 false (.t 94), []⟩,
 ⟨some 96, none, .mv (.t 0), []⟩,
 ⟨some 97, none, .nilc (.t 96) (mok Tryz.prog), []⟩,
 ⟨some 98, none, .fld 0 (.t 97), []⟩,
 ⟨some 100, none, .mkv "CAS" (.t 90), []⟩,
 ⟨some 101, none, .nilc (.t 100) (mok Tryz.prog), []⟩,
 ⟨some 102, none, .mv (.t 90), []⟩,
 ⟨some 99, none, .call 252 [.t 98], [(95, .ld 1 false (.t 94))]⟩,
 ⟨some 103, none, .invk (.t 102) "CAS" [.t 95, .t 99, .c (.int .u64 0)], []⟩,
 ⟨some 89, none, .mv (.t 103), []⟩,
 ⟨some 104, none, .ext (.t 89) 0, []⟩,
 ⟨some 105, none, .ext (.t 89) 1, []⟩,
 ⟨some 10, none, .mv (.t 104), []⟩,
 ⟨some 11, none, .mv (.t 105), []⟩])
 (.seq
 (.seq
 (.ops 20 [⟨some 106, none, .mv (.t 10), []⟩])
 (.cond (.t 106)
 (.seq
 (.ops 21 [⟨some 107, none, .mv (.t 0), []⟩,
 ⟨some 108, none, .nilc (.t 107) (mok Tryz.prog), []⟩,
 ⟨some 109, none, .fld 0 (.t 108), []⟩,
 ⟨some 110, none, .mv (.t 11), []⟩,
 ⟨some 111, none, .call 253 [.t 109, .t 110], []⟩,
 ⟨some 112, none, .ext (.t 111) 0, []⟩,
 ⟨some 113, none, .ext (.t 111) 1, []⟩,
 ⟨some 4, none, .mv (.t 112), []⟩,
 ⟨some 5, none, .mv (.t 113), []⟩])
 .ret)
 .skip))
 (.seq
 (.ops 22 [⟨some 114, none, .mv (.t 0), []⟩,
 ⟨some 115, none, .nilc (.t 114) (mok Tryz.prog), []⟩,
 ⟨some 116, none, .fld 0 (.t 115), []⟩,
 ⟨some 117, none, .mv (.t 11), []⟩,
 ⟨some 118, none, .call 251 [.t 116, .t 117, .c (.int .i64 3)], []⟩,
 ⟨some 119, none, .ext (.t 118) 0, []⟩,
 ⟨some 120, none, .ext (.t 118) 1, []⟩,
 ⟨some 4, none, .mv (.t 119), []⟩,
 ⟨some 5, none, .mv (.t 120), []⟩])
 .ret)))
 .skip))))))
 (.seq
 (.ops 23 [⟨some 122, none, .mv (.t 0), []⟩,
 ⟨some 123, none, .nilc (.t 122) (mok Tryz.prog), []⟩,
 ⟨some 124, none, .fld 0 (.t 123), []⟩,
 ⟨some 125, none, .call 254 [.t 124], []⟩,
 ⟨some 121, none, .mv (.t 125), []⟩,
 ⟨some 126, none, .ext (.t 121) 0, []⟩,
 ⟨some 127, none, .ext (.t 121) 1, []⟩,
 ⟨some 12, none, .mv (.t 126), []⟩,
 ⟨some 13, none, .mv (.t 127), []⟩])
 (.seq
 (.seq
 (.ops 24 [⟨some 128, none, .mv (.t 13), []⟩,
 ⟨some 129, none, .bin .neq (.t 128) (.c (.int .i64 0)), []⟩])
 (.cond (.t 129)
 (.seq
 (.ops 25 [⟨some 130, none, .mv (.t 13), []⟩,
 ⟨some 4, none, .mv (.c (.bool false)), []⟩,
 ⟨some 5, none, .mv (.t 130), []⟩])
 .ret)
 .skip))
 (.seq
 (.ops 26 [⟨some 131, none, .mv (.t 0), []⟩,
 ⟨some 132, none, .nilc (.t 131) (mok Tryz.prog), []⟩,
 ⟨some 133, none, .fld 0 (.t 132), []⟩,
 ⟨some 134, none, .mv (.t 1), []⟩,
 ⟨some 135, none, .mv (.t 0), []⟩,
 ⟨some 136, none, .nilc (.t 135) (mok Tryz.prog), []⟩,
 ⟨some 137, none, .fld 0 (.t 136), []⟩,
 ⟨some 138, none, .fld 0 (.t 137), []⟩,
 ⟨some 139, none, .ld 1 false (.t 138), []⟩,
 ⟨some 140, none, .mv (.t 12), []⟩,
 ⟨some 142, none, .mkv "Store" (.t 134), []⟩,
 ⟨some 143, none, .nilc (.t 142) (mok Tryz.prog), []⟩,
 ⟨some 144, none, .mv (.t 134), []⟩,
 ⟨some 141, none, .call 255 [.t 139, .t 140], []⟩,
 ⟨some 145, none, .invk (.t 144) "Store" [.t 141, .c (.int .u64 0)], []⟩,
 ⟨some 146, none, .call 253 [.t 133, .t 145], []⟩,
 ⟨some 147, none, .ext (.t 146) 0, []⟩,
 ⟨some 148, none, .ext (.t 146) 1, []⟩,
 ⟨some 4, none, .mv (.t 147), []⟩,
 ⟨some 5, none, .mv (.t 148), []⟩])
 .ret)))))))⟩
theorem F247_code : cfgA.code 247 = some F247 := by kernel_rfl

/-- (*ticketline/mcs.run).over -/
noncomputable def F248 : AFn := ⟨14, [.tmp 2], (.seq
 (.ops 0 [⟨some 2, none, .mv (.c (.bool false)), []⟩])
 (.seq
 (.ops 1 [⟨some 3, none, .mv (.t 0), []⟩,
 ⟨some 4, none, .nilc (.t 3) (mok Tryz.prog), []⟩,
 ⟨some 5, none, .fld 0 (.t 4), []⟩,
 ⟨some 6, none, .ld 1 false (.t 5), []⟩,
 ⟨some 7, none, .eqn .ptr false (.t 6), []⟩,
 ⟨some 8, none, .mv (.t 7), []⟩,
 ⟨some 9, some (8, false), .mv (.t 0), []⟩,
 ⟨some 10, some (8, false), .nilc (.t 9) (mok Tryz.prog), []⟩,
 ⟨some 11, some (8, false), .fld 5 (.t 10), []⟩,
 ⟨some 12, some (8, false), .ld 1 false (.t 11), []⟩,
 ⟨some 13, none, .pick (.t 8) (.c (.bool true)) (.t 12), []⟩,
 ⟨some 2, none, .mv (.t 13), []⟩])
 .ret))⟩
theorem F248_code : cfgA.code 248 = some F248 := by kernel_rfl

/-- (*ticketline/mcs.run).ready -/
noncomputable def F250 : AFn := ⟨20, [.tmp 4], (.seq
 (.ops 0 [⟨some 4, none, .mv (.c (.int .i64 0)), []⟩])
 (.seq
 (.block 0
 (.seq
 (.ops 1 [⟨some 6, none, .mv (.t 0), []⟩,
 ⟨some 7, none, .nilc (.t 6) (mok Tryz.prog), []⟩,
 ⟨some 8, none, .fld 0 (.t 7), []⟩,
 ⟨some 9, none, .ld 1 false (.t 8), []⟩,
 ⟨some 10, none, .eqn .ptr false (.t 9), []⟩,
 ⟨some 11, none, .mv (.t 10), []⟩,
 ⟨some 12, some (11, false), .mv (.t 1), []⟩,
 ⟨some 13, some (11, false), .eqn .iface false (.t 12), []⟩,
 ⟨some 14, none, .pick (.t 11) (.c (.bool true)) (.t 13), []⟩,
 ⟨some 5, none, .mv (.t 14), []⟩])
 (.cond (.t 5)
 (.seq
 (.ops 2 [⟨some 4, none, .mv (.c (.int .i64 1)), []⟩])
 .ret)
 (.seq
 (.ops 3 [⟨some 16, none, .mv (.t 0), []⟩,
 ⟨some 17, none, .nilc (.t 16) (mok Tryz.prog), []⟩,
 ⟨some 18, none, .fld 5 (.t 17), []⟩,
 ⟨some 19, none, .ld 1 false (.t 18), []⟩,
 ⟨some 15, none, .mv (.t 19), []⟩])
 (.cond (.t 15)
 (.seq
 (.ops 4 [⟨some 4, none, .mv (.c (.int .i64 17)), []⟩])
 .ret)
 .skip)))))
 (.seq
 (.ops 5 [⟨some 4, none, .mv (.c (.int .i64 0)), []⟩])
 .ret)))⟩
theorem F250_code : cfgA.code 250 = some F250 := by kernel_rfl

/-- (*ticketline/mcs.run).goes -/
noncomputable def F251 : AFn := ⟨15, [.tmp 6, .tmp 7], (.seq
 (.ops 0 [⟨some 6, none, .mv (.c (.bool false)), []⟩,
 ⟨some 7, none, .mv (.c (.int .i64 0)), []⟩])
 (.seq
 (.seq
 (.ops 1 [⟨some 8, none, .mv (.t 1), []⟩,
 ⟨some 9, none, .bin .eql (.t 8) (.c (.int .i64 0)), []⟩])
 (.cond (.t 9)
 (.ops 2 [⟨some 10, none, .mv (.t 0), []⟩,
 ⟨some 11, none, .mv (.t 2), []⟩,
 ⟨some 12, none, .nilc (.t 10) (mok Tryz.prog), []⟩,
 ⟨some 13, none, .fld 3 (.t 12), []⟩,
 ⟨none, none, .st 1 (.t 13) (.t 11), []⟩])
 .skip))
 (.seq
 (.ops 3 [⟨some 14, none, .mv (.t 1), []⟩,
 ⟨some 6, none, .mv (.c (.bool false)), []⟩,
 ⟨some 7, none, .mv (.t 14), []⟩])
 .ret)))⟩
theorem F251_code : cfgA.code 251 = some F251 := by kernel_rfl

/-- (*ticketline/mcs.run).ref -/
noncomputable def F252 : AFn := ⟨18, [.tmp 2], (.seq
 (.ops 0 [⟨some 2, none, .mv (.c (.int .u64 0)), []⟩])
 (.seq
 (.ops 1 [⟨some 6, none, .mv (.t 0), []⟩,
 ⟨some 7, none, .nilc (.t 6) (mok Tryz.prog), []⟩,
 ⟨some 8, none, .fld 0 (.t 7), []⟩,
 ⟨some 9, none, .ld 1 false (.t 8), []⟩,
 ⟨some 10, none, .mv (.t 0), []⟩,
 ⟨some 11, none, .nilc (.t 10) (mok Tryz.prog), []⟩,
 ⟨some 12, none, .fld 2 (.t 11), []⟩,
 ⟨some 13, none, .ld 1 false (.t 12), []⟩,
 ⟨some 14, none, .call 256 [.t 9, .t 13], []⟩,
 ⟨some 5, none, .mv (.t 14), []⟩,
 ⟨some 15, none, .ext (.t 5) 0, []⟩,
 ⟨some 16, none, .ext (.t 5) 1, []⟩,
 ⟨some 3, none, .mv (.t 15), []⟩,
 ⟨some 4, none, .mv (.t 16), []⟩])
 (.seq
 (.ops 2 [⟨some 17, none, .mv (.t 3), []⟩,
 ⟨some 2, none, .mv (.t 17), []⟩])
 .ret)))⟩
theorem F252_code : cfgA.code 252 = some F252 := by kernel_rfl

/-- (*ticketline/mcs.run).ends -/
noncomputable def F253 : AFn := ⟨12, [.tmp 4, .tmp 5], (.seq
 (.ops 0 [⟨some 4, none, .mv (.c (.bool false)), []⟩,
 ⟨some 5, none, .mv (.c (.int .i64 0)), []⟩])
 (.seq
 (.ops 1 [⟨some 6, none, .mv (.t 0), []⟩,
 ⟨some 7, none, .mv (.t 1), []⟩,
 ⟨some 8, none, .bin .eql (.t 7) (.c (.int .i64 0)), []⟩,
 ⟨some 9, none, .nilc (.t 6) (mok Tryz.prog), []⟩,
 ⟨some 10, none, .fld 5 (.t 9), []⟩,
 ⟨none, none, .st 1 (.t 10) (.t 8), []⟩])
 (.seq
 (.ops 2 [⟨some 11, none, .mv (.t 1), []⟩,
 ⟨some 4, none, .mv (.c (.bool false)), []⟩,
 ⟨some 5, none, .mv (.t 11), []⟩])
 .ret)))⟩
theorem F253_code : cfgA.code 253 = some F253 := by kernel_rfl

/-- (*ticketline/qnode.Nodes).Wait -/
noncomputable def F255 : AFn := ⟨8, [.tmp 4], (.seq
 (.ops 0 [⟨some 4, none, .mv (.c (.int .i64 0)), []⟩])
 (.seq
 (.ops 1 [⟨some 5, none, .mv (.t 0), []⟩,
 ⟨some 6, none, .mv (.t 1), []⟩,
 ⟨some 7, none, .call 202 [.t 5, .t 6, .c (.int .i64 1)], []⟩,
 ⟨some 4, none, .mv (.t 7), []⟩])
 .ret))⟩
theorem F255_code : cfgA.code 255 = some F255 := by kernel_rfl

/-- (*ticketline/qnode.Nodes).Ref -/
noncomputable def F256 : AFn := ⟨17, [.tmp 4, .tmp 5], (.seq
 (.ops 0 [⟨some 4, none, .mv (.c (.int .u64 0)), []⟩,
 ⟨some 5, none, .mv (.c (.int .i64 0)), []⟩])
 (.seq
 (.block 0
 (.seq
 (.ops 1 [⟨some 7, none, .mv (.t 0), []⟩,
 ⟨some 8, none, .call 166 [.t 7], []⟩,
 ⟨some 6, none, .mv (.t 8), []⟩])
 (.cond (.t 6)
 (.seq
 (.ops 2 [⟨some 4, none, .mv (.c (.int .u64 0)), []⟩,
 ⟨some 5, none, .mv (.c (.int .i64 1)), []⟩])
 .ret)
 (.seq
 (.ops 3 [⟨some 10, none, .mv (.t 0), []⟩,
 ⟨some 11, none, .mv (.t 1), []⟩,
 ⟨some 12, none, .call 219 [.t 10, .t 11], []⟩,
 ⟨some 13, none, .un .not (.t 12), []⟩,
 ⟨some 9, none, .mv (.t 13), []⟩])
 (.cond (.t 9)
 (.seq
 (.ops 4 [⟨some 4, none, .mv (.c (.int .u64 0)), []⟩,
 ⟨some 5, none, .mv (.c (.int .i64 9)), []⟩])
 .ret)
 .skip)))))
 (.seq
 (.ops 5 [⟨some 14, none, .mv (.t 1), []⟩,
 ⟨some 15, none, .cvi .u64 (.t 14), []⟩,
 ⟨some 16, none, .bin .add (.t 15) (.c (.int .u64 1)), []⟩,
 ⟨some 4, none, .mv (.t 16), []⟩,
 ⟨some 5, none, .mv (.c (.int .i64 0)), []⟩])
 .ret)))⟩
theorem F256_code : cfgA.code 256 = some F256 := by kernel_rfl

/-- (*ticketline/version.Write).Done -/
noncomputable def F258 : AFn := ⟨18, [.tmp 2], (.seq
 (.ops 0 [⟨some 2, none, .mv (.c (.bool false)), []⟩])
 (.seq
 (.ops 1 [⟨some 3, none, .mv (.t 0), []⟩,
 ⟨some 4, none, .eqn .ptr false (.t 3), []⟩,
 ⟨some 5, none, .mv (.t 4), []⟩,
 ⟨some 6, some (5, false), .mv (.t 0), []⟩,
 ⟨some 7, some (5, false), .nilc (.t 6) (mok Tryz.prog), []⟩,
 ⟨some 8, some (5, false), .fld 0 (.t 7), []⟩,
 ⟨some 9, some (5, false), .ld 1 false (.t 8), []⟩,
 ⟨some 10, some (5, false), .un .not (.t 9), []⟩,
 ⟨some 11, none, .pick (.t 5) (.c (.bool true)) (.t 10), []⟩,
 ⟨some 12, none, .mv (.t 11), []⟩,
 ⟨some 13, some (12, false), .mv (.t 0), []⟩,
 ⟨some 14, some (12, false), .nilc (.t 13) (mok Tryz.prog), []⟩,
 ⟨some 15, some (12, false), .fld 6 (.t 14), []⟩,
 ⟨some 16, some (12, false), .ld 1 false (.t 15), []⟩,
 ⟨some 17, none, .pick (.t 12) (.c (.bool true)) (.t 16), []⟩,
 ⟨some 2, none, .mv (.t 17), []⟩])
 .ret))⟩
theorem F258_code : cfgA.code 258 = some F258 := by kernel_rfl

/-- (*ticketline/version.Write).Step -/
noncomputable def F260 : AFn := ⟨139, [.tmp 4, .tmp 5], (.seq
 (.ops 0 [⟨some 4, none, .mv (.c (.bool false)), []⟩,
 ⟨some 5, none, .mv (.c (.int .i64 0)), []⟩])
 (.seq
 (.block 0
 (.seq
 (.ops 1 [⟨some 11, none, .mv (.t 0), []⟩,
 ⟨some 12, none, .eqn .ptr false (.t 11), []⟩,
 ⟨some 13, none, .mv (.t 12), []⟩,
 ⟨some 14, some (13, false), .mv (.t 0), []⟩,
 ⟨some 15, some (13, false), .nilc (.t 14) (mok Tryz.prog), []⟩,
 ⟨some 16, some (13, false), .fld 0 (.t 15), []⟩,
 ⟨some 17, some (13, false), .ld 1 false (.t 16), []⟩,
 ⟨some 18, some (13, false), .un .not (.t 17), []⟩,
 ⟨some 19, none, .pick (.t 13) (.c (.bool true)) (.t 18), []⟩,
 ⟨some 20, none, .mv (.t 19), []⟩,
 ⟨some 21, some (20, false), .mv (.t 1), []⟩,
 ⟨some 22, some (20, false), .eqn .iface false (.t 21), []⟩,
 ⟨some 23, none, .pick (.t 20) (.c (.bool true)) (.t 22), []⟩,
 ⟨some 10, none, .mv (.t 23), []⟩])
 (.cond (.t 10)
 (.seq
 (.ops 2 [⟨some 4, none, .mv (.c (.bool false)), []⟩,
 ⟨some 5, none, .mv (.c (.int .i64 1)), []⟩])
 .ret)
 (.seq
 (.ops 3 [⟨some 25, none, .mv (.t 0), []⟩,
 ⟨some 26, none, .nilc (.t 25) (mok Tryz.prog), []⟩,
 ⟨some 27, none, .fld 6 (.t 26), []⟩,
 ⟨some 28, none, .ld 1 false (.t 27), []⟩,
 ⟨some 24, none, .mv (.t 28), []⟩])
 (.cond (.t 24)
 (.seq
 (.ops 4 [⟨some 4, none, .mv (.c (.bool false)), []⟩,
 ⟨some 5, none, .mv (.c (.int .i64 17)), []⟩])
 .ret)
 .skip)))))
 (.seq
 (.ops 5 [⟨some 6, none, .mv (.c (.int .i64 0)), []⟩])
 (.seq
 (.seq
 (.ops 6 [⟨some 29, none, .mv (.t 0), []⟩,
 ⟨some 30, none, .nilc (.t 29) (mok Tryz.prog), []⟩,
 ⟨some 31, none, .fld 5 (.t 30), []⟩,
 ⟨some 32, none, .ld 1 false (.t 31), []⟩,
 ⟨some 33, none, .bin .sub (.t 32) (.c (.int .i64 2)), []⟩,
 ⟨some 7, none, .mv (.t 33), []⟩])
 (.block 1
 (.seq
 (.ops 9 [⟨some 54, none, .mv (.t 0), []⟩,
 ⟨some 55, none, .nilc (.t 54) (mok Tryz.prog), []⟩,
 ⟨some 56, none, .fld 5 (.t 55), []⟩,
 ⟨some 57, none, .ld 1 false (.t 56), []⟩,
 ⟨some 58, none, .bin .eql (.t 57) (.c (.int .i64 0)), []⟩,
 ⟨some 53, none, .mv (.t 58), []⟩])
 (.cond (.t 53)
 (.seq
 (.ops 10 [⟨some 60, none, .mv (.t 1), []⟩,
 ⟨some 61, none, .mv (.t 0), []⟩,
 ⟨some 62, none, .nilc (.t 61) (mok Tryz.prog), []⟩,
 ⟨some 63, none, .fld 1 (.t 62), []⟩,
 ⟨some 64, none, .ld 1 false (.t 63), []⟩,
 ⟨some 65, none, .mkv "Load" (.t 60), []⟩,
 ⟨some 66, none, .nilc (.t 65) (mok Tryz.prog), []⟩,
 ⟨some 67, none, .mv (.t 60), []⟩,
 ⟨some 68, none, .invk (.t 67) "Load" [.t 64], []⟩,
 ⟨some 59, none, .mv (.t 68), []⟩,
 ⟨some 69, none, .ext (.t 59) 0, []⟩,
 ⟨some 70, none, .ext (.t 59) 1, []⟩,
 ⟨some 8, none, .mv (.t 69), []⟩,
 ⟨some 9, none, .mv (.t 70), []⟩])
 (.seq
 (.seq
 (.ops 11 [⟨some 71, none, .mv (.t 9), []⟩,
 ⟨some 6, none, .mv (.t 71), []⟩])
 (.seq
 (.ops 12 [⟨some 72, none, .mv (.t 6), []⟩,
 ⟨some 73, none, .bin .eql (.t 72) (.c (.int .i64 0)), []⟩,
 ⟨some 74, none, .mv (.t 73), []⟩,
 ⟨some 75, some (74, true), .mv (.t 8), []⟩,
 ⟨some 76, some (74, true), .call 261 [.t 75], []⟩,
 ⟨some 77, some (74, true), .un .not (.t 76), []⟩,
 ⟨some 78, none, .pick (.t 74) (.t 77) (.c (.bool false)), []⟩])
 (.cond (.t 78)
 (.ops 13 [⟨some 6, none, .mv (.c (.int .i64 8)), []⟩])
 .skip)))
 (.ops 14 [⟨some 79, none, .mv (.t 0), []⟩,
 ⟨some 80, none, .mv (.t 8), []⟩,
 ⟨some 81, none, .nilc (.t 79) (mok Tryz.prog), []⟩,
 ⟨some 82, none, .fld 4 (.t 81), []⟩,
 ⟨none, none, .st 1 (.t 82) (.t 80), []⟩])))
 (.seq
 (.ops 15 [⟨some 84, none, .mv (.t 0), []⟩,
 ⟨some 85, none, .nilc (.t 84) (mok Tryz.prog), []⟩,
 ⟨some 86, none, .fld 5 (.t 85), []⟩,
 ⟨some 87, none, .ld 1 false (.t 86), []⟩,
 ⟨some 88, none, .bin .eql (.t 87) (.c (.int .i64 1)), []⟩,
 ⟨some 83, none, .mv (.t 88), []⟩])
 (.cond (.t 83)
 (.ops 16 [⟨some 89, none, .mv (.t 1), []⟩,
 ⟨some 90, none, .mv (.t 0), []⟩,
 ⟨some 91, none, .nilc (.t 90) (mok Tryz.prog), []⟩,
 ⟨some 92, none, .fld 1 (.t 91), []⟩,
 ⟨some 93, none, .ld 1 false (.t 92), []⟩,
 ⟨some 94, none, .mv (.t 0), []⟩,
 ⟨some 95, none, .nilc (.t 94) (mok Tryz.prog), []⟩,
 ⟨some 96, none, .fld 4 (.t 95), []⟩,
 ⟨some 97, none, .ld 1 false (.t 96), []⟩,
 ⟨some 98, none, .bin .add (.t 97) (.c (.int .u64 1)), []⟩,
 ⟨some 99, none, .mkv "Store" (.t 89), []⟩,
 ⟨some 100, none, .nilc (.t 99) (mok Tryz.prog), []⟩,
 ⟨some 101, none, .mv (.t 89), []⟩,
 ⟨some 102, none, .invk (.t 101) "Store" [.t 93, .t 98], []⟩,
 ⟨some 6, none, .mv (.t 102), []⟩])
 (.seq
 (.ops 17 [⟨some 104, none, .mv (.t 7), []⟩,
 ⟨some 105, none, .mv (.t 0), []⟩,
 ⟨some 106, none, .nilc (.t 105) (mok Tryz.prog), []⟩,
 ⟨some 107, none, .fld 3 (.t 106), []⟩,
 ⟨some 108, none, .ld 1 false (.t 107), []⟩,
 ⟨some 109, none, .len .slice (.t 108), []⟩,
 ⟨some 110, none, .bin .lss (.t 104) (.t 109), []⟩,
 ⟨some 103, none, .mv (.t 110), []⟩])
 (.cond (.t 103)
 (.ops 18 [⟨some 111, none, .mv (.t 1), []⟩,
 ⟨some 112, none, .mv (.t 0), []⟩,
 ⟨some 113, none, .nilc (.t 112) (mok Tryz.prog), []⟩,
 ⟨some 114, none, .fld 2 (.t 113), []⟩,
 ⟨some 115, none, .ld 1 false (.t 114), []⟩,
 ⟨some 116, none, .mv (.t 7), []⟩,
 ⟨some 117, none, .bin .add (.t 115) (.t 116), []⟩,
 ⟨some 118, none, .mv (.t 0), []⟩,
 ⟨some 119, none, .nilc (.t 118) (mok Tryz.prog), []⟩,
 ⟨some 120, none, .fld 3 (.t 119), []⟩,
 ⟨some 121, none, .ld 1 false (.t 120), []⟩,
 ⟨some 122, none, .mv (.t 7), []⟩,
 ⟨some 123, none, .ixa none 1 (.t 121) (.t 122), []⟩,
 ⟨some 124, none, .ld 1 false (.t 123), []⟩,
 ⟨some 125, none, .mkv "Store" (.t 111), []⟩,
 ⟨some 126, none, .nilc (.t 125) (mok Tryz.prog), []⟩,
 ⟨some 127, none, .mv (.t 111), []⟩,
 ⟨some 128, none, .invk (.t 127) "Store" [.t 117, .t 124], []⟩,
 ⟨some 6, none, .mv (.t 128), []⟩])
 (.seq
 (.ops 7 [⟨some 34, none, .mv (.t 1), []⟩,
 ⟨some 35, none, .mv (.t 0), []⟩,
 ⟨some 36, none, .nilc (.t 35) (mok Tryz.prog), []⟩,
 ⟨some 37, none, .fld 1 (.t 36), []⟩,
 ⟨some 38, none, .ld 1 false (.t 37), []⟩,
 ⟨some 39, none, .mv (.t 0), []⟩,
 ⟨some 40, none, .nilc (.t 39) (mok Tryz.prog), []⟩,
 ⟨some 41, none, .fld 4 (.t 40), []⟩,
 ⟨some 42, none, .ld 1 false (.t 41), []⟩,
 ⟨some 43, none, .bin .add (.t 42) (.c (.int .u64 2)), []⟩,
 ⟨some 44, none, .mkv "Store" (.t 34), []⟩,
 ⟨some 45, none, .nilc (.t 44) (mok Tryz.prog), []⟩,
 ⟨some 46, none, .mv (.t 34), []⟩,
 ⟨some 47, none, .invk (.t 46) "Store" [.t 38, .t 43], []⟩,
 ⟨some 6, none, .mv (.t 47), []⟩])
 (.ops 8 [⟨some 48, none, .mv (.t 0), []⟩,
 ⟨some 49, none, .mv (.t 6), []⟩,
 ⟨some 50, none, .bin .eql (.t 49) (.c (.int .i64 0)), []⟩,
 ⟨some 51, none, .nilc (.t 48) (mok Tryz.prog), []⟩,
 ⟨some 52, none, .fld 6 (.t 51), []⟩,
 ⟨none, none, .st 1 (.t 52) (.t 50), []⟩]))))))))))
 (.seq
 (.seq
 (.ops 19 [⟨some 129, none, .mv (.t 6), []⟩,
 ⟨some 130, none, .bin .eql (.t 129) (.c (.int .i64 0)), []⟩])
 (.cond (.t 130)
 (.ops 20 [⟨some 131, none, .mv (.t 0), []⟩,
 ⟨some 132, none, .nilc (.t 131) (mok Tryz.prog), []⟩,
 ⟨some 133, none, .fld 5 (.t 132), []⟩,
 ⟨some 134, none, .ld 1 false (.t 133), []⟩,
 ⟨some 135, none, .bin .add (.t 134) (.c (.int .i64 1)), []⟩,
 ⟨some 136, none, .nilc (.t 131) (mok Tryz.prog), []⟩,
 ⟨some 137, none, .fld 5 (.t 136), []⟩,
 ⟨none, none, .st 1 (.t 137) (.t 135), []⟩])
 .skip))
 (.seq
 (.ops 21 [⟨some 138, none, .mv (.t 6), []⟩,
 ⟨some 4, none, .mv (.c (.bool false)), []⟩,
 ⟨some 5, none, .mv (.t 138), []⟩])
 .ret))))))⟩
theorem F260_code : cfgA.code 260 = some F260 := by kernel_rfl

/-- ticketline/version.Even -/
noncomputable def F261 : AFn := ⟨6, [.tmp 2], (.seq
 (.ops 0 [⟨some 2, none, .mv (.c (.bool false)), []⟩])
 (.seq
 (.ops 1 [⟨some 3, none, .mv (.t 0), []⟩,
 ⟨some 4, none, .bin .rem (.t 3) (.c (.int .u64 2)), []⟩,
 ⟨some 5, none, .bin .eql (.t 4) (.c (.int .u64 0)), []⟩,
 ⟨some 2, none, .mv (.t 5), []⟩])
 .ret))⟩
theorem F261_code : cfgA.code 261 = some F261 := by kernel_rfl

/-- (*ticketline/latch.Move).Done -/
noncomputable def F263 : AFn := ⟨18, [.tmp 2], (.seq
 (.ops 0 [⟨some 2, none, .mv (.c (.bool false)), []⟩])
 (.seq
 (.ops 1 [⟨some 3, none, .mv (.t 0), []⟩,
 ⟨some 4, none, .eqn .ptr false (.t 3), []⟩,
 ⟨some 5, none, .mv (.t 4), []⟩,
 ⟨some 6, some (5, false), .mv (.t 0), []⟩,
 ⟨some 7, some (5, false), .nilc (.t 6) (mok Tryz.prog), []⟩,
 ⟨some 8, some (5, false), .fld 0 (.t 7), []⟩,
 ⟨some 9, some (5, false), .ld 1 false (.t 8), []⟩,
 ⟨some 10, some (5, false), .eqn .ptr false (.t 9), []⟩,
 ⟨some 11, none, .pick (.t 5) (.c (.bool true)) (.t 10), []⟩,
 ⟨some 12, none, .mv (.t 11), []⟩,
 ⟨some 13, some (12, false), .mv (.t 0), []⟩,
 ⟨some 14, some (12, false), .nilc (.t 13) (mok Tryz.prog), []⟩,
 ⟨some 15, some (12, false), .fld 26 (.t 14), []⟩,
 ⟨some 16, some (12, false), .ld 1 false (.t 15), []⟩,
 ⟨some 17, none, .pick (.t 12) (.c (.bool true)) (.t 16), []⟩,
 ⟨some 2, none, .mv (.t 17), []⟩])
 .ret))⟩
theorem F263_code : cfgA.code 263 = some F263 := by kernel_rfl

/-- (*ticketline/latch.Move).Step -/
noncomputable def F264 : AFn := ⟨75, [.tmp 4, .tmp 5], (.seq
 (.ops 0 [⟨some 4, none, .mv (.c (.bool false)), []⟩,
 ⟨some 5, none, .mv (.c (.int .i64 0)), []⟩])
 (.seq
 (.block 0
 (.seq
 (.ops 1 [⟨some 9, none, .mv (.t 0), []⟩,
 ⟨some 10, none, .call 263 [.t 9], []⟩,
 ⟨some 11, none, .mv (.t 10), []⟩,
 ⟨some 12, some (11, true), .mv (.t 0), []⟩,
 ⟨some 13, some (11, true), .eqn .ptr false (.t 12), []⟩,
 ⟨some 14, some (11, true), .mv (.t 13), []⟩,
 ⟨some 15, some (14, false), .mv (.t 0), []⟩,
 ⟨some 16, some (14, false), .nilc (.t 15) (mok Tryz.prog), []⟩,
 ⟨some 17, some (14, false), .fld 0 (.t 16), []⟩,
 ⟨some 18, some (14, false), .ld 1 false (.t 17), []⟩,
 ⟨some 19, some (14, false), .eqn .ptr false (.t 18), []⟩,
 ⟨some 20, some (11, true), .pick (.t 14) (.c (.bool true)) (.t 19), []⟩,
 ⟨some 21, none, .pick (.t 11) (.t 20) (.c (.bool false)), []⟩,
 ⟨some 22, none, .mv (.t 21), []⟩,
 ⟨some 23, some (22, false), .mv (.t 1), []⟩,
 ⟨some 24, some (22, false), .eqn .iface false (.t 23), []⟩,
 ⟨some 25, none, .pick (.t 22) (.c (.bool true)) (.t 24), []⟩,
 ⟨some 8, none, .mv (.t 25), []⟩])
 (.cond (.t 8)
 (.seq
 (.ops 2 [⟨some 4, none, .mv (.c (.bool false)), []⟩,
 ⟨some 5, none, .mv (.c (.int .i64 1)), []⟩])
 .ret)
 (.seq
 (.ops 3 [⟨some 27, none, .mv (.t 0), []⟩,
 ⟨some 28, none, .nilc (.t 27) (mok Tryz.prog), []⟩,
 ⟨some 29, none, .fld 26 (.t 28), []⟩,
 ⟨some 30, none, .ld 1 false (.t 29), []⟩,
 ⟨some 26, none, .mv (.t 30), []⟩])
 (.cond (.t 26)
 (.seq
 (.ops 4 [⟨some 4, none, .mv (.c (.bool false)), []⟩,
 ⟨some 5, none, .mv (.c (.int .i64 17)), []⟩])
 .ret)
 .skip)))))
 (.seq
 (.seq
 (.ops 5 [⟨some 31, none, .mv (.t 0), []⟩,
 ⟨some 32, none, .nilc (.t 31) (mok Tryz.prog), []⟩,
 ⟨some 33, none, .fld 5 (.t 32), []⟩,
 ⟨some 34, none, .ld 1 false (.t 33), []⟩])
 (.block 1
 (.seq
 (.seq
 (.ops 6 [⟨some 36, none, .bin .eql (.t 34) (.c (.int .i64 0)), []⟩,
 ⟨some 35, none, .mv (.t 36), []⟩])
 (.cond (.t 35)
 .skip
 (.ops 7 [⟨some 37, none, .bin .eql (.t 34) (.c (.int .i64 6)), []⟩,
 ⟨some 35, none, .mv (.t 37), []⟩])))
 (.cond (.t 35)
 (.seq
 (.ops 8 [⟨some 38, none, .mv (.t 0), []⟩,
 ⟨some 39, none, .mv (.t 1), []⟩,
 ⟨some 40, none, .call 266 [.t 38, .t 39], []⟩,
 ⟨some 41, none, .ext (.t 40) 0, []⟩,
 ⟨some 42, none, .ext (.t 40) 1, []⟩,
 ⟨some 4, none, .mv (.t 41), []⟩,
 ⟨some 5, none, .mv (.t 42), []⟩])
 .ret)
 (.seq
 (.ops 9 [⟨some 44, none, .bin .eql (.t 34) (.c (.int .i64 5)), []⟩,
 ⟨some 43, none, .mv (.t 44), []⟩])
 (.cond (.t 43)
 (.seq
 (.ops 10 [⟨some 45, none, .mv (.t 0), []⟩,
 ⟨some 46, none, .nilc (.t 45) (mok Tryz.prog), []⟩,
 ⟨some 47, none, .fld 22 (.t 46), []⟩,
 ⟨some 48, none, .ld 1 false (.t 47), []⟩,
 ⟨some 49, none, .ixa none 4 (.t 48) (.c (.int .i64 0)), []⟩,
 ⟨some 50, none, .ld 4 true (.t 49), []⟩,
 ⟨some 6, none, .alloc [.int .i64 0, .int .i64 0, .int .u64 0, .int .u64 0] false, []⟩,
 ⟨none, none, .st 4 (.t 6) (.t 50), []⟩])
 (.seq
 (.seq
 (.ops 11 [⟨some 51, none, .mv (.t 1), []⟩,
 ⟨some 52, none, .fld 1 (.t 6), []⟩,
 ⟨some 53, none, .ld 1 false (.t 52), []⟩,
 ⟨some 54, none, .fld 3 (.t 6), []⟩,
 ⟨some 55, none, .ld 1 false (.t 54), []⟩,
 ⟨some 56, none, .invk (.t 51) "Store" [.t 53, .t 55], []⟩,
 ⟨some 7, none, .mv (.t 56), []⟩])
 (.seq
 (.ops 12 [⟨some 57, none, .mv (.t 7), []⟩,
 ⟨some 58, none, .bin .neq (.t 57) (.c (.int .i64 0)), []⟩])
 (.cond (.t 58)
 (.seq
 (.ops 13 [⟨some 59, none, .mv (.t 7), []⟩,
 ⟨some 4, none, .mv (.c (.bool false)), []⟩,
 ⟨some 5, none, .mv (.t 59), []⟩])
 .ret)
 .skip)))
 (.seq
 (.ops 14 [⟨some 60, none, .mv (.t 0), []⟩,
 ⟨some 61, none, .mv (.t 0), []⟩,
 ⟨some 62, none, .nilc (.t 61) (mok Tryz.prog), []⟩,
 ⟨some 63, none, .fld 22 (.t 62), []⟩,
 ⟨some 64, none, .ld 1 false (.t 63), []⟩,
 ⟨some 65, none, .slc none 4 (.t 64) (some (.c (.int .i64 1))) none, []⟩,
 ⟨some 66, none, .nilc (.t 60) (mok Tryz.prog), []⟩,
 ⟨some 67, none, .fld 22 (.t 66), []⟩,
 ⟨none, none, .st 1 (.t 67) (.t 65), []⟩])
 (.seq
 (.ops 15 [⟨some 68, none, .mv (.t 0), []⟩,
 ⟨some 69, none, .call 267 [.t 68], []⟩,
 ⟨some 4, none, .mv (.c (.bool false)), []⟩,
 ⟨some 5, none, .mv (.t 69), []⟩])
 .ret))))
 .skip))))))
 (.seq
 (.ops 16 [⟨some 70, none, .mv (.t 0), []⟩,
 ⟨some 71, none, .mv (.t 1), []⟩,
 ⟨some 72, none, .call 268 [.t 70, .t 71], []⟩,
 ⟨some 73, none, .ext (.t 72) 0, []⟩,
 ⟨some 74, none, .ext (.t 72) 1, []⟩,
 ⟨some 4, none, .mv (.t 73), []⟩,
 ⟨some 5, none, .mv (.t 74), []⟩])
 .ret))))⟩
theorem F264_code : cfgA.code 264 = some F264 := by kernel_rfl

/-- (*ticketline/latch.Move).decide -/
noncomputable def F265 : AFn := ⟨76, [], (.seq
 (.ops 0 [⟨some 4, none, .mv (.t 0), []⟩,
 ⟨some 5, none, .nilc (.t 4) (mok Tryz.prog), []⟩,
 ⟨some 6, none, .fld 14 (.t 5), []⟩,
 ⟨some 7, none, .ld 7 true (.t 6), []⟩,
 ⟨some 8, none, .mv (.t 0), []⟩,
 ⟨some 9, none, .nilc (.t 8) (mok Tryz.prog), []⟩,
 ⟨some 10, none, .fld 2 (.t 9), []⟩,
 ⟨some 11, none, .ld 1 false (.t 10), []⟩,
 ⟨some 12, none, .call 272 [.t 7, .t 11], []⟩,
 ⟨some 2, none, .mv (.t 12), []⟩])
 (.seq
 (.ops 1 [⟨some 13, none, .mv (.t 0), []⟩,
 ⟨some 14, none, .nilc (.t 13) (mok Tryz.prog), []⟩,
 ⟨some 15, none, .fld 14 (.t 14), []⟩,
 ⟨some 16, none, .fld 3 (.t 15), []⟩,
 ⟨some 17, none, .ld 1 false (.t 16), []⟩,
 ⟨some 18, none, .mv (.t 0), []⟩,
 ⟨some 19, none, .nilc (.t 18) (mok Tryz.prog), []⟩,
 ⟨some 20, none, .fld 2 (.t 19), []⟩,
 ⟨some 21, none, .ld 1 false (.t 20), []⟩,
 ⟨some 22, none, .cvi .u64 (.t 21), []⟩,
 ⟨some 23, none, .bin .add (.t 22) (.c (.int .u64 1)), []⟩,
 ⟨some 24, none, .bin .eql (.t 17) (.t 23), []⟩,
 ⟨some 3, none, .mv (.t 24), []⟩])
 (.seq
 (.ops 2 [⟨some 25, none, .mv (.t 0), []⟩,
 ⟨some 26, none, .nilc (.t 25) (mok Tryz.prog), []⟩,
 ⟨some 27, none, .fld 25 (.t 26), []⟩,
 ⟨none, none, .st 1 (.t 27) (.c (.int .u64 1)), []⟩])
 (.block 0
 (.seq
 (.ops 4 [⟨some 32, none, .mv (.t 3), []⟩,
 ⟨some 33, none, .mv (.t 32), []⟩,
 ⟨some 34, some (33, false), .mv (.t 0), []⟩,
 ⟨some 35, some (33, false), .nilc (.t 34) (mok Tryz.prog), []⟩,
 ⟨some 36, some (33, false), .fld 3 (.t 35), []⟩,
 ⟨some 37, some (33, false), .ld 1 false (.t 36), []⟩,
 ⟨some 38, some (33, false), .bin .eql (.t 37) (.c (.int .i64 1)), []⟩,
 ⟨some 39, some (33, false), .mv (.t 2), []⟩,
 ⟨some 40, some (33, false), .bin .eql (.t 39) (.c (.int .i64 0)), []⟩,
 ⟨some 41, some (33, false), .eqb true (.t 38) (.t 40), []⟩,
 ⟨some 42, none, .pick (.t 33) (.c (.bool true)) (.t 41), []⟩,
 ⟨some 31, none, .mv (.t 42), []⟩])
 (.cond (.t 31)
 (.seq
 (.ops 5 [⟨some 43, none, .mv (.t 0), []⟩,
 ⟨some 44, none, .nilc (.t 43) (mok Tryz.prog), []⟩,
 ⟨some 45, none, .fld 25 (.t 44), []⟩,
 ⟨none, none, .st 1 (.t 45) (.c (.int .u64 0)), []⟩])
 (.ops 6 [⟨some 46, none, .mv (.t 0), []⟩,
 ⟨some 47, none, .call 273 [.t 46], []⟩]))
 (.seq
 (.ops 7 [⟨some 49, none, .mv (.t 0), []⟩,
 ⟨some 50, none, .nilc (.t 49) (mok Tryz.prog), []⟩,
 ⟨some 51, none, .fld 3 (.t 50), []⟩,
 ⟨some 52, none, .ld 1 false (.t 51), []⟩,
 ⟨some 53, none, .bin .eql (.t 52) (.c (.int .i64 1)), []⟩,
 ⟨some 48, none, .mv (.t 53), []⟩])
 (.cond (.t 48)
 (.ops 8 [⟨some 54, none, .mv (.t 0), []⟩,
 ⟨some 55, none, .call 274 [.t 54], []⟩])
 (.seq
 (.ops 9 [⟨some 57, none, .mv (.t 0), []⟩,
 ⟨some 58, none, .nilc (.t 57) (mok Tryz.prog), []⟩,
 ⟨some 59, none, .fld 3 (.t 58), []⟩,
 ⟨some 60, none, .ld 1 false (.t 59), []⟩,
 ⟨some 61, none, .bin .eql (.t 60) (.c (.int .i64 2)), []⟩,
 ⟨some 56, none, .mv (.t 61), []⟩])
 (.cond (.t 56)
 (.seq
 (.ops 10 [⟨some 62, none, .mv (.t 0), []⟩,
 ⟨some 63, none, .mv (.t 0), []⟩,
 ⟨some 64, none, .nilc (.t 63) (mok Tryz.prog), []⟩,
 ⟨some 65, none, .fld 14 (.t 64), []⟩,
 ⟨some 66, none, .ld 7 true (.t 65), []⟩,
 ⟨some 67, none, .mv (.t 0), []⟩,
 ⟨some 68, none, .nilc (.t 67) (mok Tryz.prog), []⟩,
 ⟨some 69, none, .fld 2 (.t 68), []⟩,
 ⟨some 70, none, .ld 1 false (.t 69), []⟩,
 ⟨some 71, none, .call 275 [.t 66, .t 70], []⟩,
 ⟨some 72, none, .nilc (.t 62) (mok Tryz.prog), []⟩,
 ⟨some 73, none, .fld 14 (.t 72), []⟩,
 ⟨none, none, .st 7 (.t 73) (.t 71), []⟩])
 (.ops 11 [⟨some 74, none, .mv (.t 0), []⟩,
 ⟨some 75, none, .call 276 [.t 74], []⟩]))
 (.ops 3 [⟨some 28, none, .mv (.t 0), []⟩,
 ⟨some 29, none, .mv (.t 2), []⟩,
 ⟨some 30, none, .call 277 [.t 28, .t 29], []⟩])))))))))))⟩
theorem F265_code : cfgA.code 265 = some F265 := by kernel_rfl

/-- (*ticketline/latch.Move).pass -/
noncomputable def F266 : AFn := ⟨49, [.tmp 4, .tmp 5], (.seq
 (.ops 0 [⟨some 4, none, .mv (.c (.bool false)), []⟩,
 ⟨some 5, none, .mv (.c (.int .i64 0)), []⟩])
 (.seq
 (.ops 1 [⟨some 9, none, .mv (.t 0), []⟩,
 ⟨some 10, none, .nilc (.t 9) (mok Tryz.prog), []⟩,
 ⟨some 11, none, .fld 6 (.t 10), []⟩,
 ⟨some 12, none, .ld 1 false (.t 11), []⟩,
 ⟨some 13, none, .mv (.t 1), []⟩,
 ⟨some 14, none, .invk (.t 12) "Step" [.t 13], []⟩,
 ⟨some 8, none, .mv (.t 14), []⟩,
 ⟨some 15, none, .ext (.t 8) 0, []⟩,
 ⟨some 16, none, .ext (.t 8) 1, []⟩,
 ⟨some 6, none, .mv (.t 15), []⟩,
 ⟨some 7, none, .mv (.t 16), []⟩])
 (.seq
 (.seq
 (.ops 2 [⟨some 17, none, .mv (.t 7), []⟩,
 ⟨some 18, none, .bin .neq (.t 17) (.c (.int .i64 0)), []⟩,
 ⟨some 19, none, .mv (.t 18), []⟩,
 ⟨some 20, some (19, false), .mv (.t 0), []⟩,
 ⟨some 21, some (19, false), .nilc (.t 20) (mok Tryz.prog), []⟩,
 ⟨some 22, some (19, false), .fld 6 (.t 21), []⟩,
 ⟨some 23, some (19, false), .ld 1 false (.t 22), []⟩,
 ⟨some 24, some (19, false), .invk (.t 23) "Done" [], []⟩,
 ⟨some 25, some (19, false), .un .not (.t 24), []⟩,
 ⟨some 26, none, .pick (.t 19) (.c (.bool true)) (.t 25), []⟩])
 (.cond (.t 26)
 (.seq
 (.ops 3 [⟨some 27, none, .mv (.t 6), []⟩,
 ⟨some 28, none, .mv (.t 7), []⟩,
 ⟨some 4, none, .mv (.t 27), []⟩,
 ⟨some 5, none, .mv (.t 28), []⟩])
 .ret)
 .skip))
 (.seq
 (.block 0
 (.seq
 (.ops 5 [⟨some 33, none, .mv (.t 0), []⟩,
 ⟨some 34, none, .nilc (.t 33) (mok Tryz.prog), []⟩,
 ⟨some 35, none, .fld 5 (.t 34), []⟩,
 ⟨some 36, none, .ld 1 false (.t 35), []⟩,
 ⟨some 37, none, .bin .eql (.t 36) (.c (.int .i64 0)), []⟩,
 ⟨some 32, none, .mv (.t 37), []⟩])
 (.cond (.t 32)
 (.ops 6 [⟨some 38, none, .mv (.t 0), []⟩,
 ⟨some 39, none, .nilc (.t 38) (mok Tryz.prog), []⟩,
 ⟨some 40, none, .fld 5 (.t 39), []⟩,
 ⟨none, none, .st 1 (.t 40) (.c (.int .i64 1)), []⟩])
 (.seq
 (.ops 7 [⟨some 42, none, .mv (.t 0), []⟩,
 ⟨some 43, none, .nilc (.t 42) (mok Tryz.prog), []⟩,
 ⟨some 44, none, .fld 24 (.t 43), []⟩,
 ⟨some 45, none, .ld 1 false (.t 44), []⟩,
 ⟨some 41, none, .mv (.t 45), []⟩])
 (.cond (.t 41)
 (.ops 8 [⟨some 46, none, .mv (.t 0), []⟩,
 ⟨some 47, none, .nilc (.t 46) (mok Tryz.prog), []⟩,
 ⟨some 48, none, .fld 5 (.t 47), []⟩,
 ⟨none, none, .st 1 (.t 48) (.c (.int .i64 7)), []⟩])
 (.ops 4 [⟨some 29, none, .mv (.t 0), []⟩,
 ⟨some 30, none, .nilc (.t 29) (mok Tryz.prog), []⟩,
 ⟨some 31, none, .fld 26 (.t 30), []⟩,
 ⟨none, none, .st 1 (.t 31) (.c (.bool true)), []⟩]))))))
 (.seq
 (.ops 9 [⟨some 4, none, .mv (.c (.bool false)), []⟩,
 ⟨some 5, none, .mv (.c (.int .i64 0)), []⟩])
 .ret)))))⟩
theorem F266_code : cfgA.code 266 = some F266 := by kernel_rfl

/-- (*ticketline/latch.Move).stored -/
noncomputable def F267 : AFn := ⟨41, [.tmp 2], (.seq
 (.ops 0 [⟨some 2, none, .mv (.c (.int .i64 0)), []⟩])
 (.seq
 (.seq
 (.ops 1 [⟨some 5, none, .mv (.t 0), []⟩,
 ⟨some 6, none, .nilc (.t 5) (mok Tryz.prog), []⟩,
 ⟨some 7, none, .fld 5 (.t 6), []⟩,
 ⟨some 8, none, .ld 1 false (.t 7), []⟩,
 ⟨some 9, none, .bin .neq (.t 8) (.c (.int .i64 5)), []⟩,
 ⟨some 10, none, .mv (.t 9), []⟩,
 ⟨some 11, some (10, false), .mv (.t 0), []⟩,
 ⟨some 12, some (10, false), .nilc (.t 11) (mok Tryz.prog), []⟩,
 ⟨some 13, some (10, false), .fld 22 (.t 12), []⟩,
 ⟨some 14, some (10, false), .ld 1 false (.t 13), []⟩,
 ⟨some 15, some (10, false), .len .slice (.t 14), []⟩,
 ⟨some 16, some (10, false), .bin .gtr (.t 15) (.c (.int .i64 0)), []⟩,
 ⟨some 17, none, .pick (.t 10) (.c (.bool true)) (.t 16), []⟩])
 (.cond (.t 17)
 (.seq
 (.ops 2 [⟨some 2, none, .mv (.c (.int .i64 0)), []⟩])
 .ret)
 .skip))
 (.seq
 (.ops 3 [⟨some 19, none, .mv (.t 0), []⟩,
 ⟨some 20, none, .nilc (.t 19) (mok Tryz.prog), []⟩,
 ⟨some 21, none, .fld 0 (.t 20), []⟩,
 ⟨some 22, none, .ld 1 false (.t 21), []⟩,
 ⟨some 23, none, .mv (.t 0), []⟩,
 ⟨some 24, none, .nilc (.t 23) (mok Tryz.prog), []⟩,
 ⟨some 25, none, .fld 1 (.t 24), []⟩,
 ⟨some 26, none, .ld 1 false (.t 25), []⟩,
 ⟨some 27, none, .mv (.t 0), []⟩,
 ⟨some 28, none, .call 269 [.t 27, .c (.int .i64 0)], [(22, .ld 1 false (.t 21)), (26, .ld 1 false (.t 25))]⟩,
 ⟨some 29, none, .call 108 [.t 22, .t 26, .t 28], []⟩,
 ⟨some 18, none, .mv (.t 29), []⟩,
 ⟨some 30, none, .ext (.t 18) 0, []⟩,
 ⟨some 31, none, .ext (.t 18) 1, []⟩,
 ⟨some 3, none, .mv (.t 30), []⟩,
 ⟨some 4, none, .mv (.t 31), []⟩])
 (.seq
 (.ops 4 [⟨some 32, none, .mv (.t 0), []⟩,
 ⟨some 33, none, .mv (.t 0), []⟩,
 ⟨some 34, none, .mv (.t 3), []⟩,
 ⟨some 35, none, .mki 161 (.t 34), []⟩,
 ⟨some 36, none, .nilc (.t 32) (mok Tryz.prog), []⟩,
 ⟨some 37, none, .fld 6 (.t 36), []⟩,
 ⟨none, none, .st 1 (.t 37) (.t 35), []⟩,
 ⟨some 38, none, .nilc (.t 33) (mok Tryz.prog), []⟩,
 ⟨some 39, none, .fld 5 (.t 38), []⟩,
 ⟨none, none, .st 1 (.t 39) (.c (.int .i64 6)), []⟩])
 (.seq
 (.ops 5 [⟨some 40, none, .mv (.t 4), []⟩,
 ⟨some 2, none, .mv (.t 40), []⟩])
 .ret)))))⟩
theorem F267_code : cfgA.code 267 = some F267 := by kernel_rfl

/-- (*ticketline/latch.Move).load -/
noncomputable def F268 : AFn := ⟨146, [.tmp 4, .tmp 5], (.seq
 (.ops 0 [⟨some 4, none, .mv (.c (.bool false)), []⟩,
 ⟨some 5, none, .mv (.c (.int .i64 0)), []⟩])
 (.seq
 (.ops 1 [⟨some 14, none, .mv (.t 0), []⟩,
 ⟨some 15, none, .nilc (.t 14) (mok Tryz.prog), []⟩,
 ⟨some 16, none, .fld 14 (.t 15), []⟩,
 ⟨some 17, none, .fld 4 (.t 16), []⟩,
 ⟨some 18, none, .ld 1 false (.t 17), []⟩,
 ⟨some 19, none, .cvi .i64 (.t 18), []⟩,
 ⟨some 20, none, .bin .sub (.t 19) (.c (.int .i64 1)), []⟩,
 ⟨some 6, none, .mv (.t 20), []⟩])
 (.seq
 (.ops 2 [⟨some 21, none, .mv (.t 0), []⟩,
 ⟨some 22, none, .nilc (.t 21) (mok Tryz.prog), []⟩,
 ⟨some 23, none, .fld 1 (.t 22), []⟩,
 ⟨some 24, none, .ld 1 false (.t 23), []⟩,
 ⟨some 25, none, .bin .add (.t 24) (.c (.int .i64 1)), []⟩,
 ⟨some 26, none, .mv (.t 0), []⟩,
 ⟨some 27, none, .nilc (.t 26) (mok Tryz.prog), []⟩,
 ⟨some 28, none, .fld 1 (.t 27), []⟩,
 ⟨some 29, none, .ld 1 false (.t 28), []⟩,
 ⟨some 30, none, .bin .add (.t 29) (.c (.int .i64 2)), []⟩,
 ⟨some 31, none, .mv (.t 0), []⟩,
 ⟨some 32, none, .nilc (.t 31) (mok Tryz.prog), []⟩,
 ⟨some 33, none, .fld 0 (.t 32), []⟩,
 ⟨some 34, none, .ld 1 false (.t 33), []⟩,
 ⟨some 35, none, .mv (.t 6), []⟩,
 ⟨some 37, none, .mv (.t 0), []⟩,
 ⟨some 38, none, .nilc (.t 37) (mok Tryz.prog), []⟩,
 ⟨some 39, none, .fld 0 (.t 38), []⟩,
 ⟨some 40, none, .ld 1 false (.t 39), []⟩,
 ⟨some 41, none, .mv (.t 6), []⟩,
 ⟨some 43, none, .mv (.t 0), []⟩,
 ⟨some 44, none, .nilc (.t 43) (mok Tryz.prog), []⟩,
 ⟨some 45, none, .fld 0 (.t 44), []⟩,
 ⟨some 46, none, .ld 1 false (.t 45), []⟩,
 ⟨some 47, none, .mv (.t 0), []⟩,
 ⟨some 51, none, .mv (.t 0), []⟩,
 ⟨some 52, none, .nilc (.t 51) (mok Tryz.prog), []⟩,
 ⟨some 53, none, .fld 5 (.t 52), []⟩,
 ⟨some 54, none, .ld 1 false (.t 53), []⟩,
 ⟨some 36, none, .call 162 [.t 34, .t 35], [(24, .ld 1 false (.t 23)), (29, .ld 1 false (.t 28)), (40, .ld 1 false (.t 39)), (46, .ld 1 false (.t 45)), (54, .ld 1 false (.t 53))]⟩,
 ⟨some 42, none, .call 163 [.t 40, .t 41], [(24, .ld 1 false (.t 23)), (29, .ld 1 false (.t 28)), (46, .ld 1 false (.t 45)), (54, .ld 1 false (.t 53))]⟩,
 ⟨some 48, none, .call 269 [.t 47, .c (.int .i64 1)], [(24, .ld 1 false (.t 23)), (29, .ld 1 false (.t 28)), (46, .ld 1 false (.t 45)), (54, .ld 1 false (.t 53))]⟩,
 ⟨some 49, none, .call 255 [.t 46, .t 48], [(24, .ld 1 false (.t 23)), (29, .ld 1 false (.t 28)), (54, .ld 1 false (.t 53))]⟩,
 ⟨some 50, none, .build [.int .i64 0, .int .i64 0, .int .i64 0, .int .i64 0, .int .i64 0, .int .i64 0, .int .i64 0, .int .i64 0] [(1, 1, (.t 25)), (2, 1, (.t 30)), (3, 1, (.t 36)), (4, 1, (.t 42)), (7, 1, (.t 49))], []⟩,
 ⟨some 55, none, .ixv 8 1 false (.t 50) (.t 54), []⟩,
 ⟨some 7, none, .mv (.t 55), []⟩])
 (.seq
 (.ops 3 [⟨some 57, none, .mv (.t 1), []⟩,
 ⟨some 58, none, .mv (.t 7), []⟩,
 ⟨some 59, none, .invk (.t 57) "Load" [.t 58], []⟩,
 ⟨some 56, none, .mv (.t 59), []⟩,
 ⟨some 60, none, .ext (.t 56) 0, []⟩,
 ⟨some 61, none, .ext (.t 56) 1, []⟩,
 ⟨some 8, none, .mv (.t 60), []⟩,
 ⟨some 9, none, .mv (.t 61), []⟩])
 (.seq
 (.seq
 (.ops 4 [⟨some 62, none, .mv (.t 9), []⟩,
 ⟨some 63, none, .bin .neq (.t 62) (.c (.int .i64 0)), []⟩])
 (.cond (.t 63)
 (.seq
 (.ops 5 [⟨some 64, none, .mv (.t 9), []⟩,
 ⟨some 4, none, .mv (.c (.bool false)), []⟩,
 ⟨some 5, none, .mv (.t 64), []⟩])
 .ret)
 .skip))
 (.seq
 (.seq
 (.ops 6 [⟨some 65, none, .mv (.t 0), []⟩,
 ⟨some 66, none, .nilc (.t 65) (mok Tryz.prog), []⟩,
 ⟨some 67, none, .fld 5 (.t 66), []⟩,
 ⟨some 68, none, .ld 1 false (.t 67), []⟩])
 (.block 0
 (.seq
 (.ops 9 [⟨some 77, none, .bin .eql (.t 68) (.c (.int .i64 1)), []⟩,
 ⟨some 76, none, .mv (.t 77), []⟩])
 (.cond (.t 76)
 (.ops 10 [⟨some 78, none, .mv (.t 0), []⟩,
 ⟨some 79, none, .mv (.t 0), []⟩,
 ⟨some 80, none, .mv (.t 8), []⟩,
 ⟨some 81, none, .nilc (.t 78) (mok Tryz.prog), []⟩,
 ⟨some 82, none, .fld 7 (.t 81), []⟩,
 ⟨some 83, none, .fld 0 (.t 82), []⟩,
 ⟨none, none, .st 1 (.t 83) (.t 80), []⟩,
 ⟨some 84, none, .nilc (.t 79) (mok Tryz.prog), []⟩,
 ⟨some 85, none, .fld 5 (.t 84), []⟩,
 ⟨none, none, .st 1 (.t 85) (.c (.int .i64 2)), []⟩])
 (.seq
 (.ops 11 [⟨some 87, none, .bin .eql (.t 68) (.c (.int .i64 2)), []⟩,
 ⟨some 86, none, .mv (.t 87), []⟩])
 (.cond (.t 86)
 (.seq
 (.ops 12 [⟨some 89, none, .mv (.t 0), []⟩,
 ⟨some 90, none, .nilc (.t 89) (mok Tryz.prog), []⟩,
 ⟨some 91, none, .fld 7 (.t 90), []⟩,
 ⟨some 92, none, .fld 0 (.t 91), []⟩,
 ⟨some 93, none, .ld 1 false (.t 92), []⟩,
 ⟨some 94, none, .mv (.t 8), []⟩,
 ⟨some 95, none, .call 159 [.t 93, .t 94], []⟩,
 ⟨some 88, none, .mv (.t 95), []⟩,
 ⟨some 96, none, .ext (.t 88) 0, []⟩,
 ⟨some 97, none, .ext (.t 88) 1, []⟩,
 ⟨some 10, none, .alloc [.int .u64 0, .int .u64 0, .int .u64 0, .int .u64 0, .int .u64 0, .int .u64 0, .int .u64 0] false, []⟩,
 ⟨none, none, .st 7 (.t 10) (.t 96), []⟩,
 ⟨some 11, none, .mv (.t 97), []⟩])
 (.seq
 (.seq
 (.ops 13 [⟨some 98, none, .mv (.t 11), []⟩,
 ⟨some 99, none, .un .not (.t 98), []⟩,
 ⟨some 100, none, .mv (.t 99), []⟩,
 ⟨some 101, some (100, false), .ld 7 true (.t 10), []⟩,
 ⟨some 102, some (100, false), .mv (.t 0), []⟩,
 ⟨some 103, some (100, false), .nilc (.t 102) (mok Tryz.prog), []⟩,
 ⟨some 104, some (100, false), .fld 0 (.t 103), []⟩,
 ⟨some 105, some (100, false), .ld 1 false (.t 104), []⟩,
 ⟨some 106, some (100, false), .call 160 [.t 101, .t 105], []⟩,
 ⟨some 107, some (100, false), .un .not (.t 106), []⟩,
 ⟨some 108, none, .pick (.t 100) (.c (.bool true)) (.t 107), []⟩])
 (.cond (.t 108)
 (.seq
 (.ops 14 [⟨some 4, none, .mv (.c (.bool false)), []⟩,
 ⟨some 5, none, .mv (.c (.int .i64 12)), []⟩])
 .ret)
 .skip))
 (.seq
 (.ops 15 [⟨some 109, none, .mv (.t 0), []⟩,
 ⟨some 110, none, .mv (.t 0), []⟩,
 ⟨some 111, none, .ld 7 true (.t 10), []⟩,
 ⟨some 112, none, .ld 7 true (.t 10), []⟩,
 ⟨some 113, none, .nilc (.t 109) (mok Tryz.prog), []⟩,
 ⟨some 114, none, .fld 7 (.t 113), []⟩,
 ⟨none, none, .st 7 (.t 114) (.t 111), [(112, .ld 7 true (.t 10))]⟩,
 ⟨some 115, none, .nilc (.t 110) (mok Tryz.prog), []⟩,
 ⟨some 116, none, .fld 14 (.t 115), []⟩,
 ⟨none, none, .st 7 (.t 116) (.t 112), []⟩])
 (.seq
 (.ops 16 [⟨some 117, none, .mv (.t 0), []⟩,
 ⟨some 118, none, .call 265 [.t 117], []⟩])
 (.seq
 (.ops 17 [⟨some 119, none, .mv (.t 0), []⟩,
 ⟨some 120, none, .call 267 [.t 119], []⟩,
 ⟨some 4, none, .mv (.c (.bool false)), []⟩,
 ⟨some 5, none, .mv (.t 120), []⟩])
 .ret)))))
 (.seq
 (.ops 18 [⟨some 122, none, .bin .eql (.t 68) (.c (.int .i64 3)), []⟩,
 ⟨some 121, none, .mv (.t 122), []⟩])
 (.cond (.t 121)
 (.seq
 (.ops 19 [⟨some 123, none, .mv (.t 0), []⟩,
 ⟨some 124, none, .mv (.t 8), []⟩,
 ⟨some 125, none, .mx false (.t 124) [.c (.int .u64 4)], []⟩,
 ⟨some 126, none, .cvi .i64 (.t 125), []⟩,
 ⟨some 127, none, .call 270 [.t 123, .t 126], []⟩,
 ⟨some 4, none, .mv (.c (.bool false)), []⟩,
 ⟨some 5, none, .mv (.t 127), []⟩])
 .ret)
 (.seq
 (.ops 20 [⟨some 129, none, .bin .eql (.t 68) (.c (.int .i64 4)), []⟩,
 ⟨some 128, none, .mv (.t 129), []⟩])
 (.cond (.t 128)
 (.seq
 (.seq
 (.ops 21 [⟨some 131, none, .mv (.t 0), []⟩,
 ⟨some 132, none, .nilc (.t 131) (mok Tryz.prog), []⟩,
 ⟨some 133, none, .fld 0 (.t 132), []⟩,
 ⟨some 134, none, .ld 1 false (.t 133), []⟩,
 ⟨some 135, none, .mv (.t 8), []⟩,
 ⟨some 136, none, .call 161 [.t 134, .t 135], []⟩,
 ⟨some 130, none, .mv (.t 136), []⟩,
 ⟨some 137, none, .ext (.t 130) 0, []⟩,
 ⟨some 138, none, .ext (.t 130) 1, []⟩,
 ⟨some 12, none, .mv (.t 137), []⟩,
 ⟨some 13, none, .mv (.t 138), []⟩])
 (.seq
 (.ops 22 [⟨some 139, none, .mv (.t 13), []⟩,
 ⟨some 140, none, .un .not (.t 139), []⟩])
 (.cond (.t 140)
 (.seq
 (.ops 23 [⟨some 4, none, .mv (.c (.bool false)), []⟩,
 ⟨some 5, none, .mv (.c (.int .i64 12)), []⟩])
 .ret)
 .skip)))
 (.seq
 (.ops 24 [⟨some 141, none, .mv (.t 0), []⟩,
 ⟨some 142, none, .mv (.t 8), []⟩,
 ⟨some 143, none, .call 271 [.t 141, .t 142], []⟩])
 (.seq
 (.ops 25 [⟨some 144, none, .mv (.t 0), []⟩,
 ⟨some 145, none, .call 267 [.t 144], []⟩,
 ⟨some 4, none, .mv (.c (.bool false)), []⟩,
 ⟨some 5, none, .mv (.t 145), []⟩])
 .ret)))
 (.seq
 (.ops 7 [⟨some 69, none, .mv (.t 0), []⟩,
 ⟨some 70, none, .mv (.t 8), []⟩,
 ⟨some 71, none, .bin .eql (.t 70) (.c (.int .u64 0)), []⟩,
 ⟨some 72, none, .nilc (.t 69) (mok Tryz.prog), []⟩,
 ⟨some 73, none, .fld 26 (.t 72), []⟩,
 ⟨none, none, .st 1 (.t 73) (.t 71), []⟩])
 (.seq
 (.ops 8 [⟨some 74, none, .mv (.t 8), []⟩,
 ⟨some 75, none, .bin .neq (.t 74) (.c (.int .u64 0)), []⟩,
 ⟨some 4, none, .mv (.t 75), []⟩,
 ⟨some 5, none, .mv (.c (.int .i64 0)), []⟩])
 .ret))))))))))))
 (.seq
 (.ops 26 [⟨some 4, none, .mv (.c (.bool false)), []⟩,
 ⟨some 5, none, .mv (.c (.int .i64 0)), []⟩])
 .ret)))))))⟩
theorem F268_code : cfgA.code 268 = some F268 := by kernel_rfl

/-- (*ticketline/latch.Move).node -/
noncomputable def F269 : AFn := ⟨21, [.tmp 4], (.seq
 (.ops 0 [⟨some 4, none, .mv (.c (.int .i64 0)), []⟩])
 (.seq
 (.ops 1 [⟨some 8, none, .mv (.t 0), []⟩,
 ⟨some 9, none, .nilc (.t 8) (mok Tryz.prog), []⟩,
 ⟨some 10, none, .fld 0 (.t 9), []⟩,
 ⟨some 11, none, .ld 1 false (.t 10), []⟩,
 ⟨some 12, none, .mv (.t 0), []⟩,
 ⟨some 13, none, .nilc (.t 12) (mok Tryz.prog), []⟩,
 ⟨some 14, none, .fld 2 (.t 13), []⟩,
 ⟨some 15, none, .ld 1 false (.t 14), []⟩,
 ⟨some 16, none, .mv (.t 1), []⟩,
 ⟨some 17, none, .call 107 [.t 11, .t 15, .t 16], []⟩,
 ⟨some 7, none, .mv (.t 17), []⟩,
 ⟨some 18, none, .ext (.t 7) 0, []⟩,
 ⟨some 19, none, .ext (.t 7) 1, []⟩,
 ⟨some 5, none, .mv (.t 18), []⟩,
 ⟨some 6, none, .mv (.t 19), []⟩])
 (.seq
 (.ops 2 [⟨some 20, none, .mv (.t 5), []⟩,
 ⟨some 4, none, .mv (.t 20), []⟩])
 .ret)))⟩
theorem F269_code : cfgA.code 269 = some F269 := by kernel_rfl

/-- (ticketline/latch.state).mode -/
noncomputable def F272 : AFn := ⟨26, [.tmp 4], (.seq
 (.ops 0 [⟨some 2, none, .box 7 (.t 0) false, []⟩,
 ⟨some 4, none, .mv (.c (.int .i64 0)), []⟩])
 (.seq
 (.ops 1 [⟨some 6, none, .mv (.t 1), []⟩,
 ⟨some 7, none, .cvi .u64 (.t 6), []⟩,
 ⟨some 8, none, .bin .add (.t 7) (.c (.int .u64 1)), []⟩,
 ⟨some 5, none, .mv (.t 8), []⟩])
 (.seq
 (.block 0
 (.seq
 (.ops 2 [⟨some 10, none, .fld 0 (.t 2), []⟩,
 ⟨some 11, none, .ld 1 false (.t 10), []⟩,
 ⟨some 12, none, .mv (.t 1), []⟩,
 ⟨some 13, none, .bin .shr (.t 11) (.t 12), []⟩,
 ⟨some 14, none, .bin .and (.t 13) (.c (.int .u64 1)), []⟩,
 ⟨some 15, none, .bin .eql (.t 14) (.c (.int .u64 1)), []⟩,
 ⟨some 9, none, .mv (.t 15), []⟩])
 (.cond (.t 9)
 (.seq
 (.ops 3 [⟨some 4, none, .mv (.c (.int .i64 1)), []⟩])
 .ret)
 (.seq
 (.ops 4 [⟨some 17, none, .fld 1 (.t 2), []⟩,
 ⟨some 18, none, .ld 1 false (.t 17), []⟩,
 ⟨some 19, none, .mv (.t 5), []⟩,
 ⟨some 20, none, .bin .eql (.t 18) (.t 19), []⟩,
 ⟨some 16, none, .mv (.t 20), []⟩])
 (.cond (.t 16)
 (.seq
 (.ops 5 [⟨some 4, none, .mv (.c (.int .i64 2)), []⟩])
 .ret)
 (.seq
 (.ops 6 [⟨some 22, none, .fld 2 (.t 2), []⟩,
 ⟨some 23, none, .ld 1 false (.t 22), []⟩,
 ⟨some 24, none, .mv (.t 5), []⟩,
 ⟨some 25, none, .bin .eql (.t 23) (.t 24), []⟩,
 ⟨some 21, none, .mv (.t 25), []⟩])
 (.cond (.t 21)
 (.seq
 (.ops 7 [⟨some 4, none, .mv (.c (.int .i64 3)), []⟩])
 .ret)
 .skip)))))))
 (.seq
 (.ops 8 [⟨some 4, none, .mv (.c (.int .i64 0)), []⟩])
 .ret))))⟩
theorem F272_code : cfgA.code 272 = some F272 := by kernel_rfl

/-- (*ticketline/latch.Move).plan: the round 0 -/
noncomputable def B273x0 : AC := (.seq
 (.ops 6 [⟨some 54, none, .bin .lss (.t 53) (.t 52), []⟩])
 (.seq
 (.cond (.t 54)
 .skip
 (.exit 0))
 (.seq
 (.block 1
 (.seq
 (.ops 7 [⟨some 55, none, .ixa none 1 (.t 51) (.t 53), []⟩,
 ⟨some 56, none, .ld 1 false (.t 55), []⟩,
 ⟨some 4, none, .mv (.t 56), []⟩])
 (.ops 8 [⟨some 57, none, .mv (.t 0), []⟩,
 ⟨some 58, none, .mv (.t 0), []⟩,
 ⟨some 59, none, .nilc (.t 58) (mok Tryz.prog), []⟩,
 ⟨some 60, none, .fld 0 (.t 59), []⟩,
 ⟨some 61, none, .ld 1 false (.t 60), []⟩,
 ⟨some 62, none, .mv (.t 4), []⟩,
 ⟨some 63, none, .call 255 [.t 61, .t 62], []⟩,
 ⟨some 64, none, .call 280 [.t 57, .t 63, .c (.int .u64 0)], []⟩])))
 (.ops 9 [⟨some 65, none, .bin .add (.t 53) (.c (.int .i64 1)), []⟩,
 ⟨some 53, none, .mv (.t 65), []⟩]))))
/-- (*ticketline/latch.Move).plan -/
noncomputable def F273 : AFn := ⟨69, [], (.seq
 (.seq
 (.ops 0 [⟨some 5, none, .mv (.t 0), []⟩,
 ⟨some 6, none, .nilc (.t 5) (mok Tryz.prog), []⟩,
 ⟨some 7, none, .fld 14 (.t 6), []⟩,
 ⟨some 8, none, .fld 0 (.t 7), []⟩,
 ⟨some 9, none, .ld 1 false (.t 8), []⟩,
 ⟨some 10, none, .mv (.t 0), []⟩,
 ⟨some 11, none, .nilc (.t 10) (mok Tryz.prog), []⟩,
 ⟨some 12, none, .fld 7 (.t 11), []⟩,
 ⟨some 13, none, .fld 0 (.t 12), []⟩,
 ⟨some 14, none, .ld 1 false (.t 13), []⟩,
 ⟨some 15, none, .bin .neq (.t 9) (.t 14), []⟩])
 (.cond (.t 15)
 (.ops 1 [⟨some 16, none, .mv (.t 0), []⟩,
 ⟨some 17, none, .mv (.t 0), []⟩,
 ⟨some 18, none, .nilc (.t 17) (mok Tryz.prog), []⟩,
 ⟨some 19, none, .fld 1 (.t 18), []⟩,
 ⟨some 20, none, .ld 1 false (.t 19), []⟩,
 ⟨some 21, none, .bin .add (.t 20) (.c (.int .i64 1)), []⟩,
 ⟨some 22, none, .mv (.t 0), []⟩,
 ⟨some 23, none, .nilc (.t 22) (mok Tryz.prog), []⟩,
 ⟨some 24, none, .fld 14 (.t 23), []⟩,
 ⟨some 25, none, .fld 0 (.t 24), []⟩,
 ⟨some 26, none, .ld 1 false (.t 25), []⟩,
 ⟨some 27, none, .call 280 [.t 16, .t 21, .t 26], []⟩])
 .skip))
 (.seq
 (.seq
 (.ops 2 [⟨some 28, none, .mv (.t 0), []⟩,
 ⟨some 29, none, .nilc (.t 28) (mok Tryz.prog), []⟩,
 ⟨some 30, none, .fld 14 (.t 29), []⟩,
 ⟨some 31, none, .ld 7 true (.t 30), []⟩,
 ⟨some 32, none, .call 281 [.t 31], []⟩,
 ⟨some 2, none, .mv (.t 32), []⟩])
 (.seq
 (.ops 3 [⟨some 33, none, .mv (.t 2), []⟩,
 ⟨some 34, none, .mv (.t 0), []⟩,
 ⟨some 35, none, .nilc (.t 34) (mok Tryz.prog), []⟩,
 ⟨some 36, none, .fld 7 (.t 35), []⟩,
 ⟨some 37, none, .ld 7 true (.t 36), []⟩,
 ⟨some 38, none, .call 281 [.t 37], []⟩,
 ⟨some 39, none, .bin .neq (.t 33) (.t 38), []⟩])
 (.cond (.t 39)
 (.ops 4 [⟨some 40, none, .mv (.t 0), []⟩,
 ⟨some 41, none, .mv (.t 0), []⟩,
 ⟨some 42, none, .nilc (.t 41) (mok Tryz.prog), []⟩,
 ⟨some 43, none, .fld 1 (.t 42), []⟩,
 ⟨some 44, none, .ld 1 false (.t 43), []⟩,
 ⟨some 45, none, .bin .add (.t 44) (.c (.int .i64 2)), []⟩,
 ⟨some 46, none, .mv (.t 2), []⟩,
 ⟨some 47, none, .call 280 [.t 40, .t 45, .t 46], []⟩])
 .skip)))
 (.seq
 (.seq
 (.ops 5 [⟨some 48, none, .mv (.t 0), []⟩,
 ⟨some 49, none, .nilc (.t 48) (mok Tryz.prog), []⟩,
 ⟨some 50, none, .fld 23 (.t 49), []⟩,
 ⟨some 51, none, .ld 1 false (.t 50), []⟩,
 ⟨some 52, none, .len .slice (.t 51), []⟩,
 ⟨some 53, none, .mv (.c (.int .i64 0)), []⟩])
 (.block 0
 (.loop [] B273x0)))
 (.ops 10 [⟨some 66, none, .mv (.t 0), []⟩,
 ⟨some 67, none, .nilc (.t 66) (mok Tryz.prog), []⟩,
 ⟨some 68, none, .fld 5 (.t 67), []⟩,
 ⟨none, none, .st 1 (.t 68) (.c (.int .i64 5)), []⟩]))))⟩
theorem F273_code : cfgA.code 273 = some F273 := by kernel_rfl

/-- (*ticketline/latch.Move).get -/
noncomputable def F274 : AFn := ⟨124, [], (.seq
 (.seq
 (.ops 0 [⟨some 5, none, .mv (.t 0), []⟩,
 ⟨some 6, none, .nilc (.t 5) (mok Tryz.prog), []⟩,
 ⟨some 7, none, .fld 14 (.t 6), []⟩,
 ⟨some 8, none, .fld 4 (.t 7), []⟩,
 ⟨some 9, none, .ld 1 false (.t 8), []⟩,
 ⟨some 10, none, .bin .eql (.t 9) (.c (.int .u64 0)), []⟩,
 ⟨some 11, none, .mv (.t 10), []⟩,
 ⟨some 12, some (11, true), .mv (.t 0), []⟩,
 ⟨some 13, some (11, true), .nilc (.t 12) (mok Tryz.prog), []⟩,
 ⟨some 14, some (11, true), .fld 14 (.t 13), []⟩,
 ⟨some 15, some (11, true), .fld 3 (.t 14), []⟩,
 ⟨some 16, some (11, true), .ld 1 false (.t 15), []⟩,
 ⟨some 17, some (11, true), .bin .eql (.t 16) (.c (.int .u64 0)), []⟩,
 ⟨some 18, none, .pick (.t 11) (.t 17) (.c (.bool false)), []⟩,
 ⟨some 19, none, .mv (.t 18), []⟩,
 ⟨some 20, some (19, true), .mv (.t 0), []⟩,
 ⟨some 21, some (19, true), .nilc (.t 20) (mok Tryz.prog), []⟩,
 ⟨some 22, some (19, true), .fld 14 (.t 21), []⟩,
 ⟨some 23, some (19, true), .ld 7 true (.t 22), []⟩,
 ⟨some 24, some (19, true), .mv (.t 0), []⟩,
 ⟨some 25, some (19, true), .nilc (.t 24) (mok Tryz.prog), []⟩,
 ⟨some 26, some (19, true), .fld 4 (.t 25), []⟩,
 ⟨some 27, some (19, true), .ld 1 false (.t 26), []⟩,
 ⟨some 28, some (19, true), .call 278 [.t 23, .t 27, .c (.bool false)], []⟩,
 ⟨some 29, none, .pick (.t 19) (.t 28) (.c (.bool false)), []⟩])
 (.cond (.t 29)
 (.seq
 (.ops 1 [⟨some 30, none, .mv (.t 0), []⟩,
 ⟨some 31, none, .mv (.t 0), []⟩,
 ⟨some 32, none, .nilc (.t 31) (mok Tryz.prog), []⟩,
 ⟨some 33, none, .fld 14 (.t 32), []⟩,
 ⟨some 34, none, .ld 7 true (.t 33), []⟩,
 ⟨some 35, none, .mv (.t 0), []⟩,
 ⟨some 36, none, .nilc (.t 35) (mok Tryz.prog), []⟩,
 ⟨some 37, none, .fld 2 (.t 36), []⟩,
 ⟨some 38, none, .ld 1 false (.t 37), []⟩,
 ⟨some 39, none, .mv (.t 0), []⟩,
 ⟨some 40, none, .nilc (.t 39) (mok Tryz.prog), []⟩,
 ⟨some 41, none, .fld 4 (.t 40), []⟩,
 ⟨some 42, none, .ld 1 false (.t 41), []⟩,
 ⟨some 43, none, .call 279 [.t 34, .t 38, .t 42], []⟩,
 ⟨some 44, none, .nilc (.t 30) (mok Tryz.prog), []⟩,
 ⟨some 45, none, .fld 14 (.t 44), []⟩,
 ⟨none, none, .st 7 (.t 45) (.t 43), []⟩])
 (.seq
 (.ops 2 [⟨some 46, none, .mv (.t 0), []⟩,
 ⟨some 47, none, .call 273 [.t 46], []⟩])
 .ret))
 .skip))
 (.seq
 (.ops 3 [⟨some 48, none, .mv (.t 0), []⟩,
 ⟨some 49, none, .call 269 [.t 48, .c (.int .i64 1)], []⟩,
 ⟨some 2, none, .mv (.t 49), []⟩])
 (.seq
 (.ops 4 [⟨some 51, none, .mv (.t 0), []⟩,
 ⟨some 52, none, .nilc (.t 51) (mok Tryz.prog), []⟩,
 ⟨some 53, none, .fld 0 (.t 52), []⟩,
 ⟨some 54, none, .ld 1 false (.t 53), []⟩,
 ⟨some 55, none, .mv (.t 2), []⟩,
 ⟨some 56, none, .call 256 [.t 54, .t 55], []⟩,
 ⟨some 50, none, .mv (.t 56), []⟩,
 ⟨some 57, none, .ext (.t 50) 0, []⟩,
 ⟨some 58, none, .ext (.t 50) 1, []⟩,
 ⟨some 3, none, .mv (.t 57), []⟩,
 ⟨some 4, none, .mv (.t 58), []⟩])
 (.seq
 (.ops 5 [⟨some 59, none, .mv (.t 0), []⟩,
 ⟨some 60, none, .nilc (.t 59) (mok Tryz.prog), []⟩,
 ⟨some 61, none, .fld 24 (.t 60), []⟩,
 ⟨none, none, .st 1 (.t 61) (.c (.bool true)), []⟩])
 (.seq
 (.ops 6 [⟨some 62, none, .mv (.t 0), []⟩,
 ⟨some 63, none, .mv (.t 0), []⟩,
 ⟨some 64, none, .nilc (.t 63) (mok Tryz.prog), []⟩,
 ⟨some 65, none, .fld 0 (.t 64), []⟩,
 ⟨some 66, none, .ld 1 false (.t 65), []⟩,
 ⟨some 67, none, .mv (.t 2), []⟩,
 ⟨some 69, none, .mv (.t 0), []⟩,
 ⟨some 70, none, .nilc (.t 69) (mok Tryz.prog), []⟩,
 ⟨some 71, none, .fld 4 (.t 70), []⟩,
 ⟨some 72, none, .ld 1 false (.t 71), []⟩,
 ⟨some 73, none, .cvi .u64 (.t 72), []⟩,
 ⟨some 68, none, .call 162 [.t 66, .t 67], [(72, .ld 1 false (.t 71))]⟩,
 ⟨some 74, none, .call 280 [.t 62, .t 68, .t 73], []⟩])
 (.seq
 (.ops 7 [⟨some 75, none, .mv (.t 0), []⟩,
 ⟨some 76, none, .mv (.t 0), []⟩,
 ⟨some 77, none, .nilc (.t 76) (mok Tryz.prog), []⟩,
 ⟨some 78, none, .fld 0 (.t 77), []⟩,
 ⟨some 79, none, .ld 1 false (.t 78), []⟩,
 ⟨some 80, none, .mv (.t 2), []⟩,
 ⟨some 81, none, .call 163 [.t 79, .t 80], []⟩,
 ⟨some 82, none, .call 280 [.t 75, .t 81, .c (.int .u64 0)], []⟩])
 (.seq
 (.ops 8 [⟨some 83, none, .mv (.t 0), []⟩,
 ⟨some 84, none, .mv (.t 0), []⟩,
 ⟨some 85, none, .nilc (.t 84) (mok Tryz.prog), []⟩,
 ⟨some 86, none, .fld 0 (.t 85), []⟩,
 ⟨some 87, none, .ld 1 false (.t 86), []⟩,
 ⟨some 88, none, .mv (.t 2), []⟩,
 ⟨some 89, none, .call 255 [.t 87, .t 88], []⟩,
 ⟨some 90, none, .call 280 [.t 83, .t 89, .c (.int .u64 1)], []⟩])
 (.seq
 (.seq
 (.ops 9 [⟨some 91, none, .mv (.t 0), []⟩,
 ⟨some 92, none, .nilc (.t 91) (mok Tryz.prog), []⟩,
 ⟨some 93, none, .fld 14 (.t 92), []⟩,
 ⟨some 94, none, .fld 5 (.t 93), []⟩,
 ⟨some 95, none, .ld 1 false (.t 94), []⟩,
 ⟨some 96, none, .bin .eql (.t 95) (.c (.int .u64 0)), []⟩])
 (.cond (.t 96)
 (.ops 10 [⟨some 97, none, .mv (.t 0), []⟩,
 ⟨some 98, none, .mv (.t 3), []⟩,
 ⟨some 99, none, .nilc (.t 97) (mok Tryz.prog), []⟩,
 ⟨some 100, none, .fld 14 (.t 99), []⟩,
 ⟨some 101, none, .fld 4 (.t 100), []⟩,
 ⟨none, none, .st 1 (.t 101) (.t 98), []⟩])
 (.ops 11 [⟨some 102, none, .mv (.t 0), []⟩,
 ⟨some 103, none, .mv (.t 0), []⟩,
 ⟨some 104, none, .nilc (.t 103) (mok Tryz.prog), []⟩,
 ⟨some 105, none, .fld 0 (.t 104), []⟩,
 ⟨some 106, none, .ld 1 false (.t 105), []⟩,
 ⟨some 107, none, .mv (.t 0), []⟩,
 ⟨some 108, none, .nilc (.t 107) (mok Tryz.prog), []⟩,
 ⟨some 109, none, .fld 14 (.t 108), []⟩,
 ⟨some 110, none, .fld 5 (.t 109), []⟩,
 ⟨some 111, none, .ld 1 false (.t 110), []⟩,
 ⟨some 112, none, .cvi .i64 (.t 111), []⟩,
 ⟨some 113, none, .bin .sub (.t 112) (.c (.int .i64 1)), []⟩,
 ⟨some 115, none, .mv (.t 3), []⟩,
 ⟨some 114, none, .call 163 [.t 106, .t 113], []⟩,
 ⟨some 116, none, .call 280 [.t 102, .t 114, .t 115], []⟩])))
 (.seq
 (.ops 12 [⟨some 117, none, .mv (.t 0), []⟩,
 ⟨some 118, none, .mv (.t 3), []⟩,
 ⟨some 119, none, .nilc (.t 117) (mok Tryz.prog), []⟩,
 ⟨some 120, none, .fld 14 (.t 119), []⟩,
 ⟨some 121, none, .fld 5 (.t 120), []⟩,
 ⟨none, none, .st 1 (.t 121) (.t 118), []⟩])
 (.ops 13 [⟨some 122, none, .mv (.t 0), []⟩,
 ⟨some 123, none, .call 273 [.t 122], []⟩]))))))))))⟩
theorem F274_code : cfgA.code 274 = some F274 := by kernel_rfl

/-- (ticketline/latch.state).take -/
noncomputable def F275 : AFn := ⟨27, [.cell 4 7 true], (.seq
 (.ops 0 [⟨some 2, none, .box 7 (.t 0) false, []⟩,
 ⟨some 4, none, .alloc [.int .u64 0, .int .u64 0, .int .u64 0, .int .u64 0, .int .u64 0, .int .u64 0, .int .u64 0] false, []⟩])
 (.seq
 (.seq
 (.ops 1 [⟨some 5, none, .ld 7 true (.t 2), []⟩,
 ⟨some 6, none, .mv (.t 1), []⟩,
 ⟨some 7, none, .call 272 [.t 5, .t 6], []⟩])
 (.block 0
 (.seq
 (.ops 2 [⟨some 9, none, .bin .eql (.t 7) (.c (.int .i64 1)), []⟩,
 ⟨some 8, none, .mv (.t 9), []⟩])
 (.cond (.t 8)
 (.seq
 (.ops 3 [⟨some 10, none, .fld 0 (.t 2), []⟩,
 ⟨some 11, none, .ld 1 false (.t 10), []⟩,
 ⟨some 12, none, .mv (.t 1), []⟩,
 ⟨some 13, none, .bin .shl (.c (.int .u64 1)) (.t 12), []⟩,
 ⟨some 14, none, .bin .andNot (.t 11) (.t 13), []⟩,
 ⟨some 15, none, .fld 0 (.t 2), []⟩,
 ⟨none, none, .st 1 (.t 15) (.t 14), []⟩])
 (.seq
 (.ops 4 [⟨some 16, none, .fld 0 (.t 2), []⟩,
 ⟨some 17, none, .ld 1 false (.t 16), []⟩,
 ⟨some 18, none, .bin .eql (.t 17) (.c (.int .u64 0)), []⟩])
 (.cond (.t 18)
 (.ops 5 [⟨some 19, none, .fld 6 (.t 2), []⟩,
 ⟨none, none, .st 1 (.t 19) (.c (.int .u64 0)), []⟩])
 .skip)))
 (.seq
 (.ops 6 [⟨some 21, none, .bin .eql (.t 7) (.c (.int .i64 2)), []⟩,
 ⟨some 20, none, .mv (.t 21), []⟩])
 (.cond (.t 20)
 (.ops 7 [⟨some 22, none, .fld 1 (.t 2), []⟩,
 ⟨none, none, .st 1 (.t 22) (.c (.int .u64 0)), []⟩])
 (.seq
 (.ops 8 [⟨some 24, none, .bin .eql (.t 7) (.c (.int .i64 3)), []⟩,
 ⟨some 23, none, .mv (.t 24), []⟩])
 (.cond (.t 23)
 (.ops 9 [⟨some 25, none, .fld 2 (.t 2), []⟩,
 ⟨none, none, .st 1 (.t 25) (.c (.int .u64 0)), []⟩])
 .skip))))))))
 (.seq
 (.ops 10 [⟨some 26, none, .ld 7 true (.t 2), []⟩,
 ⟨none, none, .st 7 (.t 4) (.t 26), []⟩])
 .ret)))⟩
theorem F275_code : cfgA.code 275 = some F275 := by kernel_rfl

/-- (ticketline/latch.state).goes -/
noncomputable def F278 : AFn := ⟨15, [.tmp 6], (.seq
 (.ops 0 [⟨some 3, none, .box 7 (.t 0) false, []⟩,
 ⟨some 6, none, .mv (.c (.bool false)), []⟩])
 (.seq
 (.ops 1 [⟨some 7, none, .mv (.t 1), []⟩,
 ⟨some 8, none, .ld 7 true (.t 3), []⟩,
 ⟨some 10, none, .fld 6 (.t 3), []⟩,
 ⟨some 11, none, .ld 1 false (.t 10), []⟩,
 ⟨some 12, none, .cvi .i64 (.t 11), []⟩,
 ⟨some 13, none, .mv (.t 2), []⟩,
 ⟨some 9, none, .call 218 [.t 8], [(11, .ld 1 false (.t 10))]⟩,
 ⟨some 14, none, .call 282 [.t 7, .t 9, .t 12, .t 13], []⟩,
 ⟨some 6, none, .mv (.t 14), []⟩])
 .ret))⟩
theorem F278_code : cfgA.code 278 = some F278 := by kernel_rfl

/-- (ticketline/latch.state).give -/
noncomputable def F279 : AFn := ⟨37, [.cell 6 7 true], (.seq
 (.ops 0 [⟨some 3, none, .box 7 (.t 0) false, []⟩,
 ⟨some 6, none, .alloc [.int .u64 0, .int .u64 0, .int .u64 0, .int .u64 0, .int .u64 0, .int .u64 0, .int .u64 0] false, []⟩])
 (.seq
 (.ops 1 [⟨some 8, none, .mv (.t 1), []⟩,
 ⟨some 9, none, .cvi .u64 (.t 8), []⟩,
 ⟨some 10, none, .bin .add (.t 9) (.c (.int .u64 1)), []⟩,
 ⟨some 7, none, .mv (.t 10), []⟩])
 (.seq
 (.ops 2 [⟨some 11, none, .ld 7 true (.t 3), []⟩,
 ⟨some 12, none, .mv (.t 1), []⟩,
 ⟨some 13, none, .call 275 [.t 11, .t 12], []⟩,
 ⟨none, none, .st 7 (.t 3) (.t 13), []⟩])
 (.seq
 (.seq
 (.ops 3 [⟨some 14, none, .mv (.t 2), []⟩])
 (.block 0
 (.seq
 (.ops 4 [⟨some 16, none, .bin .eql (.t 14) (.c (.int .i64 1)), []⟩,
 ⟨some 15, none, .mv (.t 16), []⟩])
 (.cond (.t 15)
 (.seq
 (.ops 5 [⟨some 17, none, .fld 0 (.t 3), []⟩,
 ⟨some 18, none, .ld 1 false (.t 17), []⟩,
 ⟨some 19, none, .mv (.t 1), []⟩,
 ⟨some 20, none, .bin .shl (.c (.int .u64 1)) (.t 19), []⟩,
 ⟨some 21, none, .bin .or (.t 18) (.t 20), []⟩,
 ⟨some 22, none, .fld 0 (.t 3), []⟩,
 ⟨none, none, .st 1 (.t 22) (.t 21), []⟩])
 (.ops 6 [⟨some 23, none, .fld 6 (.t 3), []⟩,
 ⟨some 24, none, .ld 1 false (.t 23), []⟩,
 ⟨some 25, none, .bin .add (.t 24) (.c (.int .u64 1)), []⟩,
 ⟨some 26, none, .mx false (.t 25) [.c (.int .u64 4)], []⟩,
 ⟨some 27, none, .fld 6 (.t 3), []⟩,
 ⟨none, none, .st 1 (.t 27) (.t 26), []⟩]))
 (.seq
 (.ops 7 [⟨some 29, none, .bin .eql (.t 14) (.c (.int .i64 2)), []⟩,
 ⟨some 28, none, .mv (.t 29), []⟩])
 (.cond (.t 28)
 (.ops 8 [⟨some 30, none, .mv (.t 7), []⟩,
 ⟨some 31, none, .fld 1 (.t 3), []⟩,
 ⟨none, none, .st 1 (.t 31) (.t 30), []⟩])
 (.seq
 (.ops 9 [⟨some 33, none, .bin .eql (.t 14) (.c (.int .i64 3)), []⟩,
 ⟨some 32, none, .mv (.t 33), []⟩])
 (.cond (.t 32)
 (.ops 10 [⟨some 34, none, .mv (.t 7), []⟩,
 ⟨some 35, none, .fld 2 (.t 3), []⟩,
 ⟨none, none, .st 1 (.t 35) (.t 34), []⟩])
 .skip))))))))
 (.seq
 (.ops 11 [⟨some 36, none, .ld 7 true (.t 3), []⟩,
 ⟨none, none, .st 7 (.t 6) (.t 36), []⟩])
 .ret)))))⟩
theorem F279_code : cfgA.code 279 = some F279 := by kernel_rfl

/-- (*ticketline/latch.Move).put -/
noncomputable def F280 : AFn := ⟨18, [], (.ops 0 [⟨some 6, none, .mv (.t 0), []⟩,
 ⟨some 7, none, .mv (.t 0), []⟩,
 ⟨some 8, none, .nilc (.t 7) (mok Tryz.prog), []⟩,
 ⟨some 9, none, .fld 22 (.t 8), []⟩,
 ⟨some 10, none, .ld 1 false (.t 9), []⟩,
 ⟨some 11, none, .mv (.t 1), []⟩,
 ⟨some 12, none, .mv (.t 2), []⟩,
 ⟨some 13, none, .build [.int .i64 0, .int .i64 0, .int .u64 0, .int .u64 0] [(0, 1, (.c (.int .i64 2))), (1, 1, (.t 11)), (3, 1, (.t 12))], []⟩,
 ⟨some 14, none, .bslice [.int .i64 0, .int .i64 0, .int .u64 0, .int .u64 0] 4 1 [(0, (.t 13))] false false, []⟩,
 ⟨some 15, none, .app 4 32 (.t 10) (.t 14) true, []⟩,
 ⟨some 16, none, .nilc (.t 6) (mok Tryz.prog), []⟩,
 ⟨some 17, none, .fld 22 (.t 16), []⟩,
 ⟨none, none, .st 1 (.t 17) (.t 15), []⟩])⟩
theorem F280_code : cfgA.code 280 = some F280 := by kernel_rfl

/-- (ticketline/latch.state).word: the round 0 -/
noncomputable def B281x0 : AC := (.seq
 (.ops 3 [⟨some 21, none, .bin .lss (.t 20) (.t 19), []⟩])
 (.seq
 (.cond (.t 21)
 .skip
 (.exit 0))
 (.seq
 (.block 1
 (.seq
 (.ops 4 [⟨some 22, none, .ixa none 1 (.t 18) (.t 20), []⟩,
 ⟨some 23, none, .ld 1 false (.t 22), []⟩,
 ⟨some 5, none, .mv (.t 23), []⟩])
 (.ops 5 [⟨some 24, none, .mv (.t 3), []⟩,
 ⟨some 25, none, .bin .shl (.t 24) (.c (.int .u64 8)), []⟩,
 ⟨some 26, none, .mv (.t 5), []⟩,
 ⟨some 27, none, .bin .or (.t 25) (.t 26), []⟩,
 ⟨some 3, none, .mv (.t 27), []⟩])))
 (.ops 6 [⟨some 28, none, .bin .add (.t 20) (.c (.int .i64 1)), []⟩,
 ⟨some 20, none, .mv (.t 28), []⟩]))))
/-- (ticketline/latch.state).word -/
noncomputable def F281 : AFn := ⟨30, [.tmp 2], (.seq
 (.ops 0 [⟨some 1, none, .box 7 (.t 0) false, []⟩,
 ⟨some 2, none, .mv (.c (.int .u64 0)), []⟩])
 (.seq
 (.ops 1 [⟨some 3, none, .mv (.c (.int .u64 0)), []⟩])
 (.seq
 (.seq
 (.ops 2 [⟨some 6, none, .fld 6 (.t 1), []⟩,
 ⟨some 7, none, .ld 1 false (.t 6), []⟩,
 ⟨some 8, none, .fld 5 (.t 1), []⟩,
 ⟨some 9, none, .ld 1 false (.t 8), []⟩,
 ⟨some 10, none, .fld 4 (.t 1), []⟩,
 ⟨some 11, none, .ld 1 false (.t 10), []⟩,
 ⟨some 12, none, .fld 3 (.t 1), []⟩,
 ⟨some 13, none, .ld 1 false (.t 12), []⟩,
 ⟨some 14, none, .fld 2 (.t 1), []⟩,
 ⟨some 15, none, .ld 1 false (.t 14), []⟩,
 ⟨some 16, none, .fld 1 (.t 1), []⟩,
 ⟨some 17, none, .ld 1 false (.t 16), []⟩,
 ⟨some 18, none, .bslice [.int .u64 0] 1 6 [(0, (.t 7)), (1, (.t 9)), (2, (.t 11)), (3, (.t 13)), (4, (.t 15)), (5, (.t 17))] false false, []⟩,
 ⟨some 19, none, .len .slice (.t 18), []⟩,
 ⟨some 20, none, .mv (.c (.int .i64 0)), []⟩])
 (.block 0
 (.loop [] B281x0)))
 (.seq
 (.ops 7 [⟨some 29, none, .mv (.t 3), []⟩,
 ⟨some 2, none, .mv (.t 29), []⟩])
 .ret))))⟩
theorem F281_code : cfgA.code 281 = some F281 := by kernel_rfl

/-- ticketline/modes.Goes -/
noncomputable def F282 : AFn := ⟨28, [.tmp 8], (.seq
 (.ops 0 [⟨some 8, none, .mv (.c (.bool false)), []⟩])
 (.seq
 (.ops 1 [⟨some 9, none, .mv (.t 0), []⟩,
 ⟨some 10, none, .call 211 [.t 9], []⟩,
 ⟨some 11, none, .mv (.t 10), []⟩,
 ⟨some 12, some (11, true), .mv (.t 0), []⟩,
 ⟨some 13, some (11, true), .mv (.t 1), []⟩,
 ⟨some 14, some (11, true), .call 222 [.t 12, .t 13], []⟩,
 ⟨some 15, none, .pick (.t 11) (.t 14) (.c (.bool false)), []⟩,
 ⟨some 16, none, .mv (.t 15), []⟩,
 ⟨some 17, some (16, true), .mv (.t 0), []⟩,
 ⟨some 18, some (16, true), .bin .neq (.t 17) (.c (.int .i64 1)), []⟩,
 ⟨some 19, some (16, true), .mv (.t 18), []⟩,
 ⟨some 20, some (19, false), .mv (.t 3), []⟩,
 ⟨some 21, some (19, false), .un .not (.t 20), []⟩,
 ⟨some 22, some (16, true), .pick (.t 19) (.c (.bool true)) (.t 21), []⟩,
 ⟨some 23, some (16, true), .mv (.t 22), []⟩,
 ⟨some 24, some (23, false), .mv (.t 2), []⟩,
 ⟨some 25, some (23, false), .bin .lss (.t 24) (.c (.int .i64 4)), []⟩,
 ⟨some 26, some (16, true), .pick (.t 23) (.c (.bool true)) (.t 25), []⟩,
 ⟨some 27, none, .pick (.t 16) (.t 26) (.c (.bool false)), []⟩,
 ⟨some 8, none, .mv (.t 27), []⟩])
 .ret))⟩
theorem F282_code : cfgA.code 282 = some F282 := by kernel_rfl

/-- (*ticketline/mem.Once).CAS -/
noncomputable def F285 : AFn := ⟨30, [.tmp 8, .tmp 9], (.seq
 (.ops 0 [⟨some 8, none, .mv (.c (.bool false)), []⟩,
 ⟨some 9, none, .mv (.c (.int .i64 0)), []⟩])
 (.seq
 (.ops 1 [⟨some 13, none, .mv (.t 0), []⟩,
 ⟨some 14, none, .mv (.t 1), []⟩,
 ⟨some 15, none, .mv (.t 2), []⟩,
 ⟨some 16, none, .mv (.t 3), []⟩,
 ⟨some 17, none, .build [.int .i64 0, .int .i64 0, .int .u64 0, .int .u64 0] [(0, 1, (.c (.int .i64 3))), (1, 1, (.t 14)), (2, 1, (.t 15)), (3, 1, (.t 16))], []⟩,
 ⟨some 18, none, .call 290 [.t 13, .t 17], []⟩,
 ⟨some 12, none, .mv (.t 18), []⟩,
 ⟨some 19, none, .ext (.t 12) 0, []⟩,
 ⟨some 20, none, .ext (.t 12) 1, []⟩,
 ⟨some 10, none, .alloc [.int .i64 0, .int .i64 0, .int .u64 0, .int .u64 0] false, []⟩,
 ⟨none, none, .st 4 (.t 10) (.t 19), []⟩,
 ⟨some 11, none, .mv (.t 20), []⟩])
 (.seq
 (.ops 2 [⟨some 21, none, .mv (.t 11), []⟩,
 ⟨some 22, none, .bin .eql (.t 21) (.c (.int .i64 0)), []⟩,
 ⟨some 23, none, .mv (.t 22), []⟩,
 ⟨some 24, some (23, true), .fld 2 (.t 10), []⟩,
 ⟨some 25, some (23, true), .ld 1 false (.t 24), []⟩,
 ⟨some 26, some (23, true), .mv (.t 2), []⟩,
 ⟨some 27, some (23, true), .bin .eql (.t 25) (.t 26), []⟩,
 ⟨some 28, none, .pick (.t 23) (.t 27) (.c (.bool false)), []⟩,
 ⟨some 29, none, .mv (.t 11), []⟩,
 ⟨some 8, none, .mv (.t 28), []⟩,
 ⟨some 9, none, .mv (.t 29), []⟩])
 .ret)))⟩
theorem F285_code : cfgA.code 285 = some F285 := by kernel_rfl

/-- (*ticketline/mem.Once).Load -/
noncomputable def F287 : AFn := ⟨18, [.tmp 4, .tmp 5], (.seq
 (.ops 0 [⟨some 4, none, .mv (.c (.int .u64 0)), []⟩,
 ⟨some 5, none, .mv (.c (.int .i64 0)), []⟩])
 (.seq
 (.ops 1 [⟨some 9, none, .mv (.t 0), []⟩,
 ⟨some 10, none, .mv (.t 1), []⟩,
 ⟨some 11, none, .build [.int .i64 0, .int .i64 0, .int .u64 0, .int .u64 0] [(0, 1, (.c (.int .i64 1))), (1, 1, (.t 10))], []⟩,
 ⟨some 12, none, .call 290 [.t 9, .t 11], []⟩,
 ⟨some 8, none, .mv (.t 12), []⟩,
 ⟨some 13, none, .ext (.t 8) 0, []⟩,
 ⟨some 14, none, .ext (.t 8) 1, []⟩,
 ⟨some 6, none, .alloc [.int .i64 0, .int .i64 0, .int .u64 0, .int .u64 0] false, []⟩,
 ⟨none, none, .st 4 (.t 6) (.t 13), []⟩,
 ⟨some 7, none, .mv (.t 14), []⟩])
 (.seq
 (.ops 2 [⟨some 15, none, .fld 2 (.t 6), []⟩,
 ⟨some 16, none, .ld 1 false (.t 15), []⟩,
 ⟨some 17, none, .mv (.t 7), []⟩,
 ⟨some 4, none, .mv (.t 16), []⟩,
 ⟨some 5, none, .mv (.t 17), []⟩])
 .ret)))⟩
theorem F287_code : cfgA.code 287 = some F287 := by kernel_rfl

/-- (*ticketline/mem.Once).Store -/
noncomputable def F288 : AFn := ⟨18, [.tmp 6], (.seq
 (.ops 0 [⟨some 6, none, .mv (.c (.int .i64 0)), []⟩])
 (.seq
 (.ops 1 [⟨some 10, none, .mv (.t 0), []⟩,
 ⟨some 11, none, .mv (.t 1), []⟩,
 ⟨some 12, none, .mv (.t 2), []⟩,
 ⟨some 13, none, .build [.int .i64 0, .int .i64 0, .int .u64 0, .int .u64 0] [(0, 1, (.c (.int .i64 2))), (1, 1, (.t 11)), (3, 1, (.t 12))], []⟩,
 ⟨some 14, none, .call 290 [.t 10, .t 13], []⟩,
 ⟨some 9, none, .mv (.t 14), []⟩,
 ⟨some 15, none, .ext (.t 9) 0, []⟩,
 ⟨some 16, none, .ext (.t 9) 1, []⟩,
 ⟨some 7, none, .alloc [.int .i64 0, .int .i64 0, .int .u64 0, .int .u64 0] false, []⟩,
 ⟨none, none, .st 4 (.t 7) (.t 15), []⟩,
 ⟨some 8, none, .mv (.t 16), []⟩])
 (.seq
 (.ops 2 [⟨some 17, none, .mv (.t 8), []⟩,
 ⟨some 6, none, .mv (.t 17), []⟩])
 .ret)))⟩
theorem F288_code : cfgA.code 288 = some F288 := by kernel_rfl

/-- (*ticketline/mem.Once).Swap -/
noncomputable def F289 : AFn := ⟨21, [.tmp 6, .tmp 7], (.seq
 (.ops 0 [⟨some 6, none, .mv (.c (.int .u64 0)), []⟩,
 ⟨some 7, none, .mv (.c (.int .i64 0)), []⟩])
 (.seq
 (.ops 1 [⟨some 11, none, .mv (.t 0), []⟩,
 ⟨some 12, none, .mv (.t 1), []⟩,
 ⟨some 13, none, .mv (.t 2), []⟩,
 ⟨some 14, none, .build [.int .i64 0, .int .i64 0, .int .u64 0, .int .u64 0] [(0, 1, (.c (.int .i64 4))), (1, 1, (.t 12)), (3, 1, (.t 13))], []⟩,
 ⟨some 15, none, .call 290 [.t 11, .t 14], []⟩,
 ⟨some 10, none, .mv (.t 15), []⟩,
 ⟨some 16, none, .ext (.t 10) 0, []⟩,
 ⟨some 17, none, .ext (.t 10) 1, []⟩,
 ⟨some 8, none, .alloc [.int .i64 0, .int .i64 0, .int .u64 0, .int .u64 0] false, []⟩,
 ⟨none, none, .st 4 (.t 8) (.t 16), []⟩,
 ⟨some 9, none, .mv (.t 17), []⟩])
 (.seq
 (.ops 2 [⟨some 18, none, .fld 2 (.t 8), []⟩,
 ⟨some 19, none, .ld 1 false (.t 18), []⟩,
 ⟨some 20, none, .mv (.t 9), []⟩,
 ⟨some 6, none, .mv (.t 19), []⟩,
 ⟨some 7, none, .mv (.t 20), []⟩])
 .ret)))⟩
theorem F289_code : cfgA.code 289 = some F289 := by kernel_rfl

/-- (*ticketline/mem.Once).do -/
noncomputable def F290 : AFn := ⟨37, [.cell 4 4 true, .tmp 5], (.seq
 (.ops 0 [⟨some 3, none, .box 4 (.t 1) false, []⟩,
 ⟨some 4, none, .alloc [.int .i64 0, .int .i64 0, .int .u64 0, .int .u64 0] false, []⟩,
 ⟨some 5, none, .mv (.c (.int .i64 0)), []⟩])
 (.seq
 (.block 0
 (.seq
 (.ops 1 [⟨some 9, none, .mv (.t 0), []⟩,
 ⟨some 10, none, .call 291 [.t 9], []⟩,
 ⟨some 8, none, .mv (.t 10), []⟩])
 (.cond (.t 8)
 (.seq
 (.ops 2 [⟨some 11, none, .build [.int .i64 0, .int .i64 0, .int .u64 0, .int .u64 0] [], []⟩,
 ⟨none, none, .st 4 (.t 4) (.t 11), []⟩,
 ⟨some 5, none, .mv (.c (.int .i64 1)), []⟩])
 .ret)
 (.seq
 (.ops 3 [⟨some 13, none, .mv (.t 0), []⟩,
 ⟨some 14, none, .nilc (.t 13) (mok Tryz.prog), []⟩,
 ⟨some 15, none, .fld 1 (.t 14), []⟩,
 ⟨some 16, none, .fld 0 (.t 15), []⟩,
 ⟨some 17, none, .ld 1 false (.t 16), []⟩,
 ⟨some 18, none, .bin .neq (.t 17) (.c (.int .i64 0)), []⟩,
 ⟨some 12, none, .mv (.t 18), []⟩])
 (.cond (.t 12)
 (.seq
 (.ops 4 [⟨some 19, none, .build [.int .i64 0, .int .i64 0, .int .u64 0, .int .u64 0] [], []⟩,
 ⟨none, none, .st 4 (.t 4) (.t 19), []⟩,
 ⟨some 5, none, .mv (.c (.int .i64 11)), []⟩])
 .ret)
 .skip)))))
 (.seq
 (.ops 5 [⟨some 21, none, .mv (.t 0), []⟩,
 ⟨some 22, none, .nilc (.t 21) (mok Tryz.prog), []⟩,
 ⟨some 23, none, .fld 0 (.t 22), []⟩,
 ⟨some 24, none, .ld 1 false (.t 23), []⟩,
 ⟨some 25, none, .ld 4 true (.t 3), []⟩,
 ⟨some 6, none, .alloc [.int .i64 0, .int .i64 0, .int .u64 0, .int .u64 0] false, []⟩,
 ⟨some 26, none, .call 212 [.t 24, .t 25], []⟩,
 ⟨some 20, none, .mv (.t 26), []⟩,
 ⟨some 27, none, .ext (.t 20) 0, []⟩,
 ⟨some 28, none, .ext (.t 20) 1, []⟩,
 ⟨none, none, .st 4 (.t 6) (.t 27), []⟩,
 ⟨some 7, none, .mv (.t 28), []⟩])
 (.seq
 (.seq
 (.ops 6 [⟨some 29, none, .mv (.t 7), []⟩,
 ⟨some 30, none, .bin .eql (.t 29) (.c (.int .i64 0)), []⟩])
 (.cond (.t 30)
 (.ops 7 [⟨some 31, none, .mv (.t 0), []⟩,
 ⟨some 32, none, .ld 4 true (.t 6), []⟩,
 ⟨some 33, none, .nilc (.t 31) (mok Tryz.prog), []⟩,
 ⟨some 34, none, .fld 1 (.t 33), []⟩,
 ⟨none, none, .st 4 (.t 34) (.t 32), []⟩])
 .skip))
 (.seq
 (.ops 8 [⟨some 35, none, .ld 4 true (.t 6), []⟩,
 ⟨some 36, none, .mv (.t 7), []⟩,
 ⟨none, none, .st 4 (.t 4) (.t 35), []⟩,
 ⟨some 5, none, .mv (.t 36), []⟩])
 .ret)))))⟩
theorem F290_code : cfgA.code 290 = some F290 := by kernel_rfl

/-- (*ticketline/mem.Once).zero -/
noncomputable def F291 : AFn := ⟨12, [.tmp 2], (.seq
 (.ops 0 [⟨some 2, none, .mv (.c (.bool false)), []⟩])
 (.seq
 (.ops 1 [⟨some 3, none, .mv (.t 0), []⟩,
 ⟨some 4, none, .eqn .ptr false (.t 3), []⟩,
 ⟨some 5, none, .mv (.t 4), []⟩,
 ⟨some 6, some (5, false), .mv (.t 0), []⟩,
 ⟨some 7, some (5, false), .nilc (.t 6) (mok Tryz.prog), []⟩,
 ⟨some 8, some (5, false), .fld 0 (.t 7), []⟩,
 ⟨some 9, some (5, false), .ld 1 false (.t 8), []⟩,
 ⟨some 10, some (5, false), .eqn .ptr false (.t 9), []⟩,
 ⟨some 11, none, .pick (.t 5) (.c (.bool true)) (.t 10), []⟩,
 ⟨some 2, none, .mv (.t 11), []⟩])
 .ret))⟩
theorem F291_code : cfgA.code 291 = some F291 := by kernel_rfl

/-- (*ticketline/mcs.Acquire).Done -/
noncomputable def F301 : AFn := ⟨11, [.tmp 2], (.seq
 (.ops 0 [⟨some 2, none, .mv (.c (.bool false)), []⟩])
 (.seq
 (.ops 1 [⟨some 3, none, .mv (.t 0), []⟩,
 ⟨some 4, none, .eqn .ptr false (.t 3), []⟩,
 ⟨some 5, none, .mv (.t 4), []⟩,
 ⟨some 6, some (5, false), .mv (.t 0), []⟩,
 ⟨some 7, some (5, false), .nilc (.t 6) (mok Tryz.prog), []⟩,
 ⟨some 8, some (5, false), .fld 0 (.t 7), []⟩,
 ⟨some 9, some (5, false), .call 248 [.t 8], []⟩,
 ⟨some 10, none, .pick (.t 5) (.c (.bool true)) (.t 9), []⟩,
 ⟨some 2, none, .mv (.t 10), []⟩])
 .ret))⟩
theorem F301_code : cfgA.code 301 = some F301 := by kernel_rfl

/-- (*ticketline/mcs.Acquire).Step -/
noncomputable def F303 : AFn := ⟨185, [.tmp 4, .tmp 5], (.seq
 (.ops 0 [⟨some 4, none, .mv (.c (.bool false)), []⟩,
 ⟨some 5, none, .mv (.c (.int .i64 0)), []⟩])
 (.seq
 (.seq
 (.ops 1 [⟨some 13, none, .mv (.t 0), []⟩,
 ⟨some 14, none, .eqn .ptr false (.t 13), []⟩])
 (.cond (.t 14)
 (.seq
 (.ops 2 [⟨some 4, none, .mv (.c (.bool false)), []⟩,
 ⟨some 5, none, .mv (.c (.int .i64 1)), []⟩])
 .ret)
 .skip))
 (.seq
 (.seq
 (.ops 3 [⟨some 15, none, .mv (.t 0), []⟩,
 ⟨some 16, none, .nilc (.t 15) (mok Tryz.prog), []⟩,
 ⟨some 17, none, .fld 0 (.t 16), []⟩,
 ⟨some 18, none, .mv (.t 1), []⟩,
 ⟨some 19, none, .call 250 [.t 17, .t 18], []⟩,
 ⟨some 6, none, .mv (.t 19), []⟩])
 (.seq
 (.ops 4 [⟨some 20, none, .mv (.t 6), []⟩,
 ⟨some 21, none, .bin .neq (.t 20) (.c (.int .i64 0)), []⟩])
 (.cond (.t 21)
 (.seq
 (.ops 5 [⟨some 22, none, .mv (.t 6), []⟩,
 ⟨some 4, none, .mv (.c (.bool false)), []⟩,
 ⟨some 5, none, .mv (.t 22), []⟩])
 .ret)
 .skip)))
 (.seq
 (.seq
 (.ops 6 [⟨some 23, none, .mv (.t 0), []⟩,
 ⟨some 24, none, .nilc (.t 23) (mok Tryz.prog), []⟩,
 ⟨some 25, none, .fld 0 (.t 24), []⟩,
 ⟨some 26, none, .fld 3 (.t 25), []⟩,
 ⟨some 27, none, .ld 1 false (.t 26), []⟩])
 (.block 0
 (.seq
 (.ops 7 [⟨some 29, none, .bin .eql (.t 27) (.c (.int .i64 1)), []⟩,
 ⟨some 28, none, .mv (.t 29), []⟩])
 (.cond (.t 28)
 (.seq
 (.ops 8 [⟨some 30, none, .mv (.t 0), []⟩,
 ⟨some 31, none, .nilc (.t 30) (mok Tryz.prog), []⟩,
 ⟨some 32, none, .fld 0 (.t 31), []⟩,
 ⟨some 33, none, .mv (.t 1), []⟩,
 ⟨some 34, none, .mv (.t 0), []⟩,
 ⟨some 35, none, .nilc (.t 34) (mok Tryz.prog), []⟩,
 ⟨some 36, none, .fld 0 (.t 35), []⟩,
 ⟨some 37, none, .fld 0 (.t 36), []⟩,
 ⟨some 38, none, .ld 1 false (.t 37), []⟩,
 ⟨some 39, none, .mv (.t 0), []⟩,
 ⟨some 40, none, .nilc (.t 39) (mok Tryz.prog), []⟩,
 ⟨some 41, none, .fld 0 (.t 40), []⟩,
 ⟨some 42, none, .fld 2 (.t 41), []⟩,
 ⟨some 43, none, .ld 1 false (.t 42), []⟩,
 ⟨some 45, none, .mkv "Store" (.t 33), []⟩,
 ⟨some 46, none, .nilc (.t 45) (mok Tryz.prog), []⟩,
 ⟨some 47, none, .mv (.t 33), []⟩,
 ⟨some 44, none, .call 163 [.t 38, .t 43], []⟩,
 ⟨some 48, none, .invk (.t 47) "Store" [.t 44, .c (.int .u64 0)], []⟩,
 ⟨some 49, none, .call 251 [.t 32, .t 48, .c (.int .i64 2)], []⟩,
 ⟨some 50, none, .ext (.t 49) 0, []⟩,
 ⟨some 51, none, .ext (.t 49) 1, []⟩,
 ⟨some 4, none, .mv (.t 50), []⟩,
 ⟨some 5, none, .mv (.t 51), []⟩])
 .ret)
 (.seq
 (.ops 9 [⟨some 53, none, .bin .eql (.t 27) (.c (.int .i64 2)), []⟩,
 ⟨some 52, none, .mv (.t 53), []⟩])
 (.cond (.t 52)
 (.seq
 (.ops 10 [⟨some 54, none, .mv (.t 0), []⟩,
 ⟨some 55, none, .nilc (.t 54) (mok Tryz.prog), []⟩,
 ⟨some 56, none, .fld 0 (.t 55), []⟩,
 ⟨some 57, none, .mv (.t 1), []⟩,
 ⟨some 58, none, .mv (.t 0), []⟩,
 ⟨some 59, none, .nilc (.t 58) (mok Tryz.prog), []⟩,
 ⟨some 60, none, .fld 0 (.t 59), []⟩,
 ⟨some 61, none, .fld 0 (.t 60), []⟩,
 ⟨some 62, none, .ld 1 false (.t 61), []⟩,
 ⟨some 63, none, .mv (.t 0), []⟩,
 ⟨some 64, none, .nilc (.t 63) (mok Tryz.prog), []⟩,
 ⟨some 65, none, .fld 0 (.t 64), []⟩,
 ⟨some 66, none, .fld 2 (.t 65), []⟩,
 ⟨some 67, none, .ld 1 false (.t 66), []⟩,
 ⟨some 69, none, .mkv "Store" (.t 57), []⟩,
 ⟨some 70, none, .nilc (.t 69) (mok Tryz.prog), []⟩,
 ⟨some 71, none, .mv (.t 57), []⟩,
 ⟨some 68, none, .call 255 [.t 62, .t 67], []⟩,
 ⟨some 72, none, .invk (.t 71) "Store" [.t 68, .c (.int .u64 1)], []⟩,
 ⟨some 73, none, .call 251 [.t 56, .t 72, .c (.int .i64 3)], []⟩,
 ⟨some 74, none, .ext (.t 73) 0, []⟩,
 ⟨some 75, none, .ext (.t 73) 1, []⟩,
 ⟨some 4, none, .mv (.t 74), []⟩,
 ⟨some 5, none, .mv (.t 75), []⟩])
 .ret)
 (.seq
 (.ops 11 [⟨some 77, none, .bin .eql (.t 27) (.c (.int .i64 3)), []⟩,
 ⟨some 76, none, .mv (.t 77), []⟩])
 (.cond (.t 76)
 (.seq
 (.ops 12 [⟨some 79, none, .mv (.t 1), []⟩,
 ⟨some 80, none, .mv (.t 0), []⟩,
 ⟨some 81, none, .nilc (.t 80) (mok Tryz.prog), []⟩,
 ⟨some 82, none, .fld 0 (.t 81), []⟩,
 ⟨some 83, none, .fld 1 (.t 82), []⟩,
 ⟨some 84, none, .ld 1 false (.t 83), []⟩,
 ⟨some 85, none, .mv (.t 0), []⟩,
 ⟨some 86, none, .nilc (.t 85) (mok Tryz.prog), []⟩,
 ⟨some 87, none, .fld 0 (.t 86), []⟩,
 ⟨some 89, none, .mkv "Swap" (.t 79), []⟩,
 ⟨some 90, none, .nilc (.t 89) (mok Tryz.prog), []⟩,
 ⟨some 91, none, .mv (.t 79), []⟩,
 ⟨some 88, none, .call 252 [.t 87], [(84, .ld 1 false (.t 83))]⟩,
 ⟨some 92, none, .invk (.t 91) "Swap" [.t 84, .t 88], []⟩,
 ⟨some 78, none, .mv (.t 92), []⟩,
 ⟨some 93, none, .ext (.t 78) 0, []⟩,
 ⟨some 94, none, .ext (.t 78) 1, []⟩,
 ⟨some 7, none, .mv (.t 93), []⟩,
 ⟨some 8, none, .mv (.t 94), []⟩])
 (.seq
 (.seq
 (.ops 13 [⟨some 95, none, .mv (.t 7), []⟩,
 ⟨some 96, none, .bin .eql (.t 95) (.c (.int .u64 0)), []⟩])
 (.cond (.t 96)
 (.seq
 (.ops 14 [⟨some 97, none, .mv (.t 0), []⟩,
 ⟨some 98, none, .nilc (.t 97) (mok Tryz.prog), []⟩,
 ⟨some 99, none, .fld 0 (.t 98), []⟩,
 ⟨some 100, none, .mv (.t 8), []⟩,
 ⟨some 101, none, .call 253 [.t 99, .t 100], []⟩,
 ⟨some 102, none, .ext (.t 101) 0, []⟩,
 ⟨some 103, none, .ext (.t 101) 1, []⟩,
 ⟨some 4, none, .mv (.t 102), []⟩,
 ⟨some 5, none, .mv (.t 103), []⟩])
 .ret)
 .skip))
 (.seq
 (.ops 15 [⟨some 104, none, .mv (.t 0), []⟩,
 ⟨some 105, none, .mv (.t 7), []⟩,
 ⟨some 106, none, .nilc (.t 104) (mok Tryz.prog), []⟩,
 ⟨some 107, none, .fld 0 (.t 106), []⟩,
 ⟨some 108, none, .fld 4 (.t 107), []⟩,
 ⟨none, none, .st 1 (.t 108) (.t 105), []⟩])
 (.seq
 (.ops 16 [⟨some 109, none, .mv (.t 0), []⟩,
 ⟨some 110, none, .nilc (.t 109) (mok Tryz.prog), []⟩,
 ⟨some 111, none, .fld 0 (.t 110), []⟩,
 ⟨some 112, none, .mv (.t 8), []⟩,
 ⟨some 113, none, .call 251 [.t 111, .t 112, .c (.int .i64 4)], []⟩,
 ⟨some 114, none, .ext (.t 113) 0, []⟩,
 ⟨some 115, none, .ext (.t 113) 1, []⟩,
 ⟨some 4, none, .mv (.t 114), []⟩,
 ⟨some 5, none, .mv (.t 115), []⟩])
 .ret))))
 (.seq
 (.ops 17 [⟨some 117, none, .bin .eql (.t 27) (.c (.int .i64 4)), []⟩,
 ⟨some 116, none, .mv (.t 117), []⟩])
 (.cond (.t 116)
 (.seq
 (.ops 18 [⟨some 119, none, .mv (.t 0), []⟩,
 ⟨some 120, none, .nilc (.t 119) (mok Tryz.prog), []⟩,
 ⟨some 121, none, .fld 0 (.t 120), []⟩,
 ⟨some 122, none, .call 254 [.t 121], []⟩,
 ⟨some 118, none, .mv (.t 122), []⟩,
 ⟨some 123, none, .ext (.t 118) 0, []⟩,
 ⟨some 124, none, .ext (.t 118) 1, []⟩,
 ⟨some 9, none, .mv (.t 123), []⟩,
 ⟨some 10, none, .mv (.t 124), []⟩])
 (.seq
 (.seq
 (.ops 19 [⟨some 125, none, .mv (.t 10), []⟩,
 ⟨some 126, none, .bin .neq (.t 125) (.c (.int .i64 0)), []⟩])
 (.cond (.t 126)
 (.seq
 (.ops 20 [⟨some 127, none, .mv (.t 10), []⟩,
 ⟨some 4, none, .mv (.c (.bool false)), []⟩,
 ⟨some 5, none, .mv (.t 127), []⟩])
 .ret)
 .skip))
 (.seq
 (.ops 21 [⟨some 128, none, .mv (.t 0), []⟩,
 ⟨some 129, none, .nilc (.t 128) (mok Tryz.prog), []⟩,
 ⟨some 130, none, .fld 0 (.t 129), []⟩,
 ⟨some 131, none, .mv (.t 1), []⟩,
 ⟨some 132, none, .mv (.t 0), []⟩,
 ⟨some 133, none, .nilc (.t 132) (mok Tryz.prog), []⟩,
 ⟨some 134, none, .fld 0 (.t 133), []⟩,
 ⟨some 135, none, .fld 0 (.t 134), []⟩,
 ⟨some 136, none, .ld 1 false (.t 135), []⟩,
 ⟨some 137, none, .mv (.t 9), []⟩,
 ⟨some 139, none, .mv (.t 0), []⟩,
 ⟨some 140, none, .nilc (.t 139) (mok Tryz.prog), []⟩,
 ⟨some 141, none, .fld 0 (.t 140), []⟩,
 ⟨some 143, none, .mkv "Store" (.t 131), []⟩,
 ⟨some 144, none, .nilc (.t 143) (mok Tryz.prog), []⟩,
 ⟨some 145, none, .mv (.t 131), []⟩,
 ⟨some 138, none, .call 163 [.t 136, .t 137], []⟩,
 ⟨some 142, none, .call 252 [.t 141], []⟩,
 ⟨some 146, none, .invk (.t 145) "Store" [.t 138, .t 142], []⟩,
 ⟨some 147, none, .call 251 [.t 130, .t 146, .c (.int .i64 5)], []⟩,
 ⟨some 148, none, .ext (.t 147) 0, []⟩,
 ⟨some 149, none, .ext (.t 147) 1, []⟩,
 ⟨some 4, none, .mv (.t 148), []⟩,
 ⟨some 5, none, .mv (.t 149), []⟩])
 .ret)))
 .skip))))))))))
 (.seq
 (.ops 22 [⟨some 151, none, .mv (.t 1), []⟩,
 ⟨some 152, none, .mv (.t 0), []⟩,
 ⟨some 153, none, .nilc (.t 152) (mok Tryz.prog), []⟩,
 ⟨some 154, none, .fld 0 (.t 153), []⟩,
 ⟨some 155, none, .fld 0 (.t 154), []⟩,
 ⟨some 156, none, .ld 1 false (.t 155), []⟩,
 ⟨some 157, none, .mv (.t 0), []⟩,
 ⟨some 158, none, .nilc (.t 157) (mok Tryz.prog), []⟩,
 ⟨some 159, none, .fld 0 (.t 158), []⟩,
 ⟨some 160, none, .fld 2 (.t 159), []⟩,
 ⟨some 161, none, .ld 1 false (.t 160), []⟩,
 ⟨some 163, none, .mkv "Load" (.t 151), []⟩,
 ⟨some 164, none, .nilc (.t 163) (mok Tryz.prog), []⟩,
 ⟨some 165, none, .mv (.t 151), []⟩,
 ⟨some 162, none, .call 255 [.t 156, .t 161], []⟩,
 ⟨some 166, none, .invk (.t 165) "Load" [.t 162], []⟩,
 ⟨some 150, none, .mv (.t 166), []⟩,
 ⟨some 167, none, .ext (.t 150) 0, []⟩,
 ⟨some 168, none, .ext (.t 150) 1, []⟩,
 ⟨some 11, none, .mv (.t 167), []⟩,
 ⟨some 12, none, .mv (.t 168), []⟩])
 (.seq
 (.seq
 (.ops 23 [⟨some 169, none, .mv (.t 12), []⟩,
 ⟨some 170, none, .bin .neq (.t 169) (.c (.int .i64 0)), []⟩,
 ⟨some 171, none, .mv (.t 170), []⟩,
 ⟨some 172, some (171, false), .mv (.t 11), []⟩,
 ⟨some 173, some (171, false), .bin .neq (.t 172) (.c (.int .u64 0)), []⟩,
 ⟨some 174, none, .pick (.t 171) (.c (.bool true)) (.t 173), []⟩])
 (.cond (.t 174)
 (.seq
 (.ops 24 [⟨some 175, none, .mv (.t 12), []⟩,
 ⟨some 176, none, .bin .eql (.t 175) (.c (.int .i64 0)), []⟩,
 ⟨some 177, none, .mv (.t 12), []⟩,
 ⟨some 4, none, .mv (.t 176), []⟩,
 ⟨some 5, none, .mv (.t 177), []⟩])
 .ret)
 .skip))
 (.seq
 (.ops 25 [⟨some 178, none, .mv (.t 0), []⟩,
 ⟨some 179, none, .nilc (.t 178) (mok Tryz.prog), []⟩,
 ⟨some 180, none, .fld 0 (.t 179), []⟩,
 ⟨some 181, none, .mv (.t 12), []⟩,
 ⟨some 182, none, .call 253 [.t 180, .t 181], []⟩,
 ⟨some 183, none, .ext (.t 182) 0, []⟩,
 ⟨some 184, none, .ext (.t 182) 1, []⟩,
 ⟨some 4, none, .mv (.t 183), []⟩,
 ⟨some 5, none, .mv (.t 184), []⟩])
 .ret)))))))⟩
theorem F303_code : cfgA.code 303 = some F303 := by kernel_rfl

end Den
