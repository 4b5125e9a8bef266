/- Functions of the program, as den reads them. -/
import Derived.Test.YtajdklfckcgifaaGreatA
namespace Den
open Go Go.Proofs
set_option maxRecDepth 1000000

/-- ticketline/slot.head -/
noncomputable def F104 : AFn := ⟨68, [.tmp 2], (.seq
 (.ops 0 [⟨some 2, none, .mv (.c (.bool false)), []⟩])
 (.seq
 (.seq
 (.ops 1 [⟨some 7, none, .mv (.t 0), []⟩,
 ⟨some 8, none, .nilc (.t 7) (mok Tryz.prog), []⟩,
 ⟨some 9, none, .ixa (some 128) 1 (.t 8) (.c (.int .i64 8)), []⟩,
 ⟨some 10, none, .ld 1 false (.t 9), []⟩,
 ⟨some 11, none, .bin .lss (.t 10) (.c (.int .u64 1)), []⟩,
 ⟨some 12, none, .mv (.t 11), []⟩,
 ⟨some 13, some (12, false), .mv (.t 0), []⟩,
 ⟨some 14, some (12, false), .nilc (.t 13) (mok Tryz.prog), []⟩,
 ⟨some 15, some (12, false), .ixa (some 128) 1 (.t 14) (.c (.int .i64 8)), []⟩,
 ⟨some 16, some (12, false), .ld 1 false (.t 15), []⟩,
 ⟨some 17, some (12, false), .bin .gtr (.t 16) (.c (.int .u64 6)), []⟩,
 ⟨some 18, none, .pick (.t 12) (.c (.bool true)) (.t 17), []⟩,
 ⟨some 19, none, .mv (.t 18), []⟩,
 ⟨some 20, some (19, false), .mv (.t 0), []⟩,
 ⟨some 21, some (19, false), .nilc (.t 20) (mok Tryz.prog), []⟩,
 ⟨some 22, some (19, false), .ixa (some 128) 1 (.t 21) (.c (.int .i64 9)), []⟩,
 ⟨some 23, some (19, false), .ld 1 false (.t 22), []⟩,
 ⟨some 24, some (19, false), .bin .gtr (.t 23) (.c (.int .u64 108)), []⟩,
 ⟨some 25, none, .pick (.t 19) (.c (.bool true)) (.t 24), []⟩,
 ⟨some 26, none, .mv (.t 25), []⟩,
 ⟨some 27, some (26, false), .mv (.t 0), []⟩,
 ⟨some 28, some (26, false), .nilc (.t 27) (mok Tryz.prog), []⟩,
 ⟨some 29, some (26, false), .ixa (some 128) 1 (.t 28) (.c (.int .i64 10)), []⟩,
 ⟨some 30, some (26, false), .ld 1 false (.t 29), []⟩,
 ⟨some 31, some (26, false), .bin .gtr (.t 30) (.c (.int .u64 511)), []⟩,
 ⟨some 32, none, .pick (.t 26) (.c (.bool true)) (.t 31), []⟩,
 ⟨some 33, none, .mv (.t 32), []⟩,
 ⟨some 34, some (33, false), .mv (.t 0), []⟩,
 ⟨some 35, some (33, false), .nilc (.t 34) (mok Tryz.prog), []⟩,
 ⟨some 36, some (33, false), .ixa (some 128) 1 (.t 35) (.c (.int .i64 11)), []⟩,
 ⟨some 37, some (33, false), .ld 1 false (.t 36), []⟩,
 ⟨some 38, some (33, false), .bin .gtr (.t 37) (.c (.int .u64 128)), []⟩,
 ⟨some 39, none, .pick (.t 33) (.c (.bool true)) (.t 38), []⟩,
 ⟨some 40, none, .mv (.t 39), []⟩,
 ⟨some 41, some (40, false), .mv (.t 0), []⟩,
 ⟨some 42, some (40, false), .nilc (.t 41) (mok Tryz.prog), []⟩,
 ⟨some 43, some (40, false), .ixa (some 128) 1 (.t 42) (.c (.int .i64 11)), []⟩,
 ⟨some 44, some (40, false), .ld 1 false (.t 43), []⟩,
 ⟨some 45, some (40, false), .mv (.t 0), []⟩,
 ⟨some 46, some (40, false), .nilc (.t 45) (mok Tryz.prog), []⟩,
 ⟨some 47, some (40, false), .ixa (some 128) 1 (.t 46) (.c (.int .i64 9)), []⟩,
 ⟨some 48, some (40, false), .ld 1 false (.t 47), []⟩,
 ⟨some 49, some (40, false), .bin .add (.c (.int .u64 20)) (.t 48), []⟩,
 ⟨some 50, some (40, false), .bin .lss (.t 44) (.t 49), []⟩,
 ⟨some 51, none, .pick (.t 40) (.c (.bool true)) (.t 50), []⟩])
 (.cond (.t 51)
 (.seq
 (.ops 2 [⟨some 2, none, .mv (.c (.bool false)), []⟩])
 .ret)
 .skip))
 (.seq
 (.ops 3 [⟨some 53, none, .mv (.t 0), []⟩,
 ⟨some 54, none, .call 123 [.t 53, .c (.int .i64 12)], []⟩,
 ⟨some 52, none, .mv (.t 54), []⟩,
 ⟨some 55, none, .ext (.t 52) 0, []⟩,
 ⟨some 56, none, .ext (.t 52) 1, []⟩,
 ⟨some 3, none, .mv (.t 55), []⟩,
 ⟨some 4, none, .mv (.t 56), []⟩])
 (.seq
 (.ops 4 [⟨some 58, none, .mv (.t 0), []⟩,
 ⟨some 59, none, .call 123 [.t 58, .c (.int .i64 16)], []⟩,
 ⟨some 57, none, .mv (.t 59), []⟩,
 ⟨some 60, none, .ext (.t 57) 0, []⟩,
 ⟨some 61, none, .ext (.t 57) 1, []⟩,
 ⟨some 5, none, .mv (.t 60), []⟩,
 ⟨some 6, none, .mv (.t 61), []⟩])
 (.seq
 (.ops 5 [⟨some 62, none, .mv (.t 4), []⟩,
 ⟨some 63, none, .bin .eql (.t 62) (.c (.int .i64 0)), []⟩,
 ⟨some 64, none, .mv (.t 63), []⟩,
 ⟨some 65, some (64, true), .mv (.t 6), []⟩,
 ⟨some 66, some (64, true), .bin .eql (.t 65) (.c (.int .i64 0)), []⟩,
 ⟨some 67, none, .pick (.t 64) (.t 66) (.c (.bool false)), []⟩,
 ⟨some 2, none, .mv (.t 67), []⟩])
 .ret)))))⟩
theorem F104_code : cfgA.code 104 = some F104 := by kernel_rfl

/-- strings.Compare -/
noncomputable def F111 : AFn := ⟨8, [.tmp 4], (.seq
 (.ops 0 [⟨some 4, none, .mv (.c (.int .i64 0)), []⟩])
 (.seq
 (.ops 1 [⟨some 5, none, .mv (.t 0), []⟩,
 ⟨some 6, none, .mv (.t 1), []⟩,
 ⟨some 7, none, .call 129 [.t 5, .t 6], []⟩,
 ⟨some 4, none, .mv (.t 7), []⟩])
 .ret))⟩
theorem F111_code : cfgA.code 111 = some F111 := by kernel_rfl

/-- ticketline/keys.Pack: the round 0 -/
@[reducible] noncomputable def B112x0 : AC := (.seq
 (.ops 9 [⟨some 19, none, .bin .lss (.t 18) (.c (.int .i64 8)), []⟩])
 (.seq
 (.cond (.t 19)
 .skip
 (.exit 2))
 (.seq
 (.block 3
 (.seq
 (.ops 10 [⟨some 20, none, .mv (.t 18), []⟩,
 ⟨some 7, none, .mv (.t 20), []⟩])
 (.seq
 (.ops 11 [⟨some 21, none, .mv (.t 6), []⟩,
 ⟨some 22, none, .bin .shl (.t 21) (.c (.int .u64 8)), []⟩,
 ⟨some 6, none, .mv (.t 22), []⟩])
 (.seq
 (.ops 12 [⟨some 23, none, .mv (.t 5), []⟩,
 ⟨some 24, none, .bin .mul (.t 23) (.c (.int .i64 8)), []⟩,
 ⟨some 25, none, .mv (.t 7), []⟩,
 ⟨some 26, none, .bin .add (.t 24) (.t 25), []⟩,
 ⟨some 8, none, .mv (.t 26), []⟩])
 (.seq
 (.ops 13 [⟨some 27, none, .mv (.t 8), []⟩,
 ⟨some 28, none, .mv (.t 0), []⟩,
 ⟨some 29, none, .len .string (.t 28), []⟩,
 ⟨some 30, none, .bin .lss (.t 27) (.t 29), []⟩])
 (.cond (.t 30)
 (.ops 14 [⟨some 31, none, .mv (.t 6), []⟩,
 ⟨some 32, none, .mv (.t 0), []⟩,
 ⟨some 33, none, .mv (.t 8), []⟩,
 ⟨some 34, none, .ixs (.t 32) (.t 33), []⟩,
 ⟨some 35, none, .cvi .u64 (.t 34), []⟩,
 ⟨some 36, none, .bin .or (.t 31) (.t 35), []⟩,
 ⟨some 6, none, .mv (.t 36), []⟩])
 .skip))))))
 (.ops 15 [⟨some 37, none, .bin .add (.t 18) (.c (.int .i64 1)), []⟩,
 ⟨some 18, none, .mv (.t 37), []⟩]))))

/-- ticketline/keys.Pack: the round 1 -/
@[reducible] noncomputable def B112x1 : AC := (.seq
 (.ops 5 [⟨some 16, none, .bin .lss (.t 15) (.t 14), []⟩])
 (.seq
 (.cond (.t 16)
 .skip
 (.exit 0))
 (.seq
 (.block 1
 (.seq
 (.ops 6 [⟨some 17, none, .mv (.t 15), []⟩,
 ⟨some 5, none, .mv (.t 17), []⟩])
 (.seq
 (.ops 7 [⟨some 6, none, .mv (.c (.int .u64 0)), []⟩])
 (.seq
 (.seq
 (.ops 8 [⟨some 18, none, .mv (.c (.int .i64 0)), []⟩])
 (.block 2
 (.loop [] B112x0)))
 (.ops 16 [⟨some 38, none, .mv (.t 4), []⟩,
 ⟨some 39, none, .mv (.t 6), []⟩,
 ⟨some 40, none, .bslice [.int .u64 0] 1 1 [(0, (.t 39))] false false, []⟩,
 ⟨some 41, none, .app 1 8 (.t 38) (.t 40) false, []⟩,
 ⟨some 4, none, .mv (.t 41), []⟩])))))
 (.ops 17 [⟨some 42, none, .bin .add (.t 15) (.c (.int .i64 1)), []⟩,
 ⟨some 15, none, .mv (.t 42), []⟩]))))

/-- ticketline/keys.Pack -/
noncomputable def F112 : AFn := ⟨44, [.tmp 2, .tmp 3], (.seq
 (.ops 0 [⟨some 2, none, .mv (.c (.nils)), []⟩,
 ⟨some 3, none, .mv (.c (.int .i64 0)), []⟩])
 (.seq
 (.seq
 (.ops 1 [⟨some 9, none, .mv (.t 0), []⟩,
 ⟨some 10, none, .call 130 [.t 9], []⟩,
 ⟨some 11, none, .un .not (.t 10), []⟩])
 (.cond (.t 11)
 (.seq
 (.ops 2 [⟨some 2, none, .mv (.c (.nils)), []⟩,
 ⟨some 3, none, .mv (.c (.int .i64 5)), []⟩])
 .ret)
 .skip))
 (.seq
 (.ops 3 [⟨some 4, none, .mv (.c (.nils)), []⟩])
 (.seq
 (.seq
 (.ops 4 [⟨some 12, none, .mv (.t 0), []⟩,
 ⟨some 13, none, .len .string (.t 12), []⟩,
 ⟨some 14, none, .call 124 [.t 13], []⟩,
 ⟨some 15, none, .mv (.c (.int .i64 0)), []⟩])
 (.block 0
 (.loop [] B112x1)))
 (.seq
 (.ops 18 [⟨some 43, none, .mv (.t 4), []⟩,
 ⟨some 2, none, .mv (.t 43), []⟩,
 ⟨some 3, none, .mv (.c (.int .i64 0)), []⟩])
 .ret)))))⟩
theorem F112_code : cfgA.code 112 = some F112 := by kernel_rfl

/-- ticketline/version.wrong -/
noncomputable def F116 : AFn := ⟨43, [.tmp 6], (.seq
 (.ops 0 [⟨some 6, none, .mv (.c (.bool false)), []⟩])
 (.seq
 (.seq
 (.ops 1 [⟨some 7, none, .mv (.t 0), []⟩,
 ⟨some 8, none, .call 132 [.t 7], []⟩,
 ⟨some 9, none, .un .not (.t 8), []⟩,
 ⟨some 10, none, .mv (.t 9), []⟩,
 ⟨some 11, some (10, false), .mv (.t 2), []⟩,
 ⟨some 12, some (10, false), .bin .lss (.t 11) (.c (.int .i64 0)), []⟩,
 ⟨some 13, none, .pick (.t 10) (.c (.bool true)) (.t 12), []⟩,
 ⟨some 14, none, .mv (.t 13), []⟩,
 ⟨some 15, some (14, false), .mv (.t 2), []⟩,
 ⟨some 16, some (14, false), .bin .gtr (.t 15) (.c (.int .i64 256)), []⟩,
 ⟨some 17, none, .pick (.t 14) (.c (.bool true)) (.t 16), []⟩])
 (.cond (.t 17)
 (.seq
 (.ops 2 [⟨some 6, none, .mv (.c (.bool true)), []⟩])
 .ret)
 .skip))
 (.seq
 (.ops 3 [⟨some 18, none, .mv (.t 2), []⟩,
 ⟨some 19, none, .bin .gtr (.t 18) (.c (.int .i64 0)), []⟩,
 ⟨some 20, none, .mv (.t 19), []⟩,
 ⟨some 21, some (20, true), .mv (.t 1), []⟩,
 ⟨some 22, some (20, true), .call 132 [.t 21], []⟩,
 ⟨some 23, some (20, true), .un .not (.t 22), []⟩,
 ⟨some 24, some (20, true), .mv (.t 23), []⟩,
 ⟨some 25, some (24, false), .mv (.t 1), []⟩,
 ⟨some 26, some (24, false), .mv (.t 2), []⟩,
 ⟨some 27, some (24, false), .bin .sub (.c (.int .i64 65536)) (.t 26), []⟩,
 ⟨some 28, some (24, false), .bin .gtr (.t 25) (.t 27), []⟩,
 ⟨some 29, some (20, true), .pick (.t 24) (.c (.bool true)) (.t 28), []⟩,
 ⟨some 30, some (20, true), .mv (.t 29), []⟩,
 ⟨some 31, some (30, false), .mv (.t 0), []⟩,
 ⟨some 32, some (30, false), .mv (.t 1), []⟩,
 ⟨some 33, some (30, false), .bin .geq (.t 31) (.t 32), []⟩,
 ⟨some 34, some (30, false), .mv (.t 33), []⟩,
 ⟨some 35, some (34, true), .mv (.t 0), []⟩,
 ⟨some 36, some (34, true), .mv (.t 1), []⟩,
 ⟨some 37, some (34, true), .mv (.t 2), []⟩,
 ⟨some 38, some (34, true), .bin .add (.t 36) (.t 37), []⟩,
 ⟨some 39, some (34, true), .bin .lss (.t 35) (.t 38), []⟩,
 ⟨some 40, some (30, false), .pick (.t 34) (.t 39) (.c (.bool false)), []⟩,
 ⟨some 41, some (20, true), .pick (.t 30) (.c (.bool true)) (.t 40), []⟩,
 ⟨some 42, none, .pick (.t 20) (.t 41) (.c (.bool false)), []⟩,
 ⟨some 6, none, .mv (.t 42), []⟩])
 .ret)))⟩
theorem F116_code : cfgA.code 116 = some F116 := by kernel_rfl

/-- ticketline/version.NewRead -/
noncomputable def F120 : AFn := ⟨24, [.tmp 8, .tmp 9], (.seq
 (.ops 0 [⟨some 8, none, .mv (.c (.nilp)), []⟩,
 ⟨some 9, none, .mv (.c (.int .i64 0)), []⟩])
 (.seq
 (.seq
 (.ops 1 [⟨some 10, none, .mv (.t 0), []⟩,
 ⟨some 11, none, .mv (.t 1), []⟩,
 ⟨some 12, none, .mv (.t 2), []⟩,
 ⟨some 13, none, .call 116 [.t 10, .t 11, .t 12], []⟩,
 ⟨some 14, none, .mv (.t 13), []⟩,
 ⟨some 15, some (14, false), .mv (.t 3), []⟩,
 ⟨some 16, some (14, false), .bin .lss (.t 15) (.c (.int .i64 1)), []⟩,
 ⟨some 17, none, .pick (.t 14) (.c (.bool true)) (.t 16), []⟩])
 (.cond (.t 17)
 (.seq
 (.ops 2 [⟨some 8, none, .mv (.c (.nilp)), []⟩,
 ⟨some 9, none, .mv (.c (.int .i64 2)), []⟩])
 .ret)
 .skip))
 (.seq
 (.ops 3 [⟨some 18, none, .mv (.t 0), []⟩,
 ⟨some 19, none, .mv (.t 1), []⟩,
 ⟨some 20, none, .mv (.t 2), []⟩,
 ⟨some 21, none, .mv (.t 3), []⟩,
 ⟨some 22, none, .build [.bool false, .int .i64 0, .int .i64 0, .int .i64 0, .int .i64 0, .bool false, .int .u64 0, .nils, .int .u64 0, .bool false] [(0, 1, (.c (.bool true))), (1, 1, (.t 18)), (2, 1, (.t 19)), (3, 1, (.t 20)), (4, 1, (.t 21))], []⟩,
 ⟨some 23, none, .box 10 (.t 22) true, []⟩,
 ⟨some 8, none, .mv (.t 23), []⟩,
 ⟨some 9, none, .mv (.c (.int .i64 0)), []⟩])
 .ret)))⟩
theorem F120_code : cfgA.code 120 = some F120 := by kernel_rfl

/-- (*ticketline/mem.Once).zero -/
noncomputable def F121 : AFn := ⟨12, [.tmp 2], (.seq
 (.ops 0 [⟨some 2, none, .mv (.c (.bool false)), []⟩])
 (.seq
 (.ops 1 [⟨some 3, none, .mv (.t 0), []⟩,
 ⟨some 4, none, .eqn .ptr false (.t 3), []⟩,
 ⟨some 5, none, .mv (.t 4), []⟩,
 ⟨some 6, some (5, false), .mv (.t 0), []⟩,
 ⟨some 7, some (5, false), .nilc (.t 6) (mok Tryz.prog), []⟩,
 ⟨some 8, some (5, false), .fld 0 (.t 7), []⟩,
 ⟨some 9, some (5, false), .ld 1 false (.t 8), []⟩,
 ⟨some 10, some (5, false), .eqn .ptr false (.t 9), []⟩,
 ⟨some 11, none, .pick (.t 5) (.c (.bool true)) (.t 10), []⟩,
 ⟨some 2, none, .mv (.t 11), []⟩])
 .ret))⟩
theorem F121_code : cfgA.code 121 = some F121 := by kernel_rfl

/-- (*ticketline/descend.Scan).zero -/
noncomputable def F122 : AFn := ⟨12, [.tmp 2], (.seq
 (.ops 0 [⟨some 2, none, .mv (.c (.bool false)), []⟩])
 (.seq
 (.ops 1 [⟨some 3, none, .mv (.t 0), []⟩,
 ⟨some 4, none, .eqn .ptr false (.t 3), []⟩,
 ⟨some 5, none, .mv (.t 4), []⟩,
 ⟨some 6, some (5, false), .mv (.t 0), []⟩,
 ⟨some 7, some (5, false), .nilc (.t 6) (mok Tryz.prog), []⟩,
 ⟨some 8, some (5, false), .fld 14 (.t 7), []⟩,
 ⟨some 9, some (5, false), .ld 1 false (.t 8), []⟩,
 ⟨some 10, some (5, false), .bin .eql (.t 9) (.c (.int .i64 0)), []⟩,
 ⟨some 11, none, .pick (.t 5) (.c (.bool true)) (.t 10), []⟩,
 ⟨some 2, none, .mv (.t 11), []⟩])
 .ret))⟩
theorem F122_code : cfgA.code 122 = some F122 := by kernel_rfl

/-- ticketline/slot.fence: the round 0 -/
@[reducible] noncomputable def B123x0 : AC := (.seq
 (.ops 6 [⟨some 35, none, .bin .lss (.t 34) (.t 33), []⟩])
 (.seq
 (.cond (.t 35)
 .skip
 (.exit 0))
 (.seq
 (.block 1
 (.seq
 (.ops 7 [⟨some 36, none, .ixa none 1 (.t 32) (.t 34), []⟩,
 ⟨some 37, none, .ld 1 false (.t 36), []⟩,
 ⟨some 9, none, .mv (.t 37), []⟩])
 (.seq
 (.ops 8 [⟨some 38, none, .mv (.t 9), []⟩,
 ⟨some 39, none, .bin .neq (.t 38) (.c (.int .u64 0)), []⟩])
 (.cond (.t 39)
 (.seq
 (.ops 9 [⟨some 4, none, .mv (.c (.str [])), []⟩,
 ⟨some 5, none, .mv (.c (.int .i64 12)), []⟩])
 .ret)
 .skip))))
 (.ops 10 [⟨some 40, none, .bin .add (.t 34) (.c (.int .i64 1)), []⟩,
 ⟨some 34, none, .mv (.t 40), []⟩]))))

/-- ticketline/slot.fence -/
noncomputable def F123 : AFn := ⟨51, [.tmp 4, .tmp 5], (.seq
 (.ops 0 [⟨some 4, none, .mv (.c (.str [])), []⟩,
 ⟨some 5, none, .mv (.c (.int .i64 0)), []⟩])
 (.seq
 (.seq
 (.ops 1 [⟨some 10, none, .mv (.t 0), []⟩,
 ⟨some 11, none, .mv (.t 1), []⟩,
 ⟨some 12, none, .nilc (.t 10) (mok Tryz.prog), []⟩,
 ⟨some 13, none, .ixa (some 128) 1 (.t 12) (.t 11), []⟩,
 ⟨some 14, none, .ld 1 false (.t 13), []⟩,
 ⟨some 15, none, .bin .gtr (.t 14) (.c (.int .u64 24)), []⟩])
 (.cond (.t 15)
 (.seq
 (.ops 2 [⟨some 4, none, .mv (.c (.str [])), []⟩,
 ⟨some 5, none, .mv (.c (.int .i64 12)), []⟩])
 .ret)
 .skip))
 (.seq
 (.ops 3 [⟨some 16, none, .mv (.t 0), []⟩,
 ⟨some 17, none, .mv (.t 1), []⟩,
 ⟨some 18, none, .nilc (.t 16) (mok Tryz.prog), []⟩,
 ⟨some 19, none, .ixa (some 128) 1 (.t 18) (.t 17), []⟩,
 ⟨some 20, none, .ld 1 false (.t 19), []⟩,
 ⟨some 21, none, .cvi .i64 (.t 20), []⟩,
 ⟨some 6, none, .mv (.t 21), []⟩])
 (.seq
 (.ops 4 [⟨some 22, none, .mv (.t 1), []⟩,
 ⟨some 23, none, .bin .add (.t 22) (.c (.int .i64 1)), []⟩,
 ⟨some 24, none, .mv (.t 6), []⟩,
 ⟨some 25, none, .call 124 [.t 24], []⟩,
 ⟨some 26, none, .bin .add (.t 23) (.t 25), []⟩,
 ⟨some 7, none, .mv (.t 26), []⟩])
 (.seq
 (.seq
 (.ops 5 [⟨some 27, none, .mv (.t 0), []⟩,
 ⟨some 28, none, .nilc (.t 27) (mok Tryz.prog), []⟩,
 ⟨some 29, none, .mv (.t 7), []⟩,
 ⟨some 30, none, .mv (.t 1), []⟩,
 ⟨some 31, none, .bin .add (.t 30) (.c (.int .i64 4)), []⟩,
 ⟨some 32, none, .slc (some 128) 1 (.t 28) (some (.t 29)) (some (.t 31)), []⟩,
 ⟨some 33, none, .len .slice (.t 32), []⟩,
 ⟨some 34, none, .mv (.c (.int .i64 0)), []⟩])
 (.block 0
 (.loop [] B123x0)))
 (.seq
 (.ops 11 [⟨some 41, none, .mv (.t 0), []⟩,
 ⟨some 42, none, .nilc (.t 41) (mok Tryz.prog), []⟩,
 ⟨some 43, none, .mv (.t 1), []⟩,
 ⟨some 44, none, .bin .add (.t 43) (.c (.int .i64 1)), []⟩,
 ⟨some 45, none, .mv (.t 7), []⟩,
 ⟨some 46, none, .slc (some 128) 1 (.t 42) (some (.t 44)) (some (.t 45)), []⟩,
 ⟨some 47, none, .mv (.t 6), []⟩,
 ⟨some 48, none, .call 125 [.t 46, .t 47], []⟩,
 ⟨some 49, none, .ext (.t 48) 0, []⟩,
 ⟨some 50, none, .ext (.t 48) 1, []⟩,
 ⟨some 4, none, .mv (.t 49), []⟩,
 ⟨some 5, none, .mv (.t 50), []⟩])
 .ret))))))⟩
theorem F123_code : cfgA.code 123 = some F123 := by kernel_rfl

/-- ticketline/keys.Words -/
noncomputable def F124 : AFn := ⟨9, [.tmp 2], (.seq
 (.ops 0 [⟨some 2, none, .mv (.c (.int .i64 0)), []⟩])
 (.seq
 (.seq
 (.ops 1 [⟨some 3, none, .mv (.t 0), []⟩,
 ⟨some 4, none, .bin .leq (.t 3) (.c (.int .i64 0)), []⟩])
 (.cond (.t 4)
 (.seq
 (.ops 2 [⟨some 2, none, .mv (.c (.int .i64 0)), []⟩])
 .ret)
 .skip))
 (.seq
 (.ops 3 [⟨some 5, none, .mv (.t 0), []⟩,
 ⟨some 6, none, .bin .sub (.t 5) (.c (.int .i64 1)), []⟩,
 ⟨some 7, none, .bin .quo (.t 6) (.c (.int .i64 8)), []⟩,
 ⟨some 8, none, .bin .add (.t 7) (.c (.int .i64 1)), []⟩,
 ⟨some 2, none, .mv (.t 8), []⟩])
 .ret)))⟩
theorem F124_code : cfgA.code 124 = some F124 := by kernel_rfl

/-- ticketline/keys.Unpack: the round 0 -/
@[reducible] noncomputable def B125x0 : AC := (.seq
 (.seq
 (.ops 12 [⟨some 30, none, .mv (.t 9), []⟩,
 ⟨some 31, none, .bin .geq (.t 30) (.c (.int .i64 0)), []⟩])
 (.cond (.t 31)
 .skip
 (.exit 3)))
 (.seq
 (.block 4
 (.ops 14 [⟨some 34, none, .mv (.t 6), []⟩,
 ⟨some 35, none, .mv (.t 8), []⟩,
 ⟨some 36, none, .mv (.t 9), []⟩,
 ⟨some 37, none, .bin .mul (.c (.int .i64 8)) (.t 36), []⟩,
 ⟨some 38, none, .bin .shr (.t 35) (.t 37), []⟩,
 ⟨some 39, none, .cvi .u8 (.t 38), []⟩,
 ⟨some 40, none, .bslice [.int .u8 0] 1 1 [(0, (.t 39))] false false, []⟩,
 ⟨some 41, none, .app 1 1 (.t 34) (.t 40) false, []⟩,
 ⟨some 6, none, .mv (.t 41), []⟩]))
 (.ops 13 [⟨some 32, none, .mv (.t 9), []⟩,
 ⟨some 33, none, .bin .sub (.t 32) (.c (.int .i64 1)), []⟩,
 ⟨some 9, none, .mv (.t 33), []⟩])))

/-- ticketline/keys.Unpack: the round 1 -/
@[reducible] noncomputable def B125x1 : AC := (.seq
 (.ops 9 [⟨some 27, none, .bin .lss (.t 26) (.t 25), []⟩])
 (.seq
 (.cond (.t 27)
 .skip
 (.exit 1))
 (.seq
 (.block 2
 (.seq
 (.ops 10 [⟨some 28, none, .ixa none 1 (.t 24) (.t 26), []⟩,
 ⟨some 29, none, .ld 1 false (.t 28), []⟩,
 ⟨some 8, none, .mv (.t 29), []⟩])
 (.seq
 (.ops 11 [⟨some 9, none, .mv (.c (.int .i64 7)), []⟩])
 (.block 3
 (.loop [] B125x0)))))
 (.ops 15 [⟨some 42, none, .bin .add (.t 26) (.c (.int .i64 1)), []⟩,
 ⟨some 26, none, .mv (.t 42), []⟩]))))

/-- ticketline/keys.Unpack: the round 2 -/
@[reducible] noncomputable def B125x2 : AC := (.seq
 (.ops 17 [⟨some 48, none, .bin .lss (.t 47) (.t 46), []⟩])
 (.seq
 (.cond (.t 48)
 .skip
 (.exit 5))
 (.seq
 (.block 6
 (.seq
 (.ops 18 [⟨some 49, none, .ixa none 1 (.t 45) (.t 47), []⟩,
 ⟨some 50, none, .ld 1 false (.t 49), []⟩,
 ⟨some 11, none, .mv (.t 50), []⟩])
 (.seq
 (.ops 19 [⟨some 51, none, .mv (.t 11), []⟩,
 ⟨some 52, none, .bin .neq (.t 51) (.c (.int .u8 0)), []⟩])
 (.cond (.t 52)
 (.seq
 (.ops 20 [⟨some 4, none, .mv (.c (.str [])), []⟩,
 ⟨some 5, none, .mv (.c (.int .i64 12)), []⟩])
 .ret)
 .skip))))
 (.ops 21 [⟨some 53, none, .bin .add (.t 47) (.c (.int .i64 1)), []⟩,
 ⟨some 47, none, .mv (.t 53), []⟩]))))

/-- ticketline/keys.Unpack -/
noncomputable def F125 : AFn := ⟨58, [.tmp 4, .tmp 5], (.seq
 (.ops 0 [⟨some 4, none, .mv (.c (.str [])), []⟩,
 ⟨some 5, none, .mv (.c (.int .i64 0)), []⟩])
 (.seq
 (.block 0
 (.seq
 (.ops 1 [⟨some 13, none, .mv (.t 1), []⟩,
 ⟨some 14, none, .bin .lss (.t 13) (.c (.int .i64 0)), []⟩,
 ⟨some 12, none, .mv (.t 14), []⟩])
 (.cond (.t 12)
 (.seq
 (.ops 2 [⟨some 4, none, .mv (.c (.str [])), []⟩,
 ⟨some 5, none, .mv (.c (.int .i64 2)), []⟩])
 .ret)
 (.seq
 (.ops 3 [⟨some 16, none, .mv (.t 1), []⟩,
 ⟨some 17, none, .bin .gtr (.t 16) (.c (.int .i64 40)), []⟩,
 ⟨some 15, none, .mv (.t 17), []⟩])
 (.cond (.t 15)
 (.seq
 (.ops 4 [⟨some 4, none, .mv (.c (.str [])), []⟩,
 ⟨some 5, none, .mv (.c (.int .i64 5)), []⟩])
 .ret)
 (.seq
 (.ops 5 [⟨some 19, none, .mv (.t 0), []⟩,
 ⟨some 20, none, .len .slice (.t 19), []⟩,
 ⟨some 21, none, .mv (.t 1), []⟩,
 ⟨some 22, none, .call 124 [.t 21], []⟩,
 ⟨some 23, none, .bin .neq (.t 20) (.t 22), []⟩,
 ⟨some 18, none, .mv (.t 23), []⟩])
 (.cond (.t 18)
 (.seq
 (.ops 6 [⟨some 4, none, .mv (.c (.str [])), []⟩,
 ⟨some 5, none, .mv (.c (.int .i64 12)), []⟩])
 .ret)
 .skip)))))))
 (.seq
 (.ops 7 [⟨some 6, none, .mv (.c (.nils)), []⟩])
 (.seq
 (.seq
 (.ops 8 [⟨some 24, none, .mv (.t 0), []⟩,
 ⟨some 25, none, .len .slice (.t 24), []⟩,
 ⟨some 26, none, .mv (.c (.int .i64 0)), []⟩])
 (.block 1
 (.loop [] B125x1)))
 (.seq
 (.seq
 (.ops 16 [⟨some 43, none, .mv (.t 6), []⟩,
 ⟨some 44, none, .mv (.t 1), []⟩,
 ⟨some 45, none, .slc none 1 (.t 43) (some (.t 44)) none, []⟩,
 ⟨some 46, none, .len .slice (.t 45), []⟩,
 ⟨some 47, none, .mv (.c (.int .i64 0)), []⟩])
 (.block 5
 (.loop [] B125x2)))
 (.seq
 (.ops 22 [⟨some 54, none, .mv (.t 6), []⟩,
 ⟨some 55, none, .mv (.t 1), []⟩,
 ⟨some 56, none, .slc none 1 (.t 54) none (some (.t 55)), []⟩,
 ⟨some 57, none, .cvs (.t 56), []⟩,
 ⟨some 4, none, .mv (.t 57), []⟩,
 ⟨some 5, none, .mv (.c (.int .i64 0)), []⟩])
 .ret))))))⟩
theorem F125_code : cfgA.code 125 = some F125 := by kernel_rfl

/-- ticketline/keys.ValidValue -/
noncomputable def F130 : AFn := ⟨6, [.tmp 2], (.seq
 (.ops 0 [⟨some 2, none, .mv (.c (.bool false)), []⟩])
 (.seq
 (.ops 1 [⟨some 3, none, .mv (.t 0), []⟩,
 ⟨some 4, none, .len .string (.t 3), []⟩,
 ⟨some 5, none, .bin .leq (.t 4) (.c (.int .i64 40)), []⟩,
 ⟨some 2, none, .mv (.t 5), []⟩])
 .ret))⟩
theorem F130_code : cfgA.code 130 = some F130 := by kernel_rfl

/-- ticketline/version.word -/
noncomputable def F132 : AFn := ⟨9, [.tmp 2], (.seq
 (.ops 0 [⟨some 2, none, .mv (.c (.bool false)), []⟩])
 (.seq
 (.ops 1 [⟨some 3, none, .mv (.t 0), []⟩,
 ⟨some 4, none, .bin .geq (.t 3) (.c (.int .i64 0)), []⟩,
 ⟨some 5, none, .mv (.t 4), []⟩,
 ⟨some 6, some (5, true), .mv (.t 0), []⟩,
 ⟨some 7, some (5, true), .bin .lss (.t 6) (.c (.int .i64 65536)), []⟩,
 ⟨some 8, none, .pick (.t 5) (.t 7) (.c (.bool false)), []⟩,
 ⟨some 2, none, .mv (.t 8), []⟩])
 .ret))⟩
theorem F132_code : cfgA.code 132 = some F132 := by kernel_rfl

/-- (*ticketline/descend.Find).Done -/
noncomputable def F157 : AFn := ⟨11, [.tmp 2], (.seq
 (.ops 0 [⟨some 2, none, .mv (.c (.bool false)), []⟩])
 (.seq
 (.ops 1 [⟨some 3, none, .mv (.t 0), []⟩,
 ⟨some 4, none, .call 100 [.t 3], []⟩,
 ⟨some 5, none, .mv (.t 4), []⟩,
 ⟨some 6, some (5, false), .mv (.t 0), []⟩,
 ⟨some 7, some (5, false), .nilc (.t 6) (mok Tryz.prog), []⟩,
 ⟨some 8, some (5, false), .fld 138 (.t 7), []⟩,
 ⟨some 9, some (5, false), .ld 1 false (.t 8), []⟩,
 ⟨some 10, none, .pick (.t 5) (.c (.bool true)) (.t 9), []⟩,
 ⟨some 2, none, .mv (.t 10), []⟩])
 .ret))⟩
theorem F157_code : cfgA.code 157 = some F157 := by kernel_rfl

/-- (*ticketline/descend.Find).Step -/
noncomputable def F158 : AFn := ⟨42, [.tmp 4, .tmp 5], (.seq
 (.ops 0 [⟨some 4, none, .mv (.c (.bool false)), []⟩,
 ⟨some 5, none, .mv (.c (.int .i64 0)), []⟩])
 (.seq
 (.block 0
 (.seq
 (.ops 1 [⟨some 9, none, .mv (.t 0), []⟩,
 ⟨some 10, none, .call 100 [.t 9], []⟩,
 ⟨some 11, none, .mv (.t 10), []⟩,
 ⟨some 12, some (11, false), .mv (.t 1), []⟩,
 ⟨some 13, some (11, false), .eqn .iface false (.t 12), []⟩,
 ⟨some 14, none, .pick (.t 11) (.c (.bool true)) (.t 13), []⟩,
 ⟨some 8, none, .mv (.t 14), []⟩])
 (.cond (.t 8)
 (.seq
 (.ops 2 [⟨some 4, none, .mv (.c (.bool false)), []⟩,
 ⟨some 5, none, .mv (.c (.int .i64 1)), []⟩])
 .ret)
 (.seq
 (.ops 3 [⟨some 16, none, .mv (.t 0), []⟩,
 ⟨some 17, none, .nilc (.t 16) (mok Tryz.prog), []⟩,
 ⟨some 18, none, .fld 138 (.t 17), []⟩,
 ⟨some 19, none, .ld 1 false (.t 18), []⟩,
 ⟨some 15, none, .mv (.t 19), []⟩])
 (.cond (.t 15)
 (.seq
 (.ops 4 [⟨some 4, none, .mv (.c (.bool false)), []⟩,
 ⟨some 5, none, .mv (.c (.int .i64 17)), []⟩])
 .ret)
 .skip)))))
 (.seq
 (.ops 5 [⟨some 21, none, .mv (.t 0), []⟩,
 ⟨some 22, none, .nilc (.t 21) (mok Tryz.prog), []⟩,
 ⟨some 23, none, .fld 7 (.t 22), []⟩,
 ⟨some 24, none, .ld 1 false (.t 23), []⟩,
 ⟨some 25, none, .mv (.t 1), []⟩,
 ⟨some 26, none, .call 160 [.t 24, .t 25], []⟩,
 ⟨some 20, none, .mv (.t 26), []⟩,
 ⟨some 27, none, .ext (.t 20) 0, []⟩,
 ⟨some 28, none, .ext (.t 20) 1, []⟩,
 ⟨some 6, none, .mv (.t 27), []⟩,
 ⟨some 7, none, .mv (.t 28), []⟩])
 (.seq
 (.seq
 (.ops 6 [⟨some 29, none, .mv (.t 7), []⟩,
 ⟨some 30, none, .bin .eql (.t 29) (.c (.int .i64 0)), []⟩,
 ⟨some 31, none, .mv (.t 30), []⟩,
 ⟨some 32, some (31, true), .mv (.t 0), []⟩,
 ⟨some 33, some (31, true), .nilc (.t 32) (mok Tryz.prog), []⟩,
 ⟨some 34, some (31, true), .fld 7 (.t 33), []⟩,
 ⟨some 35, some (31, true), .ld 1 false (.t 34), []⟩,
 ⟨some 36, some (31, true), .call 161 [.t 35], []⟩,
 ⟨some 37, none, .pick (.t 31) (.t 36) (.c (.bool false)), []⟩])
 (.cond (.t 37)
 (.ops 7 [⟨some 38, none, .mv (.t 0), []⟩,
 ⟨some 39, none, .call 159 [.t 38], []⟩])
 .skip))
 (.seq
 (.ops 8 [⟨some 40, none, .mv (.t 6), []⟩,
 ⟨some 41, none, .mv (.t 7), []⟩,
 ⟨some 4, none, .mv (.t 40), []⟩,
 ⟨some 5, none, .mv (.t 41), []⟩])
 .ret)))))⟩
theorem F158_code : cfgA.code 158 = some F158 := by kernel_rfl

/-- (*ticketline/descend.Find).advance -/
noncomputable def F159 : AFn := ⟨102, [], (.seq
 (.ops 0 [⟨some 9, none, .mv (.t 0), []⟩,
 ⟨some 10, none, .nilc (.t 9) (mok Tryz.prog), []⟩,
 ⟨some 11, none, .fld 7 (.t 10), []⟩,
 ⟨some 12, none, .ld 1 false (.t 11), []⟩,
 ⟨some 13, none, .call 162 [.t 12], []⟩,
 ⟨some 2, none, .mv (.t 13), []⟩])
 (.seq
 (.seq
 (.ops 1 [⟨some 14, none, .mv (.t 0), []⟩,
 ⟨some 15, none, .nilc (.t 14) (mok Tryz.prog), []⟩,
 ⟨some 16, none, .fld 7 (.t 15), []⟩,
 ⟨some 17, none, .ld 1 false (.t 16), []⟩,
 ⟨some 18, none, .call 163 [.t 17], []⟩,
 ⟨some 19, none, .bin .eql (.t 18) (.c (.int .u64 0)), []⟩,
 ⟨some 20, none, .mv (.t 19), []⟩,
 ⟨some 21, some (20, false), .mv (.t 2), []⟩,
 ⟨some 22, some (20, false), .len .slice (.t 21), []⟩,
 ⟨some 23, some (20, false), .bin .eql (.t 22) (.c (.int .i64 0)), []⟩,
 ⟨some 24, none, .pick (.t 20) (.c (.bool true)) (.t 23), []⟩])
 (.cond (.t 24)
 (.seq
 (.ops 2 [⟨some 25, none, .mv (.t 0), []⟩,
 ⟨some 26, none, .call 164 [.t 25], []⟩])
 .ret)
 .skip))
 (.seq
 (.seq
 (.ops 3 [⟨some 27, none, .mv (.t 0), []⟩,
 ⟨some 28, none, .nilc (.t 27) (mok Tryz.prog), []⟩,
 ⟨some 29, none, .fld 6 (.t 28), []⟩,
 ⟨some 30, none, .ld 1 false (.t 29), []⟩,
 ⟨some 31, none, .bin .eql (.t 30) (.c (.int .i64 0)), []⟩])
 (.cond (.t 31)
 (.seq
 (.ops 4 [⟨some 32, none, .mv (.t 0), []⟩,
 ⟨some 33, none, .mv (.t 2), []⟩,
 ⟨some 34, none, .ixa none 1 (.t 33) (.c (.int .i64 0)), []⟩,
 ⟨some 35, none, .ld 1 false (.t 34), []⟩,
 ⟨some 36, none, .mx false (.t 35) [.c (.int .u64 511)], []⟩,
 ⟨some 37, none, .cvi .i64 (.t 36), []⟩,
 ⟨some 38, none, .call 165 [.t 32, .t 37], []⟩])
 .ret)
 .skip))
 (.seq
 (.ops 5 [⟨some 39, none, .mv (.t 2), []⟩,
 ⟨some 40, none, .call 166 [.t 39], []⟩,
 ⟨some 3, none, .alloc (List.replicate 128 (.int .u64 0)) false, []⟩,
 ⟨none, none, .st 128 (.t 3) (.t 40), []⟩])
 (.seq
 (.ops 6 [⟨some 42, none, .ld 128 true (.t 3), []⟩,
 ⟨some 43, none, .mv (.t 0), []⟩,
 ⟨some 44, none, .nilc (.t 43) (mok Tryz.prog), []⟩,
 ⟨some 45, none, .fld 2 (.t 44), []⟩,
 ⟨some 46, none, .ld 1 false (.t 45), []⟩,
 ⟨some 47, none, .call 167 [.t 42, .t 46], []⟩,
 ⟨some 41, none, .mv (.t 47), []⟩,
 ⟨some 48, none, .ext (.t 41) 0, []⟩,
 ⟨some 49, none, .ext (.t 41) 1, []⟩,
 ⟨some 4, none, .mv (.t 48), []⟩,
 ⟨some 5, none, .mv (.t 49), []⟩])
 (.block 0
 (.seq
 (.ops 11 [⟨some 66, none, .mv (.t 5), []⟩,
 ⟨some 67, none, .bin .neq (.t 66) (.c (.int .i64 0)), []⟩,
 ⟨some 68, none, .mv (.t 67), []⟩,
 ⟨some 69, some (68, false), .mv (.t 4), []⟩,
 ⟨some 70, some (68, false), .bin .eql (.t 69) (.c (.int .i64 (-1))), []⟩,
 ⟨some 71, none, .pick (.t 68) (.c (.bool true)) (.t 70), []⟩,
 ⟨some 65, none, .mv (.t 71), []⟩])
 (.cond (.t 65)
 (.ops 12 [⟨some 72, none, .mv (.t 0), []⟩,
 ⟨some 73, none, .call 164 [.t 72], []⟩])
 (.seq
 (.ops 13 [⟨some 75, none, .mv (.t 4), []⟩,
 ⟨some 76, none, .bin .eql (.t 75) (.c (.int .i64 1)), []⟩,
 ⟨some 74, none, .mv (.t 76), []⟩])
 (.cond (.t 74)
 (.ops 14 [⟨some 77, none, .mv (.t 0), []⟩,
 ⟨some 78, none, .ld 128 true (.t 3), []⟩,
 ⟨some 79, none, .call 168 [.t 78], []⟩,
 ⟨some 80, none, .call 165 [.t 77, .t 79], []⟩])
 (.seq
 (.ops 15 [⟨some 82, none, .ld 128 true (.t 3), []⟩,
 ⟨some 83, none, .call 22 [.t 82], []⟩,
 ⟨some 84, none, .bin .eql (.t 83) (.c (.int .i64 0)), []⟩,
 ⟨some 81, none, .mv (.t 84), []⟩])
 (.cond (.t 81)
 (.seq
 (.ops 16 [⟨some 85, none, .mv (.t 0), []⟩,
 ⟨some 86, none, .mv (.t 0), []⟩,
 ⟨some 87, none, .nilc (.t 86) (mok Tryz.prog), []⟩,
 ⟨some 88, none, .fld 6 (.t 87), []⟩,
 ⟨some 89, none, .ld 1 false (.t 88), []⟩,
 ⟨some 90, none, .ld 128 true (.t 3), []⟩,
 ⟨some 91, none, .mv (.t 0), []⟩,
 ⟨some 92, none, .nilc (.t 91) (mok Tryz.prog), []⟩,
 ⟨some 93, none, .fld 7 (.t 92), []⟩,
 ⟨some 94, none, .ld 1 false (.t 93), []⟩,
 ⟨some 95, none, .call 169 [.t 94], [(89, .ld 1 false (.t 88)), (90, .ld 128 true (.t 3))]⟩,
 ⟨some 96, none, .build [.int .i64 0, .int .u64 0, .int .u64 0, .int .u64 0, .int .u64 0, .int .u64 0, .int .u64 0, .int .u64 0, .int .u64 0, .int .u64 0, .int .u64 0, .int .u64 0, .int .u64 0, .int .u64 0, .int .u64 0, .int .u64 0, .int .u64 0, .int .u64 0, .int .u64 0, .int .u64 0, .int .u64 0, .int .u64 0, .int .u64 0, .int .u64 0, .int .u64 0, .int .u64 0, .int .u64 0, .int .u64 0, .int .u64 0, .int .u64 0, .int .u64 0, .int .u64 0, .int .u64 0, .int .u64 0, .int .u64 0, .int .u64 0, .int .u64 0, .int .u64 0, .int .u64 0, .int .u64 0, .int .u64 0, .int .u64 0, .int .u64 0, .int .u64 0, .int .u64 0, .int .u64 0, .int .u64 0, .int .u64 0, .int .u64 0, .int .u64 0, .int .u64 0, .int .u64 0, .int .u64 0, .int .u64 0, .int .u64 0, .int .u64 0, .int .u64 0, .int .u64 0, .int .u64 0, .int .u64 0, .int .u64 0, .int .u64 0, .int .u64 0, .int .u64 0, .int .u64 0, .int .u64 0, .int .u64 0, .int .u64 0, .int .u64 0, .int .u64 0, .int .u64 0, .int .u64 0, .int .u64 0, .int .u64 0, .int .u64 0, .int .u64 0, .int .u64 0, .int .u64 0, .int .u64 0, .int .u64 0, .int .u64 0, .int .u64 0, .int .u64 0, .int .u64 0, .int .u64 0, .int .u64 0, .int .u64 0, .int .u64 0, .int .u64 0, .int .u64 0, .int .u64 0, .int .u64 0, .int .u64 0, .int .u64 0, .int .u64 0, .int .u64 0, .int .u64 0, .int .u64 0, .int .u64 0, .int .u64 0, .int .u64 0, .int .u64 0, .int .u64 0, .int .u64 0, .int .u64 0, .int .u64 0, .int .u64 0, .int .u64 0, .int .u64 0, .int .u64 0, .int .u64 0, .int .u64 0, .int .u64 0, .int .u64 0, .int .u64 0, .int .u64 0, .int .u64 0, .int .u64 0, .int .u64 0, .int .u64 0, .int .u64 0, .int .u64 0, .int .u64 0, .int .u64 0, .int .u64 0, .int .u64 0, .int .u64 0, .int .u64 0, .int .u64 0, .int .u64 0] [(0, 1, (.t 89)), (1, 128, (.t 90)), (129, 1, (.t 95))], []⟩,
 ⟨some 97, none, .nilc (.t 85) (mok Tryz.prog), []⟩,
 ⟨some 98, none, .fld 8 (.t 97), []⟩,
 ⟨none, none, .st 130 (.t 98) (.t 96), []⟩])
 (.ops 17 [⟨some 99, none, .mv (.t 0), []⟩,
 ⟨some 100, none, .nilc (.t 99) (mok Tryz.prog), []⟩,
 ⟨some 101, none, .fld 138 (.t 100), []⟩,
 ⟨none, none, .st 1 (.t 101) (.c (.bool true)), []⟩]))
 (.seq
 (.ops 7 [⟨some 51, none, .ld 128 true (.t 3), []⟩,
 ⟨some 52, none, .mv (.t 0), []⟩,
 ⟨some 53, none, .nilc (.t 52) (mok Tryz.prog), []⟩,
 ⟨some 54, none, .fld 2 (.t 53), []⟩,
 ⟨some 55, none, .ld 1 false (.t 54), []⟩,
 ⟨some 56, none, .call 170 [.t 51, .t 55], []⟩,
 ⟨some 50, none, .mv (.t 56), []⟩,
 ⟨some 57, none, .ext (.t 50) 0, []⟩,
 ⟨some 58, none, .ext (.t 50) 1, []⟩,
 ⟨some 59, none, .ext (.t 50) 2, []⟩,
 ⟨some 6, none, .mv (.t 57), []⟩,
 ⟨some 7, none, .mv (.t 58), []⟩,
 ⟨some 8, none, .mv (.t 59), []⟩])
 (.seq
 (.seq
 (.ops 8 [⟨some 60, none, .mv (.t 8), []⟩,
 ⟨some 61, none, .bin .neq (.t 60) (.c (.int .i64 0)), []⟩])
 (.cond (.t 61)
 (.ops 9 [⟨some 7, none, .mv (.c (.int .i64 0)), []⟩])
 .skip))
 (.ops 10 [⟨some 62, none, .mv (.t 0), []⟩,
 ⟨some 63, none, .mv (.t 7), []⟩,
 ⟨some 64, none, .call 165 [.t 62, .t 63], []⟩])))))))))))))))⟩
theorem F159_code : cfgA.code 159 = some F159 := by kernel_rfl

/-- (*ticketline/version.Read).Step -/
noncomputable def F160 : AFn := ⟨147, [.tmp 4, .tmp 5], (.seq
 (.ops 0 [⟨some 4, none, .mv (.c (.bool false)), []⟩,
 ⟨some 5, none, .mv (.c (.int .i64 0)), []⟩])
 (.seq
 (.block 0
 (.seq
 (.ops 1 [⟨some 10, none, .mv (.t 0), []⟩,
 ⟨some 11, none, .eqn .ptr false (.t 10), []⟩,
 ⟨some 12, none, .mv (.t 11), []⟩,
 ⟨some 13, some (12, false), .mv (.t 0), []⟩,
 ⟨some 14, some (12, false), .nilc (.t 13) (mok Tryz.prog), []⟩,
 ⟨some 15, some (12, false), .fld 0 (.t 14), []⟩,
 ⟨some 16, some (12, false), .ld 1 false (.t 15), []⟩,
 ⟨some 17, some (12, false), .un .not (.t 16), []⟩,
 ⟨some 18, none, .pick (.t 12) (.c (.bool true)) (.t 17), []⟩,
 ⟨some 19, none, .mv (.t 18), []⟩,
 ⟨some 20, some (19, false), .mv (.t 1), []⟩,
 ⟨some 21, some (19, false), .eqn .iface false (.t 20), []⟩,
 ⟨some 22, none, .pick (.t 19) (.c (.bool true)) (.t 21), []⟩,
 ⟨some 9, none, .mv (.t 22), []⟩])
 (.cond (.t 9)
 (.seq
 (.ops 2 [⟨some 4, none, .mv (.c (.bool false)), []⟩,
 ⟨some 5, none, .mv (.c (.int .i64 1)), []⟩])
 .ret)
 (.seq
 (.ops 3 [⟨some 24, none, .mv (.t 0), []⟩,
 ⟨some 25, none, .nilc (.t 24) (mok Tryz.prog), []⟩,
 ⟨some 26, none, .fld 9 (.t 25), []⟩,
 ⟨some 27, none, .ld 1 false (.t 26), []⟩,
 ⟨some 23, none, .mv (.t 27), []⟩])
 (.cond (.t 23)
 (.seq
 (.ops 4 [⟨some 4, none, .mv (.c (.bool false)), []⟩,
 ⟨some 5, none, .mv (.c (.int .i64 17)), []⟩])
 .ret)
 .skip)))))
 (.seq
 (.ops 5 [⟨some 28, none, .mv (.t 0), []⟩,
 ⟨some 29, none, .nilc (.t 28) (mok Tryz.prog), []⟩,
 ⟨some 30, none, .fld 1 (.t 29), []⟩,
 ⟨some 31, none, .ld 1 false (.t 30), []⟩,
 ⟨some 6, none, .mv (.t 31), []⟩])
 (.seq
 (.seq
 (.ops 6 [⟨some 32, none, .mv (.t 0), []⟩,
 ⟨some 33, none, .nilc (.t 32) (mok Tryz.prog), []⟩,
 ⟨some 34, none, .fld 5 (.t 33), []⟩,
 ⟨some 35, none, .ld 1 false (.t 34), []⟩,
 ⟨some 36, none, .mv (.t 35), []⟩,
 ⟨some 37, some (36, true), .mv (.t 0), []⟩,
 ⟨some 38, some (36, true), .nilc (.t 37) (mok Tryz.prog), []⟩,
 ⟨some 39, some (36, true), .fld 7 (.t 38), []⟩,
 ⟨some 40, some (36, true), .ld 1 false (.t 39), []⟩,
 ⟨some 41, some (36, true), .len .slice (.t 40), []⟩,
 ⟨some 42, some (36, true), .mv (.t 0), []⟩,
 ⟨some 43, some (36, true), .nilc (.t 42) (mok Tryz.prog), []⟩,
 ⟨some 44, some (36, true), .fld 3 (.t 43), []⟩,
 ⟨some 45, some (36, true), .ld 1 false (.t 44), []⟩,
 ⟨some 46, some (36, true), .bin .lss (.t 41) (.t 45), []⟩,
 ⟨some 47, none, .pick (.t 36) (.t 46) (.c (.bool false)), []⟩])
 (.cond (.t 47)
 (.ops 7 [⟨some 48, none, .mv (.t 0), []⟩,
 ⟨some 49, none, .nilc (.t 48) (mok Tryz.prog), []⟩,
 ⟨some 50, none, .fld 2 (.t 49), []⟩,
 ⟨some 51, none, .ld 1 false (.t 50), []⟩,
 ⟨some 52, none, .mv (.t 0), []⟩,
 ⟨some 53, none, .nilc (.t 52) (mok Tryz.prog), []⟩,
 ⟨some 54, none, .fld 7 (.t 53), []⟩,
 ⟨some 55, none, .ld 1 false (.t 54), []⟩,
 ⟨some 56, none, .len .slice (.t 55), []⟩,
 ⟨some 57, none, .bin .add (.t 51) (.t 56), []⟩,
 ⟨some 6, none, .mv (.t 57), []⟩])
 .skip))
 (.seq
 (.ops 8 [⟨some 59, none, .mv (.t 1), []⟩,
 ⟨some 60, none, .mv (.t 6), []⟩,
 ⟨some 61, none, .invk (.t 59) "Load" [.t 60], []⟩,
 ⟨some 58, none, .mv (.t 61), []⟩,
 ⟨some 62, none, .ext (.t 58) 0, []⟩,
 ⟨some 63, none, .ext (.t 58) 1, []⟩,
 ⟨some 7, none, .mv (.t 62), []⟩,
 ⟨some 8, none, .mv (.t 63), []⟩])
 (.seq
 (.block 1
 (.seq
 (.ops 11 [⟨some 86, none, .mv (.t 8), []⟩,
 ⟨some 87, none, .bin .neq (.t 86) (.c (.int .i64 0)), []⟩,
 ⟨some 85, none, .mv (.t 87), []⟩])
 (.cond (.t 85)
 (.seq
 (.ops 12 [⟨some 88, none, .mv (.t 8), []⟩,
 ⟨some 4, none, .mv (.c (.bool false)), []⟩,
 ⟨some 5, none, .mv (.t 88), []⟩])
 .ret)
 (.seq
 (.ops 13 [⟨some 90, none, .mv (.t 0), []⟩,
 ⟨some 91, none, .nilc (.t 90) (mok Tryz.prog), []⟩,
 ⟨some 92, none, .fld 5 (.t 91), []⟩,
 ⟨some 93, none, .ld 1 false (.t 92), []⟩,
 ⟨some 94, none, .un .not (.t 93), []⟩,
 ⟨some 95, none, .mv (.t 94), []⟩,
 ⟨some 96, some (95, true), .mv (.t 7), []⟩,
 ⟨some 97, some (95, true), .call 171 [.t 96], []⟩,
 ⟨some 98, some (95, true), .un .not (.t 97), []⟩,
 ⟨some 99, none, .pick (.t 95) (.t 98) (.c (.bool false)), []⟩,
 ⟨some 89, none, .mv (.t 99), []⟩])
 (.cond (.t 89)
 (.seq
 (.ops 14 [⟨some 4, none, .mv (.c (.bool true)), []⟩,
 ⟨some 5, none, .mv (.c (.int .i64 0)), []⟩])
 .ret)
 (.seq
 (.ops 15 [⟨some 101, none, .mv (.t 0), []⟩,
 ⟨some 102, none, .nilc (.t 101) (mok Tryz.prog), []⟩,
 ⟨some 103, none, .fld 5 (.t 102), []⟩,
 ⟨some 104, none, .ld 1 false (.t 103), []⟩,
 ⟨some 105, none, .un .not (.t 104), []⟩,
 ⟨some 100, none, .mv (.t 105), []⟩])
 (.cond (.t 100)
 (.ops 16 [⟨some 106, none, .mv (.t 0), []⟩,
 ⟨some 107, none, .mv (.t 0), []⟩,
 ⟨some 108, none, .mv (.t 7), []⟩,
 ⟨some 109, none, .nilc (.t 106) (mok Tryz.prog), []⟩,
 ⟨some 110, none, .fld 5 (.t 109), []⟩,
 ⟨none, none, .st 1 (.t 110) (.c (.bool true)), []⟩,
 ⟨some 111, none, .nilc (.t 107) (mok Tryz.prog), []⟩,
 ⟨some 112, none, .fld 6 (.t 111), []⟩,
 ⟨none, none, .st 1 (.t 112) (.t 108), []⟩])
 (.seq
 (.ops 17 [⟨some 114, none, .mv (.t 0), []⟩,
 ⟨some 115, none, .nilc (.t 114) (mok Tryz.prog), []⟩,
 ⟨some 116, none, .fld 7 (.t 115), []⟩,
 ⟨some 117, none, .ld 1 false (.t 116), []⟩,
 ⟨some 118, none, .len .slice (.t 117), []⟩,
 ⟨some 119, none, .mv (.t 0), []⟩,
 ⟨some 120, none, .nilc (.t 119) (mok Tryz.prog), []⟩,
 ⟨some 121, none, .fld 3 (.t 120), []⟩,
 ⟨some 122, none, .ld 1 false (.t 121), []⟩,
 ⟨some 123, none, .bin .lss (.t 118) (.t 122), []⟩,
 ⟨some 113, none, .mv (.t 123), []⟩])
 (.cond (.t 113)
 (.ops 18 [⟨some 124, none, .mv (.t 0), []⟩,
 ⟨some 125, none, .mv (.t 0), []⟩,
 ⟨some 126, none, .nilc (.t 125) (mok Tryz.prog), []⟩,
 ⟨some 127, none, .fld 7 (.t 126), []⟩,
 ⟨some 128, none, .ld 1 false (.t 127), []⟩,
 ⟨some 129, none, .mv (.t 7), []⟩,
 ⟨some 130, none, .bslice [.int .u64 0] 1 1 [(0, (.t 129))] false false, []⟩,
 ⟨some 131, none, .app 1 8 (.t 128) (.t 130) true, []⟩,
 ⟨some 132, none, .nilc (.t 124) (mok Tryz.prog), []⟩,
 ⟨some 133, none, .fld 7 (.t 132), []⟩,
 ⟨none, none, .st 1 (.t 133) (.t 131), []⟩])
 (.seq
 (.ops 19 [⟨some 135, none, .mv (.t 7), []⟩,
 ⟨some 136, none, .mv (.t 0), []⟩,
 ⟨some 137, none, .nilc (.t 136) (mok Tryz.prog), []⟩,
 ⟨some 138, none, .fld 6 (.t 137), []⟩,
 ⟨some 139, none, .ld 1 false (.t 138), []⟩,
 ⟨some 140, none, .bin .eql (.t 135) (.t 139), []⟩,
 ⟨some 134, none, .mv (.t 140), []⟩])
 (.cond (.t 134)
 (.ops 20 [⟨some 141, none, .mv (.t 0), []⟩,
 ⟨some 142, none, .mv (.t 0), []⟩,
 ⟨some 143, none, .nilc (.t 141) (mok Tryz.prog), []⟩,
 ⟨some 144, none, .fld 8 (.t 143), []⟩,
 ⟨none, none, .st 1 (.t 144) (.c (.int .u64 1)), []⟩,
 ⟨some 145, none, .nilc (.t 142) (mok Tryz.prog), []⟩,
 ⟨some 146, none, .fld 9 (.t 145), []⟩,
 ⟨none, none, .st 1 (.t 146) (.c (.bool true)), []⟩])
 (.seq
 (.ops 9 [⟨some 64, none, .mv (.t 0), []⟩,
 ⟨some 65, none, .nilc (.t 64) (mok Tryz.prog), []⟩,
 ⟨some 66, none, .fld 4 (.t 65), []⟩,
 ⟨some 67, none, .ld 1 false (.t 66), []⟩,
 ⟨some 68, none, .bin .sub (.t 67) (.c (.int .i64 1)), []⟩,
 ⟨some 69, none, .nilc (.t 64) (mok Tryz.prog), []⟩,
 ⟨some 70, none, .fld 4 (.t 69), []⟩,
 ⟨none, none, .st 1 (.t 70) (.t 68), []⟩])
 (.ops 10 [⟨some 71, none, .mv (.t 0), []⟩,
 ⟨some 72, none, .mv (.t 0), []⟩,
 ⟨some 73, none, .mv (.t 0), []⟩,
 ⟨some 74, none, .mv (.t 0), []⟩,
 ⟨some 75, none, .nilc (.t 74) (mok Tryz.prog), []⟩,
 ⟨some 76, none, .fld 4 (.t 75), []⟩,
 ⟨some 77, none, .ld 1 false (.t 76), []⟩,
 ⟨some 78, none, .bin .eql (.t 77) (.c (.int .i64 0)), []⟩,
 ⟨some 79, none, .nilc (.t 71) (mok Tryz.prog), []⟩,
 ⟨some 80, none, .fld 5 (.t 79), []⟩,
 ⟨none, none, .st 1 (.t 80) (.c (.bool false)), []⟩,
 ⟨some 81, none, .nilc (.t 72) (mok Tryz.prog), []⟩,
 ⟨some 82, none, .fld 7 (.t 81), []⟩,
 ⟨none, none, .st 1 (.t 82) (.c (.nils)), []⟩,
 ⟨some 83, none, .nilc (.t 73) (mok Tryz.prog), []⟩,
 ⟨some 84, none, .fld 9 (.t 83), []⟩,
 ⟨none, none, .st 1 (.t 84) (.t 78), []⟩])))))))))))))
 (.seq
 (.ops 21 [⟨some 4, none, .mv (.c (.bool false)), []⟩,
 ⟨some 5, none, .mv (.c (.int .i64 0)), []⟩])
 .ret)))))))⟩
theorem F160_code : cfgA.code 160 = some F160 := by kernel_rfl

/-- (*ticketline/version.Read).Done -/
noncomputable def F161 : AFn := ⟨18, [.tmp 2], (.seq
 (.ops 0 [⟨some 2, none, .mv (.c (.bool false)), []⟩])
 (.seq
 (.ops 1 [⟨some 3, none, .mv (.t 0), []⟩,
 ⟨some 4, none, .eqn .ptr false (.t 3), []⟩,
 ⟨some 5, none, .mv (.t 4), []⟩,
 ⟨some 6, some (5, false), .mv (.t 0), []⟩,
 ⟨some 7, some (5, false), .nilc (.t 6) (mok Tryz.prog), []⟩,
 ⟨some 8, some (5, false), .fld 0 (.t 7), []⟩,
 ⟨some 9, some (5, false), .ld 1 false (.t 8), []⟩,
 ⟨some 10, some (5, false), .un .not (.t 9), []⟩,
 ⟨some 11, none, .pick (.t 5) (.c (.bool true)) (.t 10), []⟩,
 ⟨some 12, none, .mv (.t 11), []⟩,
 ⟨some 13, some (12, false), .mv (.t 0), []⟩,
 ⟨some 14, some (12, false), .nilc (.t 13) (mok Tryz.prog), []⟩,
 ⟨some 15, some (12, false), .fld 9 (.t 14), []⟩,
 ⟨some 16, some (12, false), .ld 1 false (.t 15), []⟩,
 ⟨some 17, none, .pick (.t 12) (.c (.bool true)) (.t 16), []⟩,
 ⟨some 2, none, .mv (.t 17), []⟩])
 .ret))⟩
theorem F161_code : cfgA.code 161 = some F161 := by kernel_rfl

/-- (*ticketline/version.Read).Words -/
noncomputable def F162 : AFn := ⟨11, [.tmp 2], (.seq
 (.ops 0 [⟨some 2, none, .mv (.c (.nils)), []⟩])
 (.seq
 (.seq
 (.ops 1 [⟨some 3, none, .mv (.t 0), []⟩,
 ⟨some 4, none, .call 163 [.t 3], []⟩,
 ⟨some 5, none, .bin .eql (.t 4) (.c (.int .u64 0)), []⟩])
 (.cond (.t 5)
 (.seq
 (.ops 2 [⟨some 2, none, .mv (.c (.nils)), []⟩])
 .ret)
 .skip))
 (.seq
 (.ops 3 [⟨some 6, none, .mv (.t 0), []⟩,
 ⟨some 7, none, .nilc (.t 6) (mok Tryz.prog), []⟩,
 ⟨some 8, none, .fld 7 (.t 7), []⟩,
 ⟨some 9, none, .ld 1 false (.t 8), []⟩,
 ⟨some 10, none, .call 69 [.t 9], []⟩,
 ⟨some 2, none, .mv (.t 10), []⟩])
 .ret)))⟩
theorem F162_code : cfgA.code 162 = some F162 := by kernel_rfl

/-- (*ticketline/version.Read).Result -/
noncomputable def F163 : AFn := ⟨9, [.tmp 2], (.seq
 (.ops 0 [⟨some 2, none, .mv (.c (.int .u64 0)), []⟩])
 (.seq
 (.seq
 (.ops 1 [⟨some 3, none, .mv (.t 0), []⟩,
 ⟨some 4, none, .eqn .ptr false (.t 3), []⟩])
 (.cond (.t 4)
 (.seq
 (.ops 2 [⟨some 2, none, .mv (.c (.int .u64 0)), []⟩])
 .ret)
 .skip))
 (.seq
 (.ops 3 [⟨some 5, none, .mv (.t 0), []⟩,
 ⟨some 6, none, .nilc (.t 5) (mok Tryz.prog), []⟩,
 ⟨some 7, none, .fld 8 (.t 6), []⟩,
 ⟨some 8, none, .ld 1 false (.t 7), []⟩,
 ⟨some 2, none, .mv (.t 8), []⟩])
 .ret)))⟩
theorem F163_code : cfgA.code 163 = some F163 := by kernel_rfl

/-- (*ticketline/descend.Find).visit -/
noncomputable def F165 : AFn := ⟨37, [], (.seq
 (.ops 0 [⟨some 5, none, .mv (.t 0), []⟩,
 ⟨some 6, none, .nilc (.t 5) (mok Tryz.prog), []⟩,
 ⟨some 7, none, .fld 5 (.t 6), []⟩,
 ⟨some 8, none, .ld 1 false (.t 7), []⟩,
 ⟨some 9, none, .bin .add (.t 8) (.c (.int .i64 1)), []⟩,
 ⟨some 10, none, .nilc (.t 5) (mok Tryz.prog), []⟩,
 ⟨some 11, none, .fld 5 (.t 10), []⟩,
 ⟨none, none, .st 1 (.t 11) (.t 9), []⟩])
 (.seq
 (.ops 1 [⟨some 12, none, .mv (.t 0), []⟩,
 ⟨some 13, none, .nilc (.t 12) (mok Tryz.prog), []⟩,
 ⟨some 14, none, .fld 0 (.t 13), []⟩,
 ⟨some 15, none, .ld 2 true (.t 14), []⟩,
 ⟨some 16, none, .mv (.t 1), []⟩,
 ⟨some 17, none, .call 172 [.t 15, .t 16], []⟩,
 ⟨some 4, none, .mv (.t 17), []⟩])
 (.seq
 (.seq
 (.ops 2 [⟨some 18, none, .mv (.t 4), []⟩,
 ⟨some 19, none, .eqn .ptr false (.t 18), []⟩,
 ⟨some 20, none, .mv (.t 19), []⟩,
 ⟨some 21, some (20, false), .mv (.t 0), []⟩,
 ⟨some 22, some (20, false), .nilc (.t 21) (mok Tryz.prog), []⟩,
 ⟨some 23, some (20, false), .fld 5 (.t 22), []⟩,
 ⟨some 24, some (20, false), .ld 1 false (.t 23), []⟩,
 ⟨some 25, some (20, false), .bin .gtr (.t 24) (.c (.int .i64 40)), []⟩,
 ⟨some 26, none, .pick (.t 20) (.c (.bool true)) (.t 25), []⟩])
 (.cond (.t 26)
 (.seq
 (.ops 3 [⟨some 27, none, .mv (.t 0), []⟩,
 ⟨some 28, none, .call 164 [.t 27], []⟩])
 .ret)
 .skip))
 (.ops 4 [⟨some 29, none, .mv (.t 0), []⟩,
 ⟨some 30, none, .mv (.t 0), []⟩,
 ⟨some 31, none, .mv (.t 1), []⟩,
 ⟨some 32, none, .mv (.t 4), []⟩,
 ⟨some 33, none, .nilc (.t 29) (mok Tryz.prog), []⟩,
 ⟨some 34, none, .fld 6 (.t 33), []⟩,
 ⟨none, none, .st 1 (.t 34) (.t 31), []⟩,
 ⟨some 35, none, .nilc (.t 30) (mok Tryz.prog), []⟩,
 ⟨some 36, none, .fld 7 (.t 35), []⟩,
 ⟨none, none, .st 1 (.t 36) (.t 32), []⟩]))))⟩
theorem F165_code : cfgA.code 165 = some F165 := by kernel_rfl

/-- ticketline/descend.image -/
noncomputable def F166 : AFn := ⟨8, [.cell 2 128 true], (.seq
 (.ops 0 [⟨some 2, none, .alloc (List.replicate 128 (.int .u64 0)) false, []⟩])
 (.seq
 (.ops 1 [⟨some 3, none, .alloc (List.replicate 128 (.int .u64 0)) false, []⟩])
 (.seq
 (.ops 2 [⟨some 4, none, .slc (some 128) 1 (.t 3) (some (.c (.int .i64 8))) none, []⟩,
 ⟨some 5, none, .mv (.t 0), []⟩,
 ⟨some 6, none, .cpy 1 (.t 4) (.t 5), []⟩])
 (.seq
 (.ops 3 [⟨some 7, none, .ld 128 true (.t 3), []⟩,
 ⟨none, none, .st 128 (.t 2) (.t 7), []⟩])
 .ret))))⟩
theorem F166_code : cfgA.code 166 = some F166 := by kernel_rfl

/-- ticketline/fence.Where -/
noncomputable def F167 : AFn := ⟨22, [.tmp 4, .tmp 5], (.seq
 (.ops 0 [⟨some 2, none, .box 128 (.t 0) false, []⟩,
 ⟨some 4, none, .mv (.c (.int .i64 0)), []⟩,
 ⟨some 5, none, .mv (.c (.int .i64 0)), []⟩])
 (.seq
 (.ops 1 [⟨some 10, none, .ld 128 true (.t 2), []⟩,
 ⟨some 11, none, .call 173 [.t 10], []⟩,
 ⟨some 9, none, .mv (.t 11), []⟩,
 ⟨some 12, none, .ext (.t 9) 0, []⟩,
 ⟨some 13, none, .ext (.t 9) 1, []⟩,
 ⟨some 14, none, .ext (.t 9) 2, []⟩,
 ⟨some 6, none, .mv (.t 12), []⟩,
 ⟨some 7, none, .mv (.t 13), []⟩,
 ⟨some 8, none, .mv (.t 14), []⟩])
 (.seq
 (.seq
 (.ops 2 [⟨some 15, none, .mv (.t 8), []⟩,
 ⟨some 16, none, .bin .neq (.t 15) (.c (.int .i64 0)), []⟩])
 (.cond (.t 16)
 (.seq
 (.ops 3 [⟨some 17, none, .mv (.t 8), []⟩,
 ⟨some 4, none, .mv (.c (.int .i64 0)), []⟩,
 ⟨some 5, none, .mv (.t 17), []⟩])
 .ret)
 .skip))
 (.seq
 (.ops 4 [⟨some 18, none, .mv (.t 6), []⟩,
 ⟨some 19, none, .mv (.t 7), []⟩,
 ⟨some 20, none, .mv (.t 1), []⟩,
 ⟨some 21, none, .call 174 [.t 18, .t 19, .t 20], []⟩,
 ⟨some 4, none, .mv (.t 21), []⟩,
 ⟨some 5, none, .mv (.c (.int .i64 0)), []⟩])
 .ret))))⟩
theorem F167_code : cfgA.code 167 = some F167 := by kernel_rfl

/-- ticketline/slot.Next -/
noncomputable def F168 : AFn := ⟨9, [.tmp 2], (.seq
 (.ops 0 [⟨some 1, none, .box 128 (.t 0) false, []⟩,
 ⟨some 2, none, .mv (.c (.int .i64 0)), []⟩])
 (.seq
 (.seq
 (.ops 1 [⟨some 3, none, .ld 128 true (.t 1), []⟩,
 ⟨some 4, none, .call 70 [.t 3], []⟩,
 ⟨some 5, none, .un .not (.t 4), []⟩])
 (.cond (.t 5)
 (.seq
 (.ops 2 [⟨some 2, none, .mv (.c (.int .i64 0)), []⟩])
 .ret)
 .skip))
 (.seq
 (.ops 3 [⟨some 6, none, .ixa (some 128) 1 (.t 1) (.c (.int .i64 10)), []⟩,
 ⟨some 7, none, .ld 1 false (.t 6), []⟩,
 ⟨some 8, none, .cvi .i64 (.t 7), []⟩,
 ⟨some 2, none, .mv (.t 8), []⟩])
 .ret)))⟩
theorem F168_code : cfgA.code 168 = some F168 := by kernel_rfl

/-- (*ticketline/version.Read).Version -/
noncomputable def F169 : AFn := ⟨10, [.tmp 2], (.seq
 (.ops 0 [⟨some 2, none, .mv (.c (.int .u64 0)), []⟩])
 (.seq
 (.seq
 (.ops 1 [⟨some 3, none, .mv (.t 0), []⟩,
 ⟨some 4, none, .call 163 [.t 3], []⟩,
 ⟨some 5, none, .bin .eql (.t 4) (.c (.int .u64 0)), []⟩])
 (.cond (.t 5)
 (.seq
 (.ops 2 [⟨some 2, none, .mv (.c (.int .u64 0)), []⟩])
 .ret)
 .skip))
 (.seq
 (.ops 3 [⟨some 6, none, .mv (.t 0), []⟩,
 ⟨some 7, none, .nilc (.t 6) (mok Tryz.prog), []⟩,
 ⟨some 8, none, .fld 6 (.t 7), []⟩,
 ⟨some 9, none, .ld 1 false (.t 8), []⟩,
 ⟨some 2, none, .mv (.t 9), []⟩])
 .ret)))⟩
theorem F169_code : cfgA.code 169 = some F169 := by kernel_rfl

/-- ticketline/version.Even -/
noncomputable def F171 : AFn := ⟨6, [.tmp 2], (.seq
 (.ops 0 [⟨some 2, none, .mv (.c (.bool false)), []⟩])
 (.seq
 (.ops 1 [⟨some 3, none, .mv (.t 0), []⟩,
 ⟨some 4, none, .bin .rem (.t 3) (.c (.int .u64 2)), []⟩,
 ⟨some 5, none, .bin .eql (.t 4) (.c (.int .u64 0)), []⟩,
 ⟨some 2, none, .mv (.t 5), []⟩])
 .ret))⟩
theorem F171_code : cfgA.code 171 = some F171 := by kernel_rfl

/-- ticketline/descend.readPage -/
noncomputable def F172 : AFn := ⟨28, [.tmp 4], (.seq
 (.ops 0 [⟨some 2, none, .box 2 (.t 0) false, []⟩,
 ⟨some 4, none, .mv (.c (.nilp)), []⟩])
 (.seq
 (.seq
 (.ops 1 [⟨some 9, none, .mv (.t 1), []⟩,
 ⟨some 10, none, .bin .lss (.t 9) (.c (.int .i64 1)), []⟩])
 (.cond (.t 10)
 (.seq
 (.ops 2 [⟨some 4, none, .mv (.c (.nilp)), []⟩])
 .ret)
 .skip))
 (.seq
 (.ops 3 [⟨some 12, none, .ld 2 true (.t 2), []⟩,
 ⟨some 13, none, .mv (.t 1), []⟩,
 ⟨some 14, none, .call 46 [.t 12, .t 13], []⟩,
 ⟨some 11, none, .mv (.t 14), []⟩,
 ⟨some 15, none, .ext (.t 11) 0, []⟩,
 ⟨some 16, none, .ext (.t 11) 1, []⟩,
 ⟨some 5, none, .mv (.t 15), []⟩,
 ⟨some 6, none, .mv (.t 16), []⟩])
 (.seq
 (.seq
 (.ops 4 [⟨some 17, none, .mv (.t 6), []⟩,
 ⟨some 18, none, .bin .neq (.t 17) (.c (.int .i64 0)), []⟩])
 (.cond (.t 18)
 (.seq
 (.ops 5 [⟨some 4, none, .mv (.c (.nilp)), []⟩])
 .ret)
 .skip))
 (.seq
 (.ops 6 [⟨some 20, none, .mv (.t 5), []⟩,
 ⟨some 21, none, .mv (.t 5), []⟩,
 ⟨some 22, none, .bin .sub (.t 21) (.c (.int .i64 3)), []⟩,
 ⟨some 23, none, .bin .add (.t 22) (.c (.int .i64 8)), []⟩,
 ⟨some 24, none, .call 120 [.t 20, .t 23, .c (.int .i64 120), .c (.int .i64 2)], []⟩,
 ⟨some 19, none, .mv (.t 24), []⟩,
 ⟨some 25, none, .ext (.t 19) 0, []⟩,
 ⟨some 26, none, .ext (.t 19) 1, []⟩,
 ⟨some 7, none, .mv (.t 25), []⟩,
 ⟨some 8, none, .mv (.t 26), []⟩])
 (.seq
 (.ops 7 [⟨some 27, none, .mv (.t 7), []⟩,
 ⟨some 4, none, .mv (.t 27), []⟩])
 .ret))))))⟩
theorem F172_code : cfgA.code 172 = some F172 := by kernel_rfl

/-- ticketline/slot.Fences -/
noncomputable def F173 : AFn := ⟨18, [.tmp 2, .tmp 3, .tmp 4], (.seq
 (.ops 0 [⟨some 1, none, .box 128 (.t 0) false, []⟩,
 ⟨some 2, none, .mv (.c (.str [])), []⟩,
 ⟨some 3, none, .mv (.c (.str [])), []⟩,
 ⟨some 4, none, .mv (.c (.int .i64 0)), []⟩])
 (.seq
 (.seq
 (.ops 1 [⟨some 5, none, .ld 128 true (.t 1), []⟩,
 ⟨some 6, none, .call 70 [.t 5], []⟩,
 ⟨some 7, none, .un .not (.t 6), []⟩])
 (.cond (.t 7)
 (.seq
 (.ops 2 [⟨some 2, none, .mv (.c (.str [])), []⟩,
 ⟨some 3, none, .mv (.c (.str [])), []⟩,
 ⟨some 4, none, .mv (.c (.int .i64 12)), []⟩])
 .ret)
 .skip))
 (.seq
 (.ops 3 [⟨some 9, none, .call 123 [.t 1, .c (.int .i64 12)], []⟩,
 ⟨some 8, none, .mv (.t 9), []⟩,
 ⟨some 10, none, .ext (.t 8) 0, []⟩,
 ⟨some 11, none, .ext (.t 8) 1, []⟩,
 ⟨some 2, none, .mv (.t 10), []⟩])
 (.seq
 (.ops 4 [⟨some 13, none, .call 123 [.t 1, .c (.int .i64 16)], []⟩,
 ⟨some 12, none, .mv (.t 13), []⟩,
 ⟨some 14, none, .ext (.t 12) 0, []⟩,
 ⟨some 15, none, .ext (.t 12) 1, []⟩,
 ⟨some 3, none, .mv (.t 14), []⟩])
 (.seq
 (.ops 5 [⟨some 16, none, .mv (.t 2), []⟩,
 ⟨some 17, none, .mv (.t 3), []⟩,
 ⟨some 2, none, .mv (.t 16), []⟩,
 ⟨some 3, none, .mv (.t 17), []⟩,
 ⟨some 4, none, .mv (.c (.int .i64 0)), []⟩])
 .ret)))))⟩
theorem F173_code : cfgA.code 173 = some F173 := by kernel_rfl

/-- ticketline/fence.place -/
noncomputable def F174 : AFn := ⟨21, [.tmp 6], (.seq
 (.ops 0 [⟨some 6, none, .mv (.c (.int .i64 0)), []⟩])
 (.seq
 (.block 0
 (.seq
 (.ops 1 [⟨some 8, none, .mv (.t 2), []⟩,
 ⟨some 9, none, .mv (.t 0), []⟩,
 ⟨some 10, none, .call 78 [.t 8, .t 9], []⟩,
 ⟨some 11, none, .bin .lss (.t 10) (.c (.int .i64 0)), []⟩,
 ⟨some 7, none, .mv (.t 11), []⟩])
 (.cond (.t 7)
 (.seq
 (.ops 2 [⟨some 6, none, .mv (.c (.int .i64 (-1))), []⟩])
 .ret)
 (.seq
 (.ops 3 [⟨some 13, none, .mv (.t 1), []⟩,
 ⟨some 14, none, .bin .neq (.t 13) (.c (.str [])), []⟩,
 ⟨some 15, none, .mv (.t 14), []⟩,
 ⟨some 16, some (15, true), .mv (.t 2), []⟩,
 ⟨some 17, some (15, true), .mv (.t 1), []⟩,
 ⟨some 18, some (15, true), .call 78 [.t 16, .t 17], []⟩,
 ⟨some 19, some (15, true), .bin .geq (.t 18) (.c (.int .i64 0)), []⟩,
 ⟨some 20, none, .pick (.t 15) (.t 19) (.c (.bool false)), []⟩,
 ⟨some 12, none, .mv (.t 20), []⟩])
 (.cond (.t 12)
 (.seq
 (.ops 4 [⟨some 6, none, .mv (.c (.int .i64 1)), []⟩])
 .ret)
 .skip)))))
 (.seq
 (.ops 5 [⟨some 6, none, .mv (.c (.int .i64 0)), []⟩])
 .ret)))⟩
theorem F174_code : cfgA.code 174 = some F174 := by kernel_rfl

/-- ticketline/slot.Pairs -/
noncomputable def F178 : AFn := ⟨13, [.tmp 2, .tmp 3], (.seq
 (.ops 0 [⟨some 1, none, .box 128 (.t 0) false, []⟩,
 ⟨some 2, none, .mv (.c (.nils)), []⟩,
 ⟨some 3, none, .mv (.c (.int .i64 0)), []⟩])
 (.seq
 (.ops 1 [⟨some 7, none, .call 71 [.t 1], []⟩,
 ⟨some 6, none, .mv (.t 7), []⟩,
 ⟨some 8, none, .ext (.t 6) 0, []⟩,
 ⟨some 9, none, .ext (.t 6) 1, []⟩,
 ⟨some 4, none, .mv (.t 8), []⟩,
 ⟨some 5, none, .mv (.t 9), []⟩])
 (.seq
 (.seq
 (.ops 2 [⟨some 10, none, .mv (.t 5), []⟩,
 ⟨some 11, none, .un .not (.t 10), []⟩])
 (.cond (.t 11)
 (.seq
 (.ops 3 [⟨some 2, none, .mv (.c (.nils)), []⟩,
 ⟨some 3, none, .mv (.c (.int .i64 12)), []⟩])
 .ret)
 .skip))
 (.seq
 (.ops 4 [⟨some 12, none, .mv (.t 4), []⟩,
 ⟨some 2, none, .mv (.t 12), []⟩,
 ⟨some 3, none, .mv (.c (.int .i64 0)), []⟩])
 .ret))))⟩
theorem F178_code : cfgA.code 178 = some F178 := by kernel_rfl

/-- (*ticketline/descend.Scan).Done -/
noncomputable def F180 : AFn := ⟨12, [.tmp 2], (.seq
 (.ops 0 [⟨some 2, none, .mv (.c (.bool false)), []⟩])
 (.seq
 (.ops 1 [⟨some 3, none, .mv (.t 0), []⟩,
 ⟨some 4, none, .call 122 [.t 3], []⟩,
 ⟨some 5, none, .mv (.t 4), []⟩,
 ⟨some 6, some (5, false), .mv (.t 0), []⟩,
 ⟨some 7, some (5, false), .nilc (.t 6) (mok Tryz.prog), []⟩,
 ⟨some 8, some (5, false), .fld 14 (.t 7), []⟩,
 ⟨some 9, some (5, false), .ld 1 false (.t 8), []⟩,
 ⟨some 10, some (5, false), .bin .eql (.t 9) (.c (.int .i64 4)), []⟩,
 ⟨some 11, none, .pick (.t 5) (.c (.bool true)) (.t 10), []⟩,
 ⟨some 2, none, .mv (.t 11), []⟩])
 .ret))⟩
theorem F180_code : cfgA.code 180 = some F180 := by kernel_rfl

/-- (*ticketline/descend.Scan).Step -/
noncomputable def F181 : AFn := ⟨100, [.tmp 4, .tmp 5], (.seq
 (.ops 0 [⟨some 4, none, .mv (.c (.bool false)), []⟩,
 ⟨some 5, none, .mv (.c (.int .i64 0)), []⟩])
 (.seq
 (.block 0
 (.seq
 (.ops 1 [⟨some 8, none, .mv (.t 0), []⟩,
 ⟨some 9, none, .call 122 [.t 8], []⟩,
 ⟨some 10, none, .mv (.t 9), []⟩,
 ⟨some 11, some (10, false), .mv (.t 1), []⟩,
 ⟨some 12, some (10, false), .eqn .iface false (.t 11), []⟩,
 ⟨some 13, none, .pick (.t 10) (.c (.bool true)) (.t 12), []⟩,
 ⟨some 7, none, .mv (.t 13), []⟩])
 (.cond (.t 7)
 (.seq
 (.ops 2 [⟨some 4, none, .mv (.c (.bool false)), []⟩,
 ⟨some 5, none, .mv (.c (.int .i64 1)), []⟩])
 .ret)
 (.seq
 (.ops 3 [⟨some 15, none, .mv (.t 0), []⟩,
 ⟨some 16, none, .nilc (.t 15) (mok Tryz.prog), []⟩,
 ⟨some 17, none, .fld 14 (.t 16), []⟩,
 ⟨some 18, none, .ld 1 false (.t 17), []⟩,
 ⟨some 19, none, .bin .eql (.t 18) (.c (.int .i64 4)), []⟩,
 ⟨some 14, none, .mv (.t 19), []⟩])
 (.cond (.t 14)
 (.seq
 (.ops 4 [⟨some 4, none, .mv (.c (.bool false)), []⟩,
 ⟨some 5, none, .mv (.c (.int .i64 17)), []⟩])
 .ret)
 (.seq
 (.ops 5 [⟨some 21, none, .mv (.t 0), []⟩,
 ⟨some 22, none, .nilc (.t 21) (mok Tryz.prog), []⟩,
 ⟨some 23, none, .fld 14 (.t 22), []⟩,
 ⟨some 24, none, .ld 1 false (.t 23), []⟩,
 ⟨some 25, none, .bin .eql (.t 24) (.c (.int .i64 3)), []⟩,
 ⟨some 20, none, .mv (.t 25), []⟩])
 (.cond (.t 20)
 (.seq
 (.ops 6 [⟨some 26, none, .mv (.t 0), []⟩,
 ⟨some 27, none, .mv (.t 1), []⟩,
 ⟨some 28, none, .call 182 [.t 26, .t 27], []⟩,
 ⟨some 4, none, .mv (.c (.bool false)), []⟩,
 ⟨some 5, none, .mv (.t 28), []⟩])
 .ret)
 (.seq
 (.ops 7 [⟨some 30, none, .mv (.t 0), []⟩,
 ⟨some 31, none, .nilc (.t 30) (mok Tryz.prog), []⟩,
 ⟨some 32, none, .fld 14 (.t 31), []⟩,
 ⟨some 33, none, .ld 1 false (.t 32), []⟩,
 ⟨some 34, none, .bin .eql (.t 33) (.c (.int .i64 1)), []⟩,
 ⟨some 29, none, .mv (.t 34), []⟩])
 (.cond (.t 29)
 (.seq
 (.ops 8 [⟨some 36, none, .mv (.t 0), []⟩,
 ⟨some 37, none, .nilc (.t 36) (mok Tryz.prog), []⟩,
 ⟨some 38, none, .fld 7 (.t 37), []⟩,
 ⟨some 39, none, .ld 1 false (.t 38), []⟩,
 ⟨some 40, none, .mv (.t 1), []⟩,
 ⟨some 41, none, .call 158 [.t 39, .t 40], []⟩,
 ⟨some 35, none, .mv (.t 41), []⟩,
 ⟨some 42, none, .ext (.t 35) 0, []⟩,
 ⟨some 43, none, .ext (.t 35) 1, []⟩,
 ⟨some 4, none, .mv (.t 42), []⟩,
 ⟨some 5, none, .mv (.t 43), []⟩])
 (.seq
 (.seq
 (.ops 9 [⟨some 44, none, .mv (.t 5), []⟩,
 ⟨some 45, none, .bin .neq (.t 44) (.c (.int .i64 0)), []⟩,
 ⟨some 46, none, .mv (.t 45), []⟩,
 ⟨some 47, some (46, false), .mv (.t 0), []⟩,
 ⟨some 48, some (46, false), .nilc (.t 47) (mok Tryz.prog), []⟩,
 ⟨some 49, some (46, false), .fld 7 (.t 48), []⟩,
 ⟨some 50, some (46, false), .ld 1 false (.t 49), []⟩,
 ⟨some 51, some (46, false), .call 157 [.t 50], []⟩,
 ⟨some 52, some (46, false), .un .not (.t 51), []⟩,
 ⟨some 53, none, .pick (.t 46) (.c (.bool true)) (.t 52), []⟩])
 (.cond (.t 53)
 (.seq
 (.ops 10 [⟨some 54, none, .mv (.t 4), []⟩,
 ⟨some 55, none, .mv (.t 5), []⟩,
 ⟨some 4, none, .mv (.t 54), []⟩,
 ⟨some 5, none, .mv (.t 55), []⟩])
 .ret)
 .skip))
 (.seq
 (.seq
 (.ops 11 [⟨some 56, none, .mv (.t 0), []⟩,
 ⟨some 57, none, .nilc (.t 56) (mok Tryz.prog), []⟩,
 ⟨some 58, none, .fld 7 (.t 57), []⟩,
 ⟨some 59, none, .ld 1 false (.t 58), []⟩,
 ⟨some 60, none, .call 51 [.t 59], []⟩,
 ⟨some 61, none, .bin .eql (.t 60) (.c (.int .u64 0)), []⟩])
 (.cond (.t 61)
 (.ops 12 [⟨some 62, none, .mv (.t 0), []⟩,
 ⟨some 63, none, .call 183 [.t 62], []⟩])
 (.seq
 (.ops 13 [⟨some 64, none, .mv (.t 0), []⟩,
 ⟨some 65, none, .nilc (.t 64) (mok Tryz.prog), []⟩,
 ⟨some 66, none, .fld 7 (.t 65), []⟩,
 ⟨some 67, none, .ld 1 false (.t 66), []⟩,
 ⟨some 68, none, .call 52 [.t 67], []⟩,
 ⟨some 6, none, .alloc [.int .i64 0, .int .u64 0, .int .u64 0, .int .u64 0, .int .u64 0, .int .u64 0, .int .u64 0, .int .u64 0, .int .u64 0, .int .u64 0, .int .u64 0, .int .u64 0, .int .u64 0, .int .u64 0, .int .u64 0, .int .u64 0, .int .u64 0, .int .u64 0, .int .u64 0, .int .u64 0, .int .u64 0, .int .u64 0, .int .u64 0, .int .u64 0, .int .u64 0, .int .u64 0, .int .u64 0, .int .u64 0, .int .u64 0, .int .u64 0, .int .u64 0, .int .u64 0, .int .u64 0, .int .u64 0, .int .u64 0, .int .u64 0, .int .u64 0, .int .u64 0, .int .u64 0, .int .u64 0, .int .u64 0, .int .u64 0, .int .u64 0, .int .u64 0, .int .u64 0, .int .u64 0, .int .u64 0, .int .u64 0, .int .u64 0, .int .u64 0, .int .u64 0, .int .u64 0, .int .u64 0, .int .u64 0, .int .u64 0, .int .u64 0, .int .u64 0, .int .u64 0, .int .u64 0, .int .u64 0, .int .u64 0, .int .u64 0, .int .u64 0, .int .u64 0, .int .u64 0, .int .u64 0, .int .u64 0, .int .u64 0, .int .u64 0, .int .u64 0, .int .u64 0, .int .u64 0, .int .u64 0, .int .u64 0, .int .u64 0, .int .u64 0, .int .u64 0, .int .u64 0, .int .u64 0, .int .u64 0, .int .u64 0, .int .u64 0, .int .u64 0, .int .u64 0, .int .u64 0, .int .u64 0, .int .u64 0, .int .u64 0, .int .u64 0, .int .u64 0, .int .u64 0, .int .u64 0, .int .u64 0, .int .u64 0, .int .u64 0, .int .u64 0, .int .u64 0, .int .u64 0, .int .u64 0, .int .u64 0, .int .u64 0, .int .u64 0, .int .u64 0, .int .u64 0, .int .u64 0, .int .u64 0, .int .u64 0, .int .u64 0, .int .u64 0, .int .u64 0, .int .u64 0, .int .u64 0, .int .u64 0, .int .u64 0, .int .u64 0, .int .u64 0, .int .u64 0, .int .u64 0, .int .u64 0, .int .u64 0, .int .u64 0, .int .u64 0, .int .u64 0, .int .u64 0, .int .u64 0, .int .u64 0, .int .u64 0, .int .u64 0, .int .u64 0, .int .u64 0] false, []⟩,
 ⟨none, none, .st 130 (.t 6) (.t 68), []⟩])
 (.ops 14 [⟨some 69, none, .mv (.t 0), []⟩,
 ⟨some 70, none, .fld 1 (.t 6), []⟩,
 ⟨some 71, none, .ld 128 true (.t 70), []⟩,
 ⟨some 72, none, .fld 0 (.t 6), []⟩,
 ⟨some 73, none, .ld 1 false (.t 72), []⟩,
 ⟨some 74, none, .fld 129 (.t 6), []⟩,
 ⟨some 75, none, .ld 1 false (.t 74), []⟩,
 ⟨some 76, none, .call 184 [.t 69, .t 71, .t 73, .t 75], []⟩]))))
 (.seq
 (.ops 15 [⟨some 77, none, .mv (.t 4), []⟩,
 ⟨some 4, none, .mv (.t 77), []⟩,
 ⟨some 5, none, .mv (.c (.int .i64 0)), []⟩])
 .ret))))
 .skip)))))))))
 (.seq
 (.ops 16 [⟨some 79, none, .mv (.t 0), []⟩,
 ⟨some 80, none, .nilc (.t 79) (mok Tryz.prog), []⟩,
 ⟨some 81, none, .fld 8 (.t 80), []⟩,
 ⟨some 82, none, .ld 1 false (.t 81), []⟩,
 ⟨some 83, none, .mv (.t 1), []⟩,
 ⟨some 84, none, .call 160 [.t 82, .t 83], []⟩,
 ⟨some 78, none, .mv (.t 84), []⟩,
 ⟨some 85, none, .ext (.t 78) 0, []⟩,
 ⟨some 86, none, .ext (.t 78) 1, []⟩,
 ⟨some 4, none, .mv (.t 85), []⟩,
 ⟨some 5, none, .mv (.t 86), []⟩])
 (.seq
 (.seq
 (.ops 17 [⟨some 87, none, .mv (.t 5), []⟩,
 ⟨some 88, none, .bin .eql (.t 87) (.c (.int .i64 0)), []⟩,
 ⟨some 89, none, .mv (.t 88), []⟩,
 ⟨some 90, some (89, true), .mv (.t 0), []⟩,
 ⟨some 91, some (89, true), .nilc (.t 90) (mok Tryz.prog), []⟩,
 ⟨some 92, some (89, true), .fld 8 (.t 91), []⟩,
 ⟨some 93, some (89, true), .ld 1 false (.t 92), []⟩,
 ⟨some 94, some (89, true), .call 161 [.t 93], []⟩,
 ⟨some 95, none, .pick (.t 89) (.t 94) (.c (.bool false)), []⟩])
 (.cond (.t 95)
 (.ops 18 [⟨some 96, none, .mv (.t 0), []⟩,
 ⟨some 97, none, .call 185 [.t 96], []⟩])
 .skip))
 (.seq
 (.ops 19 [⟨some 98, none, .mv (.t 4), []⟩,
 ⟨some 99, none, .mv (.t 5), []⟩,
 ⟨some 4, none, .mv (.t 98), []⟩,
 ⟨some 5, none, .mv (.t 99), []⟩])
 .ret)))))⟩
theorem F181_code : cfgA.code 181 = some F181 := by kernel_rfl

/-- (*ticketline/descend.Scan).take: the round 0 -/
@[reducible] noncomputable def B184x0 : AC := (.seq
 (.ops 8 [⟨some 59, none, .bin .lss (.t 58) (.t 57), []⟩])
 (.seq
 (.cond (.t 59)
 .skip
 (.exit 0))
 (.seq
 (.block 1
 (.seq
 (.ops 9 [⟨some 60, none, .ixa none 2 (.t 56) (.t 58), []⟩,
 ⟨some 61, none, .ld 2 true (.t 60), []⟩,
 ⟨some 14, none, .alloc [.str [], .str []] false, []⟩,
 ⟨none, none, .st 2 (.t 14) (.t 61), []⟩])
 (.seq
 (.ops 10 [⟨some 62, none, .mv (.t 0), []⟩,
 ⟨some 63, none, .nilc (.t 62) (mok Tryz.prog), []⟩,
 ⟨some 64, none, .fld 13 (.t 63), []⟩,
 ⟨some 65, none, .ld 1 false (.t 64), []⟩,
 ⟨some 66, none, .len .slice (.t 65), []⟩,
 ⟨some 67, none, .mv (.t 0), []⟩,
 ⟨some 68, none, .nilc (.t 67) (mok Tryz.prog), []⟩,
 ⟨some 69, none, .fld 4 (.t 68), []⟩,
 ⟨some 70, none, .ld 1 false (.t 69), []⟩,
 ⟨some 71, none, .bin .lss (.t 66) (.t 70), []⟩,
 ⟨some 72, none, .mv (.t 71), []⟩,
 ⟨some 73, some (72, true), .fld 0 (.t 14), []⟩,
 ⟨some 74, some (72, true), .ld 1 false (.t 73), []⟩,
 ⟨some 75, some (72, true), .mv (.t 0), []⟩,
 ⟨some 76, some (72, true), .nilc (.t 75) (mok Tryz.prog), []⟩,
 ⟨some 77, some (72, true), .fld 2 (.t 76), []⟩,
 ⟨some 78, some (72, true), .ld 1 false (.t 77), []⟩,
 ⟨some 79, some (72, true), .bin .geq (.t 74) (.t 78), []⟩,
 ⟨some 80, none, .pick (.t 72) (.t 79) (.c (.bool false)), []⟩,
 ⟨some 81, none, .mv (.t 80), []⟩,
 ⟨some 82, some (81, true), .mv (.t 0), []⟩,
 ⟨some 83, some (81, true), .nilc (.t 82) (mok Tryz.prog), []⟩,
 ⟨some 84, some (81, true), .fld 3 (.t 83), []⟩,
 ⟨some 85, some (81, true), .ld 1 false (.t 84), []⟩,
 ⟨some 86, some (81, true), .bin .eql (.t 85) (.c (.str [])), []⟩,
 ⟨some 87, some (81, true), .mv (.t 86), []⟩,
 ⟨some 88, some (87, false), .fld 0 (.t 14), []⟩,
 ⟨some 89, some (87, false), .ld 1 false (.t 88), []⟩,
 ⟨some 90, some (87, false), .mv (.t 0), []⟩,
 ⟨some 91, some (87, false), .nilc (.t 90) (mok Tryz.prog), []⟩,
 ⟨some 92, some (87, false), .fld 3 (.t 91), []⟩,
 ⟨some 93, some (87, false), .ld 1 false (.t 92), []⟩,
 ⟨some 94, some (87, false), .bin .lss (.t 89) (.t 93), []⟩,
 ⟨some 95, some (81, true), .pick (.t 87) (.c (.bool true)) (.t 94), []⟩,
 ⟨some 96, none, .pick (.t 81) (.t 95) (.c (.bool false)), []⟩])
 (.cond (.t 96)
 (.ops 11 [⟨some 97, none, .mv (.t 0), []⟩,
 ⟨some 98, none, .mv (.t 0), []⟩,
 ⟨some 99, none, .nilc (.t 98) (mok Tryz.prog), []⟩,
 ⟨some 100, none, .fld 13 (.t 99), []⟩,
 ⟨some 101, none, .ld 1 false (.t 100), []⟩,
 ⟨some 102, none, .ld 2 true (.t 14), []⟩,
 ⟨some 103, none, .bslice [.str [], .str []] 2 1 [(0, (.t 102))] false false, []⟩,
 ⟨some 104, none, .app 2 32 (.t 101) (.t 103) true, []⟩,
 ⟨some 105, none, .nilc (.t 97) (mok Tryz.prog), []⟩,
 ⟨some 106, none, .fld 13 (.t 105), []⟩,
 ⟨none, none, .st 1 (.t 106) (.t 104), []⟩])
 .skip))))
 (.ops 12 [⟨some 107, none, .bin .add (.t 58) (.c (.int .i64 1)), []⟩,
 ⟨some 58, none, .mv (.t 107), []⟩]))))

/-- (*ticketline/descend.Scan).take -/
noncomputable def F184 : AFn := ⟨172, [], (.seq
 (.ops 0 [⟨some 5, none, .box 128 (.t 1) false, []⟩])
 (.seq
 (.ops 1 [⟨some 17, none, .ld 128 true (.t 5), []⟩,
 ⟨some 18, none, .call 178 [.t 17], []⟩,
 ⟨some 16, none, .mv (.t 18), []⟩,
 ⟨some 19, none, .ext (.t 16) 0, []⟩,
 ⟨some 20, none, .ext (.t 16) 1, []⟩,
 ⟨some 8, none, .mv (.t 19), []⟩,
 ⟨some 9, none, .mv (.t 20), []⟩])
 (.seq
 (.ops 2 [⟨some 22, none, .ld 128 true (.t 5), []⟩,
 ⟨some 23, none, .call 173 [.t 22], []⟩,
 ⟨some 21, none, .mv (.t 23), []⟩,
 ⟨some 24, none, .ext (.t 21) 0, []⟩,
 ⟨some 25, none, .ext (.t 21) 1, []⟩,
 ⟨some 26, none, .ext (.t 21) 2, []⟩,
 ⟨some 10, none, .mv (.t 24), []⟩,
 ⟨some 11, none, .mv (.t 25), []⟩,
 ⟨some 12, none, .mv (.t 26), []⟩])
 (.seq
 (.seq
 (.ops 3 [⟨some 27, none, .mv (.t 9), []⟩,
 ⟨some 28, none, .bin .neq (.t 27) (.c (.int .i64 0)), []⟩,
 ⟨some 29, none, .mv (.t 28), []⟩,
 ⟨some 30, some (29, false), .mv (.t 12), []⟩,
 ⟨some 31, some (29, false), .bin .neq (.t 30) (.c (.int .i64 0)), []⟩,
 ⟨some 32, none, .pick (.t 29) (.c (.bool true)) (.t 31), []⟩])
 (.cond (.t 32)
 (.seq
 (.ops 4 [⟨some 33, none, .mv (.t 0), []⟩,
 ⟨some 34, none, .call 183 [.t 33], []⟩])
 .ret)
 .skip))
 (.seq
 (.ops 5 [⟨some 35, none, .mv (.t 0), []⟩,
 ⟨some 36, none, .mv (.t 0), []⟩,
 ⟨some 37, none, .nilc (.t 36) (mok Tryz.prog), []⟩,
 ⟨some 38, none, .fld 11 (.t 37), []⟩,
 ⟨some 39, none, .ld 1 false (.t 38), []⟩,
 ⟨some 40, none, .call 186 [.t 39], []⟩,
 ⟨some 41, none, .mv (.t 2), []⟩,
 ⟨some 42, none, .mv (.t 3), []⟩,
 ⟨some 43, none, .build [.int .i64 0, .int .u64 0] [(0, 1, (.t 41)), (1, 1, (.t 42))], []⟩,
 ⟨some 44, none, .bslice [.int .i64 0, .int .u64 0] 2 1 [(0, (.t 43))] false false, []⟩,
 ⟨some 45, none, .app 2 16 (.t 40) (.t 44) true, []⟩,
 ⟨some 46, none, .nilc (.t 35) (mok Tryz.prog), []⟩,
 ⟨some 47, none, .fld 11 (.t 46), []⟩,
 ⟨none, none, .st 1 (.t 47) (.t 45), []⟩])
 (.seq
 (.ops 6 [⟨some 48, none, .mv (.t 0), []⟩,
 ⟨some 49, none, .mv (.t 0), []⟩,
 ⟨some 50, none, .nilc (.t 49) (mok Tryz.prog), []⟩,
 ⟨some 51, none, .fld 13 (.t 50), []⟩,
 ⟨some 52, none, .ld 1 false (.t 51), []⟩,
 ⟨some 53, none, .call 102 [.t 52], []⟩,
 ⟨some 54, none, .nilc (.t 48) (mok Tryz.prog), []⟩,
 ⟨some 55, none, .fld 13 (.t 54), []⟩,
 ⟨none, none, .st 1 (.t 55) (.t 53), []⟩])
 (.seq
 (.seq
 (.ops 7 [⟨some 56, none, .mv (.t 8), []⟩,
 ⟨some 57, none, .len .slice (.t 56), []⟩,
 ⟨some 58, none, .mv (.c (.int .i64 0)), []⟩])
 (.block 0
 (.loop [] B184x0)))
 (.seq
 (.ops 13 [⟨some 108, none, .ld 128 true (.t 5), []⟩,
 ⟨some 109, none, .call 168 [.t 108], []⟩,
 ⟨some 15, none, .mv (.t 109), []⟩])
 (.seq
 (.seq
 (.ops 14 [⟨some 110, none, .mv (.t 0), []⟩,
 ⟨some 111, none, .nilc (.t 110) (mok Tryz.prog), []⟩,
 ⟨some 112, none, .fld 13 (.t 111), []⟩,
 ⟨some 113, none, .ld 1 false (.t 112), []⟩,
 ⟨some 114, none, .len .slice (.t 113), []⟩,
 ⟨some 115, none, .mv (.t 0), []⟩,
 ⟨some 116, none, .nilc (.t 115) (mok Tryz.prog), []⟩,
 ⟨some 117, none, .fld 4 (.t 116), []⟩,
 ⟨some 118, none, .ld 1 false (.t 117), []⟩,
 ⟨some 119, none, .bin .eql (.t 114) (.t 118), []⟩,
 ⟨some 120, none, .mv (.t 119), []⟩,
 ⟨some 121, some (120, false), .mv (.t 15), []⟩,
 ⟨some 122, some (120, false), .bin .eql (.t 121) (.c (.int .i64 0)), []⟩,
 ⟨some 123, none, .pick (.t 120) (.c (.bool true)) (.t 122), []⟩,
 ⟨some 124, none, .mv (.t 123), []⟩,
 ⟨some 125, some (124, false), .mv (.t 11), []⟩,
 ⟨some 126, some (124, false), .bin .eql (.t 125) (.c (.str [])), []⟩,
 ⟨some 127, none, .pick (.t 124) (.c (.bool true)) (.t 126), []⟩,
 ⟨some 128, none, .mv (.t 127), []⟩,
 ⟨some 129, some (128, false), .mv (.t 0), []⟩,
 ⟨some 130, some (128, false), .nilc (.t 129) (mok Tryz.prog), []⟩,
 ⟨some 131, some (128, false), .fld 3 (.t 130), []⟩,
 ⟨some 132, some (128, false), .ld 1 false (.t 131), []⟩,
 ⟨some 133, some (128, false), .bin .neq (.t 132) (.c (.str [])), []⟩,
 ⟨some 134, some (128, false), .mv (.t 133), []⟩,
 ⟨some 135, some (134, true), .mv (.t 11), []⟩,
 ⟨some 136, some (134, true), .mv (.t 0), []⟩,
 ⟨some 137, some (134, true), .nilc (.t 136) (mok Tryz.prog), []⟩,
 ⟨some 138, some (134, true), .fld 3 (.t 137), []⟩,
 ⟨some 139, some (134, true), .ld 1 false (.t 138), []⟩,
 ⟨some 140, some (134, true), .bin .geq (.t 135) (.t 139), []⟩,
 ⟨some 141, some (128, false), .pick (.t 134) (.t 140) (.c (.bool false)), []⟩,
 ⟨some 142, none, .pick (.t 128) (.c (.bool true)) (.t 141), []⟩])
 (.cond (.t 142)
 (.seq
 (.ops 15 [⟨some 143, none, .mv (.t 0), []⟩,
 ⟨some 144, none, .call 187 [.t 143], []⟩])
 .ret)
 .skip))
 (.seq
 (.ops 16 [⟨some 145, none, .mv (.t 0), []⟩,
 ⟨some 146, none, .mv (.t 0), []⟩,
 ⟨some 147, none, .mv (.t 0), []⟩,
 ⟨some 148, none, .mv (.t 0), []⟩,
 ⟨some 149, none, .mv (.t 11), []⟩,
 ⟨some 150, none, .mv (.t 15), []⟩,
 ⟨some 151, none, .mv (.t 0), []⟩,
 ⟨some 152, none, .nilc (.t 151) (mok Tryz.prog), []⟩,
 ⟨some 153, none, .fld 0 (.t 152), []⟩,
 ⟨some 154, none, .ld 2 true (.t 153), []⟩,
 ⟨some 155, none, .mv (.t 15), []⟩,
 ⟨some 156, none, .call 172 [.t 154, .t 155], []⟩,
 ⟨some 157, none, .nilc (.t 145) (mok Tryz.prog), []⟩,
 ⟨some 158, none, .fld 10 (.t 157), []⟩,
 ⟨none, none, .st 1 (.t 158) (.t 149), []⟩,
 ⟨some 159, none, .nilc (.t 146) (mok Tryz.prog), []⟩,
 ⟨some 160, none, .fld 9 (.t 159), []⟩,
 ⟨none, none, .st 1 (.t 160) (.t 150), []⟩,
 ⟨some 161, none, .nilc (.t 147) (mok Tryz.prog), []⟩,
 ⟨some 162, none, .fld 8 (.t 161), []⟩,
 ⟨none, none, .st 1 (.t 162) (.t 156), []⟩,
 ⟨some 163, none, .nilc (.t 148) (mok Tryz.prog), []⟩,
 ⟨some 164, none, .fld 14 (.t 163), []⟩,
 ⟨none, none, .st 1 (.t 164) (.c (.int .i64 2)), []⟩])
 (.seq
 (.ops 17 [⟨some 165, none, .mv (.t 0), []⟩,
 ⟨some 166, none, .nilc (.t 165) (mok Tryz.prog), []⟩,
 ⟨some 167, none, .fld 8 (.t 166), []⟩,
 ⟨some 168, none, .ld 1 false (.t 167), []⟩,
 ⟨some 169, none, .eqn .ptr false (.t 168), []⟩])
 (.cond (.t 169)
 (.ops 18 [⟨some 170, none, .mv (.t 0), []⟩,
 ⟨some 171, none, .call 183 [.t 170], []⟩])
 .skip))))))))))))⟩
theorem F184_code : cfgA.code 184 = some F184 := by kernel_rfl

/-- slices.Clone[[]ticketline/descend.seen,ticketline/descend.seen] -/
noncomputable def F186 : AFn := ⟨8, [.tmp 2], (.seq
 (.ops 0 [⟨some 2, none, .mv (.c (.nils)), []⟩])
 (.seq
 (.seq
 (.ops 1 [⟨some 3, none, .mv (.t 0), []⟩,
 ⟨some 4, none, .eqn .slice false (.t 3), []⟩])
 (.cond (.t 4)
 (.seq
 (.ops 2 [⟨some 2, none, .mv (.c (.nils)), []⟩])
 .ret)
 .skip))
 (.seq
 (.ops 3 [⟨some 5, none, .bslice [.int .i64 0, .int .u64 0] 2 0 [] false false, []⟩,
 ⟨some 6, none, .mv (.t 0), []⟩,
 ⟨some 7, none, .app 2 16 (.t 5) (.t 6) true, []⟩,
 ⟨some 2, none, .mv (.t 7), []⟩])
 .ret)))⟩
theorem F186_code : cfgA.code 186 = some F186 := by kernel_rfl

/-- (*ticketline/descend.Scan).settle -/
noncomputable def F187 : AFn := ⟨17, [], (.seq
 (.seq
 (.ops 0 [⟨some 2, none, .mv (.t 0), []⟩,
 ⟨some 3, none, .nilc (.t 2) (mok Tryz.prog), []⟩,
 ⟨some 4, none, .fld 11 (.t 3), []⟩,
 ⟨some 5, none, .ld 1 false (.t 4), []⟩,
 ⟨some 6, none, .len .slice (.t 5), []⟩,
 ⟨some 7, none, .bin .eql (.t 6) (.c (.int .i64 1)), []⟩])
 (.cond (.t 7)
 (.seq
 (.ops 1 [⟨some 8, none, .mv (.t 0), []⟩,
 ⟨some 9, none, .mv (.t 0), []⟩,
 ⟨some 10, none, .nilc (.t 8) (mok Tryz.prog), []⟩,
 ⟨some 11, none, .fld 15 (.t 10), []⟩,
 ⟨none, none, .st 1 (.t 11) (.c (.bool true)), []⟩,
 ⟨some 12, none, .nilc (.t 9) (mok Tryz.prog), []⟩,
 ⟨some 13, none, .fld 14 (.t 12), []⟩,
 ⟨none, none, .st 1 (.t 13) (.c (.int .i64 4)), []⟩])
 .ret)
 .skip))
 (.ops 2 [⟨some 14, none, .mv (.t 0), []⟩,
 ⟨some 15, none, .nilc (.t 14) (mok Tryz.prog), []⟩,
 ⟨some 16, none, .fld 14 (.t 15), []⟩,
 ⟨none, none, .st 1 (.t 16) (.c (.int .i64 3)), []⟩]))⟩
theorem F187_code : cfgA.code 187 = some F187 := by kernel_rfl

end Den
