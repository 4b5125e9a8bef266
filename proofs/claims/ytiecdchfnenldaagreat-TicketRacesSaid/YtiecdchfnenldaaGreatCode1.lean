/- Functions of the program, as den reads them. -/
import Derived.Test.YtiecdchfnenldaaGreatA
namespace Den
open Go Go.Proofs
set_option maxRecDepth 1000000

/-- (*ticketline/qnode.Nodes).Wait -/
noncomputable def F75 : AFn := ⟨8, [.tmp 4], (.seq
 (.ops 0 [⟨some 4, none, .mv (.c (.int .i64 0)), []⟩])
 (.seq
 (.ops 1 [⟨some 5, none, .mv (.t 0), []⟩,
 ⟨some 6, none, .mv (.t 1), []⟩,
 ⟨some 7, none, .call 116 [.t 5, .t 6, .c (.int .i64 1)], []⟩,
 ⟨some 4, none, .mv (.t 7), []⟩])
 .ret))⟩
theorem F75_code : cfgA.code 75 = some F75 := by kernel_rfl

/-- (*ticketline/qnode.Nodes).Next -/
noncomputable def F76 : AFn := ⟨8, [.tmp 4], (.seq
 (.ops 0 [⟨some 4, none, .mv (.c (.int .i64 0)), []⟩])
 (.seq
 (.ops 1 [⟨some 5, none, .mv (.t 0), []⟩,
 ⟨some 6, none, .mv (.t 1), []⟩,
 ⟨some 7, none, .call 116 [.t 5, .t 6, .c (.int .i64 0)], []⟩,
 ⟨some 4, none, .mv (.t 7), []⟩])
 .ret))⟩
theorem F76_code : cfgA.code 76 = some F76 := by kernel_rfl

/-- (*ticketline/qnode.Nodes).Ref -/
noncomputable def F78 : AFn := ⟨17, [.tmp 4, .tmp 5], (.seq
 (.ops 0 [⟨some 4, none, .mv (.c (.int .u64 0)), []⟩,
 ⟨some 5, none, .mv (.c (.int .i64 0)), []⟩])
 (.seq
 (.block 0
 (.seq
 (.ops 1 [⟨some 7, none, .mv (.t 0), []⟩,
 ⟨some 8, none, .call 117 [.t 7], []⟩,
 ⟨some 6, none, .mv (.t 8), []⟩])
 (.cond (.t 6)
 (.seq
 (.ops 2 [⟨some 4, none, .mv (.c (.int .u64 0)), []⟩,
 ⟨some 5, none, .mv (.c (.int .i64 1)), []⟩])
 .ret)
 (.seq
 (.ops 3 [⟨some 10, none, .mv (.t 0), []⟩,
 ⟨some 11, none, .mv (.t 1), []⟩,
 ⟨some 12, none, .call 118 [.t 10, .t 11], []⟩,
 ⟨some 13, none, .un .not (.t 12), []⟩,
 ⟨some 9, none, .mv (.t 13), []⟩])
 (.cond (.t 9)
 (.seq
 (.ops 4 [⟨some 4, none, .mv (.c (.int .u64 0)), []⟩,
 ⟨some 5, none, .mv (.c (.int .i64 9)), []⟩])
 .ret)
 .skip)))))
 (.seq
 (.ops 5 [⟨some 14, none, .mv (.t 1), []⟩,
 ⟨some 15, none, .cvi .u64 (.t 14), []⟩,
 ⟨some 16, none, .bin .add (.t 15) (.c (.int .u64 1)), []⟩,
 ⟨some 4, none, .mv (.t 16), []⟩,
 ⟨some 5, none, .mv (.c (.int .i64 0)), []⟩])
 .ret)))⟩
theorem F78_code : cfgA.code 78 = some F78 := by kernel_rfl

/-- ticketline/descend.Nodes -/
noncomputable def F84 : AFn := ⟨14, [.tmp 2, .tmp 3], (.seq
 (.ops 0 [⟨some 1, none, .box 2 (.t 0) false, []⟩,
 ⟨some 2, none, .mv (.c (.nilp)), []⟩,
 ⟨some 3, none, .mv (.c (.int .i64 0)), []⟩])
 (.seq
 (.seq
 (.ops 1 [⟨some 4, none, .ld 2 true (.t 1), []⟩,
 ⟨some 5, none, .call 88 [.t 4], []⟩,
 ⟨some 6, none, .un .not (.t 5), []⟩])
 (.cond (.t 6)
 (.seq
 (.ops 2 [⟨some 2, none, .mv (.c (.nilp)), []⟩,
 ⟨some 3, none, .mv (.c (.int .i64 2)), []⟩])
 .ret)
 .skip))
 (.seq
 (.ops 3 [⟨some 7, none, .ld 2 true (.t 1), []⟩,
 ⟨some 9, none, .fld 1 (.t 1), []⟩,
 ⟨some 10, none, .ld 1 false (.t 9), []⟩,
 ⟨some 8, none, .call 89 [.t 7], [(10, .ld 1 false (.t 9))]⟩,
 ⟨some 11, none, .call 120 [.t 8, .t 10], []⟩,
 ⟨some 12, none, .ext (.t 11) 0, []⟩,
 ⟨some 13, none, .ext (.t 11) 1, []⟩,
 ⟨some 2, none, .mv (.t 12), []⟩,
 ⟨some 3, none, .mv (.t 13), []⟩])
 .ret)))⟩
theorem F84_code : cfgA.code 84 = some F84 := by kernel_rfl

/-- (*ticketline/qnode.Nodes).Node -/
noncomputable def F85 : AFn := ⟨18, [.tmp 4, .tmp 5], (.seq
 (.ops 0 [⟨some 4, none, .mv (.c (.int .i64 0)), []⟩,
 ⟨some 5, none, .mv (.c (.int .i64 0)), []⟩])
 (.seq
 (.block 0
 (.seq
 (.ops 1 [⟨some 7, none, .mv (.t 0), []⟩,
 ⟨some 8, none, .call 117 [.t 7], []⟩,
 ⟨some 6, none, .mv (.t 8), []⟩])
 (.cond (.t 6)
 (.seq
 (.ops 2 [⟨some 4, none, .mv (.c (.int .i64 0)), []⟩,
 ⟨some 5, none, .mv (.c (.int .i64 1)), []⟩])
 .ret)
 (.seq
 (.ops 3 [⟨some 10, none, .mv (.t 1), []⟩,
 ⟨some 11, none, .mv (.t 0), []⟩,
 ⟨some 12, none, .call 121 [.t 11], []⟩,
 ⟨some 13, none, .cvi .u64 (.t 12), []⟩,
 ⟨some 14, none, .bin .gtr (.t 10) (.t 13), []⟩,
 ⟨some 9, none, .mv (.t 14), []⟩])
 (.cond (.t 9)
 (.seq
 (.ops 4 [⟨some 4, none, .mv (.c (.int .i64 0)), []⟩,
 ⟨some 5, none, .mv (.c (.int .i64 12)), []⟩])
 .ret)
 .skip)))))
 (.seq
 (.ops 5 [⟨some 15, none, .mv (.t 1), []⟩,
 ⟨some 16, none, .cvi .i64 (.t 15), []⟩,
 ⟨some 17, none, .bin .sub (.t 16) (.c (.int .i64 1)), []⟩,
 ⟨some 4, none, .mv (.t 17), []⟩,
 ⟨some 5, none, .mv (.c (.int .i64 0)), []⟩])
 .ret)))⟩
theorem F85_code : cfgA.code 85 = some F85 := by kernel_rfl

/-- (*ticketline/qnode.Nodes).Owner -/
noncomputable def F86 : AFn := ⟨16, [.tmp 4, .tmp 5], (.seq
 (.ops 0 [⟨some 4, none, .mv (.c (.int .i64 0)), []⟩,
 ⟨some 5, none, .mv (.c (.int .i64 0)), []⟩])
 (.seq
 (.block 0
 (.seq
 (.ops 1 [⟨some 7, none, .mv (.t 0), []⟩,
 ⟨some 8, none, .call 117 [.t 7], []⟩,
 ⟨some 6, none, .mv (.t 8), []⟩])
 (.cond (.t 6)
 (.seq
 (.ops 2 [⟨some 4, none, .mv (.c (.int .i64 0)), []⟩,
 ⟨some 5, none, .mv (.c (.int .i64 1)), []⟩])
 .ret)
 (.seq
 (.ops 3 [⟨some 10, none, .mv (.t 0), []⟩,
 ⟨some 11, none, .mv (.t 1), []⟩,
 ⟨some 12, none, .call 118 [.t 10, .t 11], []⟩,
 ⟨some 13, none, .un .not (.t 12), []⟩,
 ⟨some 9, none, .mv (.t 13), []⟩])
 (.cond (.t 9)
 (.seq
 (.ops 4 [⟨some 4, none, .mv (.c (.int .i64 0)), []⟩,
 ⟨some 5, none, .mv (.c (.int .i64 9)), []⟩])
 .ret)
 .skip)))))
 (.seq
 (.ops 5 [⟨some 14, none, .mv (.t 1), []⟩,
 ⟨some 15, none, .bin .quo (.t 14) (.c (.int .i64 2)), []⟩,
 ⟨some 4, none, .mv (.t 15), []⟩,
 ⟨some 5, none, .mv (.c (.int .i64 0)), []⟩])
 .ret)))⟩
theorem F86_code : cfgA.code 86 = some F86 := by kernel_rfl

/-- ticketline/descend.valid -/
noncomputable def F88 : AFn := ⟨21, [.tmp 2], (.seq
 (.ops 0 [⟨some 1, none, .box 2 (.t 0) false, []⟩,
 ⟨some 2, none, .mv (.c (.bool false)), []⟩])
 (.seq
 (.ops 1 [⟨some 3, none, .fld 0 (.t 1), []⟩,
 ⟨some 4, none, .ld 1 false (.t 3), []⟩,
 ⟨some 5, none, .bin .geq (.t 4) (.c (.int .i64 1)), []⟩,
 ⟨some 6, none, .mv (.t 5), []⟩,
 ⟨some 7, some (6, true), .fld 0 (.t 1), []⟩,
 ⟨some 8, some (6, true), .ld 1 false (.t 7), []⟩,
 ⟨some 9, some (6, true), .bin .leq (.t 8) (.c (.int .i64 511)), []⟩,
 ⟨some 10, none, .pick (.t 6) (.t 9) (.c (.bool false)), []⟩,
 ⟨some 11, none, .mv (.t 10), []⟩,
 ⟨some 12, some (11, true), .fld 1 (.t 1), []⟩,
 ⟨some 13, some (11, true), .ld 1 false (.t 12), []⟩,
 ⟨some 14, some (11, true), .bin .geq (.t 13) (.c (.int .i64 1)), []⟩,
 ⟨some 15, none, .pick (.t 11) (.t 14) (.c (.bool false)), []⟩,
 ⟨some 16, none, .mv (.t 15), []⟩,
 ⟨some 17, some (16, true), .fld 1 (.t 1), []⟩,
 ⟨some 18, some (16, true), .ld 1 false (.t 17), []⟩,
 ⟨some 19, some (16, true), .bin .leq (.t 18) (.c (.int .i64 17)), []⟩,
 ⟨some 20, none, .pick (.t 16) (.t 19) (.c (.bool false)), []⟩,
 ⟨some 2, none, .mv (.t 20), []⟩])
 .ret))⟩
theorem F88_code : cfgA.code 88 = some F88 := by kernel_rfl

/-- ticketline/descend.nodes -/
noncomputable def F89 : AFn := ⟨7, [.tmp 2], (.seq
 (.ops 0 [⟨some 1, none, .box 2 (.t 0) false, []⟩,
 ⟨some 2, none, .mv (.c (.int .i64 0)), []⟩])
 (.seq
 (.ops 1 [⟨some 3, none, .fld 0 (.t 1), []⟩,
 ⟨some 4, none, .ld 1 false (.t 3), []⟩,
 ⟨some 5, none, .bin .mul (.c (.int .i64 128)) (.t 4), []⟩,
 ⟨some 6, none, .bin .add (.c (.int .i64 16)) (.t 5), []⟩,
 ⟨some 2, none, .mv (.t 6), []⟩])
 .ret))⟩
theorem F89_code : cfgA.code 89 = some F89 := by kernel_rfl

/-- (*ticketline/mem.Mem).zero -/
noncomputable def F90 : AFn := ⟨13, [.tmp 2], (.seq
 (.ops 0 [⟨some 2, none, .mv (.c (.bool false)), []⟩])
 (.seq
 (.ops 1 [⟨some 3, none, .mv (.t 0), []⟩,
 ⟨some 4, none, .eqn .ptr false (.t 3), []⟩,
 ⟨some 5, none, .mv (.t 4), []⟩,
 ⟨some 6, some (5, false), .mv (.t 0), []⟩,
 ⟨some 7, some (5, false), .nilc (.t 6) (mok Tryz.prog), []⟩,
 ⟨some 8, some (5, false), .fld 0 (.t 7), []⟩,
 ⟨some 9, some (5, false), .ld 1 false (.t 8), []⟩,
 ⟨some 10, some (5, false), .len .slice (.t 9), []⟩,
 ⟨some 11, some (5, false), .bin .eql (.t 10) (.c (.int .i64 0)), []⟩,
 ⟨some 12, none, .pick (.t 5) (.c (.bool true)) (.t 11), []⟩,
 ⟨some 2, none, .mv (.t 12), []⟩])
 .ret))⟩
theorem F90_code : cfgA.code 90 = some F90 := by kernel_rfl

/-- slices.Clone[[]uint64,uint64] -/
noncomputable def F91 : AFn := ⟨8, [.tmp 2], (.seq
 (.ops 0 [⟨some 2, none, .mv (.c (.nils)), []⟩])
 (.seq
 (.seq
 (.ops 1 [⟨some 3, none, .mv (.t 0), []⟩,
 ⟨some 4, none, .eqn .slice false (.t 3), []⟩])
 (.cond (.t 4)
 (.seq
 (.ops 2 [⟨some 2, none, .mv (.c (.nils)), []⟩])
 .ret)
 .skip))
 (.seq
 (.ops 3 [⟨some 5, none, .bslice [.int .u64 0] 1 0 [] false false, []⟩,
 ⟨some 6, none, .mv (.t 0), []⟩,
 ⟨some 7, none, .app 1 8 (.t 5) (.t 6) true, []⟩,
 ⟨some 2, none, .mv (.t 7), []⟩])
 .ret)))⟩
theorem F91_code : cfgA.code 91 = some F91 := by kernel_rfl

/-- (*ticketline/ticket.counts).Count -/
noncomputable def F93 : AFn := ⟨9, [.tmp 2], (.seq
 (.ops 0 [⟨some 2, none, .mv (.c (.int .i64 0)), []⟩])
 (.seq
 (.seq
 (.ops 1 [⟨some 3, none, .mv (.t 0), []⟩,
 ⟨some 4, none, .eqn .ptr false (.t 3), []⟩])
 (.cond (.t 4)
 (.seq
 (.ops 2 [⟨some 2, none, .mv (.c (.int .i64 0)), []⟩])
 .ret)
 .skip))
 (.seq
 (.ops 3 [⟨some 5, none, .mv (.t 0), []⟩,
 ⟨some 6, none, .nilc (.t 5) (mok Tryz.prog), []⟩,
 ⟨some 7, none, .fld 1 (.t 6), []⟩,
 ⟨some 8, none, .ld 1 false (.t 7), []⟩,
 ⟨some 2, none, .mv (.t 8), []⟩])
 .ret)))⟩
theorem F93_code : cfgA.code 93 = some F93 := by kernel_rfl

/-- (*ticketline/ticket.counts).Left -/
noncomputable def F94 : AFn := ⟨14, [.tmp 2], (.seq
 (.ops 0 [⟨some 2, none, .mv (.c (.int .i64 0)), []⟩])
 (.seq
 (.seq
 (.ops 1 [⟨some 3, none, .mv (.t 0), []⟩,
 ⟨some 4, none, .eqn .ptr false (.t 3), []⟩])
 (.cond (.t 4)
 (.seq
 (.ops 2 [⟨some 2, none, .mv (.c (.int .i64 0)), []⟩])
 .ret)
 .skip))
 (.seq
 (.ops 3 [⟨some 5, none, .mv (.t 0), []⟩,
 ⟨some 6, none, .nilc (.t 5) (mok Tryz.prog), []⟩,
 ⟨some 7, none, .fld 0 (.t 6), []⟩,
 ⟨some 8, none, .ld 1 false (.t 7), []⟩,
 ⟨some 9, none, .mv (.t 0), []⟩,
 ⟨some 10, none, .nilc (.t 9) (mok Tryz.prog), []⟩,
 ⟨some 11, none, .fld 1 (.t 10), []⟩,
 ⟨some 12, none, .ld 1 false (.t 11), []⟩,
 ⟨some 13, none, .bin .sub (.t 8) (.t 12), []⟩,
 ⟨some 2, none, .mv (.t 13), []⟩])
 .ret)))⟩
theorem F94_code : cfgA.code 94 = some F94 := by kernel_rfl

/-- (*ticketline/ticket.counts).Spent -/
noncomputable def F95 : AFn := ⟨6, [.tmp 2], (.seq
 (.ops 0 [⟨some 2, none, .mv (.c (.bool false)), []⟩])
 (.seq
 (.ops 1 [⟨some 3, none, .mv (.t 0), []⟩,
 ⟨some 4, none, .call 94 [.t 3], []⟩,
 ⟨some 5, none, .bin .eql (.t 4) (.c (.int .i64 0)), []⟩,
 ⟨some 2, none, .mv (.t 5), []⟩])
 .ret))⟩
theorem F95_code : cfgA.code 95 = some F95 := by kernel_rfl

/-- (*ticketline/mem.Mem).Do -/
noncomputable def F96 : AFn := ⟨86, [.cell 4 4 true, .tmp 5], (.seq
 (.ops 0 [⟨some 3, none, .box 4 (.t 1) false, []⟩,
 ⟨some 4, none, .alloc [.int .i64 0, .int .i64 0, .int .u64 0, .int .u64 0] false, []⟩,
 ⟨some 5, none, .mv (.c (.int .i64 0)), []⟩])
 (.seq
 (.block 0
 (.seq
 (.ops 1 [⟨some 8, none, .mv (.t 0), []⟩,
 ⟨some 9, none, .call 90 [.t 8], []⟩,
 ⟨some 7, none, .mv (.t 9), []⟩])
 (.cond (.t 7)
 (.seq
 (.ops 2 [⟨some 10, none, .build [.int .i64 0, .int .i64 0, .int .u64 0, .int .u64 0] [], []⟩,
 ⟨none, none, .st 4 (.t 4) (.t 10), []⟩,
 ⟨some 5, none, .mv (.c (.int .i64 1)), []⟩])
 .ret)
 (.seq
 (.ops 3 [⟨some 12, none, .fld 0 (.t 3), []⟩,
 ⟨some 13, none, .ld 1 false (.t 12), []⟩,
 ⟨some 14, none, .bin .lss (.t 13) (.c (.int .i64 1)), []⟩,
 ⟨some 15, none, .mv (.t 14), []⟩,
 ⟨some 16, some (15, false), .fld 0 (.t 3), []⟩,
 ⟨some 17, some (15, false), .ld 1 false (.t 16), []⟩,
 ⟨some 18, some (15, false), .bin .gtr (.t 17) (.c (.int .i64 4)), []⟩,
 ⟨some 19, none, .pick (.t 15) (.c (.bool true)) (.t 18), []⟩,
 ⟨some 11, none, .mv (.t 19), []⟩])
 (.cond (.t 11)
 (.seq
 (.ops 4 [⟨some 20, none, .build [.int .i64 0, .int .i64 0, .int .u64 0, .int .u64 0] [], []⟩,
 ⟨none, none, .st 4 (.t 4) (.t 20), []⟩,
 ⟨some 5, none, .mv (.c (.int .i64 2)), []⟩])
 .ret)
 (.seq
 (.ops 5 [⟨some 22, none, .fld 1 (.t 3), []⟩,
 ⟨some 23, none, .ld 1 false (.t 22), []⟩,
 ⟨some 24, none, .bin .lss (.t 23) (.c (.int .i64 0)), []⟩,
 ⟨some 25, none, .mv (.t 24), []⟩,
 ⟨some 26, some (25, false), .fld 1 (.t 3), []⟩,
 ⟨some 27, some (25, false), .ld 1 false (.t 26), []⟩,
 ⟨some 28, some (25, false), .mv (.t 0), []⟩,
 ⟨some 29, some (25, false), .nilc (.t 28) (mok Tryz.prog), []⟩,
 ⟨some 30, some (25, false), .fld 0 (.t 29), []⟩,
 ⟨some 31, some (25, false), .ld 1 false (.t 30), []⟩,
 ⟨some 32, some (25, false), .len .slice (.t 31), []⟩,
 ⟨some 33, some (25, false), .bin .geq (.t 27) (.t 32), []⟩,
 ⟨some 34, none, .pick (.t 25) (.c (.bool true)) (.t 33), []⟩,
 ⟨some 21, none, .mv (.t 34), []⟩])
 (.cond (.t 21)
 (.seq
 (.ops 6 [⟨some 35, none, .build [.int .i64 0, .int .i64 0, .int .u64 0, .int .u64 0] [], []⟩,
 ⟨none, none, .st 4 (.t 4) (.t 35), []⟩,
 ⟨some 5, none, .mv (.c (.int .i64 3)), []⟩])
 .ret)
 .skip)))))))
 (.seq
 (.ops 7 [⟨some 36, none, .mv (.t 0), []⟩,
 ⟨some 37, none, .nilc (.t 36) (mok Tryz.prog), []⟩,
 ⟨some 38, none, .fld 0 (.t 37), []⟩,
 ⟨some 39, none, .ld 1 false (.t 38), []⟩,
 ⟨some 40, none, .fld 1 (.t 3), []⟩,
 ⟨some 41, none, .ld 1 false (.t 40), []⟩,
 ⟨some 42, none, .ixa none 1 (.t 39) (.t 41), []⟩,
 ⟨some 43, none, .ld 1 false (.t 42), []⟩,
 ⟨some 6, none, .mv (.t 43), []⟩])
 (.seq
 (.seq
 (.ops 8 [⟨some 44, none, .fld 0 (.t 3), []⟩,
 ⟨some 45, none, .ld 1 false (.t 44), []⟩,
 ⟨some 46, none, .bin .eql (.t 45) (.c (.int .i64 2)), []⟩,
 ⟨some 47, none, .mv (.t 46), []⟩,
 ⟨some 48, some (47, false), .fld 0 (.t 3), []⟩,
 ⟨some 49, some (47, false), .ld 1 false (.t 48), []⟩,
 ⟨some 50, some (47, false), .bin .eql (.t 49) (.c (.int .i64 4)), []⟩,
 ⟨some 51, none, .pick (.t 47) (.c (.bool true)) (.t 50), []⟩,
 ⟨some 52, none, .mv (.t 51), []⟩,
 ⟨some 53, some (52, false), .fld 0 (.t 3), []⟩,
 ⟨some 54, some (52, false), .ld 1 false (.t 53), []⟩,
 ⟨some 55, some (52, false), .bin .eql (.t 54) (.c (.int .i64 3)), []⟩,
 ⟨some 56, some (52, false), .mv (.t 55), []⟩,
 ⟨some 57, some (56, true), .mv (.t 6), []⟩,
 ⟨some 58, some (56, true), .fld 2 (.t 3), []⟩,
 ⟨some 59, some (56, true), .ld 1 false (.t 58), []⟩,
 ⟨some 60, some (56, true), .bin .eql (.t 57) (.t 59), []⟩,
 ⟨some 61, some (52, false), .pick (.t 56) (.t 60) (.c (.bool false)), []⟩,
 ⟨some 62, none, .pick (.t 52) (.c (.bool true)) (.t 61), []⟩])
 (.cond (.t 62)
 (.ops 9 [⟨some 63, none, .mv (.t 0), []⟩,
 ⟨some 64, none, .nilc (.t 63) (mok Tryz.prog), []⟩,
 ⟨some 65, none, .fld 0 (.t 64), []⟩,
 ⟨some 66, none, .ld 1 false (.t 65), []⟩,
 ⟨some 67, none, .fld 1 (.t 3), []⟩,
 ⟨some 68, none, .ld 1 false (.t 67), []⟩,
 ⟨some 69, none, .fld 3 (.t 3), []⟩,
 ⟨some 70, none, .ld 1 false (.t 69), []⟩,
 ⟨some 71, none, .ixa none 1 (.t 66) (.t 68), []⟩,
 ⟨none, none, .st 1 (.t 71) (.t 70), []⟩])
 .skip))
 (.seq
 (.ops 10 [⟨some 72, none, .fld 0 (.t 3), []⟩,
 ⟨some 73, none, .ld 1 false (.t 72), []⟩,
 ⟨some 74, none, .fld 1 (.t 3), []⟩,
 ⟨some 75, none, .ld 1 false (.t 74), []⟩,
 ⟨some 76, none, .mv (.t 6), []⟩,
 ⟨some 77, none, .mv (.t 0), []⟩,
 ⟨some 78, none, .nilc (.t 77) (mok Tryz.prog), []⟩,
 ⟨some 79, none, .fld 0 (.t 78), []⟩,
 ⟨some 80, none, .ld 1 false (.t 79), []⟩,
 ⟨some 81, none, .fld 1 (.t 3), []⟩,
 ⟨some 82, none, .ld 1 false (.t 81), []⟩,
 ⟨some 83, none, .ixa none 1 (.t 80) (.t 82), []⟩,
 ⟨some 84, none, .ld 1 false (.t 83), []⟩,
 ⟨some 85, none, .build [.int .i64 0, .int .i64 0, .int .u64 0, .int .u64 0] [(0, 1, (.t 73)), (1, 1, (.t 75)), (2, 1, (.t 76)), (3, 1, (.t 84))], []⟩,
 ⟨none, none, .st 4 (.t 4) (.t 85), []⟩,
 ⟨some 5, none, .mv (.c (.int .i64 0)), []⟩])
 .ret)))))⟩
theorem F96_code : cfgA.code 96 = some F96 := by kernel_rfl

/-- (*ticketline/qnode.Nodes).Of -/
noncomputable def F97 : AFn := ⟨34, [.tmp 6, .tmp 7], (.seq
 (.ops 0 [⟨some 6, none, .mv (.c (.int .i64 0)), []⟩,
 ⟨some 7, none, .mv (.c (.int .i64 0)), []⟩])
 (.seq
 (.block 0
 (.seq
 (.ops 1 [⟨some 9, none, .mv (.t 0), []⟩,
 ⟨some 10, none, .call 117 [.t 9], []⟩,
 ⟨some 8, none, .mv (.t 10), []⟩])
 (.cond (.t 8)
 (.seq
 (.ops 2 [⟨some 6, none, .mv (.c (.int .i64 0)), []⟩,
 ⟨some 7, none, .mv (.c (.int .i64 1)), []⟩])
 .ret)
 (.seq
 (.ops 3 [⟨some 12, none, .mv (.t 1), []⟩,
 ⟨some 13, none, .bin .lss (.t 12) (.c (.int .i64 0)), []⟩,
 ⟨some 14, none, .mv (.t 13), []⟩,
 ⟨some 15, some (14, false), .mv (.t 1), []⟩,
 ⟨some 16, some (14, false), .mv (.t 0), []⟩,
 ⟨some 17, some (14, false), .nilc (.t 16) (mok Tryz.prog), []⟩,
 ⟨some 18, some (14, false), .fld 1 (.t 17), []⟩,
 ⟨some 19, some (14, false), .ld 1 false (.t 18), []⟩,
 ⟨some 20, some (14, false), .bin .geq (.t 15) (.t 19), []⟩,
 ⟨some 21, none, .pick (.t 14) (.c (.bool true)) (.t 20), []⟩,
 ⟨some 22, none, .mv (.t 21), []⟩,
 ⟨some 23, some (22, false), .mv (.t 2), []⟩,
 ⟨some 24, some (22, false), .bin .neq (.t 23) (.c (.int .i64 0)), []⟩,
 ⟨some 25, some (22, false), .mv (.t 24), []⟩,
 ⟨some 26, some (25, true), .mv (.t 2), []⟩,
 ⟨some 27, some (25, true), .bin .neq (.t 26) (.c (.int .i64 1)), []⟩,
 ⟨some 28, some (22, false), .pick (.t 25) (.t 27) (.c (.bool false)), []⟩,
 ⟨some 29, none, .pick (.t 22) (.c (.bool true)) (.t 28), []⟩,
 ⟨some 11, none, .mv (.t 29), []⟩])
 (.cond (.t 11)
 (.seq
 (.ops 4 [⟨some 6, none, .mv (.c (.int .i64 0)), []⟩,
 ⟨some 7, none, .mv (.c (.int .i64 2)), []⟩])
 .ret)
 .skip)))))
 (.seq
 (.ops 5 [⟨some 30, none, .mv (.t 1), []⟩,
 ⟨some 31, none, .bin .mul (.t 30) (.c (.int .i64 2)), []⟩,
 ⟨some 32, none, .mv (.t 2), []⟩,
 ⟨some 33, none, .bin .add (.t 31) (.t 32), []⟩,
 ⟨some 6, none, .mv (.t 33), []⟩,
 ⟨some 7, none, .mv (.c (.int .i64 0)), []⟩])
 .ret)))⟩
theorem F97_code : cfgA.code 97 = some F97 := by kernel_rfl

/-- ticketline/mcs.NewAcquire -/
noncomputable def F98 : AFn := ⟨23, [.tmp 6, .tmp 7], (.seq
 (.ops 0 [⟨some 6, none, .mv (.c (.nilp)), []⟩,
 ⟨some 7, none, .mv (.c (.int .i64 0)), []⟩])
 (.seq
 (.ops 1 [⟨some 11, none, .mv (.t 0), []⟩,
 ⟨some 12, none, .mv (.t 1), []⟩,
 ⟨some 13, none, .mv (.t 2), []⟩,
 ⟨some 14, none, .call 122 [.t 11, .t 12, .t 13], []⟩,
 ⟨some 10, none, .mv (.t 14), []⟩,
 ⟨some 15, none, .ext (.t 10) 0, []⟩,
 ⟨some 16, none, .ext (.t 10) 1, []⟩,
 ⟨some 8, none, .alloc [.nilp, .int .i64 0, .int .i64 0, .int .i64 0, .int .u64 0, .bool false] false, []⟩,
 ⟨none, none, .st 6 (.t 8) (.t 15), []⟩,
 ⟨some 9, none, .mv (.t 16), []⟩])
 (.seq
 (.seq
 (.ops 2 [⟨some 17, none, .mv (.t 9), []⟩,
 ⟨some 18, none, .bin .neq (.t 17) (.c (.int .i64 0)), []⟩])
 (.cond (.t 18)
 (.seq
 (.ops 3 [⟨some 19, none, .mv (.t 9), []⟩,
 ⟨some 6, none, .mv (.c (.nilp)), []⟩,
 ⟨some 7, none, .mv (.t 19), []⟩])
 .ret)
 .skip))
 (.seq
 (.ops 4 [⟨some 20, none, .ld 6 true (.t 8), []⟩,
 ⟨some 21, none, .build [.nilp, .int .i64 0, .int .i64 0, .int .i64 0, .int .u64 0, .bool false] [(0, 6, (.t 20))], []⟩,
 ⟨some 22, none, .box 6 (.t 21) true, []⟩,
 ⟨some 6, none, .mv (.t 22), []⟩,
 ⟨some 7, none, .mv (.c (.int .i64 0)), []⟩])
 .ret))))⟩
theorem F98_code : cfgA.code 98 = some F98 := by kernel_rfl

/-- ticketline/mcs.NewRelease -/
noncomputable def F99 : AFn := ⟨23, [.tmp 6, .tmp 7], (.seq
 (.ops 0 [⟨some 6, none, .mv (.c (.nilp)), []⟩,
 ⟨some 7, none, .mv (.c (.int .i64 0)), []⟩])
 (.seq
 (.ops 1 [⟨some 11, none, .mv (.t 0), []⟩,
 ⟨some 12, none, .mv (.t 1), []⟩,
 ⟨some 13, none, .mv (.t 2), []⟩,
 ⟨some 14, none, .call 122 [.t 11, .t 12, .t 13], []⟩,
 ⟨some 10, none, .mv (.t 14), []⟩,
 ⟨some 15, none, .ext (.t 10) 0, []⟩,
 ⟨some 16, none, .ext (.t 10) 1, []⟩,
 ⟨some 8, none, .alloc [.nilp, .int .i64 0, .int .i64 0, .int .i64 0, .int .u64 0, .bool false] false, []⟩,
 ⟨none, none, .st 6 (.t 8) (.t 15), []⟩,
 ⟨some 9, none, .mv (.t 16), []⟩])
 (.seq
 (.seq
 (.ops 2 [⟨some 17, none, .mv (.t 9), []⟩,
 ⟨some 18, none, .bin .neq (.t 17) (.c (.int .i64 0)), []⟩])
 (.cond (.t 18)
 (.seq
 (.ops 3 [⟨some 19, none, .mv (.t 9), []⟩,
 ⟨some 6, none, .mv (.c (.nilp)), []⟩,
 ⟨some 7, none, .mv (.t 19), []⟩])
 .ret)
 .skip))
 (.seq
 (.ops 4 [⟨some 20, none, .ld 6 true (.t 8), []⟩,
 ⟨some 21, none, .build [.nilp, .int .i64 0, .int .i64 0, .int .i64 0, .int .u64 0, .bool false] [(0, 6, (.t 20))], []⟩,
 ⟨some 22, none, .box 6 (.t 21) true, []⟩,
 ⟨some 6, none, .mv (.t 22), []⟩,
 ⟨some 7, none, .mv (.c (.int .i64 0)), []⟩])
 .ret))))⟩
theorem F99_code : cfgA.code 99 = some F99 := by kernel_rfl

/-- (*ticketline/qnode.Nodes).Base -/
noncomputable def F100 : AFn := ⟨9, [.tmp 2], (.seq
 (.ops 0 [⟨some 2, none, .mv (.c (.int .i64 0)), []⟩])
 (.seq
 (.seq
 (.ops 1 [⟨some 3, none, .mv (.t 0), []⟩,
 ⟨some 4, none, .call 117 [.t 3], []⟩])
 (.cond (.t 4)
 (.seq
 (.ops 2 [⟨some 2, none, .mv (.c (.int .i64 0)), []⟩])
 .ret)
 .skip))
 (.seq
 (.ops 3 [⟨some 5, none, .mv (.t 0), []⟩,
 ⟨some 6, none, .nilc (.t 5) (mok Tryz.prog), []⟩,
 ⟨some 7, none, .fld 0 (.t 6), []⟩,
 ⟨some 8, none, .ld 1 false (.t 7), []⟩,
 ⟨some 2, none, .mv (.t 8), []⟩])
 .ret)))⟩
theorem F100_code : cfgA.code 100 = some F100 := by kernel_rfl

/-- ticketline/mem.NewOnce -/
noncomputable def F101 : AFn := ⟨9, [.tmp 2, .tmp 3], (.seq
 (.ops 0 [⟨some 2, none, .mv (.c (.nilp)), []⟩,
 ⟨some 3, none, .mv (.c (.int .i64 0)), []⟩])
 (.seq
 (.seq
 (.ops 1 [⟨some 4, none, .mv (.t 0), []⟩,
 ⟨some 5, none, .call 90 [.t 4], []⟩])
 (.cond (.t 5)
 (.seq
 (.ops 2 [⟨some 2, none, .mv (.c (.nilp)), []⟩,
 ⟨some 3, none, .mv (.c (.int .i64 1)), []⟩])
 .ret)
 .skip))
 (.seq
 (.ops 3 [⟨some 6, none, .mv (.t 0), []⟩,
 ⟨some 7, none, .build [.nilp, .int .i64 0, .int .i64 0, .int .u64 0, .int .u64 0] [(0, 1, (.t 6))], []⟩,
 ⟨some 8, none, .box 5 (.t 7) true, []⟩,
 ⟨some 2, none, .mv (.t 8), []⟩,
 ⟨some 3, none, .mv (.c (.int .i64 0)), []⟩])
 .ret)))⟩
theorem F101_code : cfgA.code 101 = some F101 := by kernel_rfl

/-- (*ticketline/ticket.Draw).zero -/
noncomputable def F102 : AFn := ⟨12, [.tmp 2], (.seq
 (.ops 0 [⟨some 2, none, .mv (.c (.bool false)), []⟩])
 (.seq
 (.ops 1 [⟨some 3, none, .mv (.t 0), []⟩,
 ⟨some 4, none, .eqn .ptr false (.t 3), []⟩,
 ⟨some 5, none, .mv (.t 4), []⟩,
 ⟨some 6, some (5, false), .mv (.t 0), []⟩,
 ⟨some 7, some (5, false), .nilc (.t 6) (mok Tryz.prog), []⟩,
 ⟨some 8, some (5, false), .fld 0 (.t 7), []⟩,
 ⟨some 9, some (5, false), .ld 1 false (.t 8), []⟩,
 ⟨some 10, some (5, false), .bin .eql (.t 9) (.c (.int .i64 0)), []⟩,
 ⟨some 11, none, .pick (.t 5) (.c (.bool true)) (.t 10), []⟩,
 ⟨some 2, none, .mv (.t 11), []⟩])
 .ret))⟩
theorem F102_code : cfgA.code 102 = some F102 := by kernel_rfl

/-- (*ticketline/ticket.Draw).over -/
noncomputable def F103 : AFn := ⟨13, [.tmp 2], (.seq
 (.ops 0 [⟨some 2, none, .mv (.c (.bool false)), []⟩])
 (.seq
 (.ops 1 [⟨some 3, none, .mv (.t 0), []⟩,
 ⟨some 4, none, .call 102 [.t 3], []⟩,
 ⟨some 5, none, .un .not (.t 4), []⟩,
 ⟨some 6, none, .mv (.t 5), []⟩,
 ⟨some 7, some (6, true), .mv (.t 0), []⟩,
 ⟨some 8, some (6, true), .nilc (.t 7) (mok Tryz.prog), []⟩,
 ⟨some 9, some (6, true), .fld 0 (.t 8), []⟩,
 ⟨some 10, some (6, true), .ld 1 false (.t 9), []⟩,
 ⟨some 11, some (6, true), .bin .eql (.t 10) (.c (.int .i64 5)), []⟩,
 ⟨some 12, none, .pick (.t 6) (.t 11) (.c (.bool false)), []⟩,
 ⟨some 2, none, .mv (.t 12), []⟩])
 .ret))⟩
theorem F103_code : cfgA.code 103 = some F103 := by kernel_rfl

/-- (*ticketline/mem.Mem).Len -/
noncomputable def F104 : AFn := ⟨10, [.tmp 2], (.seq
 (.ops 0 [⟨some 2, none, .mv (.c (.int .i64 0)), []⟩])
 (.seq
 (.seq
 (.ops 1 [⟨some 3, none, .mv (.t 0), []⟩,
 ⟨some 4, none, .call 90 [.t 3], []⟩])
 (.cond (.t 4)
 (.seq
 (.ops 2 [⟨some 2, none, .mv (.c (.int .i64 0)), []⟩])
 .ret)
 .skip))
 (.seq
 (.ops 3 [⟨some 5, none, .mv (.t 0), []⟩,
 ⟨some 6, none, .nilc (.t 5) (mok Tryz.prog), []⟩,
 ⟨some 7, none, .fld 0 (.t 6), []⟩,
 ⟨some 8, none, .ld 1 false (.t 7), []⟩,
 ⟨some 9, none, .len .slice (.t 8), []⟩,
 ⟨some 2, none, .mv (.t 9), []⟩])
 .ret)))⟩
theorem F104_code : cfgA.code 104 = some F104 := by kernel_rfl

/-- ticketline/arena.place -/
noncomputable def F105 : AFn := ⟨11, [.tmp 4], (.seq
 (.ops 0 [⟨some 4, none, .mv (.c (.int .i64 0)), []⟩])
 (.seq
 (.ops 1 [⟨some 5, none, .mv (.t 0), []⟩,
 ⟨some 6, none, .bin .sub (.t 5) (.c (.int .i64 1)), []⟩,
 ⟨some 7, none, .bin .mul (.c (.int .i64 128)) (.t 6), []⟩,
 ⟨some 8, none, .bin .add (.c (.int .i64 16)) (.t 7), []⟩,
 ⟨some 9, none, .mv (.t 1), []⟩,
 ⟨some 10, none, .bin .add (.t 8) (.t 9), []⟩,
 ⟨some 4, none, .mv (.t 10), []⟩])
 .ret))⟩
theorem F105_code : cfgA.code 105 = some F105 := by kernel_rfl

/-- (ticketline/arena.words).set -/
noncomputable def F106 : AFn := ⟨11, [], (.seq
 (.ops 0 [⟨some 3, none, .box 1 (.t 0) false, []⟩])
 (.ops 1 [⟨some 6, none, .fld 0 (.t 3), []⟩,
 ⟨some 7, none, .ld 1 false (.t 6), []⟩,
 ⟨some 8, none, .mv (.t 1), []⟩,
 ⟨some 9, none, .mv (.t 2), []⟩,
 ⟨some 10, none, .call 48 [.t 7, .t 8, .t 9], []⟩]))⟩
theorem F106_code : cfgA.code 106 = some F106 := by kernel_rfl

/-- ticketline/slot.setFence -/
noncomputable def F108 : AFn := ⟨33, [.tmp 6], (.seq
 (.ops 0 [⟨some 6, none, .mv (.c (.int .i64 0)), []⟩])
 (.seq
 (.ops 1 [⟨some 10, none, .mv (.t 2), []⟩,
 ⟨some 11, none, .call 124 [.t 10], []⟩,
 ⟨some 9, none, .mv (.t 11), []⟩,
 ⟨some 12, none, .ext (.t 9) 0, []⟩,
 ⟨some 13, none, .ext (.t 9) 1, []⟩,
 ⟨some 7, none, .mv (.t 12), []⟩,
 ⟨some 8, none, .mv (.t 13), []⟩])
 (.seq
 (.seq
 (.ops 2 [⟨some 14, none, .mv (.t 8), []⟩,
 ⟨some 15, none, .bin .neq (.t 14) (.c (.int .i64 0)), []⟩])
 (.cond (.t 15)
 (.seq
 (.ops 3 [⟨some 16, none, .mv (.t 8), []⟩,
 ⟨some 6, none, .mv (.t 16), []⟩])
 .ret)
 .skip))
 (.seq
 (.ops 4 [⟨some 17, none, .mv (.t 0), []⟩,
 ⟨some 18, none, .mv (.t 1), []⟩,
 ⟨some 19, none, .mv (.t 2), []⟩,
 ⟨some 20, none, .len .string (.t 19), []⟩,
 ⟨some 21, none, .cvi .u64 (.t 20), []⟩,
 ⟨some 22, none, .nilc (.t 17) (mok Tryz.prog), []⟩,
 ⟨some 23, none, .ixa (some 128) 1 (.t 22) (.t 18), []⟩,
 ⟨none, none, .st 1 (.t 23) (.t 21), []⟩])
 (.seq
 (.ops 5 [⟨some 24, none, .mv (.t 0), []⟩,
 ⟨some 25, none, .nilc (.t 24) (mok Tryz.prog), []⟩,
 ⟨some 26, none, .mv (.t 1), []⟩,
 ⟨some 27, none, .bin .add (.t 26) (.c (.int .i64 1)), []⟩,
 ⟨some 28, none, .mv (.t 1), []⟩,
 ⟨some 29, none, .bin .add (.t 28) (.c (.int .i64 4)), []⟩,
 ⟨some 30, none, .slc (some 128) 1 (.t 25) (some (.t 27)) (some (.t 29)), []⟩,
 ⟨some 31, none, .mv (.t 7), []⟩,
 ⟨some 32, none, .cpy 1 (.t 30) (.t 31), []⟩])
 (.seq
 (.ops 6 [⟨some 6, none, .mv (.c (.int .i64 0)), []⟩])
 .ret))))))⟩
theorem F108_code : cfgA.code 108 = some F108 := by kernel_rfl

/-- (*ticketline/arena.Arena).none -/
noncomputable def F109 : AFn := ⟨13, [.tmp 2], (.seq
 (.ops 0 [⟨some 2, none, .mv (.c (.bool false)), []⟩])
 (.seq
 (.ops 1 [⟨some 3, none, .mv (.t 0), []⟩,
 ⟨some 4, none, .eqn .ptr false (.t 3), []⟩,
 ⟨some 5, none, .mv (.t 4), []⟩,
 ⟨some 6, some (5, false), .mv (.t 0), []⟩,
 ⟨some 7, some (5, false), .nilc (.t 6) (mok Tryz.prog), []⟩,
 ⟨some 8, some (5, false), .fld 0 (.t 7), []⟩,
 ⟨some 9, some (5, false), .fld 0 (.t 8), []⟩,
 ⟨some 10, some (5, false), .ld 1 false (.t 9), []⟩,
 ⟨some 11, some (5, false), .eqn .ptr false (.t 10), []⟩,
 ⟨some 12, none, .pick (.t 5) (.c (.bool true)) (.t 11), []⟩,
 ⟨some 2, none, .mv (.t 12), []⟩])
 .ret))⟩
theorem F109_code : cfgA.code 109 = some F109 := by kernel_rfl

/-- ticketline/slot.Valid -/
noncomputable def F110 : AFn := ⟨10, [.tmp 2], (.seq
 (.ops 0 [⟨some 1, none, .box 128 (.t 0) false, []⟩,
 ⟨some 2, none, .mv (.c (.bool false)), []⟩])
 (.seq
 (.ops 1 [⟨some 6, none, .call 125 [.t 1], []⟩,
 ⟨some 5, none, .mv (.t 6), []⟩,
 ⟨some 7, none, .ext (.t 5) 0, []⟩,
 ⟨some 8, none, .ext (.t 5) 1, []⟩,
 ⟨some 3, none, .mv (.t 7), []⟩,
 ⟨some 4, none, .mv (.t 8), []⟩])
 (.seq
 (.ops 2 [⟨some 9, none, .mv (.t 4), []⟩,
 ⟨some 2, none, .mv (.t 9), []⟩])
 .ret)))⟩
theorem F110_code : cfgA.code 110 = some F110 := by kernel_rfl

/-- (ticketline/arena.words).get -/
noncomputable def F111 : AFn := ⟨15, [.tmp 4], (.seq
 (.ops 0 [⟨some 2, none, .box 1 (.t 0) false, []⟩,
 ⟨some 4, none, .mv (.c (.int .u64 0)), []⟩])
 (.seq
 (.ops 1 [⟨some 8, none, .fld 0 (.t 2), []⟩,
 ⟨some 9, none, .ld 1 false (.t 8), []⟩,
 ⟨some 10, none, .mv (.t 1), []⟩,
 ⟨some 11, none, .call 52 [.t 9, .t 10], []⟩,
 ⟨some 7, none, .mv (.t 11), []⟩,
 ⟨some 12, none, .ext (.t 7) 0, []⟩,
 ⟨some 13, none, .ext (.t 7) 1, []⟩,
 ⟨some 5, none, .mv (.t 12), []⟩,
 ⟨some 6, none, .mv (.t 13), []⟩])
 (.seq
 (.ops 2 [⟨some 14, none, .mv (.t 5), []⟩,
 ⟨some 4, none, .mv (.t 14), []⟩])
 .ret)))⟩
theorem F111_code : cfgA.code 111 = some F111 := by kernel_rfl

/-- (*ticketline/arena.Arena).put: the round 0 -/
@[reducible] noncomputable def B112x0 : AC := (.seq
 (.seq
 (.ops 2 [⟨some 7, none, .mv (.t 6), []⟩,
 ⟨some 8, none, .bin .lss (.t 7) (.c (.int .i64 128)), []⟩])
 (.cond (.t 8)
 .skip
 (.exit 0)))
 (.seq
 (.block 1
 (.ops 4 [⟨some 11, none, .mv (.t 0), []⟩,
 ⟨some 12, none, .nilc (.t 11) (mok Tryz.prog), []⟩,
 ⟨some 13, none, .fld 0 (.t 12), []⟩,
 ⟨some 14, none, .ld 1 true (.t 13), []⟩,
 ⟨some 15, none, .mv (.t 1), []⟩,
 ⟨some 16, none, .mv (.t 6), []⟩,
 ⟨some 18, none, .mv (.t 6), []⟩,
 ⟨some 19, none, .ixa (some 128) 1 (.t 5) (.t 18), []⟩,
 ⟨some 20, none, .ld 1 false (.t 19), []⟩,
 ⟨some 17, none, .call 105 [.t 15, .t 16], [(14, .ld 1 true (.t 13)), (20, .ld 1 false (.t 19))]⟩,
 ⟨some 21, none, .call 106 [.t 14, .t 17, .t 20], []⟩]))
 (.ops 3 [⟨some 9, none, .mv (.t 6), []⟩,
 ⟨some 10, none, .bin .add (.t 9) (.c (.int .i64 1)), []⟩,
 ⟨some 6, none, .mv (.t 10), []⟩])))

/-- (*ticketline/arena.Arena).put -/
noncomputable def F112 : AFn := ⟨22, [], (.seq
 (.ops 0 [⟨some 5, none, .box 128 (.t 2) false, []⟩])
 (.seq
 (.ops 1 [⟨some 6, none, .mv (.c (.int .i64 8)), []⟩])
 (.block 0
 (.loop [] B112x0))))⟩
theorem F112_code : cfgA.code 112 = some F112 := by kernel_rfl

/-- (*ticketline/arena.Arena).busy -/
noncomputable def F113 : AFn := ⟨28, [.tmp 6], (.seq
 (.ops 0 [⟨some 6, none, .mv (.c (.int .i64 0)), []⟩])
 (.seq
 (.ops 1 [⟨some 8, none, .mv (.t 0), []⟩,
 ⟨some 9, none, .mv (.t 1), []⟩,
 ⟨some 10, none, .call 126 [.t 8, .t 9], []⟩,
 ⟨some 7, none, .mv (.t 10), []⟩])
 (.seq
 (.block 0
 (.seq
 (.ops 2 [⟨some 12, none, .mv (.t 7), []⟩,
 ⟨some 13, none, .bin .neq (.t 12) (.c (.int .i64 0)), []⟩,
 ⟨some 11, none, .mv (.t 13), []⟩])
 (.cond (.t 11)
 (.seq
 (.ops 3 [⟨some 14, none, .mv (.t 7), []⟩,
 ⟨some 6, none, .mv (.t 14), []⟩])
 .ret)
 (.seq
 (.ops 4 [⟨some 16, none, .mv (.t 0), []⟩,
 ⟨some 17, none, .mv (.t 1), []⟩,
 ⟨some 18, none, .call 127 [.t 16, .t 17], []⟩,
 ⟨some 19, none, .un .not (.t 18), []⟩,
 ⟨some 15, none, .mv (.t 19), []⟩])
 (.cond (.t 15)
 (.seq
 (.ops 5 [⟨some 6, none, .mv (.c (.int .i64 8)), []⟩])
 .ret)
 (.seq
 (.ops 6 [⟨some 21, none, .mv (.t 2), []⟩,
 ⟨some 22, none, .mv (.t 21), []⟩,
 ⟨some 23, some (22, true), .mv (.t 0), []⟩,
 ⟨some 24, some (22, true), .call 128 [.t 23], []⟩,
 ⟨some 25, some (22, true), .mv (.t 1), []⟩,
 ⟨some 26, some (22, true), .bin .eql (.t 24) (.t 25), []⟩,
 ⟨some 27, none, .pick (.t 22) (.t 26) (.c (.bool false)), []⟩,
 ⟨some 20, none, .mv (.t 27), []⟩])
 (.cond (.t 20)
 (.seq
 (.ops 7 [⟨some 6, none, .mv (.c (.int .i64 11)), []⟩])
 .ret)
 .skip)))))))
 (.seq
 (.ops 8 [⟨some 6, none, .mv (.c (.int .i64 0)), []⟩])
 .ret))))⟩
theorem F113_code : cfgA.code 113 = some F113 := by kernel_rfl

/-- (*ticketline/qnode.Nodes).word -/
noncomputable def F116 : AFn := ⟨20, [.tmp 6], (.seq
 (.ops 0 [⟨some 6, none, .mv (.c (.int .i64 0)), []⟩])
 (.seq
 (.seq
 (.ops 1 [⟨some 7, none, .mv (.t 0), []⟩,
 ⟨some 8, none, .mv (.t 1), []⟩,
 ⟨some 9, none, .call 118 [.t 7, .t 8], []⟩,
 ⟨some 10, none, .un .not (.t 9), []⟩])
 (.cond (.t 10)
 (.seq
 (.ops 2 [⟨some 6, none, .mv (.c (.int .i64 (-1))), []⟩])
 .ret)
 .skip))
 (.seq
 (.ops 3 [⟨some 11, none, .mv (.t 0), []⟩,
 ⟨some 12, none, .nilc (.t 11) (mok Tryz.prog), []⟩,
 ⟨some 13, none, .fld 0 (.t 12), []⟩,
 ⟨some 14, none, .ld 1 false (.t 13), []⟩,
 ⟨some 15, none, .mv (.t 1), []⟩,
 ⟨some 16, none, .bin .mul (.t 15) (.c (.int .i64 3)), []⟩,
 ⟨some 17, none, .bin .add (.t 14) (.t 16), []⟩,
 ⟨some 18, none, .mv (.t 2), []⟩,
 ⟨some 19, none, .bin .add (.t 17) (.t 18), []⟩,
 ⟨some 6, none, .mv (.t 19), []⟩])
 .ret)))⟩
theorem F116_code : cfgA.code 116 = some F116 := by kernel_rfl

/-- (*ticketline/qnode.Nodes).zero -/
noncomputable def F117 : AFn := ⟨12, [.tmp 2], (.seq
 (.ops 0 [⟨some 2, none, .mv (.c (.bool false)), []⟩])
 (.seq
 (.ops 1 [⟨some 3, none, .mv (.t 0), []⟩,
 ⟨some 4, none, .eqn .ptr false (.t 3), []⟩,
 ⟨some 5, none, .mv (.t 4), []⟩,
 ⟨some 6, some (5, false), .mv (.t 0), []⟩,
 ⟨some 7, some (5, false), .nilc (.t 6) (mok Tryz.prog), []⟩,
 ⟨some 8, some (5, false), .fld 1 (.t 7), []⟩,
 ⟨some 9, some (5, false), .ld 1 false (.t 8), []⟩,
 ⟨some 10, some (5, false), .bin .eql (.t 9) (.c (.int .i64 0)), []⟩,
 ⟨some 11, none, .pick (.t 5) (.c (.bool true)) (.t 10), []⟩,
 ⟨some 2, none, .mv (.t 11), []⟩])
 .ret))⟩
theorem F117_code : cfgA.code 117 = some F117 := by kernel_rfl

/-- (*ticketline/qnode.Nodes).has -/
noncomputable def F118 : AFn := ⟨13, [.tmp 4], (.seq
 (.ops 0 [⟨some 4, none, .mv (.c (.bool false)), []⟩])
 (.seq
 (.ops 1 [⟨some 5, none, .mv (.t 1), []⟩,
 ⟨some 6, none, .bin .geq (.t 5) (.c (.int .i64 0)), []⟩,
 ⟨some 7, none, .mv (.t 6), []⟩,
 ⟨some 8, some (7, true), .mv (.t 1), []⟩,
 ⟨some 9, some (7, true), .mv (.t 0), []⟩,
 ⟨some 10, some (7, true), .call 121 [.t 9], []⟩,
 ⟨some 11, some (7, true), .bin .lss (.t 8) (.t 10), []⟩,
 ⟨some 12, none, .pick (.t 7) (.t 11) (.c (.bool false)), []⟩,
 ⟨some 4, none, .mv (.t 12), []⟩])
 .ret))⟩
theorem F118_code : cfgA.code 118 = some F118 := by kernel_rfl

/-- ticketline/qnode.New -/
noncomputable def F120 : AFn := ⟨28, [.tmp 4, .tmp 5], (.seq
 (.ops 0 [⟨some 4, none, .mv (.c (.nilp)), []⟩,
 ⟨some 5, none, .mv (.c (.int .i64 0)), []⟩])
 (.seq
 (.seq
 (.ops 1 [⟨some 6, none, .mv (.t 0), []⟩,
 ⟨some 7, none, .bin .lss (.t 6) (.c (.int .i64 0)), []⟩,
 ⟨some 8, none, .mv (.t 7), []⟩,
 ⟨some 9, some (8, false), .mv (.t 1), []⟩,
 ⟨some 10, some (8, false), .bin .lss (.t 9) (.c (.int .i64 1)), []⟩,
 ⟨some 11, none, .pick (.t 8) (.c (.bool true)) (.t 10), []⟩,
 ⟨some 12, none, .mv (.t 11), []⟩,
 ⟨some 13, some (12, false), .mv (.t 1), []⟩,
 ⟨some 14, some (12, false), .bin .gtr (.t 13) (.c (.int .i64 64)), []⟩,
 ⟨some 15, none, .pick (.t 12) (.c (.bool true)) (.t 14), []⟩,
 ⟨some 16, none, .mv (.t 15), []⟩,
 ⟨some 17, some (16, false), .mv (.t 0), []⟩,
 ⟨some 18, some (16, false), .mv (.t 1), []⟩,
 ⟨some 19, some (16, false), .bin .mul (.t 18) (.c (.int .i64 2)), []⟩,
 ⟨some 20, some (16, false), .bin .mul (.t 19) (.c (.int .i64 3)), []⟩,
 ⟨some 21, some (16, false), .bin .sub (.c (.int .i64 65536)) (.t 20), []⟩,
 ⟨some 22, some (16, false), .bin .gtr (.t 17) (.t 21), []⟩,
 ⟨some 23, none, .pick (.t 16) (.c (.bool true)) (.t 22), []⟩])
 (.cond (.t 23)
 (.seq
 (.ops 2 [⟨some 4, none, .mv (.c (.nilp)), []⟩,
 ⟨some 5, none, .mv (.c (.int .i64 2)), []⟩])
 .ret)
 .skip))
 (.seq
 (.ops 3 [⟨some 24, none, .mv (.t 0), []⟩,
 ⟨some 25, none, .mv (.t 1), []⟩,
 ⟨some 26, none, .build [.int .i64 0, .int .i64 0] [(0, 1, (.t 24)), (1, 1, (.t 25))], []⟩,
 ⟨some 27, none, .box 2 (.t 26) true, []⟩,
 ⟨some 4, none, .mv (.t 27), []⟩,
 ⟨some 5, none, .mv (.c (.int .i64 0)), []⟩])
 .ret)))⟩
theorem F120_code : cfgA.code 120 = some F120 := by kernel_rfl

/-- (*ticketline/qnode.Nodes).many -/
noncomputable def F121 : AFn := ⟨10, [.tmp 2], (.seq
 (.ops 0 [⟨some 2, none, .mv (.c (.int .i64 0)), []⟩])
 (.seq
 (.seq
 (.ops 1 [⟨some 3, none, .mv (.t 0), []⟩,
 ⟨some 4, none, .call 117 [.t 3], []⟩])
 (.cond (.t 4)
 (.seq
 (.ops 2 [⟨some 2, none, .mv (.c (.int .i64 0)), []⟩])
 .ret)
 .skip))
 (.seq
 (.ops 3 [⟨some 5, none, .mv (.t 0), []⟩,
 ⟨some 6, none, .nilc (.t 5) (mok Tryz.prog), []⟩,
 ⟨some 7, none, .fld 1 (.t 6), []⟩,
 ⟨some 8, none, .ld 1 false (.t 7), []⟩,
 ⟨some 9, none, .bin .mul (.t 8) (.c (.int .i64 2)), []⟩,
 ⟨some 2, none, .mv (.t 9), []⟩])
 .ret)))⟩
theorem F121_code : cfgA.code 121 = some F121 := by kernel_rfl

/-- ticketline/mcs.made -/
noncomputable def F122 : AFn := ⟨52, [.cell 6 6 true, .tmp 7], (.seq
 (.ops 0 [⟨some 6, none, .alloc [.nilp, .int .i64 0, .int .i64 0, .int .i64 0, .int .u64 0, .bool false] false, []⟩,
 ⟨some 7, none, .mv (.c (.int .i64 0)), []⟩])
 (.seq
 (.seq
 (.ops 1 [⟨some 11, none, .mv (.t 0), []⟩,
 ⟨some 12, none, .call 129 [.t 11], []⟩,
 ⟨some 13, none, .bin .eql (.t 12) (.c (.int .i64 0)), []⟩])
 (.cond (.t 13)
 (.seq
 (.ops 2 [⟨some 14, none, .build [.nilp, .int .i64 0, .int .i64 0, .int .i64 0, .int .u64 0, .bool false] [], []⟩,
 ⟨none, none, .st 6 (.t 6) (.t 14), []⟩,
 ⟨some 7, none, .mv (.c (.int .i64 1)), []⟩])
 .ret)
 .skip))
 (.seq
 (.ops 3 [⟨some 15, none, .mv (.t 1), []⟩,
 ⟨some 16, none, .mv (.t 0), []⟩,
 ⟨some 17, none, .call 100 [.t 16], []⟩,
 ⟨some 18, none, .bin .geq (.t 15) (.t 17), []⟩,
 ⟨some 19, none, .mv (.t 18), []⟩,
 ⟨some 20, some (19, true), .mv (.t 1), []⟩,
 ⟨some 21, some (19, true), .mv (.t 0), []⟩,
 ⟨some 22, some (19, true), .call 100 [.t 21], []⟩,
 ⟨some 23, some (19, true), .mv (.t 0), []⟩,
 ⟨some 24, some (19, true), .call 130 [.t 23], []⟩,
 ⟨some 25, some (19, true), .bin .add (.t 22) (.t 24), []⟩,
 ⟨some 26, some (19, true), .bin .lss (.t 20) (.t 25), []⟩,
 ⟨some 27, none, .pick (.t 19) (.t 26) (.c (.bool false)), []⟩,
 ⟨some 8, none, .mv (.t 27), []⟩])
 (.seq
 (.seq
 (.ops 4 [⟨some 29, none, .mv (.t 0), []⟩,
 ⟨some 30, none, .mv (.t 2), []⟩,
 ⟨some 31, none, .call 86 [.t 29, .t 30], []⟩,
 ⟨some 28, none, .mv (.t 31), []⟩,
 ⟨some 32, none, .ext (.t 28) 0, []⟩,
 ⟨some 33, none, .ext (.t 28) 1, []⟩,
 ⟨some 9, none, .mv (.t 32), []⟩,
 ⟨some 10, none, .mv (.t 33), []⟩])
 (.seq
 (.ops 5 [⟨some 34, none, .mv (.t 1), []⟩,
 ⟨some 35, none, .bin .lss (.t 34) (.c (.int .i64 0)), []⟩,
 ⟨some 36, none, .mv (.t 35), []⟩,
 ⟨some 37, some (36, false), .mv (.t 1), []⟩,
 ⟨some 38, some (36, false), .bin .geq (.t 37) (.c (.int .i64 65536)), []⟩,
 ⟨some 39, none, .pick (.t 36) (.c (.bool true)) (.t 38), []⟩,
 ⟨some 40, none, .mv (.t 39), []⟩,
 ⟨some 41, some (40, false), .mv (.t 8), []⟩,
 ⟨some 42, none, .pick (.t 40) (.c (.bool true)) (.t 41), []⟩,
 ⟨some 43, none, .mv (.t 42), []⟩,
 ⟨some 44, some (43, false), .mv (.t 10), []⟩,
 ⟨some 45, some (43, false), .bin .neq (.t 44) (.c (.int .i64 0)), []⟩,
 ⟨some 46, none, .pick (.t 43) (.c (.bool true)) (.t 45), []⟩])
 (.cond (.t 46)
 (.seq
 (.ops 6 [⟨some 47, none, .build [.nilp, .int .i64 0, .int .i64 0, .int .i64 0, .int .u64 0, .bool false] [], []⟩,
 ⟨none, none, .st 6 (.t 6) (.t 47), []⟩,
 ⟨some 7, none, .mv (.c (.int .i64 2)), []⟩])
 .ret)
 .skip)))
 (.seq
 (.ops 7 [⟨some 48, none, .mv (.t 0), []⟩,
 ⟨some 49, none, .mv (.t 1), []⟩,
 ⟨some 50, none, .mv (.t 2), []⟩,
 ⟨some 51, none, .build [.nilp, .int .i64 0, .int .i64 0, .int .i64 0, .int .u64 0, .bool false] [(0, 1, (.t 48)), (1, 1, (.t 49)), (2, 1, (.t 50)), (3, 1, (.c (.int .i64 1)))], []⟩,
 ⟨none, none, .st 6 (.t 6) (.t 51), []⟩,
 ⟨some 7, none, .mv (.c (.int .i64 0)), []⟩])
 .ret)))))⟩
theorem F122_code : cfgA.code 122 = some F122 := by kernel_rfl

/-- ticketline/keys.Pack: the round 0 -/
@[reducible] noncomputable def B124x0 : AC := (.seq
 (.ops 9 [⟨some 19, none, .bin .lss (.t 18) (.c (.int .i64 8)), []⟩])
 (.seq
 (.cond (.t 19)
 .skip
 (.exit 2))
 (.seq
 (.block 3
 (.seq
 (.ops 10 [⟨some 20, none, .mv (.t 18), []⟩,
 ⟨some 7, none, .mv (.t 20), []⟩])
 (.seq
 (.ops 11 [⟨some 21, none, .mv (.t 6), []⟩,
 ⟨some 22, none, .bin .shl (.t 21) (.c (.int .u64 8)), []⟩,
 ⟨some 6, none, .mv (.t 22), []⟩])
 (.seq
 (.ops 12 [⟨some 23, none, .mv (.t 5), []⟩,
 ⟨some 24, none, .bin .mul (.t 23) (.c (.int .i64 8)), []⟩,
 ⟨some 25, none, .mv (.t 7), []⟩,
 ⟨some 26, none, .bin .add (.t 24) (.t 25), []⟩,
 ⟨some 8, none, .mv (.t 26), []⟩])
 (.seq
 (.ops 13 [⟨some 27, none, .mv (.t 8), []⟩,
 ⟨some 28, none, .mv (.t 0), []⟩,
 ⟨some 29, none, .len .string (.t 28), []⟩,
 ⟨some 30, none, .bin .lss (.t 27) (.t 29), []⟩])
 (.cond (.t 30)
 (.ops 14 [⟨some 31, none, .mv (.t 6), []⟩,
 ⟨some 32, none, .mv (.t 0), []⟩,
 ⟨some 33, none, .mv (.t 8), []⟩,
 ⟨some 34, none, .ixs (.t 32) (.t 33), []⟩,
 ⟨some 35, none, .cvi .u64 (.t 34), []⟩,
 ⟨some 36, none, .bin .or (.t 31) (.t 35), []⟩,
 ⟨some 6, none, .mv (.t 36), []⟩])
 .skip))))))
 (.ops 15 [⟨some 37, none, .bin .add (.t 18) (.c (.int .i64 1)), []⟩,
 ⟨some 18, none, .mv (.t 37), []⟩]))))

/-- ticketline/keys.Pack: the round 1 -/
@[reducible] noncomputable def B124x1 : AC := (.seq
 (.ops 5 [⟨some 16, none, .bin .lss (.t 15) (.t 14), []⟩])
 (.seq
 (.cond (.t 16)
 .skip
 (.exit 0))
 (.seq
 (.block 1
 (.seq
 (.ops 6 [⟨some 17, none, .mv (.t 15), []⟩,
 ⟨some 5, none, .mv (.t 17), []⟩])
 (.seq
 (.ops 7 [⟨some 6, none, .mv (.c (.int .u64 0)), []⟩])
 (.seq
 (.seq
 (.ops 8 [⟨some 18, none, .mv (.c (.int .i64 0)), []⟩])
 (.block 2
 (.loop [] B124x0)))
 (.ops 16 [⟨some 38, none, .mv (.t 4), []⟩,
 ⟨some 39, none, .mv (.t 6), []⟩,
 ⟨some 40, none, .bslice [.int .u64 0] 1 1 [(0, (.t 39))] false false, []⟩,
 ⟨some 41, none, .app 1 8 (.t 38) (.t 40) false, []⟩,
 ⟨some 4, none, .mv (.t 41), []⟩])))))
 (.ops 17 [⟨some 42, none, .bin .add (.t 15) (.c (.int .i64 1)), []⟩,
 ⟨some 15, none, .mv (.t 42), []⟩]))))

/-- ticketline/keys.Pack -/
noncomputable def F124 : AFn := ⟨44, [.tmp 2, .tmp 3], (.seq
 (.ops 0 [⟨some 2, none, .mv (.c (.nils)), []⟩,
 ⟨some 3, none, .mv (.c (.int .i64 0)), []⟩])
 (.seq
 (.seq
 (.ops 1 [⟨some 9, none, .mv (.t 0), []⟩,
 ⟨some 10, none, .call 132 [.t 9], []⟩,
 ⟨some 11, none, .un .not (.t 10), []⟩])
 (.cond (.t 11)
 (.seq
 (.ops 2 [⟨some 2, none, .mv (.c (.nils)), []⟩,
 ⟨some 3, none, .mv (.c (.int .i64 5)), []⟩])
 .ret)
 .skip))
 (.seq
 (.ops 3 [⟨some 4, none, .mv (.c (.nils)), []⟩])
 (.seq
 (.seq
 (.ops 4 [⟨some 12, none, .mv (.t 0), []⟩,
 ⟨some 13, none, .len .string (.t 12), []⟩,
 ⟨some 14, none, .call 133 [.t 13], []⟩,
 ⟨some 15, none, .mv (.c (.int .i64 0)), []⟩])
 (.block 0
 (.loop [] B124x1)))
 (.seq
 (.ops 18 [⟨some 43, none, .mv (.t 4), []⟩,
 ⟨some 2, none, .mv (.t 43), []⟩,
 ⟨some 3, none, .mv (.c (.int .i64 0)), []⟩])
 .ret)))))⟩
theorem F124_code : cfgA.code 124 = some F124 := by kernel_rfl

/-- ticketline/slot.list: the round 0 -/
@[reducible] noncomputable def B125x0 : AC := (.seq
 (.seq
 (.ops 15 [⟨some 68, none, .mv (.t 10), []⟩,
 ⟨some 69, none, .fld 2 (.t 7), []⟩,
 ⟨some 70, none, .ld 1 false (.t 69), []⟩,
 ⟨some 71, none, .bin .lss (.t 68) (.t 70), []⟩])
 (.cond (.t 71)
 .skip
 (.exit 2)))
 (.seq
 (.block 3
 (.seq
 (.seq
 (.ops 17 [⟨some 74, none, .mv (.t 10), []⟩,
 ⟨some 75, none, .ixa (some 128) 1 (.t 5) (.t 74), []⟩,
 ⟨some 76, none, .ld 1 false (.t 75), []⟩])
 (.cond (.t 76)
 (.seq
 (.ops 18 [⟨some 2, none, .mv (.c (.nils)), []⟩,
 ⟨some 3, none, .mv (.c (.bool false)), []⟩])
 .ret)
 .skip))
 (.ops 19 [⟨some 77, none, .mv (.t 10), []⟩,
 ⟨some 78, none, .ixa (some 128) 1 (.t 5) (.t 77), []⟩,
 ⟨none, none, .st 1 (.t 78) (.c (.bool true)), []⟩])))
 (.ops 16 [⟨some 72, none, .mv (.t 10), []⟩,
 ⟨some 73, none, .bin .add (.t 72) (.c (.int .i64 1)), []⟩,
 ⟨some 10, none, .mv (.t 73), []⟩])))

/-- ticketline/slot.list: the round 1 -/
@[reducible] noncomputable def B125x1 : AC := (.seq
 (.ops 6 [⟨some 20, none, .bin .lss (.t 19) (.t 18), []⟩])
 (.seq
 (.cond (.t 20)
 .skip
 (.exit 0))
 (.seq
 (.block 1
 (.seq
 (.ops 7 [⟨some 21, none, .mv (.t 19), []⟩,
 ⟨some 6, none, .mv (.t 21), []⟩])
 (.seq
 (.seq
 (.ops 8 [⟨some 22, none, .mv (.t 0), []⟩,
 ⟨some 23, none, .mv (.t 6), []⟩,
 ⟨some 24, none, .call 135 [.t 22, .t 23], []⟩,
 ⟨some 25, none, .un .not (.t 24), []⟩])
 (.cond (.t 25)
 (.seq
 (.ops 9 [⟨some 2, none, .mv (.c (.nils)), []⟩,
 ⟨some 3, none, .mv (.c (.bool false)), []⟩])
 .ret)
 .skip))
 (.seq
 (.ops 10 [⟨some 26, none, .mv (.t 0), []⟩,
 ⟨some 27, none, .mv (.t 6), []⟩,
 ⟨some 28, none, .bin .add (.c (.int .i64 20)) (.t 27), []⟩,
 ⟨some 29, none, .nilc (.t 26) (mok Tryz.prog), []⟩,
 ⟨some 30, none, .ixa (some 128) 1 (.t 29) (.t 28), []⟩,
 ⟨some 31, none, .ld 1 false (.t 30), []⟩,
 ⟨some 32, none, .call 136 [.t 31], []⟩,
 ⟨some 7, none, .alloc [.int .i64 0, .int .i64 0, .int .i64 0, .int .i64 0, .int .i64 0] false, []⟩,
 ⟨none, none, .st 5 (.t 7) (.t 32), []⟩])
 (.seq
 (.ops 11 [⟨some 34, none, .mv (.t 0), []⟩,
 ⟨some 35, none, .ld 5 true (.t 7), []⟩,
 ⟨some 36, none, .call 137 [.t 34, .t 35], []⟩,
 ⟨some 33, none, .mv (.t 36), []⟩,
 ⟨some 37, none, .ext (.t 33) 0, []⟩,
 ⟨some 38, none, .ext (.t 33) 1, []⟩,
 ⟨some 8, none, .alloc [.str [], .str []] false, []⟩,
 ⟨none, none, .st 2 (.t 8) (.t 37), []⟩,
 ⟨some 9, none, .mv (.t 38), []⟩])
 (.seq
 (.seq
 (.ops 12 [⟨some 39, none, .mv (.t 9), []⟩,
 ⟨some 40, none, .bin .neq (.t 39) (.c (.int .i64 0)), []⟩,
 ⟨some 41, none, .mv (.t 40), []⟩,
 ⟨some 42, some (41, false), .mv (.t 0), []⟩,
 ⟨some 43, some (41, false), .nilc (.t 42) (mok Tryz.prog), []⟩,
 ⟨some 44, some (41, false), .ixa (some 128) 1 (.t 43) (.c (.int .i64 8)), []⟩,
 ⟨some 45, some (41, false), .ld 1 false (.t 44), []⟩,
 ⟨some 46, some (41, false), .bin .gtr (.t 45) (.c (.int .u64 1)), []⟩,
 ⟨some 47, some (41, false), .mv (.t 46), []⟩,
 ⟨some 48, some (47, true), .mv (.t 0), []⟩,
 ⟨some 49, some (47, true), .fld 1 (.t 7), []⟩,
 ⟨some 50, some (47, true), .ld 1 false (.t 49), []⟩,
 ⟨some 51, some (47, true), .nilc (.t 48) (mok Tryz.prog), []⟩,
 ⟨some 52, some (47, true), .ixa (some 128) 1 (.t 51) (.t 50), []⟩,
 ⟨some 53, some (47, true), .ld 1 false (.t 52), []⟩,
 ⟨some 54, some (47, true), .bin .lss (.t 53) (.c (.int .u64 1)), []⟩,
 ⟨some 55, some (47, true), .mv (.t 54), []⟩,
 ⟨some 56, some (55, false), .mv (.t 0), []⟩,
 ⟨some 57, some (55, false), .fld 1 (.t 7), []⟩,
 ⟨some 58, some (55, false), .ld 1 false (.t 57), []⟩,
 ⟨some 59, some (55, false), .nilc (.t 56) (mok Tryz.prog), []⟩,
 ⟨some 60, some (55, false), .ixa (some 128) 1 (.t 59) (.t 58), []⟩,
 ⟨some 61, some (55, false), .ld 1 false (.t 60), []⟩,
 ⟨some 62, some (55, false), .bin .gtr (.t 61) (.c (.int .u64 511)), []⟩,
 ⟨some 63, some (47, true), .pick (.t 55) (.c (.bool true)) (.t 62), []⟩,
 ⟨some 64, some (41, false), .pick (.t 47) (.t 63) (.c (.bool false)), []⟩,
 ⟨some 65, none, .pick (.t 41) (.c (.bool true)) (.t 64), []⟩])
 (.cond (.t 65)
 (.seq
 (.ops 13 [⟨some 2, none, .mv (.c (.nils)), []⟩,
 ⟨some 3, none, .mv (.c (.bool false)), []⟩])
 .ret)
 .skip))
 (.seq
 (.seq
 (.ops 14 [⟨some 66, none, .fld 0 (.t 7), []⟩,
 ⟨some 67, none, .ld 1 false (.t 66), []⟩,
 ⟨some 10, none, .mv (.t 67), []⟩])
 (.block 2
 (.loop [] B125x0)))
 (.ops 20 [⟨some 79, none, .mv (.t 4), []⟩,
 ⟨some 80, none, .ld 2 true (.t 8), []⟩,
 ⟨some 81, none, .bslice [.str [], .str []] 2 1 [(0, (.t 80))] false false, []⟩,
 ⟨some 82, none, .app 2 32 (.t 79) (.t 81) false, []⟩,
 ⟨some 4, none, .mv (.t 82), []⟩]))))))))
 (.ops 21 [⟨some 83, none, .bin .add (.t 19) (.c (.int .i64 1)), []⟩,
 ⟨some 19, none, .mv (.t 83), []⟩]))))

/-- ticketline/slot.list -/
noncomputable def F125 : AFn := ⟨85, [.tmp 2, .tmp 3], (.seq
 (.ops 0 [⟨some 2, none, .mv (.c (.nils)), []⟩,
 ⟨some 3, none, .mv (.c (.bool false)), []⟩])
 (.seq
 (.seq
 (.ops 1 [⟨some 11, none, .mv (.t 0), []⟩,
 ⟨some 12, none, .call 134 [.t 11], []⟩,
 ⟨some 13, none, .un .not (.t 12), []⟩])
 (.cond (.t 13)
 (.seq
 (.ops 2 [⟨some 2, none, .mv (.c (.nils)), []⟩,
 ⟨some 3, none, .mv (.c (.bool false)), []⟩])
 .ret)
 .skip))
 (.seq
 (.ops 3 [⟨some 4, none, .mv (.c (.nils)), []⟩])
 (.seq
 (.ops 4 [⟨some 5, none, .alloc (List.replicate 128 (.bool false)) false, []⟩])
 (.seq
 (.seq
 (.ops 5 [⟨some 14, none, .mv (.t 0), []⟩,
 ⟨some 15, none, .nilc (.t 14) (mok Tryz.prog), []⟩,
 ⟨some 16, none, .ixa (some 128) 1 (.t 15) (.c (.int .i64 9)), []⟩,
 ⟨some 17, none, .ld 1 false (.t 16), []⟩,
 ⟨some 18, none, .cvi .i64 (.t 17), []⟩,
 ⟨some 19, none, .mv (.c (.int .i64 0)), []⟩])
 (.block 0
 (.loop [] B125x1)))
 (.seq
 (.ops 22 [⟨some 84, none, .mv (.t 4), []⟩,
 ⟨some 2, none, .mv (.t 84), []⟩,
 ⟨some 3, none, .mv (.c (.bool true)), []⟩])
 .ret))))))⟩
theorem F125_code : cfgA.code 125 = some F125 := by kernel_rfl

/-- (*ticketline/arena.Arena).there -/
noncomputable def F126 : AFn := ⟨17, [.tmp 4], (.seq
 (.ops 0 [⟨some 4, none, .mv (.c (.int .i64 0)), []⟩])
 (.seq
 (.block 0
 (.seq
 (.ops 1 [⟨some 6, none, .mv (.t 0), []⟩,
 ⟨some 7, none, .call 109 [.t 6], []⟩,
 ⟨some 5, none, .mv (.t 7), []⟩])
 (.cond (.t 5)
 (.seq
 (.ops 2 [⟨some 4, none, .mv (.c (.int .i64 1)), []⟩])
 .ret)
 (.seq
 (.ops 3 [⟨some 9, none, .mv (.t 1), []⟩,
 ⟨some 10, none, .bin .lss (.t 9) (.c (.int .i64 1)), []⟩,
 ⟨some 11, none, .mv (.t 10), []⟩,
 ⟨some 12, some (11, false), .mv (.t 1), []⟩,
 ⟨some 13, some (11, false), .mv (.t 0), []⟩,
 ⟨some 14, some (11, false), .call 138 [.t 13], []⟩,
 ⟨some 15, some (11, false), .bin .gtr (.t 12) (.t 14), []⟩,
 ⟨some 16, none, .pick (.t 11) (.c (.bool true)) (.t 15), []⟩,
 ⟨some 8, none, .mv (.t 16), []⟩])
 (.cond (.t 8)
 (.seq
 (.ops 4 [⟨some 4, none, .mv (.c (.int .i64 3)), []⟩])
 .ret)
 .skip)))))
 (.seq
 (.ops 5 [⟨some 4, none, .mv (.c (.int .i64 0)), []⟩])
 .ret)))⟩
theorem F126_code : cfgA.code 126 = some F126 := by kernel_rfl

/-- (*ticketline/arena.Arena).used -/
noncomputable def F127 : AFn := ⟨15, [.tmp 4], (.seq
 (.ops 0 [⟨some 4, none, .mv (.c (.bool false)), []⟩])
 (.seq
 (.ops 1 [⟨some 6, none, .mv (.t 0), []⟩,
 ⟨some 7, none, .mv (.t 1), []⟩,
 ⟨some 8, none, .call 139 [.t 6, .t 7], []⟩,
 ⟨some 5, none, .mv (.t 8), []⟩])
 (.seq
 (.ops 2 [⟨some 9, none, .mv (.t 5), []⟩,
 ⟨some 10, none, .bin .geq (.t 9) (.c (.int .u64 1)), []⟩,
 ⟨some 11, none, .mv (.t 10), []⟩,
 ⟨some 12, some (11, true), .mv (.t 5), []⟩,
 ⟨some 13, some (11, true), .bin .leq (.t 12) (.c (.int .u64 6)), []⟩,
 ⟨some 14, none, .pick (.t 11) (.t 13) (.c (.bool false)), []⟩,
 ⟨some 4, none, .mv (.t 14), []⟩])
 .ret)))⟩
theorem F127_code : cfgA.code 127 = some F127 := by kernel_rfl

/-- (*ticketline/qnode.Nodes).Threads -/
noncomputable def F129 : AFn := ⟨6, [.tmp 2], (.seq
 (.ops 0 [⟨some 2, none, .mv (.c (.int .i64 0)), []⟩])
 (.seq
 (.ops 1 [⟨some 3, none, .mv (.t 0), []⟩,
 ⟨some 4, none, .call 121 [.t 3], []⟩,
 ⟨some 5, none, .bin .quo (.t 4) (.c (.int .i64 2)), []⟩,
 ⟨some 2, none, .mv (.t 5), []⟩])
 .ret))⟩
theorem F129_code : cfgA.code 129 = some F129 := by kernel_rfl

/-- (*ticketline/qnode.Nodes).Len -/
noncomputable def F130 : AFn := ⟨6, [.tmp 2], (.seq
 (.ops 0 [⟨some 2, none, .mv (.c (.int .i64 0)), []⟩])
 (.seq
 (.ops 1 [⟨some 3, none, .mv (.t 0), []⟩,
 ⟨some 4, none, .call 121 [.t 3], []⟩,
 ⟨some 5, none, .bin .mul (.t 4) (.c (.int .i64 3)), []⟩,
 ⟨some 2, none, .mv (.t 5), []⟩])
 .ret))⟩
theorem F130_code : cfgA.code 130 = some F130 := by kernel_rfl

/-- ticketline/keys.ValidValue -/
noncomputable def F132 : AFn := ⟨6, [.tmp 2], (.seq
 (.ops 0 [⟨some 2, none, .mv (.c (.bool false)), []⟩])
 (.seq
 (.ops 1 [⟨some 3, none, .mv (.t 0), []⟩,
 ⟨some 4, none, .len .string (.t 3), []⟩,
 ⟨some 5, none, .bin .leq (.t 4) (.c (.int .i64 40)), []⟩,
 ⟨some 2, none, .mv (.t 5), []⟩])
 .ret))⟩
theorem F132_code : cfgA.code 132 = some F132 := by kernel_rfl

/-- ticketline/keys.Words -/
noncomputable def F133 : AFn := ⟨9, [.tmp 2], (.seq
 (.ops 0 [⟨some 2, none, .mv (.c (.int .i64 0)), []⟩])
 (.seq
 (.seq
 (.ops 1 [⟨some 3, none, .mv (.t 0), []⟩,
 ⟨some 4, none, .bin .leq (.t 3) (.c (.int .i64 0)), []⟩])
 (.cond (.t 4)
 (.seq
 (.ops 2 [⟨some 2, none, .mv (.c (.int .i64 0)), []⟩])
 .ret)
 .skip))
 (.seq
 (.ops 3 [⟨some 5, none, .mv (.t 0), []⟩,
 ⟨some 6, none, .bin .sub (.t 5) (.c (.int .i64 1)), []⟩,
 ⟨some 7, none, .bin .quo (.t 6) (.c (.int .i64 8)), []⟩,
 ⟨some 8, none, .bin .add (.t 7) (.c (.int .i64 1)), []⟩,
 ⟨some 2, none, .mv (.t 8), []⟩])
 .ret)))⟩
theorem F133_code : cfgA.code 133 = some F133 := by kernel_rfl

/-- ticketline/slot.head -/
noncomputable def F134 : AFn := ⟨68, [.tmp 2], (.seq
 (.ops 0 [⟨some 2, none, .mv (.c (.bool false)), []⟩])
 (.seq
 (.seq
 (.ops 1 [⟨some 7, none, .mv (.t 0), []⟩,
 ⟨some 8, none, .nilc (.t 7) (mok Tryz.prog), []⟩,
 ⟨some 9, none, .ixa (some 128) 1 (.t 8) (.c (.int .i64 8)), []⟩,
 ⟨some 10, none, .ld 1 false (.t 9), []⟩,
 ⟨some 11, none, .bin .lss (.t 10) (.c (.int .u64 1)), []⟩,
 ⟨some 12, none, .mv (.t 11), []⟩,
 ⟨some 13, some (12, false), .mv (.t 0), []⟩,
 ⟨some 14, some (12, false), .nilc (.t 13) (mok Tryz.prog), []⟩,
 ⟨some 15, some (12, false), .ixa (some 128) 1 (.t 14) (.c (.int .i64 8)), []⟩,
 ⟨some 16, some (12, false), .ld 1 false (.t 15), []⟩,
 ⟨some 17, some (12, false), .bin .gtr (.t 16) (.c (.int .u64 6)), []⟩,
 ⟨some 18, none, .pick (.t 12) (.c (.bool true)) (.t 17), []⟩,
 ⟨some 19, none, .mv (.t 18), []⟩,
 ⟨some 20, some (19, false), .mv (.t 0), []⟩,
 ⟨some 21, some (19, false), .nilc (.t 20) (mok Tryz.prog), []⟩,
 ⟨some 22, some (19, false), .ixa (some 128) 1 (.t 21) (.c (.int .i64 9)), []⟩,
 ⟨some 23, some (19, false), .ld 1 false (.t 22), []⟩,
 ⟨some 24, some (19, false), .bin .gtr (.t 23) (.c (.int .u64 108)), []⟩,
 ⟨some 25, none, .pick (.t 19) (.c (.bool true)) (.t 24), []⟩,
 ⟨some 26, none, .mv (.t 25), []⟩,
 ⟨some 27, some (26, false), .mv (.t 0), []⟩,
 ⟨some 28, some (26, false), .nilc (.t 27) (mok Tryz.prog), []⟩,
 ⟨some 29, some (26, false), .ixa (some 128) 1 (.t 28) (.c (.int .i64 10)), []⟩,
 ⟨some 30, some (26, false), .ld 1 false (.t 29), []⟩,
 ⟨some 31, some (26, false), .bin .gtr (.t 30) (.c (.int .u64 511)), []⟩,
 ⟨some 32, none, .pick (.t 26) (.c (.bool true)) (.t 31), []⟩,
 ⟨some 33, none, .mv (.t 32), []⟩,
 ⟨some 34, some (33, false), .mv (.t 0), []⟩,
 ⟨some 35, some (33, false), .nilc (.t 34) (mok Tryz.prog), []⟩,
 ⟨some 36, some (33, false), .ixa (some 128) 1 (.t 35) (.c (.int .i64 11)), []⟩,
 ⟨some 37, some (33, false), .ld 1 false (.t 36), []⟩,
 ⟨some 38, some (33, false), .bin .gtr (.t 37) (.c (.int .u64 128)), []⟩,
 ⟨some 39, none, .pick (.t 33) (.c (.bool true)) (.t 38), []⟩,
 ⟨some 40, none, .mv (.t 39), []⟩,
 ⟨some 41, some (40, false), .mv (.t 0), []⟩,
 ⟨some 42, some (40, false), .nilc (.t 41) (mok Tryz.prog), []⟩,
 ⟨some 43, some (40, false), .ixa (some 128) 1 (.t 42) (.c (.int .i64 11)), []⟩,
 ⟨some 44, some (40, false), .ld 1 false (.t 43), []⟩,
 ⟨some 45, some (40, false), .mv (.t 0), []⟩,
 ⟨some 46, some (40, false), .nilc (.t 45) (mok Tryz.prog), []⟩,
 ⟨some 47, some (40, false), .ixa (some 128) 1 (.t 46) (.c (.int .i64 9)), []⟩,
 ⟨some 48, some (40, false), .ld 1 false (.t 47), []⟩,
 ⟨some 49, some (40, false), .bin .add (.c (.int .u64 20)) (.t 48), []⟩,
 ⟨some 50, some (40, false), .bin .lss (.t 44) (.t 49), []⟩,
 ⟨some 51, none, .pick (.t 40) (.c (.bool true)) (.t 50), []⟩])
 (.cond (.t 51)
 (.seq
 (.ops 2 [⟨some 2, none, .mv (.c (.bool false)), []⟩])
 .ret)
 .skip))
 (.seq
 (.ops 3 [⟨some 53, none, .mv (.t 0), []⟩,
 ⟨some 54, none, .call 141 [.t 53, .c (.int .i64 12)], []⟩,
 ⟨some 52, none, .mv (.t 54), []⟩,
 ⟨some 55, none, .ext (.t 52) 0, []⟩,
 ⟨some 56, none, .ext (.t 52) 1, []⟩,
 ⟨some 3, none, .mv (.t 55), []⟩,
 ⟨some 4, none, .mv (.t 56), []⟩])
 (.seq
 (.ops 4 [⟨some 58, none, .mv (.t 0), []⟩,
 ⟨some 59, none, .call 141 [.t 58, .c (.int .i64 16)], []⟩,
 ⟨some 57, none, .mv (.t 59), []⟩,
 ⟨some 60, none, .ext (.t 57) 0, []⟩,
 ⟨some 61, none, .ext (.t 57) 1, []⟩,
 ⟨some 5, none, .mv (.t 60), []⟩,
 ⟨some 6, none, .mv (.t 61), []⟩])
 (.seq
 (.ops 5 [⟨some 62, none, .mv (.t 4), []⟩,
 ⟨some 63, none, .bin .eql (.t 62) (.c (.int .i64 0)), []⟩,
 ⟨some 64, none, .mv (.t 63), []⟩,
 ⟨some 65, some (64, true), .mv (.t 6), []⟩,
 ⟨some 66, some (64, true), .bin .eql (.t 65) (.c (.int .i64 0)), []⟩,
 ⟨some 67, none, .pick (.t 64) (.t 66) (.c (.bool false)), []⟩,
 ⟨some 2, none, .mv (.t 67), []⟩])
 .ret)))))⟩
theorem F134_code : cfgA.code 134 = some F134 := by kernel_rfl

/-- (*ticketline/arena.Arena).pages -/
noncomputable def F138 : AFn := ⟨9, [.tmp 2], (.seq
 (.ops 0 [⟨some 2, none, .mv (.c (.int .i64 0)), []⟩])
 (.seq
 (.ops 1 [⟨some 3, none, .mv (.t 0), []⟩,
 ⟨some 4, none, .nilc (.t 3) (mok Tryz.prog), []⟩,
 ⟨some 5, none, .fld 0 (.t 4), []⟩,
 ⟨some 6, none, .ld 1 true (.t 5), []⟩,
 ⟨some 7, none, .call 111 [.t 6, .c (.int .i64 0)], []⟩,
 ⟨some 8, none, .cvi .i64 (.t 7), []⟩,
 ⟨some 2, none, .mv (.t 8), []⟩])
 .ret))⟩
theorem F138_code : cfgA.code 138 = some F138 := by kernel_rfl

/-- (*ticketline/arena.Arena).kind -/
noncomputable def F139 : AFn := ⟨12, [.tmp 4], (.seq
 (.ops 0 [⟨some 4, none, .mv (.c (.int .u64 0)), []⟩])
 (.seq
 (.ops 1 [⟨some 5, none, .mv (.t 0), []⟩,
 ⟨some 6, none, .nilc (.t 5) (mok Tryz.prog), []⟩,
 ⟨some 7, none, .fld 0 (.t 6), []⟩,
 ⟨some 8, none, .ld 1 true (.t 7), []⟩,
 ⟨some 9, none, .mv (.t 1), []⟩,
 ⟨some 10, none, .call 105 [.t 9, .c (.int .i64 8)], [(8, .ld 1 true (.t 7))]⟩,
 ⟨some 11, none, .call 111 [.t 8, .t 10], []⟩,
 ⟨some 4, none, .mv (.t 11), []⟩])
 .ret))⟩
theorem F139_code : cfgA.code 139 = some F139 := by kernel_rfl

/-- ticketline/slot.fence: the round 0 -/
@[reducible] noncomputable def B141x0 : AC := (.seq
 (.ops 6 [⟨some 35, none, .bin .lss (.t 34) (.t 33), []⟩])
 (.seq
 (.cond (.t 35)
 .skip
 (.exit 0))
 (.seq
 (.block 1
 (.seq
 (.ops 7 [⟨some 36, none, .ixa none 1 (.t 32) (.t 34), []⟩,
 ⟨some 37, none, .ld 1 false (.t 36), []⟩,
 ⟨some 9, none, .mv (.t 37), []⟩])
 (.seq
 (.ops 8 [⟨some 38, none, .mv (.t 9), []⟩,
 ⟨some 39, none, .bin .neq (.t 38) (.c (.int .u64 0)), []⟩])
 (.cond (.t 39)
 (.seq
 (.ops 9 [⟨some 4, none, .mv (.c (.str [])), []⟩,
 ⟨some 5, none, .mv (.c (.int .i64 12)), []⟩])
 .ret)
 .skip))))
 (.ops 10 [⟨some 40, none, .bin .add (.t 34) (.c (.int .i64 1)), []⟩,
 ⟨some 34, none, .mv (.t 40), []⟩]))))

/-- ticketline/slot.fence -/
noncomputable def F141 : AFn := ⟨51, [.tmp 4, .tmp 5], (.seq
 (.ops 0 [⟨some 4, none, .mv (.c (.str [])), []⟩,
 ⟨some 5, none, .mv (.c (.int .i64 0)), []⟩])
 (.seq
 (.seq
 (.ops 1 [⟨some 10, none, .mv (.t 0), []⟩,
 ⟨some 11, none, .mv (.t 1), []⟩,
 ⟨some 12, none, .nilc (.t 10) (mok Tryz.prog), []⟩,
 ⟨some 13, none, .ixa (some 128) 1 (.t 12) (.t 11), []⟩,
 ⟨some 14, none, .ld 1 false (.t 13), []⟩,
 ⟨some 15, none, .bin .gtr (.t 14) (.c (.int .u64 24)), []⟩])
 (.cond (.t 15)
 (.seq
 (.ops 2 [⟨some 4, none, .mv (.c (.str [])), []⟩,
 ⟨some 5, none, .mv (.c (.int .i64 12)), []⟩])
 .ret)
 .skip))
 (.seq
 (.ops 3 [⟨some 16, none, .mv (.t 0), []⟩,
 ⟨some 17, none, .mv (.t 1), []⟩,
 ⟨some 18, none, .nilc (.t 16) (mok Tryz.prog), []⟩,
 ⟨some 19, none, .ixa (some 128) 1 (.t 18) (.t 17), []⟩,
 ⟨some 20, none, .ld 1 false (.t 19), []⟩,
 ⟨some 21, none, .cvi .i64 (.t 20), []⟩,
 ⟨some 6, none, .mv (.t 21), []⟩])
 (.seq
 (.ops 4 [⟨some 22, none, .mv (.t 1), []⟩,
 ⟨some 23, none, .bin .add (.t 22) (.c (.int .i64 1)), []⟩,
 ⟨some 24, none, .mv (.t 6), []⟩,
 ⟨some 25, none, .call 133 [.t 24], []⟩,
 ⟨some 26, none, .bin .add (.t 23) (.t 25), []⟩,
 ⟨some 7, none, .mv (.t 26), []⟩])
 (.seq
 (.seq
 (.ops 5 [⟨some 27, none, .mv (.t 0), []⟩,
 ⟨some 28, none, .nilc (.t 27) (mok Tryz.prog), []⟩,
 ⟨some 29, none, .mv (.t 7), []⟩,
 ⟨some 30, none, .mv (.t 1), []⟩,
 ⟨some 31, none, .bin .add (.t 30) (.c (.int .i64 4)), []⟩,
 ⟨some 32, none, .slc (some 128) 1 (.t 28) (some (.t 29)) (some (.t 31)), []⟩,
 ⟨some 33, none, .len .slice (.t 32), []⟩,
 ⟨some 34, none, .mv (.c (.int .i64 0)), []⟩])
 (.block 0
 (.loop [] B141x0)))
 (.seq
 (.ops 11 [⟨some 41, none, .mv (.t 0), []⟩,
 ⟨some 42, none, .nilc (.t 41) (mok Tryz.prog), []⟩,
 ⟨some 43, none, .mv (.t 1), []⟩,
 ⟨some 44, none, .bin .add (.t 43) (.c (.int .i64 1)), []⟩,
 ⟨some 45, none, .mv (.t 7), []⟩,
 ⟨some 46, none, .slc (some 128) 1 (.t 42) (some (.t 44)) (some (.t 45)), []⟩,
 ⟨some 47, none, .mv (.t 6), []⟩,
 ⟨some 48, none, .call 142 [.t 46, .t 47], []⟩,
 ⟨some 49, none, .ext (.t 48) 0, []⟩,
 ⟨some 50, none, .ext (.t 48) 1, []⟩,
 ⟨some 4, none, .mv (.t 49), []⟩,
 ⟨some 5, none, .mv (.t 50), []⟩])
 .ret))))))⟩
theorem F141_code : cfgA.code 141 = some F141 := by kernel_rfl

/-- ticketline/keys.Unpack: the round 0 -/
@[reducible] noncomputable def B142x0 : AC := (.seq
 (.seq
 (.ops 12 [⟨some 30, none, .mv (.t 9), []⟩,
 ⟨some 31, none, .bin .geq (.t 30) (.c (.int .i64 0)), []⟩])
 (.cond (.t 31)
 .skip
 (.exit 3)))
 (.seq
 (.block 4
 (.ops 14 [⟨some 34, none, .mv (.t 6), []⟩,
 ⟨some 35, none, .mv (.t 8), []⟩,
 ⟨some 36, none, .mv (.t 9), []⟩,
 ⟨some 37, none, .bin .mul (.c (.int .i64 8)) (.t 36), []⟩,
 ⟨some 38, none, .bin .shr (.t 35) (.t 37), []⟩,
 ⟨some 39, none, .cvi .u8 (.t 38), []⟩,
 ⟨some 40, none, .bslice [.int .u8 0] 1 1 [(0, (.t 39))] false false, []⟩,
 ⟨some 41, none, .app 1 1 (.t 34) (.t 40) false, []⟩,
 ⟨some 6, none, .mv (.t 41), []⟩]))
 (.ops 13 [⟨some 32, none, .mv (.t 9), []⟩,
 ⟨some 33, none, .bin .sub (.t 32) (.c (.int .i64 1)), []⟩,
 ⟨some 9, none, .mv (.t 33), []⟩])))

/-- ticketline/keys.Unpack: the round 1 -/
@[reducible] noncomputable def B142x1 : AC := (.seq
 (.ops 9 [⟨some 27, none, .bin .lss (.t 26) (.t 25), []⟩])
 (.seq
 (.cond (.t 27)
 .skip
 (.exit 1))
 (.seq
 (.block 2
 (.seq
 (.ops 10 [⟨some 28, none, .ixa none 1 (.t 24) (.t 26), []⟩,
 ⟨some 29, none, .ld 1 false (.t 28), []⟩,
 ⟨some 8, none, .mv (.t 29), []⟩])
 (.seq
 (.ops 11 [⟨some 9, none, .mv (.c (.int .i64 7)), []⟩])
 (.block 3
 (.loop [] B142x0)))))
 (.ops 15 [⟨some 42, none, .bin .add (.t 26) (.c (.int .i64 1)), []⟩,
 ⟨some 26, none, .mv (.t 42), []⟩]))))

/-- ticketline/keys.Unpack: the round 2 -/
@[reducible] noncomputable def B142x2 : AC := (.seq
 (.ops 17 [⟨some 48, none, .bin .lss (.t 47) (.t 46), []⟩])
 (.seq
 (.cond (.t 48)
 .skip
 (.exit 5))
 (.seq
 (.block 6
 (.seq
 (.ops 18 [⟨some 49, none, .ixa none 1 (.t 45) (.t 47), []⟩,
 ⟨some 50, none, .ld 1 false (.t 49), []⟩,
 ⟨some 11, none, .mv (.t 50), []⟩])
 (.seq
 (.ops 19 [⟨some 51, none, .mv (.t 11), []⟩,
 ⟨some 52, none, .bin .neq (.t 51) (.c (.int .u8 0)), []⟩])
 (.cond (.t 52)
 (.seq
 (.ops 20 [⟨some 4, none, .mv (.c (.str [])), []⟩,
 ⟨some 5, none, .mv (.c (.int .i64 12)), []⟩])
 .ret)
 .skip))))
 (.ops 21 [⟨some 53, none, .bin .add (.t 47) (.c (.int .i64 1)), []⟩,
 ⟨some 47, none, .mv (.t 53), []⟩]))))

/-- ticketline/keys.Unpack -/
noncomputable def F142 : AFn := ⟨58, [.tmp 4, .tmp 5], (.seq
 (.ops 0 [⟨some 4, none, .mv (.c (.str [])), []⟩,
 ⟨some 5, none, .mv (.c (.int .i64 0)), []⟩])
 (.seq
 (.block 0
 (.seq
 (.ops 1 [⟨some 13, none, .mv (.t 1), []⟩,
 ⟨some 14, none, .bin .lss (.t 13) (.c (.int .i64 0)), []⟩,
 ⟨some 12, none, .mv (.t 14), []⟩])
 (.cond (.t 12)
 (.seq
 (.ops 2 [⟨some 4, none, .mv (.c (.str [])), []⟩,
 ⟨some 5, none, .mv (.c (.int .i64 2)), []⟩])
 .ret)
 (.seq
 (.ops 3 [⟨some 16, none, .mv (.t 1), []⟩,
 ⟨some 17, none, .bin .gtr (.t 16) (.c (.int .i64 40)), []⟩,
 ⟨some 15, none, .mv (.t 17), []⟩])
 (.cond (.t 15)
 (.seq
 (.ops 4 [⟨some 4, none, .mv (.c (.str [])), []⟩,
 ⟨some 5, none, .mv (.c (.int .i64 5)), []⟩])
 .ret)
 (.seq
 (.ops 5 [⟨some 19, none, .mv (.t 0), []⟩,
 ⟨some 20, none, .len .slice (.t 19), []⟩,
 ⟨some 21, none, .mv (.t 1), []⟩,
 ⟨some 22, none, .call 133 [.t 21], []⟩,
 ⟨some 23, none, .bin .neq (.t 20) (.t 22), []⟩,
 ⟨some 18, none, .mv (.t 23), []⟩])
 (.cond (.t 18)
 (.seq
 (.ops 6 [⟨some 4, none, .mv (.c (.str [])), []⟩,
 ⟨some 5, none, .mv (.c (.int .i64 12)), []⟩])
 .ret)
 .skip)))))))
 (.seq
 (.ops 7 [⟨some 6, none, .mv (.c (.nils)), []⟩])
 (.seq
 (.seq
 (.ops 8 [⟨some 24, none, .mv (.t 0), []⟩,
 ⟨some 25, none, .len .slice (.t 24), []⟩,
 ⟨some 26, none, .mv (.c (.int .i64 0)), []⟩])
 (.block 1
 (.loop [] B142x1)))
 (.seq
 (.seq
 (.ops 16 [⟨some 43, none, .mv (.t 6), []⟩,
 ⟨some 44, none, .mv (.t 1), []⟩,
 ⟨some 45, none, .slc none 1 (.t 43) (some (.t 44)) none, []⟩,
 ⟨some 46, none, .len .slice (.t 45), []⟩,
 ⟨some 47, none, .mv (.c (.int .i64 0)), []⟩])
 (.block 5
 (.loop [] B142x2)))
 (.seq
 (.ops 22 [⟨some 54, none, .mv (.t 6), []⟩,
 ⟨some 55, none, .mv (.t 1), []⟩,
 ⟨some 56, none, .slc none 1 (.t 54) none (some (.t 55)), []⟩,
 ⟨some 57, none, .cvs (.t 56), []⟩,
 ⟨some 4, none, .mv (.t 57), []⟩,
 ⟨some 5, none, .mv (.c (.int .i64 0)), []⟩])
 .ret))))))⟩
theorem F142_code : cfgA.code 142 = some F142 := by kernel_rfl

/-- (*ticketline/mcs.Acquire).Done -/
noncomputable def F160 : AFn := ⟨11, [.tmp 2], (.seq
 (.ops 0 [⟨some 2, none, .mv (.c (.bool false)), []⟩])
 (.seq
 (.ops 1 [⟨some 3, none, .mv (.t 0), []⟩,
 ⟨some 4, none, .eqn .ptr false (.t 3), []⟩,
 ⟨some 5, none, .mv (.t 4), []⟩,
 ⟨some 6, some (5, false), .mv (.t 0), []⟩,
 ⟨some 7, some (5, false), .nilc (.t 6) (mok Tryz.prog), []⟩,
 ⟨some 8, some (5, false), .fld 0 (.t 7), []⟩,
 ⟨some 9, some (5, false), .call 163 [.t 8], []⟩,
 ⟨some 10, none, .pick (.t 5) (.c (.bool true)) (.t 9), []⟩,
 ⟨some 2, none, .mv (.t 10), []⟩])
 .ret))⟩
theorem F160_code : cfgA.code 160 = some F160 := by kernel_rfl

/-- (*ticketline/mcs.Acquire).Step -/
noncomputable def F162 : AFn := ⟨185, [.tmp 4, .tmp 5], (.seq
 (.ops 0 [⟨some 4, none, .mv (.c (.bool false)), []⟩,
 ⟨some 5, none, .mv (.c (.int .i64 0)), []⟩])
 (.seq
 (.seq
 (.ops 1 [⟨some 13, none, .mv (.t 0), []⟩,
 ⟨some 14, none, .eqn .ptr false (.t 13), []⟩])
 (.cond (.t 14)
 (.seq
 (.ops 2 [⟨some 4, none, .mv (.c (.bool false)), []⟩,
 ⟨some 5, none, .mv (.c (.int .i64 1)), []⟩])
 .ret)
 .skip))
 (.seq
 (.seq
 (.ops 3 [⟨some 15, none, .mv (.t 0), []⟩,
 ⟨some 16, none, .nilc (.t 15) (mok Tryz.prog), []⟩,
 ⟨some 17, none, .fld 0 (.t 16), []⟩,
 ⟨some 18, none, .mv (.t 1), []⟩,
 ⟨some 19, none, .call 165 [.t 17, .t 18], []⟩,
 ⟨some 6, none, .mv (.t 19), []⟩])
 (.seq
 (.ops 4 [⟨some 20, none, .mv (.t 6), []⟩,
 ⟨some 21, none, .bin .neq (.t 20) (.c (.int .i64 0)), []⟩])
 (.cond (.t 21)
 (.seq
 (.ops 5 [⟨some 22, none, .mv (.t 6), []⟩,
 ⟨some 4, none, .mv (.c (.bool false)), []⟩,
 ⟨some 5, none, .mv (.t 22), []⟩])
 .ret)
 .skip)))
 (.seq
 (.seq
 (.ops 6 [⟨some 23, none, .mv (.t 0), []⟩,
 ⟨some 24, none, .nilc (.t 23) (mok Tryz.prog), []⟩,
 ⟨some 25, none, .fld 0 (.t 24), []⟩,
 ⟨some 26, none, .fld 3 (.t 25), []⟩,
 ⟨some 27, none, .ld 1 false (.t 26), []⟩])
 (.block 0
 (.seq
 (.ops 7 [⟨some 29, none, .bin .eql (.t 27) (.c (.int .i64 1)), []⟩,
 ⟨some 28, none, .mv (.t 29), []⟩])
 (.cond (.t 28)
 (.seq
 (.ops 8 [⟨some 30, none, .mv (.t 0), []⟩,
 ⟨some 31, none, .nilc (.t 30) (mok Tryz.prog), []⟩,
 ⟨some 32, none, .fld 0 (.t 31), []⟩,
 ⟨some 33, none, .mv (.t 1), []⟩,
 ⟨some 34, none, .mv (.t 0), []⟩,
 ⟨some 35, none, .nilc (.t 34) (mok Tryz.prog), []⟩,
 ⟨some 36, none, .fld 0 (.t 35), []⟩,
 ⟨some 37, none, .fld 0 (.t 36), []⟩,
 ⟨some 38, none, .ld 1 false (.t 37), []⟩,
 ⟨some 39, none, .mv (.t 0), []⟩,
 ⟨some 40, none, .nilc (.t 39) (mok Tryz.prog), []⟩,
 ⟨some 41, none, .fld 0 (.t 40), []⟩,
 ⟨some 42, none, .fld 2 (.t 41), []⟩,
 ⟨some 43, none, .ld 1 false (.t 42), []⟩,
 ⟨some 45, none, .mkv "Store" (.t 33), []⟩,
 ⟨some 46, none, .nilc (.t 45) (mok Tryz.prog), []⟩,
 ⟨some 47, none, .mv (.t 33), []⟩,
 ⟨some 44, none, .call 76 [.t 38, .t 43], []⟩,
 ⟨some 48, none, .invk (.t 47) "Store" [.t 44, .c (.int .u64 0)], []⟩,
 ⟨some 49, none, .call 166 [.t 32, .t 48, .c (.int .i64 2)], []⟩,
 ⟨some 50, none, .ext (.t 49) 0, []⟩,
 ⟨some 51, none, .ext (.t 49) 1, []⟩,
 ⟨some 4, none, .mv (.t 50), []⟩,
 ⟨some 5, none, .mv (.t 51), []⟩])
 .ret)
 (.seq
 (.ops 9 [⟨some 53, none, .bin .eql (.t 27) (.c (.int .i64 2)), []⟩,
 ⟨some 52, none, .mv (.t 53), []⟩])
 (.cond (.t 52)
 (.seq
 (.ops 10 [⟨some 54, none, .mv (.t 0), []⟩,
 ⟨some 55, none, .nilc (.t 54) (mok Tryz.prog), []⟩,
 ⟨some 56, none, .fld 0 (.t 55), []⟩,
 ⟨some 57, none, .mv (.t 1), []⟩,
 ⟨some 58, none, .mv (.t 0), []⟩,
 ⟨some 59, none, .nilc (.t 58) (mok Tryz.prog), []⟩,
 ⟨some 60, none, .fld 0 (.t 59), []⟩,
 ⟨some 61, none, .fld 0 (.t 60), []⟩,
 ⟨some 62, none, .ld 1 false (.t 61), []⟩,
 ⟨some 63, none, .mv (.t 0), []⟩,
 ⟨some 64, none, .nilc (.t 63) (mok Tryz.prog), []⟩,
 ⟨some 65, none, .fld 0 (.t 64), []⟩,
 ⟨some 66, none, .fld 2 (.t 65), []⟩,
 ⟨some 67, none, .ld 1 false (.t 66), []⟩,
 ⟨some 69, none, .mkv "Store" (.t 57), []⟩,
 ⟨some 70, none, .nilc (.t 69) (mok Tryz.prog), []⟩,
 ⟨some 71, none, .mv (.t 57), []⟩,
 ⟨some 68, none, .call 75 [.t 62, .t 67], []⟩,
 ⟨some 72, none, .invk (.t 71) "Store" [.t 68, .c (.int .u64 1)], []⟩,
 ⟨some 73, none, .call 166 [.t 56, .t 72, .c (.int .i64 3)], []⟩,
 ⟨some 74, none, .ext (.t 73) 0, []⟩,
 ⟨some 75, none, .ext (.t 73) 1, []⟩,
 ⟨some 4, none, .mv (.t 74), []⟩,
 ⟨some 5, none, .mv (.t 75), []⟩])
 .ret)
 (.seq
 (.ops 11 [⟨some 77, none, .bin .eql (.t 27) (.c (.int .i64 3)), []⟩,
 ⟨some 76, none, .mv (.t 77), []⟩])
 (.cond (.t 76)
 (.seq
 (.ops 12 [⟨some 79, none, .mv (.t 1), []⟩,
 ⟨some 80, none, .mv (.t 0), []⟩,
 ⟨some 81, none, .nilc (.t 80) (mok Tryz.prog), []⟩,
 ⟨some 82, none, .fld 0 (.t 81), []⟩,
 ⟨some 83, none, .fld 1 (.t 82), []⟩,
 ⟨some 84, none, .ld 1 false (.t 83), []⟩,
 ⟨some 85, none, .mv (.t 0), []⟩,
 ⟨some 86, none, .nilc (.t 85) (mok Tryz.prog), []⟩,
 ⟨some 87, none, .fld 0 (.t 86), []⟩,
 ⟨some 89, none, .mkv "Swap" (.t 79), []⟩,
 ⟨some 90, none, .nilc (.t 89) (mok Tryz.prog), []⟩,
 ⟨some 91, none, .mv (.t 79), []⟩,
 ⟨some 88, none, .call 167 [.t 87], [(84, .ld 1 false (.t 83))]⟩,
 ⟨some 92, none, .invk (.t 91) "Swap" [.t 84, .t 88], []⟩,
 ⟨some 78, none, .mv (.t 92), []⟩,
 ⟨some 93, none, .ext (.t 78) 0, []⟩,
 ⟨some 94, none, .ext (.t 78) 1, []⟩,
 ⟨some 7, none, .mv (.t 93), []⟩,
 ⟨some 8, none, .mv (.t 94), []⟩])
 (.seq
 (.seq
 (.ops 13 [⟨some 95, none, .mv (.t 7), []⟩,
 ⟨some 96, none, .bin .eql (.t 95) (.c (.int .u64 0)), []⟩])
 (.cond (.t 96)
 (.seq
 (.ops 14 [⟨some 97, none, .mv (.t 0), []⟩,
 ⟨some 98, none, .nilc (.t 97) (mok Tryz.prog), []⟩,
 ⟨some 99, none, .fld 0 (.t 98), []⟩,
 ⟨some 100, none, .mv (.t 8), []⟩,
 ⟨some 101, none, .call 168 [.t 99, .t 100], []⟩,
 ⟨some 102, none, .ext (.t 101) 0, []⟩,
 ⟨some 103, none, .ext (.t 101) 1, []⟩,
 ⟨some 4, none, .mv (.t 102), []⟩,
 ⟨some 5, none, .mv (.t 103), []⟩])
 .ret)
 .skip))
 (.seq
 (.ops 15 [⟨some 104, none, .mv (.t 0), []⟩,
 ⟨some 105, none, .mv (.t 7), []⟩,
 ⟨some 106, none, .nilc (.t 104) (mok Tryz.prog), []⟩,
 ⟨some 107, none, .fld 0 (.t 106), []⟩,
 ⟨some 108, none, .fld 4 (.t 107), []⟩,
 ⟨none, none, .st 1 (.t 108) (.t 105), []⟩])
 (.seq
 (.ops 16 [⟨some 109, none, .mv (.t 0), []⟩,
 ⟨some 110, none, .nilc (.t 109) (mok Tryz.prog), []⟩,
 ⟨some 111, none, .fld 0 (.t 110), []⟩,
 ⟨some 112, none, .mv (.t 8), []⟩,
 ⟨some 113, none, .call 166 [.t 111, .t 112, .c (.int .i64 4)], []⟩,
 ⟨some 114, none, .ext (.t 113) 0, []⟩,
 ⟨some 115, none, .ext (.t 113) 1, []⟩,
 ⟨some 4, none, .mv (.t 114), []⟩,
 ⟨some 5, none, .mv (.t 115), []⟩])
 .ret))))
 (.seq
 (.ops 17 [⟨some 117, none, .bin .eql (.t 27) (.c (.int .i64 4)), []⟩,
 ⟨some 116, none, .mv (.t 117), []⟩])
 (.cond (.t 116)
 (.seq
 (.ops 18 [⟨some 119, none, .mv (.t 0), []⟩,
 ⟨some 120, none, .nilc (.t 119) (mok Tryz.prog), []⟩,
 ⟨some 121, none, .fld 0 (.t 120), []⟩,
 ⟨some 122, none, .call 169 [.t 121], []⟩,
 ⟨some 118, none, .mv (.t 122), []⟩,
 ⟨some 123, none, .ext (.t 118) 0, []⟩,
 ⟨some 124, none, .ext (.t 118) 1, []⟩,
 ⟨some 9, none, .mv (.t 123), []⟩,
 ⟨some 10, none, .mv (.t 124), []⟩])
 (.seq
 (.seq
 (.ops 19 [⟨some 125, none, .mv (.t 10), []⟩,
 ⟨some 126, none, .bin .neq (.t 125) (.c (.int .i64 0)), []⟩])
 (.cond (.t 126)
 (.seq
 (.ops 20 [⟨some 127, none, .mv (.t 10), []⟩,
 ⟨some 4, none, .mv (.c (.bool false)), []⟩,
 ⟨some 5, none, .mv (.t 127), []⟩])
 .ret)
 .skip))
 (.seq
 (.ops 21 [⟨some 128, none, .mv (.t 0), []⟩,
 ⟨some 129, none, .nilc (.t 128) (mok Tryz.prog), []⟩,
 ⟨some 130, none, .fld 0 (.t 129), []⟩,
 ⟨some 131, none, .mv (.t 1), []⟩,
 ⟨some 132, none, .mv (.t 0), []⟩,
 ⟨some 133, none, .nilc (.t 132) (mok Tryz.prog), []⟩,
 ⟨some 134, none, .fld 0 (.t 133), []⟩,
 ⟨some 135, none, .fld 0 (.t 134), []⟩,
 ⟨some 136, none, .ld 1 false (.t 135), []⟩,
 ⟨some 137, none, .mv (.t 9), []⟩,
 ⟨some 139, none, .mv (.t 0), []⟩,
 ⟨some 140, none, .nilc (.t 139) (mok Tryz.prog), []⟩,
 ⟨some 141, none, .fld 0 (.t 140), []⟩,
 ⟨some 143, none, .mkv "Store" (.t 131), []⟩,
 ⟨some 144, none, .nilc (.t 143) (mok Tryz.prog), []⟩,
 ⟨some 145, none, .mv (.t 131), []⟩,
 ⟨some 138, none, .call 76 [.t 136, .t 137], []⟩,
 ⟨some 142, none, .call 167 [.t 141], []⟩,
 ⟨some 146, none, .invk (.t 145) "Store" [.t 138, .t 142], []⟩,
 ⟨some 147, none, .call 166 [.t 130, .t 146, .c (.int .i64 5)], []⟩,
 ⟨some 148, none, .ext (.t 147) 0, []⟩,
 ⟨some 149, none, .ext (.t 147) 1, []⟩,
 ⟨some 4, none, .mv (.t 148), []⟩,
 ⟨some 5, none, .mv (.t 149), []⟩])
 .ret)))
 .skip))))))))))
 (.seq
 (.ops 22 [⟨some 151, none, .mv (.t 1), []⟩,
 ⟨some 152, none, .mv (.t 0), []⟩,
 ⟨some 153, none, .nilc (.t 152) (mok Tryz.prog), []⟩,
 ⟨some 154, none, .fld 0 (.t 153), []⟩,
 ⟨some 155, none, .fld 0 (.t 154), []⟩,
 ⟨some 156, none, .ld 1 false (.t 155), []⟩,
 ⟨some 157, none, .mv (.t 0), []⟩,
 ⟨some 158, none, .nilc (.t 157) (mok Tryz.prog), []⟩,
 ⟨some 159, none, .fld 0 (.t 158), []⟩,
 ⟨some 160, none, .fld 2 (.t 159), []⟩,
 ⟨some 161, none, .ld 1 false (.t 160), []⟩,
 ⟨some 163, none, .mkv "Load" (.t 151), []⟩,
 ⟨some 164, none, .nilc (.t 163) (mok Tryz.prog), []⟩,
 ⟨some 165, none, .mv (.t 151), []⟩,
 ⟨some 162, none, .call 75 [.t 156, .t 161], []⟩,
 ⟨some 166, none, .invk (.t 165) "Load" [.t 162], []⟩,
 ⟨some 150, none, .mv (.t 166), []⟩,
 ⟨some 167, none, .ext (.t 150) 0, []⟩,
 ⟨some 168, none, .ext (.t 150) 1, []⟩,
 ⟨some 11, none, .mv (.t 167), []⟩,
 ⟨some 12, none, .mv (.t 168), []⟩])
 (.seq
 (.seq
 (.ops 23 [⟨some 169, none, .mv (.t 12), []⟩,
 ⟨some 170, none, .bin .neq (.t 169) (.c (.int .i64 0)), []⟩,
 ⟨some 171, none, .mv (.t 170), []⟩,
 ⟨some 172, some (171, false), .mv (.t 11), []⟩,
 ⟨some 173, some (171, false), .bin .neq (.t 172) (.c (.int .u64 0)), []⟩,
 ⟨some 174, none, .pick (.t 171) (.c (.bool true)) (.t 173), []⟩])
 (.cond (.t 174)
 (.seq
 (.ops 24 [⟨some 175, none, .mv (.t 12), []⟩,
 ⟨some 176, none, .bin .eql (.t 175) (.c (.int .i64 0)), []⟩,
 ⟨some 177, none, .mv (.t 12), []⟩,
 ⟨some 4, none, .mv (.t 176), []⟩,
 ⟨some 5, none, .mv (.t 177), []⟩])
 .ret)
 .skip))
 (.seq
 (.ops 25 [⟨some 178, none, .mv (.t 0), []⟩,
 ⟨some 179, none, .nilc (.t 178) (mok Tryz.prog), []⟩,
 ⟨some 180, none, .fld 0 (.t 179), []⟩,
 ⟨some 181, none, .mv (.t 12), []⟩,
 ⟨some 182, none, .call 168 [.t 180, .t 181], []⟩,
 ⟨some 183, none, .ext (.t 182) 0, []⟩,
 ⟨some 184, none, .ext (.t 182) 1, []⟩,
 ⟨some 4, none, .mv (.t 183), []⟩,
 ⟨some 5, none, .mv (.t 184), []⟩])
 .ret)))))))⟩
theorem F162_code : cfgA.code 162 = some F162 := by kernel_rfl

/-- (*ticketline/mcs.run).over -/
noncomputable def F163 : AFn := ⟨14, [.tmp 2], (.seq
 (.ops 0 [⟨some 2, none, .mv (.c (.bool false)), []⟩])
 (.seq
 (.ops 1 [⟨some 3, none, .mv (.t 0), []⟩,
 ⟨some 4, none, .nilc (.t 3) (mok Tryz.prog), []⟩,
 ⟨some 5, none, .fld 0 (.t 4), []⟩,
 ⟨some 6, none, .ld 1 false (.t 5), []⟩,
 ⟨some 7, none, .eqn .ptr false (.t 6), []⟩,
 ⟨some 8, none, .mv (.t 7), []⟩,
 ⟨some 9, some (8, false), .mv (.t 0), []⟩,
 ⟨some 10, some (8, false), .nilc (.t 9) (mok Tryz.prog), []⟩,
 ⟨some 11, some (8, false), .fld 5 (.t 10), []⟩,
 ⟨some 12, some (8, false), .ld 1 false (.t 11), []⟩,
 ⟨some 13, none, .pick (.t 8) (.c (.bool true)) (.t 12), []⟩,
 ⟨some 2, none, .mv (.t 13), []⟩])
 .ret))⟩
theorem F163_code : cfgA.code 163 = some F163 := by kernel_rfl

/-- (*ticketline/mcs.run).ready -/
noncomputable def F165 : AFn := ⟨20, [.tmp 4], (.seq
 (.ops 0 [⟨some 4, none, .mv (.c (.int .i64 0)), []⟩])
 (.seq
 (.block 0
 (.seq
 (.ops 1 [⟨some 6, none, .mv (.t 0), []⟩,
 ⟨some 7, none, .nilc (.t 6) (mok Tryz.prog), []⟩,
 ⟨some 8, none, .fld 0 (.t 7), []⟩,
 ⟨some 9, none, .ld 1 false (.t 8), []⟩,
 ⟨some 10, none, .eqn .ptr false (.t 9), []⟩,
 ⟨some 11, none, .mv (.t 10), []⟩,
 ⟨some 12, some (11, false), .mv (.t 1), []⟩,
 ⟨some 13, some (11, false), .eqn .iface false (.t 12), []⟩,
 ⟨some 14, none, .pick (.t 11) (.c (.bool true)) (.t 13), []⟩,
 ⟨some 5, none, .mv (.t 14), []⟩])
 (.cond (.t 5)
 (.seq
 (.ops 2 [⟨some 4, none, .mv (.c (.int .i64 1)), []⟩])
 .ret)
 (.seq
 (.ops 3 [⟨some 16, none, .mv (.t 0), []⟩,
 ⟨some 17, none, .nilc (.t 16) (mok Tryz.prog), []⟩,
 ⟨some 18, none, .fld 5 (.t 17), []⟩,
 ⟨some 19, none, .ld 1 false (.t 18), []⟩,
 ⟨some 15, none, .mv (.t 19), []⟩])
 (.cond (.t 15)
 (.seq
 (.ops 4 [⟨some 4, none, .mv (.c (.int .i64 17)), []⟩])
 .ret)
 .skip)))))
 (.seq
 (.ops 5 [⟨some 4, none, .mv (.c (.int .i64 0)), []⟩])
 .ret)))⟩
theorem F165_code : cfgA.code 165 = some F165 := by kernel_rfl

/-- (*ticketline/mcs.run).goes -/
noncomputable def F166 : AFn := ⟨15, [.tmp 6, .tmp 7], (.seq
 (.ops 0 [⟨some 6, none, .mv (.c (.bool false)), []⟩,
 ⟨some 7, none, .mv (.c (.int .i64 0)), []⟩])
 (.seq
 (.seq
 (.ops 1 [⟨some 8, none, .mv (.t 1), []⟩,
 ⟨some 9, none, .bin .eql (.t 8) (.c (.int .i64 0)), []⟩])
 (.cond (.t 9)
 (.ops 2 [⟨some 10, none, .mv (.t 0), []⟩,
 ⟨some 11, none, .mv (.t 2), []⟩,
 ⟨some 12, none, .nilc (.t 10) (mok Tryz.prog), []⟩,
 ⟨some 13, none, .fld 3 (.t 12), []⟩,
 ⟨none, none, .st 1 (.t 13) (.t 11), []⟩])
 .skip))
 (.seq
 (.ops 3 [⟨some 14, none, .mv (.t 1), []⟩,
 ⟨some 6, none, .mv (.c (.bool false)), []⟩,
 ⟨some 7, none, .mv (.t 14), []⟩])
 .ret)))⟩
theorem F166_code : cfgA.code 166 = some F166 := by kernel_rfl

/-- (*ticketline/mcs.run).ref -/
noncomputable def F167 : AFn := ⟨18, [.tmp 2], (.seq
 (.ops 0 [⟨some 2, none, .mv (.c (.int .u64 0)), []⟩])
 (.seq
 (.ops 1 [⟨some 6, none, .mv (.t 0), []⟩,
 ⟨some 7, none, .nilc (.t 6) (mok Tryz.prog), []⟩,
 ⟨some 8, none, .fld 0 (.t 7), []⟩,
 ⟨some 9, none, .ld 1 false (.t 8), []⟩,
 ⟨some 10, none, .mv (.t 0), []⟩,
 ⟨some 11, none, .nilc (.t 10) (mok Tryz.prog), []⟩,
 ⟨some 12, none, .fld 2 (.t 11), []⟩,
 ⟨some 13, none, .ld 1 false (.t 12), []⟩,
 ⟨some 14, none, .call 78 [.t 9, .t 13], []⟩,
 ⟨some 5, none, .mv (.t 14), []⟩,
 ⟨some 15, none, .ext (.t 5) 0, []⟩,
 ⟨some 16, none, .ext (.t 5) 1, []⟩,
 ⟨some 3, none, .mv (.t 15), []⟩,
 ⟨some 4, none, .mv (.t 16), []⟩])
 (.seq
 (.ops 2 [⟨some 17, none, .mv (.t 3), []⟩,
 ⟨some 2, none, .mv (.t 17), []⟩])
 .ret)))⟩
theorem F167_code : cfgA.code 167 = some F167 := by kernel_rfl

/-- (*ticketline/mcs.run).ends -/
noncomputable def F168 : AFn := ⟨12, [.tmp 4, .tmp 5], (.seq
 (.ops 0 [⟨some 4, none, .mv (.c (.bool false)), []⟩,
 ⟨some 5, none, .mv (.c (.int .i64 0)), []⟩])
 (.seq
 (.ops 1 [⟨some 6, none, .mv (.t 0), []⟩,
 ⟨some 7, none, .mv (.t 1), []⟩,
 ⟨some 8, none, .bin .eql (.t 7) (.c (.int .i64 0)), []⟩,
 ⟨some 9, none, .nilc (.t 6) (mok Tryz.prog), []⟩,
 ⟨some 10, none, .fld 5 (.t 9), []⟩,
 ⟨none, none, .st 1 (.t 10) (.t 8), []⟩])
 (.seq
 (.ops 2 [⟨some 11, none, .mv (.t 1), []⟩,
 ⟨some 4, none, .mv (.c (.bool false)), []⟩,
 ⟨some 5, none, .mv (.t 11), []⟩])
 .ret)))⟩
theorem F168_code : cfgA.code 168 = some F168 := by kernel_rfl

/-- (*ticketline/mcs.run).target -/
noncomputable def F169 : AFn := ⟨25, [.tmp 2, .tmp 3], (.seq
 (.ops 0 [⟨some 2, none, .mv (.c (.int .i64 0)), []⟩,
 ⟨some 3, none, .mv (.c (.int .i64 0)), []⟩])
 (.seq
 (.ops 1 [⟨some 7, none, .mv (.t 0), []⟩,
 ⟨some 8, none, .nilc (.t 7) (mok Tryz.prog), []⟩,
 ⟨some 9, none, .fld 0 (.t 8), []⟩,
 ⟨some 10, none, .ld 1 false (.t 9), []⟩,
 ⟨some 11, none, .mv (.t 0), []⟩,
 ⟨some 12, none, .nilc (.t 11) (mok Tryz.prog), []⟩,
 ⟨some 13, none, .fld 4 (.t 12), []⟩,
 ⟨some 14, none, .ld 1 false (.t 13), []⟩,
 ⟨some 15, none, .call 85 [.t 10, .t 14], []⟩,
 ⟨some 6, none, .mv (.t 15), []⟩,
 ⟨some 16, none, .ext (.t 6) 0, []⟩,
 ⟨some 17, none, .ext (.t 6) 1, []⟩,
 ⟨some 4, none, .mv (.t 16), []⟩,
 ⟨some 5, none, .mv (.t 17), []⟩])
 (.seq
 (.seq
 (.ops 2 [⟨some 18, none, .mv (.t 5), []⟩,
 ⟨some 19, none, .bin .neq (.t 18) (.c (.int .i64 0)), []⟩,
 ⟨some 20, none, .mv (.t 19), []⟩,
 ⟨some 21, some (20, false), .mv (.t 4), []⟩,
 ⟨some 22, some (20, false), .bin .lss (.t 21) (.c (.int .i64 0)), []⟩,
 ⟨some 23, none, .pick (.t 20) (.c (.bool true)) (.t 22), []⟩])
 (.cond (.t 23)
 (.seq
 (.ops 3 [⟨some 2, none, .mv (.c (.int .i64 0)), []⟩,
 ⟨some 3, none, .mv (.c (.int .i64 12)), []⟩])
 .ret)
 .skip))
 (.seq
 (.ops 4 [⟨some 24, none, .mv (.t 4), []⟩,
 ⟨some 2, none, .mv (.t 24), []⟩,
 ⟨some 3, none, .mv (.c (.int .i64 0)), []⟩])
 .ret))))⟩
theorem F169_code : cfgA.code 169 = some F169 := by kernel_rfl

/-- (*ticketline/mcs.Release).Done -/
noncomputable def F171 : AFn := ⟨11, [.tmp 2], (.seq
 (.ops 0 [⟨some 2, none, .mv (.c (.bool false)), []⟩])
 (.seq
 (.ops 1 [⟨some 3, none, .mv (.t 0), []⟩,
 ⟨some 4, none, .eqn .ptr false (.t 3), []⟩,
 ⟨some 5, none, .mv (.t 4), []⟩,
 ⟨some 6, some (5, false), .mv (.t 0), []⟩,
 ⟨some 7, some (5, false), .nilc (.t 6) (mok Tryz.prog), []⟩,
 ⟨some 8, some (5, false), .fld 0 (.t 7), []⟩,
 ⟨some 9, some (5, false), .call 163 [.t 8], []⟩,
 ⟨some 10, none, .pick (.t 5) (.c (.bool true)) (.t 9), []⟩,
 ⟨some 2, none, .mv (.t 10), []⟩])
 .ret))⟩
theorem F171_code : cfgA.code 171 = some F171 := by kernel_rfl

/-- (*ticketline/mcs.Release).Step -/
noncomputable def F173 : AFn := ⟨149, [.tmp 4, .tmp 5], (.seq
 (.ops 0 [⟨some 4, none, .mv (.c (.bool false)), []⟩,
 ⟨some 5, none, .mv (.c (.int .i64 0)), []⟩])
 (.seq
 (.seq
 (.ops 1 [⟨some 14, none, .mv (.t 0), []⟩,
 ⟨some 15, none, .eqn .ptr false (.t 14), []⟩])
 (.cond (.t 15)
 (.seq
 (.ops 2 [⟨some 4, none, .mv (.c (.bool false)), []⟩,
 ⟨some 5, none, .mv (.c (.int .i64 1)), []⟩])
 .ret)
 .skip))
 (.seq
 (.seq
 (.ops 3 [⟨some 16, none, .mv (.t 0), []⟩,
 ⟨some 17, none, .nilc (.t 16) (mok Tryz.prog), []⟩,
 ⟨some 18, none, .fld 0 (.t 17), []⟩,
 ⟨some 19, none, .mv (.t 1), []⟩,
 ⟨some 20, none, .call 165 [.t 18, .t 19], []⟩,
 ⟨some 6, none, .mv (.t 20), []⟩])
 (.seq
 (.ops 4 [⟨some 21, none, .mv (.t 6), []⟩,
 ⟨some 22, none, .bin .neq (.t 21) (.c (.int .i64 0)), []⟩])
 (.cond (.t 22)
 (.seq
 (.ops 5 [⟨some 23, none, .mv (.t 6), []⟩,
 ⟨some 4, none, .mv (.c (.bool false)), []⟩,
 ⟨some 5, none, .mv (.t 23), []⟩])
 .ret)
 .skip)))
 (.seq
 (.seq
 (.ops 6 [⟨some 24, none, .mv (.t 0), []⟩,
 ⟨some 25, none, .nilc (.t 24) (mok Tryz.prog), []⟩,
 ⟨some 26, none, .fld 0 (.t 25), []⟩,
 ⟨some 27, none, .fld 3 (.t 26), []⟩,
 ⟨some 28, none, .ld 1 false (.t 27), []⟩])
 (.block 0
 (.seq
 (.seq
 (.ops 7 [⟨some 30, none, .bin .eql (.t 28) (.c (.int .i64 1)), []⟩,
 ⟨some 29, none, .mv (.t 30), []⟩])
 (.cond (.t 29)
 .skip
 (.ops 8 [⟨some 31, none, .bin .eql (.t 28) (.c (.int .i64 3)), []⟩,
 ⟨some 29, none, .mv (.t 31), []⟩])))
 (.cond (.t 29)
 (.seq
 (.ops 9 [⟨some 33, none, .mv (.t 1), []⟩,
 ⟨some 34, none, .mv (.t 0), []⟩,
 ⟨some 35, none, .nilc (.t 34) (mok Tryz.prog), []⟩,
 ⟨some 36, none, .fld 0 (.t 35), []⟩,
 ⟨some 37, none, .fld 0 (.t 36), []⟩,
 ⟨some 38, none, .ld 1 false (.t 37), []⟩,
 ⟨some 39, none, .mv (.t 0), []⟩,
 ⟨some 40, none, .nilc (.t 39) (mok Tryz.prog), []⟩,
 ⟨some 41, none, .fld 0 (.t 40), []⟩,
 ⟨some 42, none, .fld 2 (.t 41), []⟩,
 ⟨some 43, none, .ld 1 false (.t 42), []⟩,
 ⟨some 45, none, .mkv "Load" (.t 33), []⟩,
 ⟨some 46, none, .nilc (.t 45) (mok Tryz.prog), []⟩,
 ⟨some 47, none, .mv (.t 33), []⟩,
 ⟨some 44, none, .call 76 [.t 38, .t 43], []⟩,
 ⟨some 48, none, .invk (.t 47) "Load" [.t 44], []⟩,
 ⟨some 32, none, .mv (.t 48), []⟩,
 ⟨some 49, none, .ext (.t 32) 0, []⟩,
 ⟨some 50, none, .ext (.t 32) 1, []⟩,
 ⟨some 7, none, .mv (.t 49), []⟩,
 ⟨some 8, none, .mv (.t 50), []⟩])
 (.seq
 (.block 1
 (.seq
 (.ops 10 [⟨some 52, none, .mv (.t 8), []⟩,
 ⟨some 53, none, .bin .neq (.t 52) (.c (.int .i64 0)), []⟩,
 ⟨some 51, none, .mv (.t 53), []⟩])
 (.cond (.t 51)
 (.seq
 (.ops 11 [⟨some 54, none, .mv (.t 8), []⟩,
 ⟨some 4, none, .mv (.c (.bool false)), []⟩,
 ⟨some 5, none, .mv (.t 54), []⟩])
 .ret)
 (.seq
 (.ops 12 [⟨some 56, none, .mv (.t 7), []⟩,
 ⟨some 57, none, .bin .neq (.t 56) (.c (.int .u64 0)), []⟩,
 ⟨some 55, none, .mv (.t 57), []⟩])
 (.cond (.t 55)
 (.seq
 (.ops 13 [⟨some 58, none, .mv (.t 0), []⟩,
 ⟨some 59, none, .mv (.t 7), []⟩,
 ⟨some 60, none, .nilc (.t 58) (mok Tryz.prog), []⟩,
 ⟨some 61, none, .fld 0 (.t 60), []⟩,
 ⟨some 62, none, .fld 4 (.t 61), []⟩,
 ⟨none, none, .st 1 (.t 62) (.t 59), []⟩])
 (.seq
 (.ops 14 [⟨some 63, none, .mv (.t 0), []⟩,
 ⟨some 64, none, .nilc (.t 63) (mok Tryz.prog), []⟩,
 ⟨some 65, none, .fld 0 (.t 64), []⟩,
 ⟨some 66, none, .mv (.t 8), []⟩,
 ⟨some 67, none, .call 166 [.t 65, .t 66, .c (.int .i64 4)], []⟩,
 ⟨some 68, none, .ext (.t 67) 0, []⟩,
 ⟨some 69, none, .ext (.t 67) 1, []⟩,
 ⟨some 4, none, .mv (.t 68), []⟩,
 ⟨some 5, none, .mv (.t 69), []⟩])
 .ret))
 .skip)))))
 (.seq
 (.ops 15 [⟨some 70, none, .mv (.t 0), []⟩,
 ⟨some 71, none, .nilc (.t 70) (mok Tryz.prog), []⟩,
 ⟨some 72, none, .fld 0 (.t 71), []⟩,
 ⟨some 73, none, .fld 3 (.t 72), []⟩,
 ⟨some 74, none, .ld 1 false (.t 73), []⟩,
 ⟨some 75, none, .bin .eql (.t 74) (.c (.int .i64 3)), []⟩,
 ⟨some 9, none, .mv (.t 75), []⟩])
 (.seq
 (.ops 16 [⟨some 76, none, .mv (.t 0), []⟩,
 ⟨some 77, none, .mv (.t 0), []⟩,
 ⟨some 78, none, .nilc (.t 77) (mok Tryz.prog), []⟩,
 ⟨some 79, none, .fld 0 (.t 78), []⟩,
 ⟨some 80, none, .fld 3 (.t 79), []⟩,
 ⟨some 81, none, .ld 1 false (.t 80), []⟩,
 ⟨some 82, none, .mx true (.t 81) [.c (.int .i64 2)], []⟩,
 ⟨some 83, none, .nilc (.t 76) (mok Tryz.prog), []⟩,
 ⟨some 84, none, .fld 0 (.t 83), []⟩,
 ⟨some 85, none, .fld 3 (.t 84), []⟩,
 ⟨none, none, .st 1 (.t 85) (.t 82), []⟩])
 (.seq
 (.ops 17 [⟨some 86, none, .mv (.t 9), []⟩,
 ⟨some 4, none, .mv (.t 86), []⟩,
 ⟨some 5, none, .mv (.c (.int .i64 0)), []⟩])
 .ret)))))
 (.seq
 (.ops 18 [⟨some 88, none, .bin .eql (.t 28) (.c (.int .i64 2)), []⟩,
 ⟨some 87, none, .mv (.t 88), []⟩])
 (.cond (.t 87)
 (.seq
 (.ops 19 [⟨some 90, none, .mv (.t 1), []⟩,
 ⟨some 91, none, .mv (.t 0), []⟩,
 ⟨some 92, none, .nilc (.t 91) (mok Tryz.prog), []⟩,
 ⟨some 93, none, .fld 0 (.t 92), []⟩,
 ⟨some 94, none, .fld 1 (.t 93), []⟩,
 ⟨some 95, none, .ld 1 false (.t 94), []⟩,
 ⟨some 96, none, .mv (.t 0), []⟩,
 ⟨some 97, none, .nilc (.t 96) (mok Tryz.prog), []⟩,
 ⟨some 98, none, .fld 0 (.t 97), []⟩,
 ⟨some 100, none, .mkv "CAS" (.t 90), []⟩,
 ⟨some 101, none, .nilc (.t 100) (mok Tryz.prog), []⟩,
 ⟨some 102, none, .mv (.t 90), []⟩,
 ⟨some 99, none, .call 167 [.t 98], [(95, .ld 1 false (.t 94))]⟩,
 ⟨some 103, none, .invk (.t 102) "CAS" [.t 95, .t 99, .c (.int .u64 0)], []⟩,
 ⟨some 89, none, .mv (.t 103), []⟩,
 ⟨some 104, none, .ext (.t 89) 0, []⟩,
 ⟨some 105, none, .ext (.t 89) 1, []⟩,
 ⟨some 10, none, .mv (.t 104), []⟩,
 ⟨some 11, none, .mv (.t 105), []⟩])
 (.seq
 (.seq
 (.ops 20 [⟨some 106, none, .mv (.t 10), []⟩])
 (.cond (.t 106)
 (.seq
 (.ops 21 [⟨some 107, none, .mv (.t 0), []⟩,
 ⟨some 108, none, .nilc (.t 107) (mok Tryz.prog), []⟩,
 ⟨some 109, none, .fld 0 (.t 108), []⟩,
 ⟨some 110, none, .mv (.t 11), []⟩,
 ⟨some 111, none, .call 168 [.t 109, .t 110], []⟩,
 ⟨some 112, none, .ext (.t 111) 0, []⟩,
 ⟨some 113, none, .ext (.t 111) 1, []⟩,
 ⟨some 4, none, .mv (.t 112), []⟩,
 ⟨some 5, none, .mv (.t 113), []⟩])
 .ret)
 .skip))
 (.seq
 (.ops 22 [⟨some 114, none, .mv (.t 0), []⟩,
 ⟨some 115, none, .nilc (.t 114) (mok Tryz.prog), []⟩,
 ⟨some 116, none, .fld 0 (.t 115), []⟩,
 ⟨some 117, none, .mv (.t 11), []⟩,
 ⟨some 118, none, .call 166 [.t 116, .t 117, .c (.int .i64 3)], []⟩,
 ⟨some 119, none, .ext (.t 118) 0, []⟩,
 ⟨some 120, none, .ext (.t 118) 1, []⟩,
 ⟨some 4, none, .mv (.t 119), []⟩,
 ⟨some 5, none, .mv (.t 120), []⟩])
 .ret)))
 .skip))))))
 (.seq
 (.ops 23 [⟨some 122, none, .mv (.t 0), []⟩,
 ⟨some 123, none, .nilc (.t 122) (mok Tryz.prog), []⟩,
 ⟨some 124, none, .fld 0 (.t 123), []⟩,
 ⟨some 125, none, .call 169 [.t 124], []⟩,
 ⟨some 121, none, .mv (.t 125), []⟩,
 ⟨some 126, none, .ext (.t 121) 0, []⟩,
 ⟨some 127, none, .ext (.t 121) 1, []⟩,
 ⟨some 12, none, .mv (.t 126), []⟩,
 ⟨some 13, none, .mv (.t 127), []⟩])
 (.seq
 (.seq
 (.ops 24 [⟨some 128, none, .mv (.t 13), []⟩,
 ⟨some 129, none, .bin .neq (.t 128) (.c (.int .i64 0)), []⟩])
 (.cond (.t 129)
 (.seq
 (.ops 25 [⟨some 130, none, .mv (.t 13), []⟩,
 ⟨some 4, none, .mv (.c (.bool false)), []⟩,
 ⟨some 5, none, .mv (.t 130), []⟩])
 .ret)
 .skip))
 (.seq
 (.ops 26 [⟨some 131, none, .mv (.t 0), []⟩,
 ⟨some 132, none, .nilc (.t 131) (mok Tryz.prog), []⟩,
 ⟨some 133, none, .fld 0 (.t 132), []⟩,
 ⟨some 134, none, .mv (.t 1), []⟩,
 ⟨some 135, none, .mv (.t 0), []⟩,
 ⟨some 136, none, .nilc (.t 135) (mok Tryz.prog), []⟩,
 ⟨some 137, none, .fld 0 (.t 136), []⟩,
 ⟨some 138, none, .fld 0 (.t 137), []⟩,
 ⟨some 139, none, .ld 1 false (.t 138), []⟩,
 ⟨some 140, none, .mv (.t 12), []⟩,
 ⟨some 142, none, .mkv "Store" (.t 134), []⟩,
 ⟨some 143, none, .nilc (.t 142) (mok Tryz.prog), []⟩,
 ⟨some 144, none, .mv (.t 134), []⟩,
 ⟨some 141, none, .call 75 [.t 139, .t 140], []⟩,
 ⟨some 145, none, .invk (.t 144) "Store" [.t 141, .c (.int .u64 0)], []⟩,
 ⟨some 146, none, .call 168 [.t 133, .t 145], []⟩,
 ⟨some 147, none, .ext (.t 146) 0, []⟩,
 ⟨some 148, none, .ext (.t 146) 1, []⟩,
 ⟨some 4, none, .mv (.t 147), []⟩,
 ⟨some 5, none, .mv (.t 148), []⟩])
 .ret)))))))⟩
theorem F173_code : cfgA.code 173 = some F173 := by kernel_rfl

/-- (*ticketline/mem.Once).CAS -/
noncomputable def F174 : AFn := ⟨30, [.tmp 8, .tmp 9], (.seq
 (.ops 0 [⟨some 8, none, .mv (.c (.bool false)), []⟩,
 ⟨some 9, none, .mv (.c (.int .i64 0)), []⟩])
 (.seq
 (.ops 1 [⟨some 13, none, .mv (.t 0), []⟩,
 ⟨some 14, none, .mv (.t 1), []⟩,
 ⟨some 15, none, .mv (.t 2), []⟩,
 ⟨some 16, none, .mv (.t 3), []⟩,
 ⟨some 17, none, .build [.int .i64 0, .int .i64 0, .int .u64 0, .int .u64 0] [(0, 1, (.c (.int .i64 3))), (1, 1, (.t 14)), (2, 1, (.t 15)), (3, 1, (.t 16))], []⟩,
 ⟨some 18, none, .call 179 [.t 13, .t 17], []⟩,
 ⟨some 12, none, .mv (.t 18), []⟩,
 ⟨some 19, none, .ext (.t 12) 0, []⟩,
 ⟨some 20, none, .ext (.t 12) 1, []⟩,
 ⟨some 10, none, .alloc [.int .i64 0, .int .i64 0, .int .u64 0, .int .u64 0] false, []⟩,
 ⟨none, none, .st 4 (.t 10) (.t 19), []⟩,
 ⟨some 11, none, .mv (.t 20), []⟩])
 (.seq
 (.ops 2 [⟨some 21, none, .mv (.t 11), []⟩,
 ⟨some 22, none, .bin .eql (.t 21) (.c (.int .i64 0)), []⟩,
 ⟨some 23, none, .mv (.t 22), []⟩,
 ⟨some 24, some (23, true), .fld 2 (.t 10), []⟩,
 ⟨some 25, some (23, true), .ld 1 false (.t 24), []⟩,
 ⟨some 26, some (23, true), .mv (.t 2), []⟩,
 ⟨some 27, some (23, true), .bin .eql (.t 25) (.t 26), []⟩,
 ⟨some 28, none, .pick (.t 23) (.t 27) (.c (.bool false)), []⟩,
 ⟨some 29, none, .mv (.t 11), []⟩,
 ⟨some 8, none, .mv (.t 28), []⟩,
 ⟨some 9, none, .mv (.t 29), []⟩])
 .ret)))⟩
theorem F174_code : cfgA.code 174 = some F174 := by kernel_rfl

/-- (*ticketline/mem.Once).Load -/
noncomputable def F176 : AFn := ⟨18, [.tmp 4, .tmp 5], (.seq
 (.ops 0 [⟨some 4, none, .mv (.c (.int .u64 0)), []⟩,
 ⟨some 5, none, .mv (.c (.int .i64 0)), []⟩])
 (.seq
 (.ops 1 [⟨some 9, none, .mv (.t 0), []⟩,
 ⟨some 10, none, .mv (.t 1), []⟩,
 ⟨some 11, none, .build [.int .i64 0, .int .i64 0, .int .u64 0, .int .u64 0] [(0, 1, (.c (.int .i64 1))), (1, 1, (.t 10))], []⟩,
 ⟨some 12, none, .call 179 [.t 9, .t 11], []⟩,
 ⟨some 8, none, .mv (.t 12), []⟩,
 ⟨some 13, none, .ext (.t 8) 0, []⟩,
 ⟨some 14, none, .ext (.t 8) 1, []⟩,
 ⟨some 6, none, .alloc [.int .i64 0, .int .i64 0, .int .u64 0, .int .u64 0] false, []⟩,
 ⟨none, none, .st 4 (.t 6) (.t 13), []⟩,
 ⟨some 7, none, .mv (.t 14), []⟩])
 (.seq
 (.ops 2 [⟨some 15, none, .fld 2 (.t 6), []⟩,
 ⟨some 16, none, .ld 1 false (.t 15), []⟩,
 ⟨some 17, none, .mv (.t 7), []⟩,
 ⟨some 4, none, .mv (.t 16), []⟩,
 ⟨some 5, none, .mv (.t 17), []⟩])
 .ret)))⟩
theorem F176_code : cfgA.code 176 = some F176 := by kernel_rfl

/-- (*ticketline/mem.Once).Store -/
noncomputable def F177 : AFn := ⟨18, [.tmp 6], (.seq
 (.ops 0 [⟨some 6, none, .mv (.c (.int .i64 0)), []⟩])
 (.seq
 (.ops 1 [⟨some 10, none, .mv (.t 0), []⟩,
 ⟨some 11, none, .mv (.t 1), []⟩,
 ⟨some 12, none, .mv (.t 2), []⟩,
 ⟨some 13, none, .build [.int .i64 0, .int .i64 0, .int .u64 0, .int .u64 0] [(0, 1, (.c (.int .i64 2))), (1, 1, (.t 11)), (3, 1, (.t 12))], []⟩,
 ⟨some 14, none, .call 179 [.t 10, .t 13], []⟩,
 ⟨some 9, none, .mv (.t 14), []⟩,
 ⟨some 15, none, .ext (.t 9) 0, []⟩,
 ⟨some 16, none, .ext (.t 9) 1, []⟩,
 ⟨some 7, none, .alloc [.int .i64 0, .int .i64 0, .int .u64 0, .int .u64 0] false, []⟩,
 ⟨none, none, .st 4 (.t 7) (.t 15), []⟩,
 ⟨some 8, none, .mv (.t 16), []⟩])
 (.seq
 (.ops 2 [⟨some 17, none, .mv (.t 8), []⟩,
 ⟨some 6, none, .mv (.t 17), []⟩])
 .ret)))⟩
theorem F177_code : cfgA.code 177 = some F177 := by kernel_rfl

/-- (*ticketline/mem.Once).Swap -/
noncomputable def F178 : AFn := ⟨21, [.tmp 6, .tmp 7], (.seq
 (.ops 0 [⟨some 6, none, .mv (.c (.int .u64 0)), []⟩,
 ⟨some 7, none, .mv (.c (.int .i64 0)), []⟩])
 (.seq
 (.ops 1 [⟨some 11, none, .mv (.t 0), []⟩,
 ⟨some 12, none, .mv (.t 1), []⟩,
 ⟨some 13, none, .mv (.t 2), []⟩,
 ⟨some 14, none, .build [.int .i64 0, .int .i64 0, .int .u64 0, .int .u64 0] [(0, 1, (.c (.int .i64 4))), (1, 1, (.t 12)), (3, 1, (.t 13))], []⟩,
 ⟨some 15, none, .call 179 [.t 11, .t 14], []⟩,
 ⟨some 10, none, .mv (.t 15), []⟩,
 ⟨some 16, none, .ext (.t 10) 0, []⟩,
 ⟨some 17, none, .ext (.t 10) 1, []⟩,
 ⟨some 8, none, .alloc [.int .i64 0, .int .i64 0, .int .u64 0, .int .u64 0] false, []⟩,
 ⟨none, none, .st 4 (.t 8) (.t 16), []⟩,
 ⟨some 9, none, .mv (.t 17), []⟩])
 (.seq
 (.ops 2 [⟨some 18, none, .fld 2 (.t 8), []⟩,
 ⟨some 19, none, .ld 1 false (.t 18), []⟩,
 ⟨some 20, none, .mv (.t 9), []⟩,
 ⟨some 6, none, .mv (.t 19), []⟩,
 ⟨some 7, none, .mv (.t 20), []⟩])
 .ret)))⟩
theorem F178_code : cfgA.code 178 = some F178 := by kernel_rfl

/-- (*ticketline/mem.Once).do -/
noncomputable def F179 : AFn := ⟨37, [.cell 4 4 true, .tmp 5], (.seq
 (.ops 0 [⟨some 3, none, .box 4 (.t 1) false, []⟩,
 ⟨some 4, none, .alloc [.int .i64 0, .int .i64 0, .int .u64 0, .int .u64 0] false, []⟩,
 ⟨some 5, none, .mv (.c (.int .i64 0)), []⟩])
 (.seq
 (.block 0
 (.seq
 (.ops 1 [⟨some 9, none, .mv (.t 0), []⟩,
 ⟨some 10, none, .call 180 [.t 9], []⟩,
 ⟨some 8, none, .mv (.t 10), []⟩])
 (.cond (.t 8)
 (.seq
 (.ops 2 [⟨some 11, none, .build [.int .i64 0, .int .i64 0, .int .u64 0, .int .u64 0] [], []⟩,
 ⟨none, none, .st 4 (.t 4) (.t 11), []⟩,
 ⟨some 5, none, .mv (.c (.int .i64 1)), []⟩])
 .ret)
 (.seq
 (.ops 3 [⟨some 13, none, .mv (.t 0), []⟩,
 ⟨some 14, none, .nilc (.t 13) (mok Tryz.prog), []⟩,
 ⟨some 15, none, .fld 1 (.t 14), []⟩,
 ⟨some 16, none, .fld 0 (.t 15), []⟩,
 ⟨some 17, none, .ld 1 false (.t 16), []⟩,
 ⟨some 18, none, .bin .neq (.t 17) (.c (.int .i64 0)), []⟩,
 ⟨some 12, none, .mv (.t 18), []⟩])
 (.cond (.t 12)
 (.seq
 (.ops 4 [⟨some 19, none, .build [.int .i64 0, .int .i64 0, .int .u64 0, .int .u64 0] [], []⟩,
 ⟨none, none, .st 4 (.t 4) (.t 19), []⟩,
 ⟨some 5, none, .mv (.c (.int .i64 11)), []⟩])
 .ret)
 .skip)))))
 (.seq
 (.ops 5 [⟨some 21, none, .mv (.t 0), []⟩,
 ⟨some 22, none, .nilc (.t 21) (mok Tryz.prog), []⟩,
 ⟨some 23, none, .fld 0 (.t 22), []⟩,
 ⟨some 24, none, .ld 1 false (.t 23), []⟩,
 ⟨some 25, none, .ld 4 true (.t 3), []⟩,
 ⟨some 6, none, .alloc [.int .i64 0, .int .i64 0, .int .u64 0, .int .u64 0] false, []⟩,
 ⟨some 26, none, .call 96 [.t 24, .t 25], []⟩,
 ⟨some 20, none, .mv (.t 26), []⟩,
 ⟨some 27, none, .ext (.t 20) 0, []⟩,
 ⟨some 28, none, .ext (.t 20) 1, []⟩,
 ⟨none, none, .st 4 (.t 6) (.t 27), []⟩,
 ⟨some 7, none, .mv (.t 28), []⟩])
 (.seq
 (.seq
 (.ops 6 [⟨some 29, none, .mv (.t 7), []⟩,
 ⟨some 30, none, .bin .eql (.t 29) (.c (.int .i64 0)), []⟩])
 (.cond (.t 30)
 (.ops 7 [⟨some 31, none, .mv (.t 0), []⟩,
 ⟨some 32, none, .ld 4 true (.t 6), []⟩,
 ⟨some 33, none, .nilc (.t 31) (mok Tryz.prog), []⟩,
 ⟨some 34, none, .fld 1 (.t 33), []⟩,
 ⟨none, none, .st 4 (.t 34) (.t 32), []⟩])
 .skip))
 (.seq
 (.ops 8 [⟨some 35, none, .ld 4 true (.t 6), []⟩,
 ⟨some 36, none, .mv (.t 7), []⟩,
 ⟨none, none, .st 4 (.t 4) (.t 35), []⟩,
 ⟨some 5, none, .mv (.t 36), []⟩])
 .ret)))))⟩
theorem F179_code : cfgA.code 179 = some F179 := by kernel_rfl

/-- (*ticketline/mem.Once).zero -/
noncomputable def F180 : AFn := ⟨12, [.tmp 2], (.seq
 (.ops 0 [⟨some 2, none, .mv (.c (.bool false)), []⟩])
 (.seq
 (.ops 1 [⟨some 3, none, .mv (.t 0), []⟩,
 ⟨some 4, none, .eqn .ptr false (.t 3), []⟩,
 ⟨some 5, none, .mv (.t 4), []⟩,
 ⟨some 6, some (5, false), .mv (.t 0), []⟩,
 ⟨some 7, some (5, false), .nilc (.t 6) (mok Tryz.prog), []⟩,
 ⟨some 8, some (5, false), .fld 0 (.t 7), []⟩,
 ⟨some 9, some (5, false), .ld 1 false (.t 8), []⟩,
 ⟨some 10, some (5, false), .eqn .ptr false (.t 9), []⟩,
 ⟨some 11, none, .pick (.t 5) (.c (.bool true)) (.t 10), []⟩,
 ⟨some 2, none, .mv (.t 11), []⟩])
 .ret))⟩
theorem F180_code : cfgA.code 180 = some F180 := by kernel_rfl

end Den
