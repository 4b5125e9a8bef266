/- Functions of the program, as den reads them. -/
import Derived.Test.YtajdklfckcgifaaGreatA
namespace Den
open Go Go.Proofs
set_option maxRecDepth 1000000

/-- (*ticketline/mem.Once).Load -/
noncomputable def F260 : AFn := ⟨18, [.tmp 4, .tmp 5], (.seq
 (.ops 0 [⟨some 4, none, .mv (.c (.int .u64 0)), []⟩,
 ⟨some 5, none, .mv (.c (.int .i64 0)), []⟩])
 (.seq
 (.ops 1 [⟨some 9, none, .mv (.t 0), []⟩,
 ⟨some 10, none, .mv (.t 1), []⟩,
 ⟨some 11, none, .build [.int .i64 0, .int .i64 0, .int .u64 0, .int .u64 0] [(0, 1, (.c (.int .i64 1))), (1, 1, (.t 10))], []⟩,
 ⟨some 12, none, .call 262 [.t 9, .t 11], []⟩,
 ⟨some 8, none, .mv (.t 12), []⟩,
 ⟨some 13, none, .ext (.t 8) 0, []⟩,
 ⟨some 14, none, .ext (.t 8) 1, []⟩,
 ⟨some 6, none, .alloc [.int .i64 0, .int .i64 0, .int .u64 0, .int .u64 0] false, []⟩,
 ⟨none, none, .st 4 (.t 6) (.t 13), []⟩,
 ⟨some 7, none, .mv (.t 14), []⟩])
 (.seq
 (.ops 2 [⟨some 15, none, .fld 2 (.t 6), []⟩,
 ⟨some 16, none, .ld 1 false (.t 15), []⟩,
 ⟨some 17, none, .mv (.t 7), []⟩,
 ⟨some 4, none, .mv (.t 16), []⟩,
 ⟨some 5, none, .mv (.t 17), []⟩])
 .ret)))⟩
theorem F260_code : cfgA.code 260 = some F260 := by kernel_rfl

/-- (*ticketline/mem.Once).do -/
noncomputable def F262 : AFn := ⟨37, [.cell 4 4 true, .tmp 5], (.seq
 (.ops 0 [⟨some 3, none, .box 4 (.t 1) false, []⟩,
 ⟨some 4, none, .alloc [.int .i64 0, .int .i64 0, .int .u64 0, .int .u64 0] false, []⟩,
 ⟨some 5, none, .mv (.c (.int .i64 0)), []⟩])
 (.seq
 (.block 0
 (.seq
 (.ops 1 [⟨some 9, none, .mv (.t 0), []⟩,
 ⟨some 10, none, .call 121 [.t 9], []⟩,
 ⟨some 8, none, .mv (.t 10), []⟩])
 (.cond (.t 8)
 (.seq
 (.ops 2 [⟨some 11, none, .build [.int .i64 0, .int .i64 0, .int .u64 0, .int .u64 0] [], []⟩,
 ⟨none, none, .st 4 (.t 4) (.t 11), []⟩,
 ⟨some 5, none, .mv (.c (.int .i64 1)), []⟩])
 .ret)
 (.seq
 (.ops 3 [⟨some 13, none, .mv (.t 0), []⟩,
 ⟨some 14, none, .nilc (.t 13) (mok Tryz.prog), []⟩,
 ⟨some 15, none, .fld 1 (.t 14), []⟩,
 ⟨some 16, none, .fld 0 (.t 15), []⟩,
 ⟨some 17, none, .ld 1 false (.t 16), []⟩,
 ⟨some 18, none, .bin .neq (.t 17) (.c (.int .i64 0)), []⟩,
 ⟨some 12, none, .mv (.t 18), []⟩])
 (.cond (.t 12)
 (.seq
 (.ops 4 [⟨some 19, none, .build [.int .i64 0, .int .i64 0, .int .u64 0, .int .u64 0] [], []⟩,
 ⟨none, none, .st 4 (.t 4) (.t 19), []⟩,
 ⟨some 5, none, .mv (.c (.int .i64 11)), []⟩])
 .ret)
 .skip)))))
 (.seq
 (.ops 5 [⟨some 21, none, .mv (.t 0), []⟩,
 ⟨some 22, none, .nilc (.t 21) (mok Tryz.prog), []⟩,
 ⟨some 23, none, .fld 0 (.t 22), []⟩,
 ⟨some 24, none, .ld 1 false (.t 23), []⟩,
 ⟨some 25, none, .ld 4 true (.t 3), []⟩,
 ⟨some 6, none, .alloc [.int .i64 0, .int .i64 0, .int .u64 0, .int .u64 0] false, []⟩,
 ⟨some 26, none, .call 103 [.t 24, .t 25], []⟩,
 ⟨some 20, none, .mv (.t 26), []⟩,
 ⟨some 27, none, .ext (.t 20) 0, []⟩,
 ⟨some 28, none, .ext (.t 20) 1, []⟩,
 ⟨none, none, .st 4 (.t 6) (.t 27), []⟩,
 ⟨some 7, none, .mv (.t 28), []⟩])
 (.seq
 (.seq
 (.ops 6 [⟨some 29, none, .mv (.t 7), []⟩,
 ⟨some 30, none, .bin .eql (.t 29) (.c (.int .i64 0)), []⟩])
 (.cond (.t 30)
 (.ops 7 [⟨some 31, none, .mv (.t 0), []⟩,
 ⟨some 32, none, .ld 4 true (.t 6), []⟩,
 ⟨some 33, none, .nilc (.t 31) (mok Tryz.prog), []⟩,
 ⟨some 34, none, .fld 1 (.t 33), []⟩,
 ⟨none, none, .st 4 (.t 34) (.t 32), []⟩])
 .skip))
 (.seq
 (.ops 8 [⟨some 35, none, .ld 4 true (.t 6), []⟩,
 ⟨some 36, none, .mv (.t 7), []⟩,
 ⟨none, none, .st 4 (.t 4) (.t 35), []⟩,
 ⟨some 5, none, .mv (.t 36), []⟩])
 .ret)))))⟩
theorem F262_code : cfgA.code 262 = some F262 := by kernel_rfl

end Den
