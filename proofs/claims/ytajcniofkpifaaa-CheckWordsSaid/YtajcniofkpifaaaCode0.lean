/- Functions of the program, as den reads them. -/
import Derived.Test.YtajcniofkpifaaaA
namespace Den
open Go Go.Proofs
set_option maxRecDepth 1000000

/-- ticketline/check.Word -/
noncomputable def F6 : AFn := ⟨24, [.tmp 2], (.seq
 (.ops 0 [⟨some 2, none, .mv (.c (.str [])), []⟩])
 (.seq
 (.seq
 (.ops 1 [⟨some 3, none, .mv (.t 0), []⟩])
 (.block 0
 (.seq
 (.ops 2 [⟨some 5, none, .bin .eql (.t 3) (.c (.int .i64 0)), []⟩,
 ⟨some 4, none, .mv (.t 5), []⟩])
 (.cond (.t 4)
 (.seq
 (.ops 3 [⟨some 2, none, .mv (.c (.str [102, 105, 110, 101])), []⟩])
 .ret)
 (.seq
 (.ops 4 [⟨some 7, none, .bin .eql (.t 3) (.c (.int .i64 1)), []⟩,
 ⟨some 6, none, .mv (.t 7), []⟩])
 (.cond (.t 6)
 (.seq
 (.ops 5 [⟨some 2, none, .mv (.c (.str [102, 111, 114, 109])), []⟩])
 .ret)
 (.seq
 (.ops 6 [⟨some 9, none, .bin .eql (.t 3) (.c (.int .i64 2)), []⟩,
 ⟨some 8, none, .mv (.t 9), []⟩])
 (.cond (.t 8)
 (.seq
 (.ops 7 [⟨some 2, none, .mv (.c (.str [108, 101, 118, 101, 108])), []⟩])
 .ret)
 (.seq
 (.ops 8 [⟨some 11, none, .bin .eql (.t 3) (.c (.int .i64 3)), []⟩,
 ⟨some 10, none, .mv (.t 11), []⟩])
 (.cond (.t 10)
 (.seq
 (.ops 9 [⟨some 2, none, .mv (.c (.str [102, 101, 110, 99, 101])), []⟩])
 .ret)
 (.seq
 (.ops 10 [⟨some 13, none, .bin .eql (.t 3) (.c (.int .i64 4)), []⟩,
 ⟨some 12, none, .mv (.t 13), []⟩])
 (.cond (.t 12)
 (.seq
 (.ops 11 [⟨some 2, none, .mv (.c (.str [107, 101, 121, 115])), []⟩])
 .ret)
 (.seq
 (.ops 12 [⟨some 15, none, .bin .eql (.t 3) (.c (.int .i64 5)), []⟩,
 ⟨some 14, none, .mv (.t 15), []⟩])
 (.cond (.t 14)
 (.seq
 (.ops 13 [⟨some 2, none, .mv (.c (.str [114, 105, 103, 104, 116])), []⟩])
 .ret)
 (.seq
 (.ops 14 [⟨some 17, none, .bin .eql (.t 3) (.c (.int .i64 6)), []⟩,
 ⟨some 16, none, .mv (.t 17), []⟩])
 (.cond (.t 16)
 (.seq
 (.ops 15 [⟨some 2, none, .mv (.c (.str [108, 111, 97, 100])), []⟩])
 .ret)
 (.seq
 (.ops 16 [⟨some 19, none, .bin .eql (.t 3) (.c (.int .i64 7)), []⟩,
 ⟨some 18, none, .mv (.t 19), []⟩])
 (.cond (.t 18)
 (.seq
 (.ops 17 [⟨some 2, none, .mv (.c (.str [116, 119, 105, 99, 101])), []⟩])
 .ret)
 (.seq
 (.ops 18 [⟨some 21, none, .bin .eql (.t 3) (.c (.int .i64 8)), []⟩,
 ⟨some 20, none, .mv (.t 21), []⟩])
 (.cond (.t 20)
 (.seq
 (.ops 19 [⟨some 2, none, .mv (.c (.str [108, 111, 115, 116])), []⟩])
 .ret)
 (.seq
 (.ops 20 [⟨some 23, none, .bin .eql (.t 3) (.c (.int .i64 9)), []⟩,
 ⟨some 22, none, .mv (.t 23), []⟩])
 (.cond (.t 22)
 (.seq
 (.ops 21 [⟨some 2, none, .mv (.c (.str [99, 104, 105, 108, 100])), []⟩])
 .ret)
 .skip))))))))))))))))))))))
 (.seq
 (.ops 22 [⟨some 2, none, .mv (.c (.str [])), []⟩])
 .ret)))⟩
theorem F6_code : cfgA.code 6 = some F6 := by kernel_rfl

/-- ticketline/ticketlinelaw23.known -/
noncomputable def F7 : AFn := ⟨199, [.tmp 0], (.seq
 (.ops 0 [⟨some 0, none, .mv (.c (.bool false)), []⟩])
 (.seq
 (.ops 1 [⟨some 23, none, .call 13 [.c (.int .i64 2)], []⟩,
 ⟨some 24, none, .build [.str [], .str []] [(1, 1, (.t 23))], []⟩,
 ⟨some 25, none, .call 13 [.c (.int .i64 3)], []⟩,
 ⟨some 26, none, .build [.str [], .str []] [(0, 1, (.c (.str [109]))), (1, 1, (.t 25))], []⟩,
 ⟨some 27, none, .bslice [.str [], .str []] 2 2 [(0, (.t 24)), (1, (.t 26))] false false, []⟩,
 ⟨some 28, none, .call 12 [.c (.int .i64 1), .c (.str []), .c (.str []), .c (.int .i64 0), .t 27], []⟩,
 ⟨some 22, none, .mv (.t 28), []⟩,
 ⟨some 29, none, .ext (.t 22) 0, []⟩,
 ⟨some 30, none, .ext (.t 22) 1, []⟩,
 ⟨some 1, none, .alloc (List.replicate 128 (.int .u64 0)) false, []⟩,
 ⟨none, none, .st 128 (.t 1) (.t 29), []⟩,
 ⟨some 2, none, .mv (.t 30), []⟩])
 (.seq
 (.ops 2 [⟨some 32, none, .call 14 [.c (.int .u8 97), .c (.int .i64 4)], []⟩,
 ⟨some 33, none, .call 12 [.c (.int .i64 0), .c (.str []), .c (.str [109]), .c (.int .i64 3), .t 32], []⟩,
 ⟨some 31, none, .mv (.t 33), []⟩,
 ⟨some 34, none, .ext (.t 31) 0, []⟩,
 ⟨some 35, none, .ext (.t 31) 1, []⟩,
 ⟨some 3, none, .alloc (List.replicate 128 (.int .u64 0)) false, []⟩,
 ⟨none, none, .st 128 (.t 3) (.t 34), []⟩,
 ⟨some 4, none, .mv (.t 35), []⟩])
 (.seq
 (.ops 3 [⟨some 37, none, .call 14 [.c (.int .u8 109), .c (.int .i64 4)], []⟩,
 ⟨some 38, none, .call 12 [.c (.int .i64 0), .c (.str [109]), .c (.str []), .c (.int .i64 0), .t 37], []⟩,
 ⟨some 36, none, .mv (.t 38), []⟩,
 ⟨some 39, none, .ext (.t 36) 0, []⟩,
 ⟨some 40, none, .ext (.t 36) 1, []⟩,
 ⟨some 5, none, .alloc (List.replicate 128 (.int .u64 0)) false, []⟩,
 ⟨none, none, .st 128 (.t 5) (.t 39), []⟩,
 ⟨some 6, none, .mv (.t 40), []⟩])
 (.seq
 (.ops 4 [⟨some 41, none, .ld 128 true (.t 1), []⟩,
 ⟨some 42, none, .ld 128 true (.t 3), []⟩,
 ⟨some 43, none, .ld 128 true (.t 5), []⟩,
 ⟨some 44, none, .bslice (List.replicate 128 (.int .u64 0)) 128 3 [(0, (.t 41)), (1, (.t 42)), (2, (.t 43))] false false, []⟩,
 ⟨some 45, none, .call 15 [.t 44, .c (.int .i64 1), .c (.int .i64 0)], []⟩,
 ⟨some 7, none, .mv (.t 45), []⟩])
 (.seq
 (.seq
 (.ops 5 [⟨some 46, none, .mv (.t 7), []⟩,
 ⟨some 47, none, .eqn .ptr false (.t 46), []⟩,
 ⟨some 48, none, .mv (.t 47), []⟩,
 ⟨some 49, some (48, false), .mv (.t 7), []⟩,
 ⟨some 50, some (48, false), .call 16 [.t 49, .c (.nils)], []⟩,
 ⟨some 51, some (48, false), .un .not (.t 50), []⟩,
 ⟨some 52, none, .pick (.t 48) (.c (.bool true)) (.t 51), []⟩,
 ⟨some 53, none, .mv (.t 52), []⟩,
 ⟨some 54, some (53, false), .mv (.t 7), []⟩,
 ⟨some 55, some (53, false), .call 11 [.t 54], []⟩,
 ⟨some 56, some (53, false), .un .not (.t 55), []⟩,
 ⟨some 57, none, .pick (.t 53) (.c (.bool true)) (.t 56), []⟩])
 (.cond (.t 57)
 (.seq
 (.ops 6 [⟨some 0, none, .mv (.c (.bool false)), []⟩])
 .ret)
 .skip))
 (.seq
 (.seq
 (.ops 7 [⟨some 59, none, .mv (.t 7), []⟩,
 ⟨some 60, none, .call 10 [.t 59], []⟩,
 ⟨some 58, none, .mv (.t 60), []⟩,
 ⟨some 61, none, .ext (.t 58) 0, []⟩,
 ⟨some 62, none, .ext (.t 58) 1, []⟩,
 ⟨some 8, none, .mv (.t 61), []⟩,
 ⟨some 9, none, .mv (.t 62), []⟩])
 (.seq
 (.ops 8 [⟨some 63, none, .mv (.t 8), []⟩,
 ⟨some 64, none, .len .slice (.t 63), []⟩,
 ⟨some 65, none, .bin .neq (.t 64) (.c (.int .i64 8)), []⟩,
 ⟨some 66, none, .mv (.t 65), []⟩,
 ⟨some 67, some (66, false), .mv (.t 9), []⟩,
 ⟨some 68, some (66, false), .bin .neq (.t 67) (.c (.int .i64 0)), []⟩,
 ⟨some 69, none, .pick (.t 66) (.c (.bool true)) (.t 68), []⟩])
 (.cond (.t 69)
 (.seq
 (.ops 9 [⟨some 0, none, .mv (.c (.bool false)), []⟩])
 .ret)
 .skip)))
 (.seq
 (.ops 10 [⟨some 71, none, .call 14 [.c (.int .u8 97), .c (.int .i64 4)], []⟩,
 ⟨some 72, none, .call 12 [.c (.int .i64 0), .c (.str []), .c (.str [109]), .c (.int .i64 0), .t 71], []⟩,
 ⟨some 70, none, .mv (.t 72), []⟩,
 ⟨some 73, none, .ext (.t 70) 0, []⟩,
 ⟨some 74, none, .ext (.t 70) 1, []⟩,
 ⟨some 10, none, .alloc (List.replicate 128 (.int .u64 0)) false, []⟩,
 ⟨none, none, .st 128 (.t 10) (.t 73), []⟩,
 ⟨some 11, none, .mv (.t 74), []⟩])
 (.seq
 (.ops 11 [⟨some 76, none, .call 14 [.c (.int .u8 109), .c (.int .i64 3)], []⟩,
 ⟨some 77, none, .call 12 [.c (.int .i64 0), .c (.str [109]), .c (.str []), .c (.int .i64 0), .t 76], []⟩,
 ⟨some 75, none, .mv (.t 77), []⟩,
 ⟨some 78, none, .ext (.t 75) 0, []⟩,
 ⟨some 79, none, .ext (.t 75) 1, []⟩,
 ⟨some 12, none, .alloc (List.replicate 128 (.int .u64 0)) false, []⟩,
 ⟨none, none, .st 128 (.t 12) (.t 78), []⟩,
 ⟨some 13, none, .mv (.t 79), []⟩])
 (.seq
 (.ops 12 [⟨some 81, none, .call 13 [.c (.int .i64 3)], []⟩,
 ⟨some 82, none, .build [.str [], .str []] [(1, 1, (.t 81))], []⟩,
 ⟨some 83, none, .call 13 [.c (.int .i64 3)], []⟩,
 ⟨some 84, none, .build [.str [], .str []] [(0, 1, (.c (.str [109]))), (1, 1, (.t 83))], []⟩,
 ⟨some 85, none, .bslice [.str [], .str []] 2 2 [(0, (.t 82)), (1, (.t 84))] false false, []⟩,
 ⟨some 86, none, .call 12 [.c (.int .i64 1), .c (.str []), .c (.str []), .c (.int .i64 0), .t 85], []⟩,
 ⟨some 80, none, .mv (.t 86), []⟩,
 ⟨some 87, none, .ext (.t 80) 0, []⟩,
 ⟨some 88, none, .ext (.t 80) 1, []⟩,
 ⟨some 14, none, .alloc (List.replicate 128 (.int .u64 0)) false, []⟩,
 ⟨none, none, .st 128 (.t 14) (.t 87), []⟩,
 ⟨some 15, none, .mv (.t 88), []⟩])
 (.seq
 (.ops 13 [⟨some 89, none, .ld 128 true (.t 1), []⟩,
 ⟨some 90, none, .ld 128 true (.t 10), []⟩,
 ⟨some 91, none, .ld 128 true (.t 5), []⟩,
 ⟨some 92, none, .bslice (List.replicate 128 (.int .u64 0)) 128 3 [(0, (.t 89)), (1, (.t 90)), (2, (.t 91))] false false, []⟩,
 ⟨some 94, none, .mv (.t 7), []⟩,
 ⟨some 96, none, .mv (.t 7), []⟩,
 ⟨some 98, none, .mv (.t 7), []⟩,
 ⟨some 100, none, .ld 128 true (.t 1), []⟩,
 ⟨some 101, none, .ld 128 true (.t 3), []⟩,
 ⟨some 102, none, .ld 128 true (.t 12), []⟩,
 ⟨some 103, none, .bslice (List.replicate 128 (.int .u64 0)) 128 3 [(0, (.t 100)), (1, (.t 101)), (2, (.t 102))] false false, []⟩,
 ⟨some 93, none, .call 15 [.t 92, .c (.int .i64 1), .c (.int .i64 0)], [(100, .ld 128 true (.t 1)), (101, .ld 128 true (.t 3)), (102, .ld 128 true (.t 12))]⟩,
 ⟨some 95, none, .call 17 [.t 94], [(100, .ld 128 true (.t 1)), (101, .ld 128 true (.t 3)), (102, .ld 128 true (.t 12))]⟩,
 ⟨some 97, none, .call 17 [.t 96], [(100, .ld 128 true (.t 1)), (101, .ld 128 true (.t 3)), (102, .ld 128 true (.t 12))]⟩,
 ⟨some 99, none, .call 17 [.t 98], [(100, .ld 128 true (.t 1)), (101, .ld 128 true (.t 3)), (102, .ld 128 true (.t 12))]⟩,
 ⟨some 104, none, .call 15 [.t 103, .c (.int .i64 1), .c (.int .i64 0)], []⟩,
 ⟨some 16, none, .mv (.t 93), []⟩,
 ⟨some 17, none, .mv (.t 95), []⟩,
 ⟨some 18, none, .mv (.t 97), []⟩,
 ⟨some 19, none, .mv (.t 99), []⟩,
 ⟨some 20, none, .mv (.t 104), []⟩])
 (.seq
 (.ops 14 [⟨some 105, none, .ld 128 true (.t 14), []⟩,
 ⟨some 106, none, .ld 128 true (.t 3), []⟩,
 ⟨some 107, none, .ld 128 true (.t 5), []⟩,
 ⟨some 108, none, .bslice (List.replicate 128 (.int .u64 0)) 128 3 [(0, (.t 105)), (1, (.t 106)), (2, (.t 107))] false false, []⟩,
 ⟨some 109, none, .call 15 [.t 108, .c (.int .i64 1), .c (.int .i64 0)], []⟩,
 ⟨some 21, none, .mv (.t 109), []⟩])
 (.seq
 (.seq
 (.ops 15 [⟨some 110, none, .mv (.t 16), []⟩,
 ⟨some 111, none, .eqn .ptr false (.t 110), []⟩,
 ⟨some 112, none, .mv (.t 111), []⟩,
 ⟨some 113, some (112, false), .mv (.t 17), []⟩,
 ⟨some 114, some (112, false), .eqn .ptr false (.t 113), []⟩,
 ⟨some 115, none, .pick (.t 112) (.c (.bool true)) (.t 114), []⟩,
 ⟨some 116, none, .mv (.t 115), []⟩,
 ⟨some 117, some (116, false), .mv (.t 18), []⟩,
 ⟨some 118, some (116, false), .eqn .ptr false (.t 117), []⟩,
 ⟨some 119, none, .pick (.t 116) (.c (.bool true)) (.t 118), []⟩,
 ⟨some 120, none, .mv (.t 119), []⟩,
 ⟨some 121, some (120, false), .mv (.t 19), []⟩,
 ⟨some 122, some (120, false), .eqn .ptr false (.t 121), []⟩,
 ⟨some 123, none, .pick (.t 120) (.c (.bool true)) (.t 122), []⟩,
 ⟨some 124, none, .mv (.t 123), []⟩,
 ⟨some 125, some (124, false), .mv (.t 20), []⟩,
 ⟨some 126, some (124, false), .eqn .ptr false (.t 125), []⟩,
 ⟨some 127, none, .pick (.t 124) (.c (.bool true)) (.t 126), []⟩,
 ⟨some 128, none, .mv (.t 127), []⟩,
 ⟨some 129, some (128, false), .mv (.t 21), []⟩,
 ⟨some 130, some (128, false), .eqn .ptr false (.t 129), []⟩,
 ⟨some 131, none, .pick (.t 128) (.c (.bool true)) (.t 130), []⟩,
 ⟨some 132, none, .mv (.t 131), []⟩,
 ⟨some 133, some (132, false), .mv (.t 17), []⟩,
 ⟨some 134, some (132, false), .call 18 [.t 133, .c (.int .i64 3)], []⟩,
 ⟨some 135, some (132, false), .bin .neq (.t 134) (.c (.int .i64 0)), []⟩,
 ⟨some 136, none, .pick (.t 132) (.c (.bool true)) (.t 135), []⟩,
 ⟨some 137, none, .mv (.t 136), []⟩,
 ⟨some 138, some (137, false), .mv (.t 18), []⟩,
 ⟨some 139, some (137, false), .call 19 [.t 138, .c (.int .i64 2)], []⟩,
 ⟨some 140, some (137, false), .bin .neq (.t 139) (.c (.int .i64 0)), []⟩,
 ⟨some 141, none, .pick (.t 137) (.c (.bool true)) (.t 140), []⟩,
 ⟨some 142, none, .mv (.t 141), []⟩,
 ⟨some 143, some (142, false), .mv (.t 19), []⟩,
 ⟨some 144, some (142, false), .call 19 [.t 143, .c (.int .i64 0)], []⟩,
 ⟨some 145, some (142, false), .bin .neq (.t 144) (.c (.int .i64 0)), []⟩,
 ⟨some 146, none, .pick (.t 142) (.c (.bool true)) (.t 145), []⟩])
 (.cond (.t 146)
 (.seq
 (.ops 16 [⟨some 0, none, .mv (.c (.bool false)), []⟩])
 .ret)
 .skip))
 (.seq
 (.seq
 (.ops 17 [⟨some 147, none, .mv (.t 16), []⟩,
 ⟨some 148, none, .call 20 [.c (.int .i64 2), .c (.int .i64 5)], []⟩,
 ⟨some 149, none, .bslice [.int .i64 0, .int .i64 0] 2 1 [(0, (.t 148))] false false, []⟩,
 ⟨some 150, none, .call 16 [.t 147, .t 149], []⟩,
 ⟨some 151, none, .un .not (.t 150), []⟩,
 ⟨some 152, none, .mv (.t 151), []⟩,
 ⟨some 153, some (152, false), .mv (.t 17), []⟩,
 ⟨some 154, some (152, false), .call 20 [.c (.int .i64 2), .c (.int .i64 5)], []⟩,
 ⟨some 155, some (152, false), .call 20 [.c (.int .i64 3), .c (.int .i64 9)], []⟩,
 ⟨some 156, some (152, false), .bslice [.int .i64 0, .int .i64 0] 2 2 [(0, (.t 154)), (1, (.t 155))] false false, []⟩,
 ⟨some 157, some (152, false), .call 16 [.t 153, .t 156], []⟩,
 ⟨some 158, some (152, false), .un .not (.t 157), []⟩,
 ⟨some 159, none, .pick (.t 152) (.c (.bool true)) (.t 158), []⟩,
 ⟨some 160, none, .mv (.t 159), []⟩,
 ⟨some 161, some (160, false), .mv (.t 18), []⟩,
 ⟨some 162, some (160, false), .call 20 [.c (.int .i64 2), .c (.int .i64 3)], []⟩,
 ⟨some 163, some (160, false), .call 20 [.c (.int .i64 1), .c (.int .i64 8)], []⟩,
 ⟨some 164, some (160, false), .call 20 [.c (.int .i64 3), .c (.int .i64 8)], []⟩,
 ⟨some 165, some (160, false), .bslice [.int .i64 0, .int .i64 0] 2 3 [(0, (.t 162)), (1, (.t 163)), (2, (.t 164))] false false, []⟩,
 ⟨some 166, some (160, false), .call 16 [.t 161, .t 165], []⟩,
 ⟨some 167, some (160, false), .un .not (.t 166), []⟩,
 ⟨some 168, none, .pick (.t 160) (.c (.bool true)) (.t 167), []⟩,
 ⟨some 169, none, .mv (.t 168), []⟩,
 ⟨some 170, some (169, false), .mv (.t 19), []⟩,
 ⟨some 171, some (169, false), .call 20 [.c (.int .i64 0), .c (.int .i64 9)], []⟩,
 ⟨some 172, some (169, false), .call 20 [.c (.int .i64 1), .c (.int .i64 8)], []⟩,
 ⟨some 173, some (169, false), .call 20 [.c (.int .i64 2), .c (.int .i64 8)], []⟩,
 ⟨some 174, some (169, false), .call 20 [.c (.int .i64 3), .c (.int .i64 8)], []⟩,
 ⟨some 175, some (169, false), .bslice [.int .i64 0, .int .i64 0] 2 4 [(0, (.t 171)), (1, (.t 172)), (2, (.t 173)), (3, (.t 174))] false false, []⟩,
 ⟨some 176, some (169, false), .call 16 [.t 170, .t 175], []⟩,
 ⟨some 177, some (169, false), .un .not (.t 176), []⟩,
 ⟨some 178, none, .pick (.t 169) (.c (.bool true)) (.t 177), []⟩])
 (.cond (.t 178)
 (.seq
 (.ops 18 [⟨some 0, none, .mv (.c (.bool false)), []⟩])
 .ret)
 .skip))
 (.seq
 (.ops 19 [⟨some 179, none, .mv (.t 20), []⟩,
 ⟨some 180, none, .call 20 [.c (.int .i64 3), .c (.int .i64 6)], []⟩,
 ⟨some 181, none, .bslice [.int .i64 0, .int .i64 0] 2 1 [(0, (.t 180))] false false, []⟩,
 ⟨some 182, none, .call 16 [.t 179, .t 181], []⟩,
 ⟨some 183, none, .mv (.t 182), []⟩,
 ⟨some 184, some (183, true), .mv (.t 21), []⟩,
 ⟨some 185, some (183, true), .call 20 [.c (.int .i64 3), .c (.int .i64 3)], []⟩,
 ⟨some 186, some (183, true), .call 20 [.c (.int .i64 3), .c (.int .i64 7)], []⟩,
 ⟨some 187, some (183, true), .call 20 [.c (.int .i64 2), .c (.int .i64 8)], []⟩,
 ⟨some 188, some (183, true), .bslice [.int .i64 0, .int .i64 0] 2 3 [(0, (.t 185)), (1, (.t 186)), (2, (.t 187))] false false, []⟩,
 ⟨some 189, some (183, true), .call 16 [.t 184, .t 188], []⟩,
 ⟨some 190, none, .pick (.t 183) (.t 189) (.c (.bool false)), []⟩,
 ⟨some 191, none, .mv (.t 190), []⟩,
 ⟨some 192, some (191, true), .call 6 [.c (.int .i64 8)], []⟩,
 ⟨some 193, some (191, true), .bin .eql (.t 192) (.c (.str [108, 111, 115, 116])), []⟩,
 ⟨some 194, none, .pick (.t 191) (.t 193) (.c (.bool false)), []⟩,
 ⟨some 195, none, .mv (.t 194), []⟩,
 ⟨some 196, some (195, true), .call 6 [.c (.int .i64 10)], []⟩,
 ⟨some 197, some (195, true), .bin .eql (.t 196) (.c (.str [])), []⟩,
 ⟨some 198, none, .pick (.t 195) (.t 197) (.c (.bool false)), []⟩,
 ⟨some 0, none, .mv (.t 198), []⟩])
 .ret)))))))))))))))⟩
theorem F7_code : cfgA.code 7 = some F7 := by kernel_rfl

/-- ticketline/check.Faults: the round 0 -/
@[reducible] noncomputable def B8x0 : AC := (.seq
 (.ops 6 [⟨some 25, none, .bin .lss (.t 24) (.t 23), []⟩])
 (.seq
 (.cond (.t 25)
 .skip
 (.exit 0))
 (.seq
 (.block 1
 (.seq
 (.ops 7 [⟨some 26, none, .ixa none 131 (.t 22) (.t 24), []⟩,
 ⟨some 27, none, .ld 131 true (.t 26), []⟩,
 ⟨some 8, none, .alloc [.int .i64 0, .int .i64 0, .int .u64 0, .int .u64 0, .int .u64 0, .int .u64 0, .int .u64 0, .int .u64 0, .int .u64 0, .int .u64 0, .int .u64 0, .int .u64 0, .int .u64 0, .int .u64 0, .int .u64 0, .int .u64 0, .int .u64 0, .int .u64 0, .int .u64 0, .int .u64 0, .int .u64 0, .int .u64 0, .int .u64 0, .int .u64 0, .int .u64 0, .int .u64 0, .int .u64 0, .int .u64 0, .int .u64 0, .int .u64 0, .int .u64 0, .int .u64 0, .int .u64 0, .int .u64 0, .int .u64 0, .int .u64 0, .int .u64 0, .int .u64 0, .int .u64 0, .int .u64 0, .int .u64 0, .int .u64 0, .int .u64 0, .int .u64 0, .int .u64 0, .int .u64 0, .int .u64 0, .int .u64 0, .int .u64 0, .int .u64 0, .int .u64 0, .int .u64 0, .int .u64 0, .int .u64 0, .int .u64 0, .int .u64 0, .int .u64 0, .int .u64 0, .int .u64 0, .int .u64 0, .int .u64 0, .int .u64 0, .int .u64 0, .int .u64 0, .int .u64 0, .int .u64 0, .int .u64 0, .int .u64 0, .int .u64 0, .int .u64 0, .int .u64 0, .int .u64 0, .int .u64 0, .int .u64 0, .int .u64 0, .int .u64 0, .int .u64 0, .int .u64 0, .int .u64 0, .int .u64 0, .int .u64 0, .int .u64 0, .int .u64 0, .int .u64 0, .int .u64 0, .int .u64 0, .int .u64 0, .int .u64 0, .int .u64 0, .int .u64 0, .int .u64 0, .int .u64 0, .int .u64 0, .int .u64 0, .int .u64 0, .int .u64 0, .int .u64 0, .int .u64 0, .int .u64 0, .int .u64 0, .int .u64 0, .int .u64 0, .int .u64 0, .int .u64 0, .int .u64 0, .int .u64 0, .int .u64 0, .int .u64 0, .int .u64 0, .int .u64 0, .int .u64 0, .int .u64 0, .int .u64 0, .int .u64 0, .int .u64 0, .int .u64 0, .int .u64 0, .int .u64 0, .int .u64 0, .int .u64 0, .int .u64 0, .int .u64 0, .int .u64 0, .int .u64 0, .int .u64 0, .int .u64 0, .int .u64 0, .int .u64 0, .int .u64 0, .int .u64 0, .int .i64 0] false, []⟩,
 ⟨none, none, .st 131 (.t 8) (.t 27), []⟩])
 (.seq
 (.ops 8 [⟨some 28, none, .fld 130 (.t 8), []⟩,
 ⟨some 29, none, .ld 1 false (.t 28), []⟩,
 ⟨some 30, none, .bin .neq (.t 29) (.c (.int .i64 0)), []⟩])
 (.cond (.t 30)
 (.ops 9 [⟨some 31, none, .mv (.t 6), []⟩,
 ⟨some 32, none, .fld 0 (.t 8), []⟩,
 ⟨some 33, none, .ld 1 false (.t 32), []⟩,
 ⟨some 34, none, .fld 130 (.t 8), []⟩,
 ⟨some 35, none, .ld 1 false (.t 34), []⟩,
 ⟨some 36, none, .build [.int .i64 0, .int .i64 0] [(0, 1, (.t 33)), (1, 1, (.t 35))], []⟩,
 ⟨some 37, none, .bslice [.int .i64 0, .int .i64 0] 2 1 [(0, (.t 36))] false false, []⟩,
 ⟨some 38, none, .app 2 16 (.t 31) (.t 37) false, []⟩,
 ⟨some 6, none, .mv (.t 38), []⟩])
 .skip))))
 (.ops 10 [⟨some 39, none, .bin .add (.t 24) (.c (.int .i64 1)), []⟩,
 ⟨some 24, none, .mv (.t 39), []⟩]))))

/-- ticketline/check.Faults: the round 1 -/
@[reducible] noncomputable def B8x1 : AC := (.seq
 (.ops 12 [⟨some 44, none, .bin .lss (.t 43) (.t 42), []⟩])
 (.seq
 (.cond (.t 44)
 .skip
 (.exit 2))
 (.seq
 (.block 3
 (.seq
 (.ops 13 [⟨some 45, none, .ixa none 1 (.t 41) (.t 43), []⟩,
 ⟨some 46, none, .ld 1 false (.t 45), []⟩,
 ⟨some 10, none, .mv (.t 46), []⟩])
 (.seq
 (.ops 14 [⟨some 47, none, .mv (.t 4), []⟩,
 ⟨some 48, none, .nilc (.t 47) (mok Try.prog), []⟩,
 ⟨some 49, none, .fld 1 (.t 48), []⟩,
 ⟨some 50, none, .ld 1 false (.t 49), []⟩,
 ⟨some 51, none, .mv (.t 10), []⟩,
 ⟨some 52, none, .lkp .int (.bool false) false (.t 50) (.t 51), []⟩,
 ⟨some 53, none, .un .not (.t 52), []⟩])
 (.cond (.t 53)
 (.ops 15 [⟨some 54, none, .mv (.t 6), []⟩,
 ⟨some 55, none, .mv (.t 10), []⟩,
 ⟨some 56, none, .build [.int .i64 0, .int .i64 0] [(0, 1, (.t 55)), (1, 1, (.c (.int .i64 8)))], []⟩,
 ⟨some 57, none, .bslice [.int .i64 0, .int .i64 0] 2 1 [(0, (.t 56))] false false, []⟩,
 ⟨some 58, none, .app 2 16 (.t 54) (.t 57) false, []⟩,
 ⟨some 6, none, .mv (.t 58), []⟩])
 .skip))))
 (.ops 16 [⟨some 59, none, .bin .add (.t 43) (.c (.int .i64 1)), []⟩,
 ⟨some 43, none, .mv (.t 59), []⟩]))))

/-- ticketline/check.Faults -/
noncomputable def F8 : AFn := ⟨61, [.tmp 2, .tmp 3], (.seq
 (.ops 0 [⟨some 2, none, .mv (.c (.nils)), []⟩,
 ⟨some 3, none, .mv (.c (.int .i64 0)), []⟩])
 (.seq
 (.ops 1 [⟨some 12, none, .mv (.t 0), []⟩,
 ⟨some 13, none, .call 21 [.t 12], []⟩,
 ⟨some 11, none, .mv (.t 13), []⟩,
 ⟨some 14, none, .ext (.t 11) 0, []⟩,
 ⟨some 15, none, .ext (.t 11) 1, []⟩,
 ⟨some 4, none, .mv (.t 14), []⟩,
 ⟨some 5, none, .mv (.t 15), []⟩])
 (.seq
 (.seq
 (.ops 2 [⟨some 16, none, .mv (.t 5), []⟩,
 ⟨some 17, none, .bin .neq (.t 16) (.c (.int .i64 0)), []⟩])
 (.cond (.t 17)
 (.seq
 (.ops 3 [⟨some 18, none, .mv (.t 5), []⟩,
 ⟨some 2, none, .mv (.c (.nils)), []⟩,
 ⟨some 3, none, .mv (.t 18), []⟩])
 .ret)
 .skip))
 (.seq
 (.ops 4 [⟨some 6, none, .mv (.c (.nils)), []⟩])
 (.seq
 (.seq
 (.ops 5 [⟨some 19, none, .mv (.t 4), []⟩,
 ⟨some 20, none, .nilc (.t 19) (mok Try.prog), []⟩,
 ⟨some 21, none, .fld 2 (.t 20), []⟩,
 ⟨some 22, none, .ld 1 false (.t 21), []⟩,
 ⟨some 23, none, .len .slice (.t 22), []⟩,
 ⟨some 24, none, .mv (.c (.int .i64 0)), []⟩])
 (.block 0
 (.loop [] B8x0)))
 (.seq
 (.seq
 (.ops 11 [⟨some 40, none, .mv (.t 0), []⟩,
 ⟨some 41, none, .call 22 [.t 40], []⟩,
 ⟨some 42, none, .len .slice (.t 41), []⟩,
 ⟨some 43, none, .mv (.c (.int .i64 0)), []⟩])
 (.block 2
 (.loop [] B8x1)))
 (.seq
 (.ops 17 [⟨some 60, none, .mv (.t 6), []⟩,
 ⟨some 2, none, .mv (.t 60), []⟩,
 ⟨some 3, none, .mv (.c (.int .i64 0)), []⟩])
 .ret)))))))⟩
theorem F8_code : cfgA.code 8 = some F8 := by kernel_rfl

/-- ticketline/check.First -/
noncomputable def F9 : AFn := ⟨20, [.cell 2 2 true, .tmp 3], (.seq
 (.ops 0 [⟨some 2, none, .alloc [.int .i64 0, .int .i64 0] false, []⟩,
 ⟨some 3, none, .mv (.c (.int .i64 0)), []⟩])
 (.seq
 (.ops 1 [⟨some 7, none, .mv (.t 0), []⟩,
 ⟨some 8, none, .call 8 [.t 7], []⟩,
 ⟨some 6, none, .mv (.t 8), []⟩,
 ⟨some 9, none, .ext (.t 6) 0, []⟩,
 ⟨some 10, none, .ext (.t 6) 1, []⟩,
 ⟨some 4, none, .mv (.t 9), []⟩,
 ⟨some 5, none, .mv (.t 10), []⟩])
 (.seq
 (.seq
 (.ops 2 [⟨some 11, none, .mv (.t 4), []⟩,
 ⟨some 12, none, .len .slice (.t 11), []⟩,
 ⟨some 13, none, .bin .eql (.t 12) (.c (.int .i64 0)), []⟩])
 (.cond (.t 13)
 (.seq
 (.ops 3 [⟨some 14, none, .build [.int .i64 0, .int .i64 0] [], []⟩,
 ⟨some 15, none, .mv (.t 5), []⟩,
 ⟨none, none, .st 2 (.t 2) (.t 14), []⟩,
 ⟨some 3, none, .mv (.t 15), []⟩])
 .ret)
 .skip))
 (.seq
 (.ops 4 [⟨some 16, none, .mv (.t 4), []⟩,
 ⟨some 17, none, .ixa none 2 (.t 16) (.c (.int .i64 0)), []⟩,
 ⟨some 18, none, .ld 2 true (.t 17), []⟩,
 ⟨some 19, none, .mv (.t 5), []⟩,
 ⟨none, none, .st 2 (.t 2) (.t 18), []⟩,
 ⟨some 3, none, .mv (.t 19), []⟩])
 .ret))))⟩
theorem F9_code : cfgA.code 9 = some F9 := by kernel_rfl

/-- ticketline/check.Pairs: the round 0 -/
@[reducible] noncomputable def B10x0 : AC := (.seq
 (.ops 8 [⟨some 28, none, .bin .lss (.t 27) (.t 26), []⟩])
 (.seq
 (.cond (.t 28)
 .skip
 (.exit 0))
 (.seq
 (.block 1
 (.seq
 (.ops 9 [⟨some 29, none, .ixa none 131 (.t 25) (.t 27), []⟩,
 ⟨some 30, none, .ld 131 true (.t 29), []⟩,
 ⟨some 8, none, .alloc [.int .i64 0, .int .i64 0, .int .u64 0, .int .u64 0, .int .u64 0, .int .u64 0, .int .u64 0, .int .u64 0, .int .u64 0, .int .u64 0, .int .u64 0, .int .u64 0, .int .u64 0, .int .u64 0, .int .u64 0, .int .u64 0, .int .u64 0, .int .u64 0, .int .u64 0, .int .u64 0, .int .u64 0, .int .u64 0, .int .u64 0, .int .u64 0, .int .u64 0, .int .u64 0, .int .u64 0, .int .u64 0, .int .u64 0, .int .u64 0, .int .u64 0, .int .u64 0, .int .u64 0, .int .u64 0, .int .u64 0, .int .u64 0, .int .u64 0, .int .u64 0, .int .u64 0, .int .u64 0, .int .u64 0, .int .u64 0, .int .u64 0, .int .u64 0, .int .u64 0, .int .u64 0, .int .u64 0, .int .u64 0, .int .u64 0, .int .u64 0, .int .u64 0, .int .u64 0, .int .u64 0, .int .u64 0, .int .u64 0, .int .u64 0, .int .u64 0, .int .u64 0, .int .u64 0, .int .u64 0, .int .u64 0, .int .u64 0, .int .u64 0, .int .u64 0, .int .u64 0, .int .u64 0, .int .u64 0, .int .u64 0, .int .u64 0, .int .u64 0, .int .u64 0, .int .u64 0, .int .u64 0, .int .u64 0, .int .u64 0, .int .u64 0, .int .u64 0, .int .u64 0, .int .u64 0, .int .u64 0, .int .u64 0, .int .u64 0, .int .u64 0, .int .u64 0, .int .u64 0, .int .u64 0, .int .u64 0, .int .u64 0, .int .u64 0, .int .u64 0, .int .u64 0, .int .u64 0, .int .u64 0, .int .u64 0, .int .u64 0, .int .u64 0, .int .u64 0, .int .u64 0, .int .u64 0, .int .u64 0, .int .u64 0, .int .u64 0, .int .u64 0, .int .u64 0, .int .u64 0, .int .u64 0, .int .u64 0, .int .u64 0, .int .u64 0, .int .u64 0, .int .u64 0, .int .u64 0, .int .u64 0, .int .u64 0, .int .u64 0, .int .u64 0, .int .u64 0, .int .u64 0, .int .u64 0, .int .u64 0, .int .u64 0, .int .u64 0, .int .u64 0, .int .u64 0, .int .u64 0, .int .u64 0, .int .u64 0, .int .u64 0, .int .u64 0, .int .u64 0, .int .i64 0] false, []⟩,
 ⟨none, none, .st 131 (.t 8) (.t 30), []⟩])
 (.seq
 (.seq
 (.ops 10 [⟨some 31, none, .fld 1 (.t 8), []⟩,
 ⟨some 32, none, .ld 1 false (.t 31), []⟩,
 ⟨some 33, none, .bin .gtr (.t 32) (.c (.int .i64 0)), []⟩])
 (.cond (.t 33)
 (.exit 1)
 .skip))
 (.seq
 (.ops 11 [⟨some 35, none, .fld 2 (.t 8), []⟩,
 ⟨some 36, none, .ld 128 true (.t 35), []⟩,
 ⟨some 37, none, .call 23 [.t 36], []⟩,
 ⟨some 34, none, .mv (.t 37), []⟩,
 ⟨some 38, none, .ext (.t 34) 0, []⟩,
 ⟨some 39, none, .ext (.t 34) 1, []⟩,
 ⟨some 9, none, .mv (.t 38), []⟩,
 ⟨some 10, none, .mv (.t 39), []⟩])
 (.seq
 (.seq
 (.ops 12 [⟨some 40, none, .mv (.t 10), []⟩,
 ⟨some 41, none, .bin .neq (.t 40) (.c (.int .i64 0)), []⟩])
 (.cond (.t 41)
 (.seq
 (.ops 13 [⟨some 42, none, .mv (.t 10), []⟩,
 ⟨some 2, none, .mv (.c (.nils)), []⟩,
 ⟨some 3, none, .mv (.t 42), []⟩])
 .ret)
 .skip))
 (.ops 14 [⟨some 43, none, .mv (.t 6), []⟩,
 ⟨some 44, none, .mv (.t 9), []⟩,
 ⟨some 45, none, .app 2 32 (.t 43) (.t 44) false, []⟩,
 ⟨some 6, none, .mv (.t 45), []⟩]))))))
 (.ops 15 [⟨some 46, none, .bin .add (.t 27) (.c (.int .i64 1)), []⟩,
 ⟨some 27, none, .mv (.t 46), []⟩]))))

/-- ticketline/check.Pairs -/
noncomputable def F10 : AFn := ⟨48, [.tmp 2, .tmp 3], (.seq
 (.ops 0 [⟨some 2, none, .mv (.c (.nils)), []⟩,
 ⟨some 3, none, .mv (.c (.int .i64 0)), []⟩])
 (.seq
 (.ops 1 [⟨some 12, none, .mv (.t 0), []⟩,
 ⟨some 13, none, .call 21 [.t 12], []⟩,
 ⟨some 11, none, .mv (.t 13), []⟩,
 ⟨some 14, none, .ext (.t 11) 0, []⟩,
 ⟨some 15, none, .ext (.t 11) 1, []⟩,
 ⟨some 4, none, .mv (.t 14), []⟩,
 ⟨some 5, none, .mv (.t 15), []⟩])
 (.seq
 (.seq
 (.ops 2 [⟨some 16, none, .mv (.t 5), []⟩,
 ⟨some 17, none, .bin .neq (.t 16) (.c (.int .i64 0)), []⟩])
 (.cond (.t 17)
 (.seq
 (.ops 3 [⟨some 18, none, .mv (.t 5), []⟩,
 ⟨some 2, none, .mv (.c (.nils)), []⟩,
 ⟨some 3, none, .mv (.t 18), []⟩])
 .ret)
 .skip))
 (.seq
 (.seq
 (.ops 4 [⟨some 19, none, .mv (.t 0), []⟩,
 ⟨some 20, none, .call 11 [.t 19], []⟩,
 ⟨some 21, none, .un .not (.t 20), []⟩])
 (.cond (.t 21)
 (.seq
 (.ops 5 [⟨some 2, none, .mv (.c (.nils)), []⟩,
 ⟨some 3, none, .mv (.c (.int .i64 8)), []⟩])
 .ret)
 .skip))
 (.seq
 (.ops 6 [⟨some 6, none, .mv (.c (.nils)), []⟩])
 (.seq
 (.seq
 (.ops 7 [⟨some 22, none, .mv (.t 4), []⟩,
 ⟨some 23, none, .nilc (.t 22) (mok Try.prog), []⟩,
 ⟨some 24, none, .fld 2 (.t 23), []⟩,
 ⟨some 25, none, .ld 1 false (.t 24), []⟩,
 ⟨some 26, none, .len .slice (.t 25), []⟩,
 ⟨some 27, none, .mv (.c (.int .i64 0)), []⟩])
 (.block 0
 (.loop [] B10x0)))
 (.seq
 (.ops 16 [⟨some 47, none, .mv (.t 6), []⟩,
 ⟨some 2, none, .mv (.t 47), []⟩,
 ⟨some 3, none, .mv (.c (.int .i64 0)), []⟩])
 .ret)))))))⟩
theorem F10_code : cfgA.code 10 = some F10 := by kernel_rfl

/-- ticketline/check.Good -/
noncomputable def F11 : AFn := ⟨17, [.tmp 2], (.seq
 (.ops 0 [⟨some 2, none, .mv (.c (.bool false)), []⟩])
 (.seq
 (.ops 1 [⟨some 6, none, .mv (.t 0), []⟩,
 ⟨some 7, none, .call 8 [.t 6], []⟩,
 ⟨some 5, none, .mv (.t 7), []⟩,
 ⟨some 8, none, .ext (.t 5) 0, []⟩,
 ⟨some 9, none, .ext (.t 5) 1, []⟩,
 ⟨some 3, none, .mv (.t 8), []⟩,
 ⟨some 4, none, .mv (.t 9), []⟩])
 (.seq
 (.ops 2 [⟨some 10, none, .mv (.t 4), []⟩,
 ⟨some 11, none, .bin .eql (.t 10) (.c (.int .i64 0)), []⟩,
 ⟨some 12, none, .mv (.t 11), []⟩,
 ⟨some 13, some (12, true), .mv (.t 3), []⟩,
 ⟨some 14, some (12, true), .len .slice (.t 13), []⟩,
 ⟨some 15, some (12, true), .bin .eql (.t 14) (.c (.int .i64 0)), []⟩,
 ⟨some 16, none, .pick (.t 12) (.t 15) (.c (.bool false)), []⟩,
 ⟨some 2, none, .mv (.t 16), []⟩])
 .ret)))⟩
theorem F11_code : cfgA.code 11 = some F11 := by kernel_rfl

/-- ticketline/ticketlineref16.Of: the round 0 -/
@[reducible] noncomputable def B12x0 : AC := (.seq
 (.seq
 (.ops 5 [⟨some 26, none, .mv (.t 13), []⟩,
 ⟨some 27, none, .mv (.t 4), []⟩,
 ⟨some 28, none, .len .slice (.t 27), []⟩,
 ⟨some 29, none, .bin .lss (.t 26) (.t 28), []⟩])
 (.cond (.t 29)
 .skip
 (.exit 0)))
 (.seq
 (.block 1
 (.seq
 (.seq
 (.ops 7 [⟨some 32, none, .mv (.t 0), []⟩,
 ⟨some 33, none, .bin .eql (.t 32) (.c (.int .i64 0)), []⟩,
 ⟨some 34, none, .mv (.t 13), []⟩,
 ⟨some 35, none, .mv (.t 4), []⟩,
 ⟨some 36, none, .mv (.t 13), []⟩,
 ⟨some 37, none, .ixa none 2 (.t 35) (.t 36), []⟩,
 ⟨some 38, none, .ld 2 true (.t 37), []⟩,
 ⟨some 39, none, .call 25 [.t 33, .t 34, .t 38], []⟩,
 ⟨some 14, none, .mv (.t 39), []⟩])
 (.seq
 (.ops 8 [⟨some 40, none, .mv (.t 14), []⟩,
 ⟨some 41, none, .bin .neq (.t 40) (.c (.int .i64 0)), []⟩])
 (.cond (.t 41)
 (.seq
 (.ops 9 [⟨some 42, none, .build (List.replicate 128 (.int .u64 0)) [], []⟩,
 ⟨some 43, none, .mv (.t 14), []⟩,
 ⟨none, none, .st 128 (.t 10) (.t 42), []⟩,
 ⟨some 11, none, .mv (.t 43), []⟩])
 .ret)
 .skip)))
 (.seq
 (.ops 10 [⟨some 44, none, .mv (.t 13), []⟩,
 ⟨some 45, none, .bin .gtr (.t 44) (.c (.int .i64 0)), []⟩,
 ⟨some 46, none, .mv (.t 45), []⟩,
 ⟨some 47, some (46, true), .mv (.t 4), []⟩,
 ⟨some 48, some (46, true), .mv (.t 13), []⟩,
 ⟨some 49, some (46, true), .ixa none 2 (.t 47) (.t 48), []⟩,
 ⟨some 50, some (46, true), .fld 0 (.t 49), []⟩,
 ⟨some 51, some (46, true), .ld 1 false (.t 50), []⟩,
 ⟨some 52, some (46, true), .mv (.t 4), []⟩,
 ⟨some 53, some (46, true), .mv (.t 13), []⟩,
 ⟨some 54, some (46, true), .bin .sub (.t 53) (.c (.int .i64 1)), []⟩,
 ⟨some 55, some (46, true), .ixa none 2 (.t 52) (.t 54), []⟩,
 ⟨some 56, some (46, true), .fld 0 (.t 55), []⟩,
 ⟨some 57, some (46, true), .ld 1 false (.t 56), []⟩,
 ⟨some 58, some (46, true), .bin .leq (.t 51) (.t 57), []⟩,
 ⟨some 59, none, .pick (.t 46) (.t 58) (.c (.bool false)), []⟩])
 (.cond (.t 59)
 (.seq
 (.ops 11 [⟨some 60, none, .build (List.replicate 128 (.int .u64 0)) [], []⟩,
 ⟨none, none, .st 128 (.t 10) (.t 60), []⟩,
 ⟨some 11, none, .mv (.c (.int .i64 13)), []⟩])
 .ret)
 .skip))))
 (.ops 6 [⟨some 30, none, .mv (.t 13), []⟩,
 ⟨some 31, none, .bin .add (.t 30) (.c (.int .i64 1)), []⟩,
 ⟨some 13, none, .mv (.t 31), []⟩])))

/-- ticketline/ticketlineref16.Of: the round 1 -/
@[reducible] noncomputable def B12x1 : AC := (.seq
 (.seq
 (.ops 17 [⟨some 72, none, .mv (.t 16), []⟩,
 ⟨some 73, none, .mv (.t 4), []⟩,
 ⟨some 74, none, .len .slice (.t 73), []⟩,
 ⟨some 75, none, .bin .lss (.t 72) (.t 74), []⟩])
 (.cond (.t 75)
 .skip
 (.exit 2)))
 (.seq
 (.block 3
 (.ops 19 [⟨some 78, none, .ld 128 true (.t 15), []⟩,
 ⟨some 79, none, .mv (.t 4), []⟩,
 ⟨some 80, none, .mv (.t 16), []⟩,
 ⟨some 81, none, .ixa none 2 (.t 79) (.t 80), []⟩,
 ⟨some 82, none, .ld 2 true (.t 81), []⟩,
 ⟨some 83, none, .call 28 [.t 78, .t 82], []⟩,
 ⟨none, none, .st 128 (.t 15) (.t 83), []⟩]))
 (.ops 18 [⟨some 76, none, .mv (.t 16), []⟩,
 ⟨some 77, none, .bin .add (.t 76) (.c (.int .i64 1)), []⟩,
 ⟨some 16, none, .mv (.t 77), []⟩])))

/-- ticketline/ticketlineref16.Of -/
noncomputable def F12 : AFn := ⟨85, [.cell 10 128 true, .tmp 11], (.seq
 (.ops 0 [⟨some 10, none, .alloc (List.replicate 128 (.int .u64 0)) false, []⟩,
 ⟨some 11, none, .mv (.c (.int .i64 0)), []⟩])
 (.seq
 (.seq
 (.ops 1 [⟨some 17, none, .mv (.t 0), []⟩,
 ⟨some 18, none, .mv (.t 1), []⟩,
 ⟨some 19, none, .mv (.t 2), []⟩,
 ⟨some 20, none, .mv (.t 3), []⟩,
 ⟨some 21, none, .call 24 [.t 17, .t 18, .t 19, .t 20], []⟩,
 ⟨some 12, none, .mv (.t 21), []⟩])
 (.seq
 (.ops 2 [⟨some 22, none, .mv (.t 12), []⟩,
 ⟨some 23, none, .bin .neq (.t 22) (.c (.int .i64 0)), []⟩])
 (.cond (.t 23)
 (.seq
 (.ops 3 [⟨some 24, none, .build (List.replicate 128 (.int .u64 0)) [], []⟩,
 ⟨some 25, none, .mv (.t 12), []⟩,
 ⟨none, none, .st 128 (.t 10) (.t 24), []⟩,
 ⟨some 11, none, .mv (.t 25), []⟩])
 .ret)
 .skip)))
 (.seq
 (.seq
 (.ops 4 [⟨some 13, none, .mv (.c (.int .i64 0)), []⟩])
 (.block 0
 (.loop [] B12x0)))
 (.seq
 (.seq
 (.ops 12 [⟨some 61, none, .mv (.t 4), []⟩,
 ⟨some 62, none, .call 26 [.t 61], []⟩,
 ⟨some 63, none, .bin .gtr (.t 62) (.c (.int .i64 108)), []⟩])
 (.cond (.t 63)
 (.seq
 (.ops 13 [⟨some 64, none, .build (List.replicate 128 (.int .u64 0)) [], []⟩,
 ⟨none, none, .st 128 (.t 10) (.t 64), []⟩,
 ⟨some 11, none, .mv (.c (.int .i64 7)), []⟩])
 .ret)
 .skip))
 (.seq
 (.ops 14 [⟨some 65, none, .mv (.t 0), []⟩,
 ⟨some 66, none, .mv (.t 1), []⟩,
 ⟨some 67, none, .mv (.t 2), []⟩,
 ⟨some 68, none, .call 27 [.t 65, .t 66, .t 67], []⟩,
 ⟨some 15, none, .alloc (List.replicate 128 (.int .u64 0)) false, []⟩,
 ⟨none, none, .st 128 (.t 15) (.t 68), []⟩])
 (.seq
 (.ops 15 [⟨some 69, none, .mv (.t 3), []⟩,
 ⟨some 70, none, .cvi .u64 (.t 69), []⟩,
 ⟨some 71, none, .ixa (some 128) 1 (.t 15) (.c (.int .i64 10)), []⟩,
 ⟨none, none, .st 1 (.t 71) (.t 70), []⟩])
 (.seq
 (.seq
 (.ops 16 [⟨some 16, none, .mv (.c (.int .i64 0)), []⟩])
 (.block 2
 (.loop [] B12x1)))
 (.seq
 (.ops 20 [⟨some 84, none, .ld 128 true (.t 15), []⟩,
 ⟨none, none, .st 128 (.t 10) (.t 84), []⟩,
 ⟨some 11, none, .mv (.c (.int .i64 0)), []⟩])
 .ret))))))))⟩
theorem F12_code : cfgA.code 12 = some F12 := by kernel_rfl

/-- ticketline/ticketlineref16.Number -/
noncomputable def F13 : AFn := ⟨11, [.tmp 2], (.seq
 (.ops 0 [⟨some 2, none, .mv (.c (.str [])), []⟩])
 (.seq
 (.ops 1 [⟨some 3, none, .mv (.t 0), []⟩,
 ⟨some 4, none, .bin .quo (.t 3) (.c (.int .i64 256)), []⟩,
 ⟨some 5, none, .cvi .u8 (.t 4), []⟩,
 ⟨some 6, none, .mv (.t 0), []⟩,
 ⟨some 7, none, .bin .rem (.t 6) (.c (.int .i64 256)), []⟩,
 ⟨some 8, none, .cvi .u8 (.t 7), []⟩,
 ⟨some 9, none, .bslice [.int .u8 0] 1 8 [(0, (.c (.int .u8 0))), (1, (.c (.int .u8 0))), (2, (.c (.int .u8 0))), (3, (.c (.int .u8 0))), (4, (.c (.int .u8 0))), (5, (.c (.int .u8 0))), (6, (.t 5)), (7, (.t 8))] false false, []⟩,
 ⟨some 10, none, .cvs (.t 9), []⟩,
 ⟨some 2, none, .mv (.t 10), []⟩])
 .ret))⟩
theorem F13_code : cfgA.code 13 = some F13 := by kernel_rfl

/-- ticketline/ticketlinelaw23.run: the round 0 -/
@[reducible] noncomputable def B14x0 : AC := (.seq
 (.seq
 (.ops 7 [⟨some 17, none, .mv (.t 9), []⟩,
 ⟨some 18, none, .bin .lss (.t 17) (.c (.int .i64 24)), []⟩])
 (.cond (.t 18)
 .skip
 (.exit 2)))
 (.seq
 (.block 3
 (.ops 9 [⟨some 21, none, .mv (.t 7), []⟩,
 ⟨some 22, none, .mv (.t 9), []⟩,
 ⟨some 23, none, .mv (.t 0), []⟩,
 ⟨some 24, none, .mv (.t 6), []⟩,
 ⟨some 25, none, .cvi .u8 (.t 24), []⟩,
 ⟨some 26, none, .bin .add (.t 23) (.t 25), []⟩,
 ⟨some 27, none, .ixa none 1 (.t 21) (.t 22), []⟩,
 ⟨none, none, .st 1 (.t 27) (.t 26), []⟩]))
 (.ops 8 [⟨some 19, none, .mv (.t 9), []⟩,
 ⟨some 20, none, .bin .add (.t 19) (.c (.int .i64 1)), []⟩,
 ⟨some 9, none, .mv (.t 20), []⟩])))

/-- ticketline/ticketlinelaw23.run: the round 1 -/
@[reducible] noncomputable def B14x1 : AC := (.seq
 (.seq
 (.ops 3 [⟨some 10, none, .mv (.t 6), []⟩,
 ⟨some 11, none, .mv (.t 1), []⟩,
 ⟨some 12, none, .bin .lss (.t 10) (.t 11), []⟩])
 (.cond (.t 12)
 .skip
 (.exit 0)))
 (.seq
 (.block 1
 (.seq
 (.ops 5 [⟨some 15, none, .mks [.int .u8 0] 1 1 (.c (.int .i64 24)) (.c (.int .i64 24)) false, []⟩,
 ⟨some 16, none, .mks [.int .u8 0] 1 1 (.c (.int .i64 40)) (.c (.int .i64 40)) false, []⟩,
 ⟨some 7, none, .mv (.t 15), []⟩,
 ⟨some 8, none, .mv (.t 16), []⟩])
 (.seq
 (.seq
 (.ops 6 [⟨some 9, none, .mv (.c (.int .i64 0)), []⟩])
 (.block 2
 (.loop [] B14x0)))
 (.ops 10 [⟨some 28, none, .mv (.t 5), []⟩,
 ⟨some 29, none, .mv (.t 7), []⟩,
 ⟨some 30, none, .cvs (.t 29), []⟩,
 ⟨some 31, none, .mv (.t 8), []⟩,
 ⟨some 32, none, .cvs (.t 31), []⟩,
 ⟨some 33, none, .build [.str [], .str []] [(0, 1, (.t 30)), (1, 1, (.t 32))], []⟩,
 ⟨some 34, none, .bslice [.str [], .str []] 2 1 [(0, (.t 33))] false false, []⟩,
 ⟨some 35, none, .app 2 32 (.t 28) (.t 34) false, []⟩,
 ⟨some 5, none, .mv (.t 35), []⟩]))))
 (.ops 4 [⟨some 13, none, .mv (.t 6), []⟩,
 ⟨some 14, none, .bin .add (.t 13) (.c (.int .i64 1)), []⟩,
 ⟨some 6, none, .mv (.t 14), []⟩])))

/-- ticketline/ticketlinelaw23.run -/
noncomputable def F14 : AFn := ⟨37, [.tmp 4], (.seq
 (.ops 0 [⟨some 4, none, .mv (.c (.nils)), []⟩])
 (.seq
 (.ops 1 [⟨some 5, none, .mv (.c (.nils)), []⟩])
 (.seq
 (.seq
 (.ops 2 [⟨some 6, none, .mv (.c (.int .i64 0)), []⟩])
 (.block 0
 (.loop [] B14x1)))
 (.seq
 (.ops 11 [⟨some 36, none, .mv (.t 5), []⟩,
 ⟨some 4, none, .mv (.t 36), []⟩])
 .ret))))⟩
theorem F14_code : cfgA.code 14 = some F14 := by kernel_rfl

/-- ticketline/ticketlinelaw23.made: the round 0 -/
@[reducible] noncomputable def B15x0 : AC := (.seq
 (.seq
 (.ops 8 [⟨some 40, none, .mv (.t 10), []⟩,
 ⟨some 41, none, .mv (.t 0), []⟩,
 ⟨some 42, none, .len .slice (.t 41), []⟩,
 ⟨some 43, none, .bin .lss (.t 40) (.t 42), []⟩])
 (.cond (.t 43)
 .skip
 (.exit 0)))
 (.seq
 (.block 1
 (.seq
 (.ops 10 [⟨some 47, none, .mv (.t 9), []⟩,
 ⟨some 48, none, .mv (.t 0), []⟩,
 ⟨some 49, none, .mv (.t 10), []⟩,
 ⟨some 50, none, .ixa none 128 (.t 48) (.t 49), []⟩,
 ⟨some 51, none, .ld 128 true (.t 50), []⟩,
 ⟨some 52, none, .call 31 [.t 47, .t 51], []⟩,
 ⟨some 46, none, .mv (.t 52), []⟩,
 ⟨some 53, none, .ext (.t 46) 0, []⟩,
 ⟨some 54, none, .ext (.t 46) 1, []⟩,
 ⟨some 11, none, .mv (.t 53), []⟩,
 ⟨some 12, none, .mv (.t 54), []⟩])
 (.seq
 (.ops 11 [⟨some 55, none, .mv (.t 12), []⟩,
 ⟨some 56, none, .bin .neq (.t 55) (.c (.int .i64 0)), []⟩])
 (.cond (.t 56)
 (.seq
 (.ops 12 [⟨some 6, none, .mv (.c (.nilp)), []⟩])
 .ret)
 .skip))))
 (.ops 9 [⟨some 44, none, .mv (.t 10), []⟩,
 ⟨some 45, none, .bin .add (.t 44) (.c (.int .i64 1)), []⟩,
 ⟨some 10, none, .mv (.t 45), []⟩])))

/-- ticketline/ticketlinelaw23.made -/
noncomputable def F15 : AFn := ⟨62, [.tmp 6], (.seq
 (.ops 0 [⟨some 6, none, .mv (.c (.nilp)), []⟩])
 (.seq
 (.ops 1 [⟨some 14, none, .mv (.t 0), []⟩,
 ⟨some 15, none, .len .slice (.t 14), []⟩,
 ⟨some 16, none, .mv (.t 2), []⟩,
 ⟨some 17, none, .bin .add (.t 15) (.t 16), []⟩,
 ⟨some 18, none, .bin .mul (.c (.int .i64 128)) (.t 17), []⟩,
 ⟨some 19, none, .bin .add (.c (.int .i64 16)) (.t 18), []⟩,
 ⟨some 20, none, .call 29 [.t 19], []⟩,
 ⟨some 13, none, .mv (.t 20), []⟩,
 ⟨some 21, none, .ext (.t 13) 0, []⟩,
 ⟨some 22, none, .ext (.t 13) 1, []⟩,
 ⟨some 7, none, .mv (.t 21), []⟩,
 ⟨some 8, none, .mv (.t 22), []⟩])
 (.seq
 (.seq
 (.ops 2 [⟨some 23, none, .mv (.t 8), []⟩,
 ⟨some 24, none, .bin .neq (.t 23) (.c (.int .i64 0)), []⟩])
 (.cond (.t 24)
 (.seq
 (.ops 3 [⟨some 6, none, .mv (.c (.nilp)), []⟩])
 .ret)
 .skip))
 (.seq
 (.ops 4 [⟨some 26, none, .mv (.t 7), []⟩,
 ⟨some 27, none, .mv (.t 0), []⟩,
 ⟨some 28, none, .len .slice (.t 27), []⟩,
 ⟨some 29, none, .mv (.t 2), []⟩,
 ⟨some 30, none, .bin .add (.t 28) (.t 29), []⟩,
 ⟨some 31, none, .call 30 [.t 26, .t 30], []⟩,
 ⟨some 25, none, .mv (.t 31), []⟩,
 ⟨some 32, none, .ext (.t 25) 0, []⟩,
 ⟨some 33, none, .ext (.t 25) 1, []⟩,
 ⟨some 9, none, .mv (.t 32), []⟩,
 ⟨some 8, none, .mv (.t 33), []⟩])
 (.seq
 (.seq
 (.ops 5 [⟨some 34, none, .mv (.t 9), []⟩,
 ⟨some 35, none, .eqn .ptr false (.t 34), []⟩,
 ⟨some 36, none, .mv (.t 35), []⟩,
 ⟨some 37, some (36, false), .mv (.t 8), []⟩,
 ⟨some 38, some (36, false), .bin .neq (.t 37) (.c (.int .i64 0)), []⟩,
 ⟨some 39, none, .pick (.t 36) (.c (.bool true)) (.t 38), []⟩])
 (.cond (.t 39)
 (.seq
 (.ops 6 [⟨some 6, none, .mv (.c (.nilp)), []⟩])
 .ret)
 .skip))
 (.seq
 (.seq
 (.ops 7 [⟨some 10, none, .mv (.c (.int .i64 0)), []⟩])
 (.block 0
 (.loop [] B15x0)))
 (.seq
 (.seq
 (.ops 13 [⟨some 57, none, .mv (.t 9), []⟩,
 ⟨some 58, none, .mv (.t 1), []⟩,
 ⟨some 59, none, .call 19 [.t 57, .t 58], []⟩,
 ⟨some 60, none, .bin .neq (.t 59) (.c (.int .i64 0)), []⟩])
 (.cond (.t 60)
 (.seq
 (.ops 14 [⟨some 6, none, .mv (.c (.nilp)), []⟩])
 .ret)
 .skip))
 (.seq
 (.ops 15 [⟨some 61, none, .mv (.t 9), []⟩,
 ⟨some 6, none, .mv (.t 61), []⟩])
 .ret))))))))⟩
theorem F15_code : cfgA.code 15 = some F15 := by kernel_rfl

/-- ticketline/ticketlinelaw23.faults -/
noncomputable def F16 : AFn := ⟨70, [.tmp 4], (.seq
 (.ops 0 [⟨some 4, none, .mv (.c (.bool false)), []⟩])
 (.seq
 (.ops 1 [⟨some 13, none, .mv (.t 0), []⟩,
 ⟨some 14, none, .call 8 [.t 13], []⟩,
 ⟨some 12, none, .mv (.t 14), []⟩,
 ⟨some 15, none, .ext (.t 12) 0, []⟩,
 ⟨some 16, none, .ext (.t 12) 1, []⟩,
 ⟨some 5, none, .mv (.t 15), []⟩,
 ⟨some 6, none, .mv (.t 16), []⟩])
 (.seq
 (.ops 2 [⟨some 18, none, .mv (.t 0), []⟩,
 ⟨some 19, none, .call 9 [.t 18], []⟩,
 ⟨some 17, none, .mv (.t 19), []⟩,
 ⟨some 20, none, .ext (.t 17) 0, []⟩,
 ⟨some 21, none, .ext (.t 17) 1, []⟩,
 ⟨some 7, none, .alloc [.int .i64 0, .int .i64 0] false, []⟩,
 ⟨none, none, .st 2 (.t 7) (.t 20), []⟩,
 ⟨some 8, none, .mv (.t 21), []⟩])
 (.seq
 (.ops 3 [⟨some 22, none, .build [.int .i64 0, .int .i64 0] [], []⟩,
 ⟨some 9, none, .alloc [.int .i64 0, .int .i64 0] false, []⟩,
 ⟨none, none, .st 2 (.t 9) (.t 22), []⟩])
 (.seq
 (.seq
 (.ops 4 [⟨some 23, none, .mv (.t 1), []⟩,
 ⟨some 24, none, .len .slice (.t 23), []⟩,
 ⟨some 25, none, .bin .gtr (.t 24) (.c (.int .i64 0)), []⟩])
 (.cond (.t 25)
 (.ops 5 [⟨some 26, none, .mv (.t 1), []⟩,
 ⟨some 27, none, .ixa none 2 (.t 26) (.c (.int .i64 0)), []⟩,
 ⟨some 28, none, .ld 2 true (.t 27), []⟩,
 ⟨none, none, .st 2 (.t 9) (.t 28), []⟩])
 .skip))
 (.seq
 (.ops 6 [⟨some 30, none, .mv (.t 0), []⟩,
 ⟨some 31, none, .call 10 [.t 30], []⟩,
 ⟨some 29, none, .mv (.t 31), []⟩,
 ⟨some 32, none, .ext (.t 29) 0, []⟩,
 ⟨some 33, none, .ext (.t 29) 1, []⟩,
 ⟨some 10, none, .mv (.t 32), []⟩,
 ⟨some 11, none, .mv (.t 33), []⟩])
 (.seq
 (.seq
 (.ops 7 [⟨some 34, none, .mv (.t 1), []⟩,
 ⟨some 35, none, .len .slice (.t 34), []⟩,
 ⟨some 36, none, .bin .gtr (.t 35) (.c (.int .i64 0)), []⟩,
 ⟨some 37, none, .mv (.t 36), []⟩,
 ⟨some 38, some (37, true), .mv (.t 10), []⟩,
 ⟨some 39, some (37, true), .len .slice (.t 38), []⟩,
 ⟨some 40, some (37, true), .bin .neq (.t 39) (.c (.int .i64 0)), []⟩,
 ⟨some 41, some (37, true), .mv (.t 40), []⟩,
 ⟨some 42, some (41, false), .mv (.t 11), []⟩,
 ⟨some 43, some (41, false), .bin .neq (.t 42) (.c (.int .i64 8)), []⟩,
 ⟨some 44, some (37, true), .pick (.t 41) (.c (.bool true)) (.t 43), []⟩,
 ⟨some 45, none, .pick (.t 37) (.t 44) (.c (.bool false)), []⟩])
 (.cond (.t 45)
 (.seq
 (.ops 8 [⟨some 4, none, .mv (.c (.bool false)), []⟩])
 .ret)
 .skip))
 (.seq
 (.ops 9 [⟨some 46, none, .mv (.t 5), []⟩,
 ⟨some 47, none, .mv (.t 1), []⟩,
 ⟨some 48, none, .call 32 [.t 46, .t 47], []⟩,
 ⟨some 49, none, .mv (.t 48), []⟩,
 ⟨some 50, some (49, true), .mv (.t 6), []⟩,
 ⟨some 51, some (49, true), .bin .eql (.t 50) (.c (.int .i64 0)), []⟩,
 ⟨some 52, none, .pick (.t 49) (.t 51) (.c (.bool false)), []⟩,
 ⟨some 53, none, .mv (.t 52), []⟩,
 ⟨some 54, some (53, true), .ld 2 true (.t 7), []⟩,
 ⟨some 55, some (53, true), .ld 2 true (.t 9), []⟩,
 ⟨some 56, some (53, true), .eqs false [.int, .int] (.t 54) (.t 55), []⟩,
 ⟨some 57, none, .pick (.t 53) (.t 56) (.c (.bool false)), []⟩,
 ⟨some 58, none, .mv (.t 57), []⟩,
 ⟨some 59, some (58, true), .mv (.t 8), []⟩,
 ⟨some 60, some (58, true), .bin .eql (.t 59) (.c (.int .i64 0)), []⟩,
 ⟨some 61, none, .pick (.t 58) (.t 60) (.c (.bool false)), []⟩,
 ⟨some 62, none, .mv (.t 61), []⟩,
 ⟨some 63, some (62, true), .mv (.t 0), []⟩,
 ⟨some 64, some (62, true), .call 11 [.t 63], []⟩,
 ⟨some 65, some (62, true), .mv (.t 1), []⟩,
 ⟨some 66, some (62, true), .len .slice (.t 65), []⟩,
 ⟨some 67, some (62, true), .bin .eql (.t 66) (.c (.int .i64 0)), []⟩,
 ⟨some 68, some (62, true), .eqb false (.t 64) (.t 67), []⟩,
 ⟨some 69, none, .pick (.t 62) (.t 68) (.c (.bool false)), []⟩,
 ⟨some 4, none, .mv (.t 69), []⟩])
 .ret))))))))⟩
theorem F16_code : cfgA.code 16 = some F16 := by kernel_rfl

/-- (*ticketline/arena.Arena).Copy -/
noncomputable def F17 : AFn := ⟨10, [.tmp 2], (.seq
 (.ops 0 [⟨some 2, none, .mv (.c (.nilp)), []⟩])
 (.seq
 (.seq
 (.ops 1 [⟨some 3, none, .mv (.t 0), []⟩,
 ⟨some 4, none, .call 33 [.t 3], []⟩])
 (.cond (.t 4)
 (.seq
 (.ops 2 [⟨some 2, none, .mv (.c (.nilp)), []⟩])
 .ret)
 .skip))
 (.seq
 (.ops 3 [⟨some 5, none, .mv (.t 0), []⟩,
 ⟨some 6, none, .call 34 [.t 5], []⟩,
 ⟨some 7, none, .build [.nilp] [(0, 1, (.t 6))], []⟩,
 ⟨some 8, none, .build [.nilp] [(0, 1, (.t 7))], []⟩,
 ⟨some 9, none, .box 1 (.t 8) true, []⟩,
 ⟨some 2, none, .mv (.t 9), []⟩])
 .ret)))⟩
theorem F17_code : cfgA.code 17 = some F17 := by kernel_rfl

/-- (*ticketline/arena.Arena).Release -/
noncomputable def F18 : AFn := ⟨15, [.tmp 4], (.seq
 (.ops 0 [⟨some 4, none, .mv (.c (.int .i64 0)), []⟩])
 (.seq
 (.ops 1 [⟨some 6, none, .mv (.t 0), []⟩,
 ⟨some 7, none, .mv (.t 1), []⟩,
 ⟨some 8, none, .call 35 [.t 6, .t 7, .c (.bool true)], []⟩,
 ⟨some 5, none, .mv (.t 8), []⟩])
 (.seq
 (.seq
 (.ops 2 [⟨some 9, none, .mv (.t 5), []⟩,
 ⟨some 10, none, .bin .eql (.t 9) (.c (.int .i64 0)), []⟩])
 (.cond (.t 10)
 (.ops 3 [⟨some 11, none, .mv (.t 0), []⟩,
 ⟨some 12, none, .mv (.t 1), []⟩,
 ⟨some 13, none, .call 36 [.t 11, .t 12], []⟩])
 .skip))
 (.seq
 (.ops 4 [⟨some 14, none, .mv (.t 5), []⟩,
 ⟨some 4, none, .mv (.t 14), []⟩])
 .ret))))⟩
theorem F18_code : cfgA.code 18 = some F18 := by kernel_rfl

/-- (*ticketline/arena.Arena).SetRoot -/
noncomputable def F19 : AFn := ⟨23, [.tmp 4], (.seq
 (.ops 0 [⟨some 4, none, .mv (.c (.int .i64 0)), []⟩])
 (.seq
 (.seq
 (.ops 1 [⟨some 6, none, .mv (.t 0), []⟩,
 ⟨some 7, none, .call 33 [.t 6], []⟩])
 (.cond (.t 7)
 (.seq
 (.ops 2 [⟨some 4, none, .mv (.c (.int .i64 1)), []⟩])
 .ret)
 .skip))
 (.seq
 (.seq
 (.ops 3 [⟨some 8, none, .mv (.t 1), []⟩,
 ⟨some 9, none, .bin .neq (.t 8) (.c (.int .i64 0)), []⟩])
 (.cond (.t 9)
 (.seq
 (.ops 4 [⟨some 10, none, .mv (.t 0), []⟩,
 ⟨some 11, none, .mv (.t 1), []⟩,
 ⟨some 12, none, .call 35 [.t 10, .t 11, .c (.bool false)], []⟩,
 ⟨some 5, none, .mv (.t 12), []⟩])
 (.seq
 (.ops 5 [⟨some 13, none, .mv (.t 5), []⟩,
 ⟨some 14, none, .bin .neq (.t 13) (.c (.int .i64 0)), []⟩])
 (.cond (.t 14)
 (.seq
 (.ops 6 [⟨some 15, none, .mv (.t 5), []⟩,
 ⟨some 4, none, .mv (.t 15), []⟩])
 .ret)
 .skip)))
 .skip))
 (.seq
 (.ops 7 [⟨some 16, none, .mv (.t 0), []⟩,
 ⟨some 17, none, .nilc (.t 16) (mok Try.prog), []⟩,
 ⟨some 18, none, .fld 0 (.t 17), []⟩,
 ⟨some 19, none, .ld 1 true (.t 18), []⟩,
 ⟨some 20, none, .mv (.t 1), []⟩,
 ⟨some 21, none, .cvi .u64 (.t 20), []⟩,
 ⟨some 22, none, .call 37 [.t 19, .c (.int .i64 3), .t 21], []⟩])
 (.seq
 (.ops 8 [⟨some 4, none, .mv (.c (.int .i64 0)), []⟩])
 .ret)))))⟩
theorem F19_code : cfgA.code 19 = some F19 := by kernel_rfl

/-- ticketline/ticketlinelaw23.fault -/
noncomputable def F20 : AFn := ⟨8, [.cell 4 2 true], (.seq
 (.ops 0 [⟨some 4, none, .alloc [.int .i64 0, .int .i64 0] false, []⟩])
 (.seq
 (.ops 1 [⟨some 5, none, .mv (.t 0), []⟩,
 ⟨some 6, none, .mv (.t 1), []⟩,
 ⟨some 7, none, .build [.int .i64 0, .int .i64 0] [(0, 1, (.t 5)), (1, 1, (.t 6))], []⟩,
 ⟨none, none, .st 2 (.t 4) (.t 7), []⟩])
 .ret))⟩
theorem F20_code : cfgA.code 20 = some F20 := by kernel_rfl

/-- ticketline/check.check: the round 0 -/
@[reducible] noncomputable def B21x0 : AC := (.seq
 (.ops 6 [⟨some 34, none, .bin .lss (.t 33) (.t 32), []⟩])
 (.seq
 (.cond (.t 34)
 .skip
 (.exit 0))
 (.seq
 (.block 1
 (.seq
 (.ops 7 [⟨some 35, none, .ixa none 1 (.t 31) (.t 33), []⟩,
 ⟨some 36, none, .ld 1 false (.t 35), []⟩,
 ⟨some 10, none, .mv (.t 36), []⟩])
 (.ops 8 [⟨some 37, none, .mv (.t 8), []⟩,
 ⟨some 38, none, .nilc (.t 37) (mok Try.prog), []⟩,
 ⟨some 39, none, .fld 1 (.t 38), []⟩,
 ⟨some 40, none, .ld 1 false (.t 39), []⟩,
 ⟨some 41, none, .mv (.t 10), []⟩,
 ⟨none, none, .mup .int (.t 40) (.t 41) (.c (.bool false)), []⟩])))
 (.ops 9 [⟨some 42, none, .bin .add (.t 33) (.c (.int .i64 1)), []⟩,
 ⟨some 33, none, .mv (.t 42), []⟩]))))

/-- ticketline/check.check: the round 1 -/
@[reducible] noncomputable def B21x1 : AC := (.seq
 (.seq
 (.ops 17 [⟨some 67, none, .mv (.t 15), []⟩,
 ⟨some 68, none, .bin .geq (.t 67) (.c (.int .i64 0)), []⟩])
 (.cond (.t 68)
 .skip
 (.exit 2)))
 (.seq
 (.block 3
 (.seq
 (.ops 19 [⟨some 71, none, .mv (.t 8), []⟩,
 ⟨some 72, none, .nilc (.t 71) (mok Try.prog), []⟩,
 ⟨some 73, none, .fld 2 (.t 72), []⟩,
 ⟨some 74, none, .ld 1 false (.t 73), []⟩,
 ⟨some 75, none, .mv (.t 15), []⟩,
 ⟨some 76, none, .ixa none 131 (.t 74) (.t 75), []⟩,
 ⟨some 16, none, .mv (.t 76), []⟩])
 (.seq
 (.seq
 (.ops 20 [⟨some 77, none, .mv (.t 16), []⟩,
 ⟨some 78, none, .nilc (.t 77) (mok Try.prog), []⟩,
 ⟨some 79, none, .ld 131 true (.t 78), []⟩,
 ⟨some 80, none, .call 42 [.t 79], []⟩,
 ⟨some 81, none, .un .not (.t 80), []⟩])
 (.cond (.t 81)
 (.exit 3)
 .skip))
 (.seq
 (.seq
 (.ops 21 [⟨some 82, none, .mv (.t 16), []⟩,
 ⟨some 83, none, .nilc (.t 82) (mok Try.prog), []⟩,
 ⟨some 84, none, .fld 130 (.t 83), []⟩,
 ⟨some 85, none, .ld 1 false (.t 84), []⟩,
 ⟨some 86, none, .bin .eql (.t 85) (.c (.int .i64 0)), []⟩,
 ⟨some 87, none, .mv (.t 86), []⟩,
 ⟨some 88, some (87, false), .mv (.t 16), []⟩,
 ⟨some 89, some (87, false), .nilc (.t 88) (mok Try.prog), []⟩,
 ⟨some 90, some (87, false), .fld 130 (.t 89), []⟩,
 ⟨some 91, some (87, false), .ld 1 false (.t 90), []⟩,
 ⟨some 92, some (87, false), .bin .eql (.t 91) (.c (.int .i64 6)), []⟩,
 ⟨some 93, none, .pick (.t 87) (.c (.bool true)) (.t 92), []⟩,
 ⟨some 94, none, .mv (.t 93), []⟩,
 ⟨some 95, some (94, true), .mv (.t 16), []⟩,
 ⟨some 96, some (94, true), .nilc (.t 95) (mok Try.prog), []⟩,
 ⟨some 97, some (94, true), .fld 2 (.t 96), []⟩,
 ⟨some 98, some (94, true), .ld 128 true (.t 97), []⟩,
 ⟨some 100, some (94, true), .mv (.t 16), []⟩,
 ⟨some 101, some (94, true), .nilc (.t 100) (mok Try.prog), []⟩,
 ⟨some 102, some (94, true), .fld 1 (.t 101), []⟩,
 ⟨some 103, some (94, true), .ld 1 false (.t 102), []⟩,
 ⟨some 104, some (94, true), .ixa (some 6) 1 (.t 14) (.t 103), []⟩,
 ⟨some 105, some (94, true), .ld 1 false (.t 104), []⟩,
 ⟨some 99, some (94, true), .call 43 [.t 98], [(103, .ld 1 false (.t 102)), (105, .ld 1 false (.t 104))]⟩,
 ⟨some 106, some (94, true), .bin .neq (.t 99) (.t 105), []⟩,
 ⟨some 107, none, .pick (.t 94) (.t 106) (.c (.bool false)), []⟩])
 (.cond (.t 107)
 (.ops 22 [⟨some 108, none, .mv (.t 16), []⟩,
 ⟨some 109, none, .nilc (.t 108) (mok Try.prog), []⟩,
 ⟨some 110, none, .fld 130 (.t 109), []⟩,
 ⟨none, none, .st 1 (.t 110) (.c (.int .i64 5)), []⟩])
 .skip))
 (.ops 23 [⟨some 111, none, .mv (.t 16), []⟩,
 ⟨some 112, none, .nilc (.t 111) (mok Try.prog), []⟩,
 ⟨some 113, none, .fld 1 (.t 112), []⟩,
 ⟨some 114, none, .ld 1 false (.t 113), []⟩,
 ⟨some 115, none, .mv (.t 16), []⟩,
 ⟨some 116, none, .nilc (.t 115) (mok Try.prog), []⟩,
 ⟨some 117, none, .fld 0 (.t 116), []⟩,
 ⟨some 118, none, .ld 1 false (.t 117), []⟩,
 ⟨some 119, none, .ixa (some 6) 1 (.t 14) (.t 114), []⟩,
 ⟨none, none, .st 1 (.t 119) (.t 118), []⟩])))))
 (.ops 18 [⟨some 69, none, .mv (.t 15), []⟩,
 ⟨some 70, none, .bin .sub (.t 69) (.c (.int .i64 1)), []⟩,
 ⟨some 15, none, .mv (.t 70), []⟩])))

/-- ticketline/check.check -/
noncomputable def F21 : AFn := ⟨121, [.tmp 2, .tmp 3], (.seq
 (.ops 0 [⟨some 2, none, .mv (.c (.nilp)), []⟩,
 ⟨some 3, none, .mv (.c (.int .i64 0)), []⟩])
 (.seq
 (.seq
 (.ops 1 [⟨some 18, none, .mv (.t 0), []⟩,
 ⟨some 19, none, .call 38 [.t 18], []⟩,
 ⟨some 17, none, .mv (.t 19), []⟩,
 ⟨some 20, none, .ext (.t 17) 0, []⟩,
 ⟨some 21, none, .ext (.t 17) 1, []⟩,
 ⟨some 22, none, .ext (.t 17) 2, []⟩,
 ⟨some 23, none, .ext (.t 17) 3, []⟩,
 ⟨some 4, none, .mv (.t 20), []⟩,
 ⟨some 5, none, .mv (.t 21), []⟩,
 ⟨some 6, none, .mv (.t 22), []⟩,
 ⟨some 7, none, .mv (.t 23), []⟩])
 (.seq
 (.ops 2 [⟨some 24, none, .mv (.t 4), []⟩,
 ⟨some 25, none, .bin .eql (.t 24) (.c (.int .i64 0)), []⟩])
 (.cond (.t 25)
 (.seq
 (.ops 3 [⟨some 2, none, .mv (.c (.nilp)), []⟩,
 ⟨some 3, none, .mv (.c (.int .i64 1)), []⟩])
 .ret)
 .skip)))
 (.seq
 (.ops 4 [⟨some 26, none, .mv (.t 0), []⟩,
 ⟨some 27, none, .mkm true, []⟩,
 ⟨some 28, none, .build [.nilp, .nilm, .nils] [(0, 1, (.t 26)), (1, 1, (.t 27))], []⟩,
 ⟨some 29, none, .box 3 (.t 28) true, []⟩,
 ⟨some 8, none, .mv (.t 29), []⟩])
 (.seq
 (.seq
 (.ops 5 [⟨some 30, none, .mv (.t 0), []⟩,
 ⟨some 31, none, .call 22 [.t 30], []⟩,
 ⟨some 32, none, .len .slice (.t 31), []⟩,
 ⟨some 33, none, .mv (.c (.int .i64 0)), []⟩])
 (.block 0
 (.loop [] B21x0)))
 (.seq
 (.ops 10 [⟨some 11, none, .mv (.c (.int .i64 0)), []⟩])
 (.seq
 (.seq
 (.ops 11 [⟨some 44, none, .mv (.t 0), []⟩,
 ⟨some 45, none, .mv (.t 0), []⟩,
 ⟨some 46, none, .call 40 [.t 45], []⟩,
 ⟨some 47, none, .call 39 [.t 44, .t 46], []⟩,
 ⟨some 43, none, .mv (.t 47), []⟩,
 ⟨some 48, none, .ext (.t 43) 0, []⟩,
 ⟨some 49, none, .ext (.t 43) 1, []⟩,
 ⟨some 12, none, .alloc (List.replicate 128 (.int .u64 0)) false, []⟩,
 ⟨none, none, .st 128 (.t 12) (.t 48), []⟩,
 ⟨some 13, none, .mv (.t 49), []⟩])
 (.seq
 (.ops 12 [⟨some 50, none, .mv (.t 13), []⟩,
 ⟨some 51, none, .bin .eql (.t 50) (.c (.int .i64 0)), []⟩])
 (.cond (.t 51)
 (.ops 13 [⟨some 52, none, .ixa (some 128) 1 (.t 12) (.c (.int .i64 8)), []⟩,
 ⟨some 53, none, .ld 1 false (.t 52), []⟩,
 ⟨some 54, none, .cvi .i64 (.t 53), []⟩,
 ⟨some 55, none, .bin .sub (.t 54) (.c (.int .i64 1)), []⟩,
 ⟨some 11, none, .mv (.t 55), []⟩])
 .skip)))
 (.seq
 (.ops 14 [⟨some 56, none, .mv (.t 8), []⟩,
 ⟨some 57, none, .mv (.t 0), []⟩,
 ⟨some 58, none, .call 40 [.t 57], []⟩,
 ⟨some 59, none, .mv (.t 11), []⟩,
 ⟨some 60, none, .call 41 [.t 56, .t 58, .t 59, .c (.str []), .c (.str []), .c (.bool true)], []⟩])
 (.seq
 (.ops 15 [⟨some 14, none, .alloc [.int .i64 0, .int .i64 0, .int .i64 0, .int .i64 0, .int .i64 0, .int .i64 0] false, []⟩])
 (.seq
 (.seq
 (.ops 16 [⟨some 61, none, .mv (.t 8), []⟩,
 ⟨some 62, none, .nilc (.t 61) (mok Try.prog), []⟩,
 ⟨some 63, none, .fld 2 (.t 62), []⟩,
 ⟨some 64, none, .ld 1 false (.t 63), []⟩,
 ⟨some 65, none, .len .slice (.t 64), []⟩,
 ⟨some 66, none, .bin .sub (.t 65) (.c (.int .i64 1)), []⟩,
 ⟨some 15, none, .mv (.t 66), []⟩])
 (.block 2
 (.loop [] B21x1)))
 (.seq
 (.ops 24 [⟨some 120, none, .mv (.t 8), []⟩,
 ⟨some 2, none, .mv (.t 120), []⟩,
 ⟨some 3, none, .mv (.c (.int .i64 0)), []⟩])
 .ret))))))))))⟩
theorem F21_code : cfgA.code 21 = some F21 := by kernel_rfl

/-- (*ticketline/arena.Arena).Used: the round 0 -/
@[reducible] noncomputable def B22x0 : AC := (.seq
 (.seq
 (.ops 5 [⟨some 7, none, .mv (.t 4), []⟩,
 ⟨some 8, none, .mv (.t 0), []⟩,
 ⟨some 9, none, .call 44 [.t 8], []⟩,
 ⟨some 10, none, .bin .leq (.t 7) (.t 9), []⟩])
 (.cond (.t 10)
 .skip
 (.exit 0)))
 (.seq
 (.block 1
 (.seq
 (.ops 7 [⟨some 13, none, .mv (.t 0), []⟩,
 ⟨some 14, none, .mv (.t 4), []⟩,
 ⟨some 15, none, .call 45 [.t 13, .t 14], []⟩])
 (.cond (.t 15)
 (.ops 8 [⟨some 16, none, .mv (.t 3), []⟩,
 ⟨some 17, none, .mv (.t 4), []⟩,
 ⟨some 18, none, .bslice [.int .i64 0] 1 1 [(0, (.t 17))] false false, []⟩,
 ⟨some 19, none, .app 1 8 (.t 16) (.t 18) false, []⟩,
 ⟨some 3, none, .mv (.t 19), []⟩])
 .skip)))
 (.ops 6 [⟨some 11, none, .mv (.t 4), []⟩,
 ⟨some 12, none, .bin .add (.t 11) (.c (.int .i64 1)), []⟩,
 ⟨some 4, none, .mv (.t 12), []⟩])))

/-- (*ticketline/arena.Arena).Used -/
noncomputable def F22 : AFn := ⟨21, [.tmp 2], (.seq
 (.ops 0 [⟨some 2, none, .mv (.c (.nils)), []⟩])
 (.seq
 (.seq
 (.ops 1 [⟨some 5, none, .mv (.t 0), []⟩,
 ⟨some 6, none, .call 33 [.t 5], []⟩])
 (.cond (.t 6)
 (.seq
 (.ops 2 [⟨some 2, none, .mv (.c (.nils)), []⟩])
 .ret)
 .skip))
 (.seq
 (.ops 3 [⟨some 3, none, .mv (.c (.nils)), []⟩])
 (.seq
 (.seq
 (.ops 4 [⟨some 4, none, .mv (.c (.int .i64 1)), []⟩])
 (.block 0
 (.loop [] B22x0)))
 (.seq
 (.ops 9 [⟨some 20, none, .mv (.t 3), []⟩,
 ⟨some 2, none, .mv (.t 20), []⟩])
 .ret)))))⟩
theorem F22_code : cfgA.code 22 = some F22 := by kernel_rfl

/-- ticketline/slot.Pairs -/
noncomputable def F23 : AFn := ⟨13, [.tmp 2, .tmp 3], (.seq
 (.ops 0 [⟨some 1, none, .box 128 (.t 0) false, []⟩,
 ⟨some 2, none, .mv (.c (.nils)), []⟩,
 ⟨some 3, none, .mv (.c (.int .i64 0)), []⟩])
 (.seq
 (.ops 1 [⟨some 7, none, .call 46 [.t 1], []⟩,
 ⟨some 6, none, .mv (.t 7), []⟩,
 ⟨some 8, none, .ext (.t 6) 0, []⟩,
 ⟨some 9, none, .ext (.t 6) 1, []⟩,
 ⟨some 4, none, .mv (.t 8), []⟩,
 ⟨some 5, none, .mv (.t 9), []⟩])
 (.seq
 (.seq
 (.ops 2 [⟨some 10, none, .mv (.t 5), []⟩,
 ⟨some 11, none, .un .not (.t 10), []⟩])
 (.cond (.t 11)
 (.seq
 (.ops 3 [⟨some 2, none, .mv (.c (.nils)), []⟩,
 ⟨some 3, none, .mv (.c (.int .i64 12)), []⟩])
 .ret)
 .skip))
 (.seq
 (.ops 4 [⟨some 12, none, .mv (.t 4), []⟩,
 ⟨some 2, none, .mv (.t 12), []⟩,
 ⟨some 3, none, .mv (.c (.int .i64 0)), []⟩])
 .ret))))⟩
theorem F23_code : cfgA.code 23 = some F23 := by kernel_rfl

/-- ticketline/ticketlineref16.Make -/
noncomputable def F24 : AFn := ⟨40, [.tmp 8], (.seq
 (.ops 0 [⟨some 8, none, .mv (.c (.int .i64 0)), []⟩])
 (.seq
 (.block 0
 (.seq
 (.ops 1 [⟨some 10, none, .mv (.t 0), []⟩,
 ⟨some 11, none, .bin .lss (.t 10) (.c (.int .i64 0)), []⟩,
 ⟨some 12, none, .mv (.t 11), []⟩,
 ⟨some 13, some (12, false), .mv (.t 0), []⟩,
 ⟨some 14, some (12, false), .bin .gtr (.t 13) (.c (.int .i64 5)), []⟩,
 ⟨some 15, none, .pick (.t 12) (.c (.bool true)) (.t 14), []⟩,
 ⟨some 9, none, .mv (.t 15), []⟩])
 (.cond (.t 9)
 (.seq
 (.ops 2 [⟨some 8, none, .mv (.c (.int .i64 2)), []⟩])
 .ret)
 (.seq
 (.ops 3 [⟨some 17, none, .mv (.t 1), []⟩,
 ⟨some 18, none, .len .string (.t 17), []⟩,
 ⟨some 19, none, .bin .gtr (.t 18) (.c (.int .i64 24)), []⟩,
 ⟨some 20, none, .mv (.t 19), []⟩,
 ⟨some 21, some (20, false), .mv (.t 2), []⟩,
 ⟨some 22, some (20, false), .len .string (.t 21), []⟩,
 ⟨some 23, some (20, false), .bin .gtr (.t 22) (.c (.int .i64 24)), []⟩,
 ⟨some 24, none, .pick (.t 20) (.c (.bool true)) (.t 23), []⟩,
 ⟨some 16, none, .mv (.t 24), []⟩])
 (.cond (.t 16)
 (.seq
 (.ops 4 [⟨some 8, none, .mv (.c (.int .i64 5)), []⟩])
 .ret)
 (.seq
 (.ops 5 [⟨some 26, none, .mv (.t 2), []⟩,
 ⟨some 27, none, .bin .neq (.t 26) (.c (.str [])), []⟩,
 ⟨some 28, none, .mv (.t 27), []⟩,
 ⟨some 29, some (28, true), .mv (.t 1), []⟩,
 ⟨some 30, some (28, true), .mv (.t 2), []⟩,
 ⟨some 31, some (28, true), .bin .geq (.t 29) (.t 30), []⟩,
 ⟨some 32, none, .pick (.t 28) (.t 31) (.c (.bool false)), []⟩,
 ⟨some 25, none, .mv (.t 32), []⟩])
 (.cond (.t 25)
 (.seq
 (.ops 6 [⟨some 8, none, .mv (.c (.int .i64 13)), []⟩])
 .ret)
 (.seq
 (.ops 7 [⟨some 34, none, .mv (.t 3), []⟩,
 ⟨some 35, none, .bin .lss (.t 34) (.c (.int .i64 0)), []⟩,
 ⟨some 36, none, .mv (.t 35), []⟩,
 ⟨some 37, some (36, false), .mv (.t 3), []⟩,
 ⟨some 38, some (36, false), .bin .gtr (.t 37) (.c (.int .i64 511)), []⟩,
 ⟨some 39, none, .pick (.t 36) (.c (.bool true)) (.t 38), []⟩,
 ⟨some 33, none, .mv (.t 39), []⟩])
 (.cond (.t 33)
 (.seq
 (.ops 8 [⟨some 8, none, .mv (.c (.int .i64 3)), []⟩])
 .ret)
 .skip)))))))))
 (.seq
 (.ops 9 [⟨some 8, none, .mv (.c (.int .i64 0)), []⟩])
 .ret)))⟩
theorem F24_code : cfgA.code 24 = some F24 := by kernel_rfl

/-- ticketline/ticketlineref16.Allowed -/
noncomputable def F25 : AFn := ⟨57, [.tmp 6], (.seq
 (.ops 0 [⟨some 5, none, .box 2 (.t 2) false, []⟩,
 ⟨some 6, none, .mv (.c (.int .i64 0)), []⟩])
 (.seq
 (.seq
 (.ops 1 [⟨some 8, none, .fld 0 (.t 5), []⟩,
 ⟨some 9, none, .ld 1 false (.t 8), []⟩,
 ⟨some 10, none, .bin .eql (.t 9) (.c (.str [])), []⟩,
 ⟨some 11, none, .mv (.t 10), []⟩,
 ⟨some 12, some (11, true), .mv (.t 0), []⟩,
 ⟨some 13, some (11, true), .mv (.t 12), []⟩,
 ⟨some 14, some (13, false), .mv (.t 1), []⟩,
 ⟨some 15, some (13, false), .bin .gtr (.t 14) (.c (.int .i64 0)), []⟩,
 ⟨some 16, some (11, true), .pick (.t 13) (.c (.bool true)) (.t 15), []⟩,
 ⟨some 17, none, .pick (.t 11) (.t 16) (.c (.bool false)), []⟩])
 (.cond (.t 17)
 (.seq
 (.ops 2 [⟨some 6, none, .mv (.c (.int .i64 2)), []⟩])
 .ret)
 .skip))
 (.seq
 (.seq
 (.ops 3 [⟨some 18, none, .mv (.t 0), []⟩,
 ⟨some 19, none, .un .not (.t 18), []⟩])
 (.cond (.t 19)
 (.seq
 (.ops 4 [⟨some 7, none, .mv (.c (.int .i64 0)), []⟩])
 (.seq
 (.seq
 (.ops 5 [⟨some 20, none, .fld 1 (.t 5), []⟩,
 ⟨some 21, none, .ld 1 false (.t 20), []⟩,
 ⟨some 22, none, .len .string (.t 21), []⟩,
 ⟨some 23, none, .bin .eql (.t 22) (.c (.int .i64 8)), []⟩])
 (.cond (.t 23)
 (.ops 6 [⟨some 24, none, .fld 1 (.t 5), []⟩,
 ⟨some 25, none, .ld 1 false (.t 24), []⟩,
 ⟨some 26, none, .ixs (.t 25) (.c (.int .i64 6)), []⟩,
 ⟨some 27, none, .cvi .i64 (.t 26), []⟩,
 ⟨some 28, none, .bin .mul (.t 27) (.c (.int .i64 256)), []⟩,
 ⟨some 29, none, .fld 1 (.t 5), []⟩,
 ⟨some 30, none, .ld 1 false (.t 29), []⟩,
 ⟨some 31, none, .ixs (.t 30) (.c (.int .i64 7)), []⟩,
 ⟨some 32, none, .cvi .i64 (.t 31), []⟩,
 ⟨some 33, none, .bin .add (.t 28) (.t 32), []⟩,
 ⟨some 7, none, .mv (.t 33), []⟩])
 .skip))
 (.seq
 (.ops 7 [⟨some 34, none, .mv (.t 7), []⟩,
 ⟨some 35, none, .bin .lss (.t 34) (.c (.int .i64 1)), []⟩,
 ⟨some 36, none, .mv (.t 35), []⟩,
 ⟨some 37, some (36, false), .mv (.t 7), []⟩,
 ⟨some 38, some (36, false), .bin .gtr (.t 37) (.c (.int .i64 511)), []⟩,
 ⟨some 39, none, .pick (.t 36) (.c (.bool true)) (.t 38), []⟩,
 ⟨some 40, none, .mv (.t 39), []⟩,
 ⟨some 41, some (40, false), .fld 1 (.t 5), []⟩,
 ⟨some 42, some (40, false), .ld 1 false (.t 41), []⟩,
 ⟨some 43, some (40, false), .mv (.t 7), []⟩,
 ⟨some 44, some (40, false), .call 13 [.t 43], [(42, .ld 1 false (.t 41))]⟩,
 ⟨some 45, some (40, false), .bin .neq (.t 42) (.t 44), []⟩,
 ⟨some 46, none, .pick (.t 40) (.c (.bool true)) (.t 45), []⟩])
 (.cond (.t 46)
 (.seq
 (.ops 8 [⟨some 6, none, .mv (.c (.int .i64 2)), []⟩])
 .ret)
 .skip))))
 .skip))
 (.seq
 (.seq
 (.ops 9 [⟨some 47, none, .fld 0 (.t 5), []⟩,
 ⟨some 48, none, .ld 1 false (.t 47), []⟩,
 ⟨some 49, none, .len .string (.t 48), []⟩,
 ⟨some 50, none, .bin .gtr (.t 49) (.c (.int .i64 24)), []⟩,
 ⟨some 51, none, .mv (.t 50), []⟩,
 ⟨some 52, some (51, false), .fld 1 (.t 5), []⟩,
 ⟨some 53, some (51, false), .ld 1 false (.t 52), []⟩,
 ⟨some 54, some (51, false), .len .string (.t 53), []⟩,
 ⟨some 55, some (51, false), .bin .gtr (.t 54) (.c (.int .i64 40)), []⟩,
 ⟨some 56, none, .pick (.t 51) (.c (.bool true)) (.t 55), []⟩])
 (.cond (.t 56)
 (.seq
 (.ops 10 [⟨some 6, none, .mv (.c (.int .i64 5)), []⟩])
 .ret)
 .skip))
 (.seq
 (.ops 11 [⟨some 6, none, .mv (.c (.int .i64 0)), []⟩])
 .ret)))))⟩
theorem F25_code : cfgA.code 25 = some F25 := by kernel_rfl

/-- ticketline/ticketlineref14.Sum: the round 0 -/
@[reducible] noncomputable def B26x0 : AC := (.seq
 (.seq
 (.ops 3 [⟨some 5, none, .mv (.t 4), []⟩,
 ⟨some 6, none, .mv (.t 0), []⟩,
 ⟨some 7, none, .len .slice (.t 6), []⟩,
 ⟨some 8, none, .bin .lss (.t 5) (.t 7), []⟩])
 (.cond (.t 8)
 .skip
 (.exit 0)))
 (.seq
 (.block 1
 (.ops 5 [⟨some 11, none, .mv (.t 3), []⟩,
 ⟨some 12, none, .mv (.t 0), []⟩,
 ⟨some 13, none, .mv (.t 4), []⟩,
 ⟨some 14, none, .ixa none 2 (.t 12) (.t 13), []⟩,
 ⟨some 15, none, .ld 2 true (.t 14), []⟩,
 ⟨some 16, none, .call 47 [.t 15], []⟩,
 ⟨some 17, none, .bin .add (.t 11) (.t 16), []⟩,
 ⟨some 3, none, .mv (.t 17), []⟩]))
 (.ops 4 [⟨some 9, none, .mv (.t 4), []⟩,
 ⟨some 10, none, .bin .add (.t 9) (.c (.int .i64 1)), []⟩,
 ⟨some 4, none, .mv (.t 10), []⟩])))

/-- ticketline/ticketlineref14.Sum -/
noncomputable def F26 : AFn := ⟨19, [.tmp 2], (.seq
 (.ops 0 [⟨some 2, none, .mv (.c (.int .i64 0)), []⟩])
 (.seq
 (.ops 1 [⟨some 3, none, .mv (.c (.int .i64 0)), []⟩])
 (.seq
 (.seq
 (.ops 2 [⟨some 4, none, .mv (.c (.int .i64 0)), []⟩])
 (.block 0
 (.loop [] B26x0)))
 (.seq
 (.ops 6 [⟨some 18, none, .mv (.t 3), []⟩,
 ⟨some 2, none, .mv (.t 18), []⟩])
 .ret))))⟩
theorem F26_code : cfgA.code 26 = some F26 := by kernel_rfl

/-- ticketline/ticketlineref14.Empty -/
noncomputable def F27 : AFn := ⟨28, [.cell 6 128 true], (.seq
 (.ops 0 [⟨some 6, none, .alloc (List.replicate 128 (.int .u64 0)) false, []⟩])
 (.seq
 (.ops 1 [⟨some 7, none, .alloc (List.replicate 128 (.int .u64 0)) false, []⟩])
 (.seq
 (.ops 2 [⟨some 8, none, .mv (.t 0), []⟩,
 ⟨some 9, none, .bin .add (.c (.int .i64 1)) (.t 8), []⟩,
 ⟨some 10, none, .cvi .u64 (.t 9), []⟩,
 ⟨some 11, none, .ixa (some 128) 1 (.t 7) (.c (.int .i64 8)), []⟩,
 ⟨none, none, .st 1 (.t 11) (.t 10), []⟩,
 ⟨some 12, none, .ixa (some 128) 1 (.t 7) (.c (.int .i64 11)), []⟩,
 ⟨none, none, .st 1 (.t 12) (.c (.int .u64 128)), []⟩])
 (.seq
 (.ops 3 [⟨some 13, none, .mv (.t 1), []⟩,
 ⟨some 14, none, .len .string (.t 13), []⟩,
 ⟨some 15, none, .cvi .u64 (.t 14), []⟩,
 ⟨some 16, none, .mv (.t 2), []⟩,
 ⟨some 17, none, .len .string (.t 16), []⟩,
 ⟨some 18, none, .cvi .u64 (.t 17), []⟩,
 ⟨some 19, none, .ixa (some 128) 1 (.t 7) (.c (.int .i64 12)), []⟩,
 ⟨none, none, .st 1 (.t 19) (.t 15), []⟩,
 ⟨some 20, none, .ixa (some 128) 1 (.t 7) (.c (.int .i64 16)), []⟩,
 ⟨none, none, .st 1 (.t 20) (.t 18), []⟩])
 (.seq
 (.ops 4 [⟨some 21, none, .mv (.t 1), []⟩,
 ⟨some 22, none, .call 49 [.t 21], []⟩,
 ⟨some 23, none, .call 48 [.t 7, .c (.int .i64 13), .t 22], []⟩])
 (.seq
 (.ops 5 [⟨some 24, none, .mv (.t 2), []⟩,
 ⟨some 25, none, .call 49 [.t 24], []⟩,
 ⟨some 26, none, .call 48 [.t 7, .c (.int .i64 17), .t 25], []⟩])
 (.seq
 (.ops 6 [⟨some 27, none, .ld 128 true (.t 7), []⟩,
 ⟨none, none, .st 128 (.t 6) (.t 27), []⟩])
 .ret)))))))⟩
theorem F27_code : cfgA.code 27 = some F27 := by kernel_rfl

/-- ticketline/ticketlineref14.Put -/
noncomputable def F28 : AFn := ⟨49, [.cell 4 128 true], (.seq
 (.ops 0 [⟨some 2, none, .box 128 (.t 0) false, []⟩,
 ⟨some 3, none, .box 2 (.t 1) false, []⟩,
 ⟨some 4, none, .alloc (List.replicate 128 (.int .u64 0)) false, []⟩])
 (.seq
 (.ops 1 [⟨some 6, none, .fld 0 (.t 3), []⟩,
 ⟨some 7, none, .ld 1 false (.t 6), []⟩,
 ⟨some 9, none, .fld 1 (.t 3), []⟩,
 ⟨some 10, none, .ld 1 false (.t 9), []⟩,
 ⟨some 8, none, .call 49 [.t 7], [(10, .ld 1 false (.t 9))]⟩,
 ⟨some 11, none, .call 49 [.t 10], []⟩,
 ⟨some 12, none, .app 1 8 (.t 8) (.t 11) false, []⟩,
 ⟨some 5, none, .mv (.t 12), []⟩])
 (.seq
 (.ops 2 [⟨some 13, none, .ixa (some 128) 1 (.t 2) (.c (.int .i64 11)), []⟩,
 ⟨some 14, none, .ld 1 false (.t 13), []⟩,
 ⟨some 15, none, .mv (.t 5), []⟩,
 ⟨some 16, none, .len .slice (.t 15), []⟩,
 ⟨some 17, none, .cvi .u64 (.t 16), []⟩,
 ⟨some 18, none, .bin .sub (.t 14) (.t 17), []⟩,
 ⟨some 19, none, .ixa (some 128) 1 (.t 2) (.c (.int .i64 11)), []⟩,
 ⟨none, none, .st 1 (.t 19) (.t 18), []⟩])
 (.seq
 (.ops 3 [⟨some 20, none, .ixa (some 128) 1 (.t 2) (.c (.int .i64 11)), []⟩,
 ⟨some 21, none, .ld 1 false (.t 20), []⟩,
 ⟨some 22, none, .cvi .i64 (.t 21), []⟩,
 ⟨some 23, none, .mv (.t 5), []⟩,
 ⟨some 24, none, .call 48 [.t 2, .t 22, .t 23], []⟩])
 (.seq
 (.ops 4 [⟨some 25, none, .ixa (some 128) 1 (.t 2) (.c (.int .i64 9)), []⟩,
 ⟨some 26, none, .ld 1 false (.t 25), []⟩,
 ⟨some 27, none, .cvi .i64 (.t 26), []⟩,
 ⟨some 28, none, .bin .add (.c (.int .i64 20)) (.t 27), []⟩,
 ⟨some 29, none, .ixa (some 128) 1 (.t 2) (.c (.int .i64 11)), []⟩,
 ⟨some 30, none, .ld 1 false (.t 29), []⟩,
 ⟨some 31, none, .bin .mul (.c (.int .u64 65536)) (.t 30), []⟩,
 ⟨some 32, none, .fld 0 (.t 3), []⟩,
 ⟨some 33, none, .ld 1 false (.t 32), []⟩,
 ⟨some 34, none, .len .string (.t 33), []⟩,
 ⟨some 35, none, .cvi .u64 (.t 34), []⟩,
 ⟨some 36, none, .bin .mul (.c (.int .u64 256)) (.t 35), []⟩,
 ⟨some 37, none, .bin .add (.t 31) (.t 36), []⟩,
 ⟨some 38, none, .fld 1 (.t 3), []⟩,
 ⟨some 39, none, .ld 1 false (.t 38), []⟩,
 ⟨some 40, none, .len .string (.t 39), []⟩,
 ⟨some 41, none, .cvi .u64 (.t 40), []⟩,
 ⟨some 42, none, .bin .add (.t 37) (.t 41), []⟩,
 ⟨some 43, none, .ixa (some 128) 1 (.t 2) (.t 28), []⟩,
 ⟨none, none, .st 1 (.t 43) (.t 42), []⟩])
 (.seq
 (.ops 5 [⟨some 44, none, .ixa (some 128) 1 (.t 2) (.c (.int .i64 9)), []⟩,
 ⟨some 45, none, .ld 1 false (.t 44), []⟩,
 ⟨some 46, none, .bin .add (.t 45) (.c (.int .u64 1)), []⟩,
 ⟨some 47, none, .ixa (some 128) 1 (.t 2) (.c (.int .i64 9)), []⟩,
 ⟨none, none, .st 1 (.t 47) (.t 46), []⟩])
 (.seq
 (.ops 6 [⟨some 48, none, .ld 128 true (.t 2), []⟩,
 ⟨none, none, .st 128 (.t 4) (.t 48), []⟩])
 .ret)))))))⟩
theorem F28_code : cfgA.code 28 = some F28 := by kernel_rfl

/-- ticketline/mem.New -/
noncomputable def F29 : AFn := ⟨14, [.tmp 2, .tmp 3], (.seq
 (.ops 0 [⟨some 2, none, .mv (.c (.nilp)), []⟩,
 ⟨some 3, none, .mv (.c (.int .i64 0)), []⟩])
 (.seq
 (.seq
 (.ops 1 [⟨some 4, none, .mv (.t 0), []⟩,
 ⟨some 5, none, .bin .lss (.t 4) (.c (.int .i64 1)), []⟩,
 ⟨some 6, none, .mv (.t 5), []⟩,
 ⟨some 7, some (6, false), .mv (.t 0), []⟩,
 ⟨some 8, some (6, false), .bin .gtr (.t 7) (.c (.int .i64 65536)), []⟩,
 ⟨some 9, none, .pick (.t 6) (.c (.bool true)) (.t 8), []⟩])
 (.cond (.t 9)
 (.seq
 (.ops 2 [⟨some 2, none, .mv (.c (.nilp)), []⟩,
 ⟨some 3, none, .mv (.c (.int .i64 2)), []⟩])
 .ret)
 .skip))
 (.seq
 (.ops 3 [⟨some 10, none, .mv (.t 0), []⟩,
 ⟨some 11, none, .mks [.int .u64 0] 1 8 (.t 10) (.t 10) true, []⟩,
 ⟨some 12, none, .build [.nils] [(0, 1, (.t 11))], []⟩,
 ⟨some 13, none, .box 1 (.t 12) true, []⟩,
 ⟨some 2, none, .mv (.t 13), []⟩,
 ⟨some 3, none, .mv (.c (.int .i64 0)), []⟩])
 .ret)))⟩
theorem F29_code : cfgA.code 29 = some F29 := by kernel_rfl

/-- ticketline/arena.Format: the round 0 -/
@[reducible] noncomputable def B30x0 : AC := (.seq
 (.ops 7 [⟨some 35, none, .bin .lss (.t 34) (.t 33), []⟩])
 (.seq
 (.cond (.t 35)
 .skip
 (.exit 1))
 (.seq
 (.block 2
 (.seq
 (.ops 8 [⟨some 36, none, .mv (.t 34), []⟩,
 ⟨some 7, none, .mv (.t 36), []⟩])
 (.ops 9 [⟨some 37, none, .ld 1 true (.t 6), []⟩,
 ⟨some 38, none, .mv (.t 7), []⟩,
 ⟨some 39, none, .call 37 [.t 37, .t 38, .c (.int .u64 0)], []⟩])))
 (.ops 10 [⟨some 40, none, .bin .add (.t 34) (.c (.int .i64 1)), []⟩,
 ⟨some 34, none, .mv (.t 40), []⟩]))))

/-- ticketline/arena.Format: the round 1 -/
@[reducible] noncomputable def B30x1 : AC := (.seq
 (.seq
 (.ops 15 [⟨some 49, none, .mv (.t 8), []⟩,
 ⟨some 50, none, .mv (.t 1), []⟩,
 ⟨some 51, none, .bin .lss (.t 49) (.t 50), []⟩])
 (.cond (.t 51)
 .skip
 (.exit 3)))
 (.seq
 (.block 4
 (.ops 17 [⟨some 54, none, .ld 1 true (.t 6), []⟩,
 ⟨some 55, none, .mv (.t 8), []⟩,
 ⟨some 57, none, .mv (.t 8), []⟩,
 ⟨some 58, none, .bin .add (.t 57) (.c (.int .i64 1)), []⟩,
 ⟨some 59, none, .cvi .u64 (.t 58), []⟩,
 ⟨some 56, none, .call 51 [.t 55, .c (.int .i64 10)], [(54, .ld 1 true (.t 6))]⟩,
 ⟨some 60, none, .call 37 [.t 54, .t 56, .t 59], []⟩]))
 (.ops 16 [⟨some 52, none, .mv (.t 8), []⟩,
 ⟨some 53, none, .bin .add (.t 52) (.c (.int .i64 1)), []⟩,
 ⟨some 8, none, .mv (.t 53), []⟩])))

/-- ticketline/arena.Format -/
noncomputable def F30 : AFn := ⟨64, [.tmp 4, .tmp 5], (.seq
 (.ops 0 [⟨some 4, none, .mv (.c (.nilp)), []⟩,
 ⟨some 5, none, .mv (.c (.int .i64 0)), []⟩])
 (.seq
 (.block 0
 (.seq
 (.ops 1 [⟨some 10, none, .mv (.t 0), []⟩,
 ⟨some 11, none, .call 50 [.t 10], []⟩,
 ⟨some 12, none, .bin .eql (.t 11) (.c (.int .i64 0)), []⟩,
 ⟨some 9, none, .mv (.t 12), []⟩])
 (.cond (.t 9)
 (.seq
 (.ops 2 [⟨some 4, none, .mv (.c (.nilp)), []⟩,
 ⟨some 5, none, .mv (.c (.int .i64 1)), []⟩])
 .ret)
 (.seq
 (.ops 3 [⟨some 14, none, .mv (.t 1), []⟩,
 ⟨some 15, none, .bin .lss (.t 14) (.c (.int .i64 1)), []⟩,
 ⟨some 16, none, .mv (.t 15), []⟩,
 ⟨some 17, some (16, false), .mv (.t 1), []⟩,
 ⟨some 18, some (16, false), .bin .gtr (.t 17) (.c (.int .i64 511)), []⟩,
 ⟨some 19, none, .pick (.t 16) (.c (.bool true)) (.t 18), []⟩,
 ⟨some 20, none, .mv (.t 19), []⟩,
 ⟨some 21, some (20, false), .mv (.t 1), []⟩,
 ⟨some 22, some (20, false), .bin .add (.t 21) (.c (.int .i64 1)), []⟩,
 ⟨some 23, some (20, false), .call 51 [.t 22, .c (.int .i64 0)], []⟩,
 ⟨some 24, some (20, false), .mv (.t 0), []⟩,
 ⟨some 25, some (20, false), .call 50 [.t 24], []⟩,
 ⟨some 26, some (20, false), .bin .gtr (.t 23) (.t 25), []⟩,
 ⟨some 27, none, .pick (.t 20) (.c (.bool true)) (.t 26), []⟩,
 ⟨some 13, none, .mv (.t 27), []⟩])
 (.cond (.t 13)
 (.seq
 (.ops 4 [⟨some 4, none, .mv (.c (.nilp)), []⟩,
 ⟨some 5, none, .mv (.c (.int .i64 2)), []⟩])
 .ret)
 .skip)))))
 (.seq
 (.ops 5 [⟨some 28, none, .mv (.t 0), []⟩,
 ⟨some 29, none, .call 52 [.t 28], []⟩,
 ⟨some 30, none, .build [.nilp] [(0, 1, (.t 29))], []⟩,
 ⟨some 6, none, .alloc [.nilp] false, []⟩,
 ⟨none, none, .st 1 (.t 6) (.t 30), []⟩])
 (.seq
 (.seq
 (.ops 6 [⟨some 31, none, .mv (.t 1), []⟩,
 ⟨some 32, none, .bin .add (.t 31) (.c (.int .i64 1)), []⟩,
 ⟨some 33, none, .call 51 [.t 32, .c (.int .i64 0)], []⟩,
 ⟨some 34, none, .mv (.c (.int .i64 0)), []⟩])
 (.block 1
 (.loop [] B30x0)))
 (.seq
 (.ops 11 [⟨some 41, none, .ld 1 true (.t 6), []⟩,
 ⟨some 42, none, .mv (.t 1), []⟩,
 ⟨some 43, none, .cvi .u64 (.t 42), []⟩,
 ⟨some 44, none, .call 37 [.t 41, .c (.int .i64 0), .t 43], []⟩])
 (.seq
 (.ops 12 [⟨some 45, none, .ld 1 true (.t 6), []⟩,
 ⟨some 46, none, .call 37 [.t 45, .c (.int .i64 1), .c (.int .u64 1)], []⟩])
 (.seq
 (.ops 13 [⟨some 47, none, .ld 1 true (.t 6), []⟩,
 ⟨some 48, none, .call 37 [.t 47, .c (.int .i64 4), .c (.int .u64 1)], []⟩])
 (.seq
 (.seq
 (.ops 14 [⟨some 8, none, .mv (.c (.int .i64 1)), []⟩])
 (.block 3
 (.loop [] B30x1)))
 (.seq
 (.ops 18 [⟨some 61, none, .ld 1 true (.t 6), []⟩,
 ⟨some 62, none, .build [.nilp] [(0, 1, (.t 61))], []⟩,
 ⟨some 63, none, .box 1 (.t 62) true, []⟩,
 ⟨some 4, none, .mv (.t 63), []⟩,
 ⟨some 5, none, .mv (.c (.int .i64 0)), []⟩])
 .ret)))))))))⟩
theorem F30_code : cfgA.code 30 = some F30 := by kernel_rfl

/-- (*ticketline/arena.Arena).Alloc -/
noncomputable def F31 : AFn := ⟨39, [.tmp 4, .tmp 5], (.seq
 (.ops 0 [⟨some 3, none, .box 128 (.t 1) false, []⟩,
 ⟨some 4, none, .mv (.c (.int .i64 0)), []⟩,
 ⟨some 5, none, .mv (.c (.int .i64 0)), []⟩])
 (.seq
 (.block 0
 (.seq
 (.ops 1 [⟨some 8, none, .mv (.t 0), []⟩,
 ⟨some 9, none, .call 33 [.t 8], []⟩,
 ⟨some 7, none, .mv (.t 9), []⟩])
 (.cond (.t 7)
 (.seq
 (.ops 2 [⟨some 4, none, .mv (.c (.int .i64 0)), []⟩,
 ⟨some 5, none, .mv (.c (.int .i64 1)), []⟩])
 .ret)
 (.seq
 (.ops 3 [⟨some 11, none, .ld 128 true (.t 3), []⟩,
 ⟨some 12, none, .call 53 [.t 11], []⟩,
 ⟨some 13, none, .un .not (.t 12), []⟩,
 ⟨some 10, none, .mv (.t 13), []⟩])
 (.cond (.t 10)
 (.seq
 (.ops 4 [⟨some 4, none, .mv (.c (.int .i64 0)), []⟩,
 ⟨some 5, none, .mv (.c (.int .i64 12)), []⟩])
 .ret)
 .skip)))))
 (.seq
 (.ops 5 [⟨some 14, none, .mv (.t 0), []⟩,
 ⟨some 15, none, .nilc (.t 14) (mok Try.prog), []⟩,
 ⟨some 16, none, .fld 0 (.t 15), []⟩,
 ⟨some 17, none, .ld 1 true (.t 16), []⟩,
 ⟨some 18, none, .call 54 [.t 17, .c (.int .i64 1)], []⟩,
 ⟨some 19, none, .cvi .i64 (.t 18), []⟩,
 ⟨some 6, none, .mv (.t 19), []⟩])
 (.seq
 (.seq
 (.ops 6 [⟨some 20, none, .mv (.t 6), []⟩,
 ⟨some 21, none, .bin .eql (.t 20) (.c (.int .i64 0)), []⟩])
 (.cond (.t 21)
 (.seq
 (.ops 7 [⟨some 4, none, .mv (.c (.int .i64 0)), []⟩,
 ⟨some 5, none, .mv (.c (.int .i64 7)), []⟩])
 .ret)
 .skip))
 (.seq
 (.ops 8 [⟨some 22, none, .mv (.t 0), []⟩,
 ⟨some 23, none, .nilc (.t 22) (mok Try.prog), []⟩,
 ⟨some 24, none, .fld 0 (.t 23), []⟩,
 ⟨some 25, none, .ld 1 true (.t 24), []⟩,
 ⟨some 26, none, .mv (.t 0), []⟩,
 ⟨some 27, none, .nilc (.t 26) (mok Try.prog), []⟩,
 ⟨some 28, none, .fld 0 (.t 27), []⟩,
 ⟨some 29, none, .ld 1 true (.t 28), []⟩,
 ⟨some 30, none, .mv (.t 6), []⟩,
 ⟨some 31, none, .call 51 [.t 30, .c (.int .i64 10)], [(25, .ld 1 true (.t 24)), (29, .ld 1 true (.t 28))]⟩,
 ⟨some 32, none, .call 54 [.t 29, .t 31], [(25, .ld 1 true (.t 24))]⟩,
 ⟨some 33, none, .call 37 [.t 25, .c (.int .i64 1), .t 32], []⟩])
 (.seq
 (.ops 9 [⟨some 34, none, .mv (.t 0), []⟩,
 ⟨some 35, none, .mv (.t 6), []⟩,
 ⟨some 36, none, .ld 128 true (.t 3), []⟩,
 ⟨some 37, none, .call 55 [.t 34, .t 35, .t 36], []⟩])
 (.seq
 (.ops 10 [⟨some 38, none, .mv (.t 6), []⟩,
 ⟨some 4, none, .mv (.t 38), []⟩,
 ⟨some 5, none, .mv (.c (.int .i64 0)), []⟩])
 .ret)))))))⟩
theorem F31_code : cfgA.code 31 = some F31 := by kernel_rfl

/-- ticketline/ticketlinelaw23.same: the round 0 -/
@[reducible] noncomputable def B32x0 : AC := (.seq
 (.seq
 (.ops 4 [⟨some 11, none, .mv (.t 5), []⟩,
 ⟨some 12, none, .mv (.t 0), []⟩,
 ⟨some 13, none, .len .slice (.t 12), []⟩,
 ⟨some 14, none, .bin .lss (.t 11) (.t 13), []⟩])
 (.cond (.t 14)
 .skip
 (.exit 0)))
 (.seq
 (.block 1
 (.seq
 (.ops 6 [⟨some 17, none, .mv (.t 0), []⟩,
 ⟨some 18, none, .mv (.t 5), []⟩,
 ⟨some 19, none, .ixa none 2 (.t 17) (.t 18), []⟩,
 ⟨some 20, none, .ld 2 true (.t 19), []⟩,
 ⟨some 21, none, .mv (.t 1), []⟩,
 ⟨some 22, none, .mv (.t 5), []⟩,
 ⟨some 23, none, .ixa none 2 (.t 21) (.t 22), []⟩,
 ⟨some 24, none, .ld 2 true (.t 23), []⟩,
 ⟨some 25, none, .eqs true [.int, .int] (.t 20) (.t 24), []⟩])
 (.cond (.t 25)
 (.seq
 (.ops 7 [⟨some 4, none, .mv (.c (.bool false)), []⟩])
 .ret)
 .skip)))
 (.ops 5 [⟨some 15, none, .mv (.t 5), []⟩,
 ⟨some 16, none, .bin .add (.t 15) (.c (.int .i64 1)), []⟩,
 ⟨some 5, none, .mv (.t 16), []⟩])))

/-- ticketline/ticketlinelaw23.same -/
noncomputable def F32 : AFn := ⟨26, [.tmp 4], (.seq
 (.ops 0 [⟨some 4, none, .mv (.c (.bool false)), []⟩])
 (.seq
 (.seq
 (.ops 1 [⟨some 6, none, .mv (.t 0), []⟩,
 ⟨some 7, none, .len .slice (.t 6), []⟩,
 ⟨some 8, none, .mv (.t 1), []⟩,
 ⟨some 9, none, .len .slice (.t 8), []⟩,
 ⟨some 10, none, .bin .neq (.t 7) (.t 9), []⟩])
 (.cond (.t 10)
 (.seq
 (.ops 2 [⟨some 4, none, .mv (.c (.bool false)), []⟩])
 .ret)
 .skip))
 (.seq
 (.seq
 (.ops 3 [⟨some 5, none, .mv (.c (.int .i64 0)), []⟩])
 (.block 0
 (.loop [] B32x0)))
 (.seq
 (.ops 8 [⟨some 4, none, .mv (.c (.bool true)), []⟩])
 .ret))))⟩
theorem F32_code : cfgA.code 32 = some F32 := by kernel_rfl

/-- (*ticketline/arena.Arena).none -/
noncomputable def F33 : AFn := ⟨13, [.tmp 2], (.seq
 (.ops 0 [⟨some 2, none, .mv (.c (.bool false)), []⟩])
 (.seq
 (.ops 1 [⟨some 3, none, .mv (.t 0), []⟩,
 ⟨some 4, none, .eqn .ptr false (.t 3), []⟩,
 ⟨some 5, none, .mv (.t 4), []⟩,
 ⟨some 6, some (5, false), .mv (.t 0), []⟩,
 ⟨some 7, some (5, false), .nilc (.t 6) (mok Try.prog), []⟩,
 ⟨some 8, some (5, false), .fld 0 (.t 7), []⟩,
 ⟨some 9, some (5, false), .fld 0 (.t 8), []⟩,
 ⟨some 10, some (5, false), .ld 1 false (.t 9), []⟩,
 ⟨some 11, some (5, false), .eqn .ptr false (.t 10), []⟩,
 ⟨some 12, none, .pick (.t 5) (.c (.bool true)) (.t 11), []⟩,
 ⟨some 2, none, .mv (.t 12), []⟩])
 .ret))⟩
theorem F33_code : cfgA.code 33 = some F33 := by kernel_rfl

/-- (*ticketline/arena.Arena).Mem -/
noncomputable def F34 : AFn := ⟨11, [.tmp 2], (.seq
 (.ops 0 [⟨some 2, none, .mv (.c (.nilp)), []⟩])
 (.seq
 (.seq
 (.ops 1 [⟨some 3, none, .mv (.t 0), []⟩,
 ⟨some 4, none, .call 33 [.t 3], []⟩])
 (.cond (.t 4)
 (.seq
 (.ops 2 [⟨some 2, none, .mv (.c (.nilp)), []⟩])
 .ret)
 .skip))
 (.seq
 (.ops 3 [⟨some 5, none, .mv (.t 0), []⟩,
 ⟨some 6, none, .nilc (.t 5) (mok Try.prog), []⟩,
 ⟨some 7, none, .fld 0 (.t 6), []⟩,
 ⟨some 8, none, .fld 0 (.t 7), []⟩,
 ⟨some 9, none, .ld 1 false (.t 8), []⟩,
 ⟨some 10, none, .call 52 [.t 9], []⟩,
 ⟨some 2, none, .mv (.t 10), []⟩])
 .ret)))⟩
theorem F34_code : cfgA.code 34 = some F34 := by kernel_rfl

/-- (*ticketline/arena.Arena).busy -/
noncomputable def F35 : AFn := ⟨28, [.tmp 6], (.seq
 (.ops 0 [⟨some 6, none, .mv (.c (.int .i64 0)), []⟩])
 (.seq
 (.ops 1 [⟨some 8, none, .mv (.t 0), []⟩,
 ⟨some 9, none, .mv (.t 1), []⟩,
 ⟨some 10, none, .call 56 [.t 8, .t 9], []⟩,
 ⟨some 7, none, .mv (.t 10), []⟩])
 (.seq
 (.block 0
 (.seq
 (.ops 2 [⟨some 12, none, .mv (.t 7), []⟩,
 ⟨some 13, none, .bin .neq (.t 12) (.c (.int .i64 0)), []⟩,
 ⟨some 11, none, .mv (.t 13), []⟩])
 (.cond (.t 11)
 (.seq
 (.ops 3 [⟨some 14, none, .mv (.t 7), []⟩,
 ⟨some 6, none, .mv (.t 14), []⟩])
 .ret)
 (.seq
 (.ops 4 [⟨some 16, none, .mv (.t 0), []⟩,
 ⟨some 17, none, .mv (.t 1), []⟩,
 ⟨some 18, none, .call 45 [.t 16, .t 17], []⟩,
 ⟨some 19, none, .un .not (.t 18), []⟩,
 ⟨some 15, none, .mv (.t 19), []⟩])
 (.cond (.t 15)
 (.seq
 (.ops 5 [⟨some 6, none, .mv (.c (.int .i64 8)), []⟩])
 .ret)
 (.seq
 (.ops 6 [⟨some 21, none, .mv (.t 2), []⟩,
 ⟨some 22, none, .mv (.t 21), []⟩,
 ⟨some 23, some (22, true), .mv (.t 0), []⟩,
 ⟨some 24, some (22, true), .call 40 [.t 23], []⟩,
 ⟨some 25, some (22, true), .mv (.t 1), []⟩,
 ⟨some 26, some (22, true), .bin .eql (.t 24) (.t 25), []⟩,
 ⟨some 27, none, .pick (.t 22) (.t 26) (.c (.bool false)), []⟩,
 ⟨some 20, none, .mv (.t 27), []⟩])
 (.cond (.t 20)
 (.seq
 (.ops 7 [⟨some 6, none, .mv (.c (.int .i64 11)), []⟩])
 .ret)
 .skip)))))))
 (.seq
 (.ops 8 [⟨some 6, none, .mv (.c (.int .i64 0)), []⟩])
 .ret))))⟩
theorem F35_code : cfgA.code 35 = some F35 := by kernel_rfl

/-- (*ticketline/arena.Arena).free -/
noncomputable def F36 : AFn := ⟨22, [], (.seq
 (.ops 0 [⟨some 4, none, .alloc (List.replicate 128 (.int .u64 0)) false, []⟩])
 (.seq
 (.ops 1 [⟨some 5, none, .mv (.t 0), []⟩,
 ⟨some 6, none, .nilc (.t 5) (mok Try.prog), []⟩,
 ⟨some 7, none, .fld 0 (.t 6), []⟩,
 ⟨some 8, none, .ld 1 true (.t 7), []⟩,
 ⟨some 9, none, .call 54 [.t 8, .c (.int .i64 1)], []⟩,
 ⟨some 10, none, .ixa (some 128) 1 (.t 4) (.c (.int .i64 10)), []⟩,
 ⟨none, none, .st 1 (.t 10) (.t 9), []⟩])
 (.seq
 (.ops 2 [⟨some 11, none, .mv (.t 0), []⟩,
 ⟨some 12, none, .mv (.t 1), []⟩,
 ⟨some 13, none, .ld 128 true (.t 4), []⟩,
 ⟨some 14, none, .call 55 [.t 11, .t 12, .t 13], []⟩])
 (.ops 3 [⟨some 15, none, .mv (.t 0), []⟩,
 ⟨some 16, none, .nilc (.t 15) (mok Try.prog), []⟩,
 ⟨some 17, none, .fld 0 (.t 16), []⟩,
 ⟨some 18, none, .ld 1 true (.t 17), []⟩,
 ⟨some 19, none, .mv (.t 1), []⟩,
 ⟨some 20, none, .cvi .u64 (.t 19), []⟩,
 ⟨some 21, none, .call 37 [.t 18, .c (.int .i64 1), .t 20], []⟩]))))⟩
theorem F36_code : cfgA.code 36 = some F36 := by kernel_rfl

/-- (ticketline/arena.words).set -/
noncomputable def F37 : AFn := ⟨11, [], (.seq
 (.ops 0 [⟨some 3, none, .box 1 (.t 0) false, []⟩])
 (.ops 1 [⟨some 6, none, .fld 0 (.t 3), []⟩,
 ⟨some 7, none, .ld 1 false (.t 6), []⟩,
 ⟨some 8, none, .mv (.t 1), []⟩,
 ⟨some 9, none, .mv (.t 2), []⟩,
 ⟨some 10, none, .call 57 [.t 7, .t 8, .t 9], []⟩]))⟩
theorem F37_code : cfgA.code 37 = some F37 := by kernel_rfl

/-- (*ticketline/arena.Arena).Counts: the round 0 -/
@[reducible] noncomputable def B38x0 : AC := (.seq
 (.seq
 (.ops 4 [⟨some 9, none, .mv (.t 6), []⟩,
 ⟨some 10, none, .mv (.t 0), []⟩,
 ⟨some 11, none, .call 44 [.t 10], []⟩,
 ⟨some 12, none, .bin .leq (.t 9) (.t 11), []⟩])
 (.cond (.t 12)
 .skip
 (.exit 0)))
 (.seq
 (.block 1
 (.block 2
 (.seq
 (.ops 6 [⟨some 16, none, .mv (.t 0), []⟩,
 ⟨some 17, none, .mv (.t 6), []⟩,
 ⟨some 18, none, .call 58 [.t 16, .t 17], []⟩,
 ⟨some 19, none, .bin .eql (.t 18) (.c (.int .u64 0)), []⟩,
 ⟨some 15, none, .mv (.t 19), []⟩])
 (.cond (.t 15)
 (.ops 7 [⟨some 20, none, .mv (.t 3), []⟩,
 ⟨some 21, none, .bin .add (.t 20) (.c (.int .i64 1)), []⟩,
 ⟨some 3, none, .mv (.t 21), []⟩])
 (.seq
 (.ops 8 [⟨some 23, none, .mv (.t 0), []⟩,
 ⟨some 24, none, .mv (.t 6), []⟩,
 ⟨some 25, none, .call 58 [.t 23, .t 24], []⟩,
 ⟨some 26, none, .bin .eql (.t 25) (.c (.int .u64 255)), []⟩,
 ⟨some 22, none, .mv (.t 26), []⟩])
 (.cond (.t 22)
 (.ops 9 [⟨some 27, none, .mv (.t 5), []⟩,
 ⟨some 28, none, .bin .add (.t 27) (.c (.int .i64 1)), []⟩,
 ⟨some 5, none, .mv (.t 28), []⟩])
 (.seq
 (.ops 10 [⟨some 30, none, .mv (.t 0), []⟩,
 ⟨some 31, none, .mv (.t 6), []⟩,
 ⟨some 32, none, .call 45 [.t 30, .t 31], []⟩,
 ⟨some 29, none, .mv (.t 32), []⟩])
 (.cond (.t 29)
 (.ops 11 [⟨some 33, none, .mv (.t 4), []⟩,
 ⟨some 34, none, .bin .add (.t 33) (.c (.int .i64 1)), []⟩,
 ⟨some 4, none, .mv (.t 34), []⟩])
 .skip))))))))
 (.ops 5 [⟨some 13, none, .mv (.t 6), []⟩,
 ⟨some 14, none, .bin .add (.t 13) (.c (.int .i64 1)), []⟩,
 ⟨some 6, none, .mv (.t 14), []⟩])))

/-- (*ticketline/arena.Arena).Counts -/
noncomputable def F38 : AFn := ⟨40, [.tmp 2, .tmp 3, .tmp 4, .tmp 5], (.seq
 (.ops 0 [⟨some 2, none, .mv (.c (.int .i64 0)), []⟩,
 ⟨some 3, none, .mv (.c (.int .i64 0)), []⟩,
 ⟨some 4, none, .mv (.c (.int .i64 0)), []⟩,
 ⟨some 5, none, .mv (.c (.int .i64 0)), []⟩])
 (.seq
 (.seq
 (.ops 1 [⟨some 7, none, .mv (.t 0), []⟩,
 ⟨some 8, none, .call 33 [.t 7], []⟩])
 (.cond (.t 8)
 (.seq
 (.ops 2 [⟨some 2, none, .mv (.c (.int .i64 0)), []⟩,
 ⟨some 3, none, .mv (.c (.int .i64 0)), []⟩,
 ⟨some 4, none, .mv (.c (.int .i64 0)), []⟩,
 ⟨some 5, none, .mv (.c (.int .i64 0)), []⟩])
 .ret)
 .skip))
 (.seq
 (.seq
 (.ops 3 [⟨some 6, none, .mv (.c (.int .i64 1)), []⟩])
 (.block 0
 (.loop [] B38x0)))
 (.seq
 (.ops 12 [⟨some 35, none, .mv (.t 0), []⟩,
 ⟨some 36, none, .call 44 [.t 35], []⟩,
 ⟨some 37, none, .mv (.t 3), []⟩,
 ⟨some 38, none, .mv (.t 4), []⟩,
 ⟨some 39, none, .mv (.t 5), []⟩,
 ⟨some 2, none, .mv (.t 36), []⟩,
 ⟨some 3, none, .mv (.t 37), []⟩,
 ⟨some 4, none, .mv (.t 38), []⟩,
 ⟨some 5, none, .mv (.t 39), []⟩])
 .ret))))⟩
theorem F38_code : cfgA.code 38 = some F38 := by kernel_rfl

/-- (*ticketline/arena.Arena).Read: the round 0 -/
@[reducible] noncomputable def B39x0 : AC := (.seq
 (.ops 6 [⟨some 17, none, .bin .lss (.t 16) (.c (.int .i64 128)), []⟩])
 (.seq
 (.cond (.t 17)
 .skip
 (.exit 0))
 (.seq
 (.block 1
 (.seq
 (.ops 7 [⟨some 18, none, .mv (.t 16), []⟩,
 ⟨some 8, none, .mv (.t 18), []⟩])
 (.ops 8 [⟨some 19, none, .mv (.t 8), []⟩,
 ⟨some 20, none, .mv (.t 0), []⟩,
 ⟨some 21, none, .nilc (.t 20) (mok Try.prog), []⟩,
 ⟨some 22, none, .fld 0 (.t 21), []⟩,
 ⟨some 23, none, .ld 1 true (.t 22), []⟩,
 ⟨some 24, none, .mv (.t 1), []⟩,
 ⟨some 25, none, .mv (.t 8), []⟩,
 ⟨some 26, none, .call 51 [.t 24, .t 25], [(23, .ld 1 true (.t 22))]⟩,
 ⟨some 27, none, .call 54 [.t 23, .t 26], []⟩,
 ⟨some 28, none, .ixa (some 128) 1 (.t 6) (.t 19), []⟩,
 ⟨none, none, .st 1 (.t 28) (.t 27), []⟩])))
 (.ops 9 [⟨some 29, none, .bin .add (.t 16) (.c (.int .i64 1)), []⟩,
 ⟨some 16, none, .mv (.t 29), []⟩]))))

/-- (*ticketline/arena.Arena).Read -/
noncomputable def F39 : AFn := ⟨31, [.cell 4 128 true, .tmp 5], (.seq
 (.ops 0 [⟨some 4, none, .alloc (List.replicate 128 (.int .u64 0)) false, []⟩,
 ⟨some 5, none, .mv (.c (.int .i64 0)), []⟩])
 (.seq
 (.ops 1 [⟨some 6, none, .alloc (List.replicate 128 (.int .u64 0)) false, []⟩])
 (.seq
 (.seq
 (.ops 2 [⟨some 9, none, .mv (.t 0), []⟩,
 ⟨some 10, none, .mv (.t 1), []⟩,
 ⟨some 11, none, .call 56 [.t 9, .t 10], []⟩,
 ⟨some 7, none, .mv (.t 11), []⟩])
 (.seq
 (.ops 3 [⟨some 12, none, .mv (.t 7), []⟩,
 ⟨some 13, none, .bin .neq (.t 12) (.c (.int .i64 0)), []⟩])
 (.cond (.t 13)
 (.seq
 (.ops 4 [⟨some 14, none, .ld 128 true (.t 6), []⟩,
 ⟨some 15, none, .mv (.t 7), []⟩,
 ⟨none, none, .st 128 (.t 4) (.t 14), []⟩,
 ⟨some 5, none, .mv (.t 15), []⟩])
 .ret)
 .skip)))
 (.seq
 (.seq
 (.ops 5 [⟨some 16, none, .mv (.c (.int .i64 0)), []⟩])
 (.block 0
 (.loop [] B39x0)))
 (.seq
 (.ops 10 [⟨some 30, none, .ld 128 true (.t 6), []⟩,
 ⟨none, none, .st 128 (.t 4) (.t 30), []⟩,
 ⟨some 5, none, .mv (.c (.int .i64 0)), []⟩])
 .ret)))))⟩
theorem F39_code : cfgA.code 39 = some F39 := by kernel_rfl

/-- (*ticketline/arena.Arena).Root -/
noncomputable def F40 : AFn := ⟨11, [.tmp 2], (.seq
 (.ops 0 [⟨some 2, none, .mv (.c (.int .i64 0)), []⟩])
 (.seq
 (.seq
 (.ops 1 [⟨some 3, none, .mv (.t 0), []⟩,
 ⟨some 4, none, .call 33 [.t 3], []⟩])
 (.cond (.t 4)
 (.seq
 (.ops 2 [⟨some 2, none, .mv (.c (.int .i64 0)), []⟩])
 .ret)
 .skip))
 (.seq
 (.ops 3 [⟨some 5, none, .mv (.t 0), []⟩,
 ⟨some 6, none, .nilc (.t 5) (mok Try.prog), []⟩,
 ⟨some 7, none, .fld 0 (.t 6), []⟩,
 ⟨some 8, none, .ld 1 true (.t 7), []⟩,
 ⟨some 9, none, .call 54 [.t 8, .c (.int .i64 3)], []⟩,
 ⟨some 10, none, .cvi .i64 (.t 9), []⟩,
 ⟨some 2, none, .mv (.t 10), []⟩])
 .ret)))⟩
theorem F40_code : cfgA.code 40 = some F40 := by kernel_rfl

/-- (*ticketline/check.checker).meet: the round 0 -/
@[reducible] noncomputable def B41x0 : AC := (.seq
 (.ops 5 [⟨some 61, none, .bin .lss (.t 60) (.t 59), []⟩])
 (.seq
 (.cond (.t 61)
 .skip
 (.exit 0))
 (.seq
 (.block 1
 (.seq
 (.ops 6 [⟨some 62, none, .mv (.t 60), []⟩,
 ⟨some 15, none, .mv (.t 62), []⟩])
 (.seq
 (.ops 7 [⟨some 64, none, .ld 128 true (.t 12), []⟩,
 ⟨some 65, none, .mv (.t 15), []⟩,
 ⟨some 66, none, .call 62 [.t 64, .t 65], []⟩,
 ⟨some 63, none, .mv (.t 66), []⟩,
 ⟨some 67, none, .ext (.t 63) 0, []⟩,
 ⟨some 68, none, .ext (.t 63) 1, []⟩,
 ⟨some 16, none, .mv (.t 67), []⟩,
 ⟨some 17, none, .mv (.t 68), []⟩])
 (.seq
 (.ops 8 [⟨some 70, none, .ld 128 true (.t 12), []⟩,
 ⟨some 71, none, .mv (.t 15), []⟩,
 ⟨some 72, none, .call 63 [.t 70, .t 71], []⟩,
 ⟨some 69, none, .mv (.t 72), []⟩,
 ⟨some 73, none, .ext (.t 69) 0, []⟩,
 ⟨some 74, none, .ext (.t 69) 1, []⟩,
 ⟨some 75, none, .ext (.t 69) 2, []⟩,
 ⟨some 18, none, .mv (.t 73), []⟩,
 ⟨some 19, none, .mv (.t 74), []⟩,
 ⟨some 20, none, .mv (.t 75), []⟩])
 (.seq
 (.ops 9 [⟨some 76, none, .mv (.t 17), []⟩,
 ⟨some 77, none, .bin .eql (.t 76) (.c (.int .i64 0)), []⟩,
 ⟨some 78, none, .mv (.t 77), []⟩,
 ⟨some 79, some (78, true), .mv (.t 20), []⟩,
 ⟨some 80, some (78, true), .bin .eql (.t 79) (.c (.int .i64 0)), []⟩,
 ⟨some 81, none, .pick (.t 78) (.t 80) (.c (.bool false)), []⟩])
 (.cond (.t 81)
 (.ops 10 [⟨some 82, none, .mv (.t 0), []⟩,
 ⟨some 83, none, .mv (.t 16), []⟩,
 ⟨some 84, none, .mv (.t 2), []⟩,
 ⟨some 85, none, .bin .sub (.t 84) (.c (.int .i64 1)), []⟩,
 ⟨some 86, none, .mv (.t 18), []⟩,
 ⟨some 87, none, .mv (.t 19), []⟩,
 ⟨some 88, none, .call 41 [.t 82, .t 83, .t 85, .t 86, .t 87, .c (.bool false)], []⟩])
 .skip))))))
 (.ops 11 [⟨some 89, none, .bin .add (.t 60) (.c (.int .i64 1)), []⟩,
 ⟨some 60, none, .mv (.t 89), []⟩]))))

/-- (*ticketline/check.checker).meet -/
noncomputable def F41 : AFn := ⟨90, [], (.seq
 (.ops 0 [⟨some 22, none, .mv (.t 0), []⟩,
 ⟨some 23, none, .mv (.t 1), []⟩,
 ⟨some 24, none, .mv (.t 2), []⟩,
 ⟨some 25, none, .mv (.t 3), []⟩,
 ⟨some 26, none, .mv (.t 4), []⟩,
 ⟨some 27, none, .mv (.t 5), []⟩,
 ⟨some 28, none, .call 59 [.t 22, .t 23, .t 24, .t 25, .t 26, .t 27], []⟩,
 ⟨some 21, none, .mv (.t 28), []⟩,
 ⟨some 29, none, .ext (.t 21) 0, []⟩,
 ⟨some 30, none, .ext (.t 21) 1, []⟩,
 ⟨some 12, none, .alloc (List.replicate 128 (.int .u64 0)) false, []⟩,
 ⟨none, none, .st 128 (.t 12) (.t 29), []⟩,
 ⟨some 13, none, .mv (.t 30), []⟩])
 (.seq
 (.ops 1 [⟨some 31, none, .mv (.t 1), []⟩,
 ⟨some 32, none, .mv (.t 2), []⟩,
 ⟨some 33, none, .ld 128 true (.t 12), []⟩,
 ⟨some 34, none, .mv (.t 13), []⟩,
 ⟨some 35, none, .build [.int .i64 0, .int .i64 0, .int .u64 0, .int .u64 0, .int .u64 0, .int .u64 0, .int .u64 0, .int .u64 0, .int .u64 0, .int .u64 0, .int .u64 0, .int .u64 0, .int .u64 0, .int .u64 0, .int .u64 0, .int .u64 0, .int .u64 0, .int .u64 0, .int .u64 0, .int .u64 0, .int .u64 0, .int .u64 0, .int .u64 0, .int .u64 0, .int .u64 0, .int .u64 0, .int .u64 0, .int .u64 0, .int .u64 0, .int .u64 0, .int .u64 0, .int .u64 0, .int .u64 0, .int .u64 0, .int .u64 0, .int .u64 0, .int .u64 0, .int .u64 0, .int .u64 0, .int .u64 0, .int .u64 0, .int .u64 0, .int .u64 0, .int .u64 0, .int .u64 0, .int .u64 0, .int .u64 0, .int .u64 0, .int .u64 0, .int .u64 0, .int .u64 0, .int .u64 0, .int .u64 0, .int .u64 0, .int .u64 0, .int .u64 0, .int .u64 0, .int .u64 0, .int .u64 0, .int .u64 0, .int .u64 0, .int .u64 0, .int .u64 0, .int .u64 0, .int .u64 0, .int .u64 0, .int .u64 0, .int .u64 0, .int .u64 0, .int .u64 0, .int .u64 0, .int .u64 0, .int .u64 0, .int .u64 0, .int .u64 0, .int .u64 0, .int .u64 0, .int .u64 0, .int .u64 0, .int .u64 0, .int .u64 0, .int .u64 0, .int .u64 0, .int .u64 0, .int .u64 0, .int .u64 0, .int .u64 0, .int .u64 0, .int .u64 0, .int .u64 0, .int .u64 0, .int .u64 0, .int .u64 0, .int .u64 0, .int .u64 0, .int .u64 0, .int .u64 0, .int .u64 0, .int .u64 0, .int .u64 0, .int .u64 0, .int .u64 0, .int .u64 0, .int .u64 0, .int .u64 0, .int .u64 0, .int .u64 0, .int .u64 0, .int .u64 0, .int .u64 0, .int .u64 0, .int .u64 0, .int .u64 0, .int .u64 0, .int .u64 0, .int .u64 0, .int .u64 0, .int .u64 0, .int .u64 0, .int .u64 0, .int .u64 0, .int .u64 0, .int .u64 0, .int .u64 0, .int .u64 0, .int .u64 0, .int .u64 0, .int .u64 0, .int .u64 0, .int .u64 0, .int .i64 0] [(0, 1, (.t 31)), (1, 1, (.t 32)), (2, 128, (.t 33)), (130, 1, (.t 34))], []⟩,
 ⟨some 14, none, .alloc [.int .i64 0, .int .i64 0, .int .u64 0, .int .u64 0, .int .u64 0, .int .u64 0, .int .u64 0, .int .u64 0, .int .u64 0, .int .u64 0, .int .u64 0, .int .u64 0, .int .u64 0, .int .u64 0, .int .u64 0, .int .u64 0, .int .u64 0, .int .u64 0, .int .u64 0, .int .u64 0, .int .u64 0, .int .u64 0, .int .u64 0, .int .u64 0, .int .u64 0, .int .u64 0, .int .u64 0, .int .u64 0, .int .u64 0, .int .u64 0, .int .u64 0, .int .u64 0, .int .u64 0, .int .u64 0, .int .u64 0, .int .u64 0, .int .u64 0, .int .u64 0, .int .u64 0, .int .u64 0, .int .u64 0, .int .u64 0, .int .u64 0, .int .u64 0, .int .u64 0, .int .u64 0, .int .u64 0, .int .u64 0, .int .u64 0, .int .u64 0, .int .u64 0, .int .u64 0, .int .u64 0, .int .u64 0, .int .u64 0, .int .u64 0, .int .u64 0, .int .u64 0, .int .u64 0, .int .u64 0, .int .u64 0, .int .u64 0, .int .u64 0, .int .u64 0, .int .u64 0, .int .u64 0, .int .u64 0, .int .u64 0, .int .u64 0, .int .u64 0, .int .u64 0, .int .u64 0, .int .u64 0, .int .u64 0, .int .u64 0, .int .u64 0, .int .u64 0, .int .u64 0, .int .u64 0, .int .u64 0, .int .u64 0, .int .u64 0, .int .u64 0, .int .u64 0, .int .u64 0, .int .u64 0, .int .u64 0, .int .u64 0, .int .u64 0, .int .u64 0, .int .u64 0, .int .u64 0, .int .u64 0, .int .u64 0, .int .u64 0, .int .u64 0, .int .u64 0, .int .u64 0, .int .u64 0, .int .u64 0, .int .u64 0, .int .u64 0, .int .u64 0, .int .u64 0, .int .u64 0, .int .u64 0, .int .u64 0, .int .u64 0, .int .u64 0, .int .u64 0, .int .u64 0, .int .u64 0, .int .u64 0, .int .u64 0, .int .u64 0, .int .u64 0, .int .u64 0, .int .u64 0, .int .u64 0, .int .u64 0, .int .u64 0, .int .u64 0, .int .u64 0, .int .u64 0, .int .u64 0, .int .u64 0, .int .u64 0, .int .u64 0, .int .u64 0, .int .u64 0, .int .i64 0] false, []⟩,
 ⟨none, none, .st 131 (.t 14) (.t 35), []⟩])
 (.seq
 (.ops 2 [⟨some 36, none, .mv (.t 0), []⟩,
 ⟨some 37, none, .mv (.t 0), []⟩,
 ⟨some 38, none, .nilc (.t 37) (mok Try.prog), []⟩,
 ⟨some 39, none, .fld 2 (.t 38), []⟩,
 ⟨some 40, none, .ld 1 false (.t 39), []⟩,
 ⟨some 41, none, .ld 131 true (.t 14), []⟩,
 ⟨some 42, none, .bslice [.int .i64 0, .int .i64 0, .int .u64 0, .int .u64 0, .int .u64 0, .int .u64 0, .int .u64 0, .int .u64 0, .int .u64 0, .int .u64 0, .int .u64 0, .int .u64 0, .int .u64 0, .int .u64 0, .int .u64 0, .int .u64 0, .int .u64 0, .int .u64 0, .int .u64 0, .int .u64 0, .int .u64 0, .int .u64 0, .int .u64 0, .int .u64 0, .int .u64 0, .int .u64 0, .int .u64 0, .int .u64 0, .int .u64 0, .int .u64 0, .int .u64 0, .int .u64 0, .int .u64 0, .int .u64 0, .int .u64 0, .int .u64 0, .int .u64 0, .int .u64 0, .int .u64 0, .int .u64 0, .int .u64 0, .int .u64 0, .int .u64 0, .int .u64 0, .int .u64 0, .int .u64 0, .int .u64 0, .int .u64 0, .int .u64 0, .int .u64 0, .int .u64 0, .int .u64 0, .int .u64 0, .int .u64 0, .int .u64 0, .int .u64 0, .int .u64 0, .int .u64 0, .int .u64 0, .int .u64 0, .int .u64 0, .int .u64 0, .int .u64 0, .int .u64 0, .int .u64 0, .int .u64 0, .int .u64 0, .int .u64 0, .int .u64 0, .int .u64 0, .int .u64 0, .int .u64 0, .int .u64 0, .int .u64 0, .int .u64 0, .int .u64 0, .int .u64 0, .int .u64 0, .int .u64 0, .int .u64 0, .int .u64 0, .int .u64 0, .int .u64 0, .int .u64 0, .int .u64 0, .int .u64 0, .int .u64 0, .int .u64 0, .int .u64 0, .int .u64 0, .int .u64 0, .int .u64 0, .int .u64 0, .int .u64 0, .int .u64 0, .int .u64 0, .int .u64 0, .int .u64 0, .int .u64 0, .int .u64 0, .int .u64 0, .int .u64 0, .int .u64 0, .int .u64 0, .int .u64 0, .int .u64 0, .int .u64 0, .int .u64 0, .int .u64 0, .int .u64 0, .int .u64 0, .int .u64 0, .int .u64 0, .int .u64 0, .int .u64 0, .int .u64 0, .int .u64 0, .int .u64 0, .int .u64 0, .int .u64 0, .int .u64 0, .int .u64 0, .int .u64 0, .int .u64 0, .int .u64 0, .int .u64 0, .int .u64 0, .int .u64 0, .int .u64 0, .int .u64 0, .int .i64 0] 131 1 [(0, (.t 41))] false false, []⟩,
 ⟨some 43, none, .app 131 1048 (.t 40) (.t 42) true, []⟩,
 ⟨some 44, none, .nilc (.t 36) (mok Try.prog), []⟩,
 ⟨some 45, none, .fld 2 (.t 44), []⟩,
 ⟨none, none, .st 1 (.t 45) (.t 43), []⟩])
 (.seq
 (.seq
 (.ops 3 [⟨some 46, none, .ld 131 true (.t 14), []⟩,
 ⟨some 47, none, .call 42 [.t 46], []⟩,
 ⟨some 48, none, .un .not (.t 47), []⟩,
 ⟨some 49, none, .mv (.t 48), []⟩,
 ⟨some 50, some (49, false), .mv (.t 2), []⟩,
 ⟨some 51, some (49, false), .bin .eql (.t 50) (.c (.int .i64 0)), []⟩,
 ⟨some 52, none, .pick (.t 49) (.c (.bool true)) (.t 51), []⟩,
 ⟨some 53, none, .mv (.t 52), []⟩,
 ⟨some 54, some (53, false), .ld 128 true (.t 12), []⟩,
 ⟨some 55, some (53, false), .call 60 [.t 54], []⟩,
 ⟨some 56, some (53, false), .un .not (.t 55), []⟩,
 ⟨some 57, none, .pick (.t 53) (.c (.bool true)) (.t 56), []⟩])
 (.cond (.t 57)
 .ret
 .skip))
 (.seq
 (.ops 4 [⟨some 58, none, .ld 128 true (.t 12), []⟩,
 ⟨some 59, none, .call 61 [.t 58], []⟩,
 ⟨some 60, none, .mv (.c (.int .i64 0)), []⟩])
 (.block 0
 (.loop [] B41x0)))))))⟩
theorem F41_code : cfgA.code 41 = some F41 := by kernel_rfl

/-- (ticketline/check.meeting).inRow -/
noncomputable def F42 : AFn := ⟨10, [.tmp 2], (.seq
 (.ops 0 [⟨some 1, none, .box 131 (.t 0) false, []⟩,
 ⟨some 2, none, .mv (.c (.bool false)), []⟩])
 (.seq
 (.seq
 (.ops 1 [⟨some 3, none, .fld 130 (.t 1), []⟩,
 ⟨some 4, none, .ld 1 false (.t 3), []⟩])
 (.block 0
 (.seq
 (.seq
 (.ops 2 [⟨some 6, none, .bin .eql (.t 4) (.c (.int .i64 9)), []⟩,
 ⟨some 5, none, .mv (.t 6), []⟩])
 (.cond (.t 5)
 .skip
 (.seq
 (.ops 3 [⟨some 7, none, .bin .eql (.t 4) (.c (.int .i64 7)), []⟩,
 ⟨some 5, none, .mv (.t 7), []⟩])
 (.cond (.t 5)
 .skip
 (.seq
 (.ops 4 [⟨some 8, none, .bin .eql (.t 4) (.c (.int .i64 1)), []⟩,
 ⟨some 5, none, .mv (.t 8), []⟩])
 (.cond (.t 5)
 .skip
 (.ops 5 [⟨some 9, none, .bin .eql (.t 4) (.c (.int .i64 2)), []⟩,
 ⟨some 5, none, .mv (.t 9), []⟩])))))))
 (.cond (.t 5)
 (.seq
 (.ops 6 [⟨some 2, none, .mv (.c (.bool false)), []⟩])
 .ret)
 .skip))))
 (.seq
 (.ops 7 [⟨some 2, none, .mv (.c (.bool true)), []⟩])
 .ret)))⟩
theorem F42_code : cfgA.code 42 = some F42 := by kernel_rfl

/-- ticketline/slot.Next -/
noncomputable def F43 : AFn := ⟨9, [.tmp 2], (.seq
 (.ops 0 [⟨some 1, none, .box 128 (.t 0) false, []⟩,
 ⟨some 2, none, .mv (.c (.int .i64 0)), []⟩])
 (.seq
 (.seq
 (.ops 1 [⟨some 3, none, .ld 128 true (.t 1), []⟩,
 ⟨some 4, none, .call 53 [.t 3], []⟩,
 ⟨some 5, none, .un .not (.t 4), []⟩])
 (.cond (.t 5)
 (.seq
 (.ops 2 [⟨some 2, none, .mv (.c (.int .i64 0)), []⟩])
 .ret)
 .skip))
 (.seq
 (.ops 3 [⟨some 6, none, .ixa (some 128) 1 (.t 1) (.c (.int .i64 10)), []⟩,
 ⟨some 7, none, .ld 1 false (.t 6), []⟩,
 ⟨some 8, none, .cvi .i64 (.t 7), []⟩,
 ⟨some 2, none, .mv (.t 8), []⟩])
 .ret)))⟩
theorem F43_code : cfgA.code 43 = some F43 := by kernel_rfl

/-- (*ticketline/arena.Arena).pages -/
noncomputable def F44 : AFn := ⟨9, [.tmp 2], (.seq
 (.ops 0 [⟨some 2, none, .mv (.c (.int .i64 0)), []⟩])
 (.seq
 (.ops 1 [⟨some 3, none, .mv (.t 0), []⟩,
 ⟨some 4, none, .nilc (.t 3) (mok Try.prog), []⟩,
 ⟨some 5, none, .fld 0 (.t 4), []⟩,
 ⟨some 6, none, .ld 1 true (.t 5), []⟩,
 ⟨some 7, none, .call 54 [.t 6, .c (.int .i64 0)], []⟩,
 ⟨some 8, none, .cvi .i64 (.t 7), []⟩,
 ⟨some 2, none, .mv (.t 8), []⟩])
 .ret))⟩
theorem F44_code : cfgA.code 44 = some F44 := by kernel_rfl

/-- (*ticketline/arena.Arena).used -/
noncomputable def F45 : AFn := ⟨15, [.tmp 4], (.seq
 (.ops 0 [⟨some 4, none, .mv (.c (.bool false)), []⟩])
 (.seq
 (.ops 1 [⟨some 6, none, .mv (.t 0), []⟩,
 ⟨some 7, none, .mv (.t 1), []⟩,
 ⟨some 8, none, .call 58 [.t 6, .t 7], []⟩,
 ⟨some 5, none, .mv (.t 8), []⟩])
 (.seq
 (.ops 2 [⟨some 9, none, .mv (.t 5), []⟩,
 ⟨some 10, none, .bin .geq (.t 9) (.c (.int .u64 1)), []⟩,
 ⟨some 11, none, .mv (.t 10), []⟩,
 ⟨some 12, some (11, true), .mv (.t 5), []⟩,
 ⟨some 13, some (11, true), .bin .leq (.t 12) (.c (.int .u64 6)), []⟩,
 ⟨some 14, none, .pick (.t 11) (.t 13) (.c (.bool false)), []⟩,
 ⟨some 4, none, .mv (.t 14), []⟩])
 .ret)))⟩
theorem F45_code : cfgA.code 45 = some F45 := by kernel_rfl

/-- ticketline/slot.list: the round 0 -/
@[reducible] noncomputable def B46x0 : AC := (.seq
 (.seq
 (.ops 15 [⟨some 68, none, .mv (.t 10), []⟩,
 ⟨some 69, none, .fld 2 (.t 7), []⟩,
 ⟨some 70, none, .ld 1 false (.t 69), []⟩,
 ⟨some 71, none, .bin .lss (.t 68) (.t 70), []⟩])
 (.cond (.t 71)
 .skip
 (.exit 2)))
 (.seq
 (.block 3
 (.seq
 (.seq
 (.ops 17 [⟨some 74, none, .mv (.t 10), []⟩,
 ⟨some 75, none, .ixa (some 128) 1 (.t 5) (.t 74), []⟩,
 ⟨some 76, none, .ld 1 false (.t 75), []⟩])
 (.cond (.t 76)
 (.seq
 (.ops 18 [⟨some 2, none, .mv (.c (.nils)), []⟩,
 ⟨some 3, none, .mv (.c (.bool false)), []⟩])
 .ret)
 .skip))
 (.ops 19 [⟨some 77, none, .mv (.t 10), []⟩,
 ⟨some 78, none, .ixa (some 128) 1 (.t 5) (.t 77), []⟩,
 ⟨none, none, .st 1 (.t 78) (.c (.bool true)), []⟩])))
 (.ops 16 [⟨some 72, none, .mv (.t 10), []⟩,
 ⟨some 73, none, .bin .add (.t 72) (.c (.int .i64 1)), []⟩,
 ⟨some 10, none, .mv (.t 73), []⟩])))

/-- ticketline/slot.list: the round 1 -/
@[reducible] noncomputable def B46x1 : AC := (.seq
 (.ops 6 [⟨some 20, none, .bin .lss (.t 19) (.t 18), []⟩])
 (.seq
 (.cond (.t 20)
 .skip
 (.exit 0))
 (.seq
 (.block 1
 (.seq
 (.ops 7 [⟨some 21, none, .mv (.t 19), []⟩,
 ⟨some 6, none, .mv (.t 21), []⟩])
 (.seq
 (.seq
 (.ops 8 [⟨some 22, none, .mv (.t 0), []⟩,
 ⟨some 23, none, .mv (.t 6), []⟩,
 ⟨some 24, none, .call 65 [.t 22, .t 23], []⟩,
 ⟨some 25, none, .un .not (.t 24), []⟩])
 (.cond (.t 25)
 (.seq
 (.ops 9 [⟨some 2, none, .mv (.c (.nils)), []⟩,
 ⟨some 3, none, .mv (.c (.bool false)), []⟩])
 .ret)
 .skip))
 (.seq
 (.ops 10 [⟨some 26, none, .mv (.t 0), []⟩,
 ⟨some 27, none, .mv (.t 6), []⟩,
 ⟨some 28, none, .bin .add (.c (.int .i64 20)) (.t 27), []⟩,
 ⟨some 29, none, .nilc (.t 26) (mok Try.prog), []⟩,
 ⟨some 30, none, .ixa (some 128) 1 (.t 29) (.t 28), []⟩,
 ⟨some 31, none, .ld 1 false (.t 30), []⟩,
 ⟨some 32, none, .call 66 [.t 31], []⟩,
 ⟨some 7, none, .alloc [.int .i64 0, .int .i64 0, .int .i64 0, .int .i64 0, .int .i64 0] false, []⟩,
 ⟨none, none, .st 5 (.t 7) (.t 32), []⟩])
 (.seq
 (.ops 11 [⟨some 34, none, .mv (.t 0), []⟩,
 ⟨some 35, none, .ld 5 true (.t 7), []⟩,
 ⟨some 36, none, .call 67 [.t 34, .t 35], []⟩,
 ⟨some 33, none, .mv (.t 36), []⟩,
 ⟨some 37, none, .ext (.t 33) 0, []⟩,
 ⟨some 38, none, .ext (.t 33) 1, []⟩,
 ⟨some 8, none, .alloc [.str [], .str []] false, []⟩,
 ⟨none, none, .st 2 (.t 8) (.t 37), []⟩,
 ⟨some 9, none, .mv (.t 38), []⟩])
 (.seq
 (.seq
 (.ops 12 [⟨some 39, none, .mv (.t 9), []⟩,
 ⟨some 40, none, .bin .neq (.t 39) (.c (.int .i64 0)), []⟩,
 ⟨some 41, none, .mv (.t 40), []⟩,
 ⟨some 42, some (41, false), .mv (.t 0), []⟩,
 ⟨some 43, some (41, false), .nilc (.t 42) (mok Try.prog), []⟩,
 ⟨some 44, some (41, false), .ixa (some 128) 1 (.t 43) (.c (.int .i64 8)), []⟩,
 ⟨some 45, some (41, false), .ld 1 false (.t 44), []⟩,
 ⟨some 46, some (41, false), .bin .gtr (.t 45) (.c (.int .u64 1)), []⟩,
 ⟨some 47, some (41, false), .mv (.t 46), []⟩,
 ⟨some 48, some (47, true), .mv (.t 0), []⟩,
 ⟨some 49, some (47, true), .fld 1 (.t 7), []⟩,
 ⟨some 50, some (47, true), .ld 1 false (.t 49), []⟩,
 ⟨some 51, some (47, true), .nilc (.t 48) (mok Try.prog), []⟩,
 ⟨some 52, some (47, true), .ixa (some 128) 1 (.t 51) (.t 50), []⟩,
 ⟨some 53, some (47, true), .ld 1 false (.t 52), []⟩,
 ⟨some 54, some (47, true), .bin .lss (.t 53) (.c (.int .u64 1)), []⟩,
 ⟨some 55, some (47, true), .mv (.t 54), []⟩,
 ⟨some 56, some (55, false), .mv (.t 0), []⟩,
 ⟨some 57, some (55, false), .fld 1 (.t 7), []⟩,
 ⟨some 58, some (55, false), .ld 1 false (.t 57), []⟩,
 ⟨some 59, some (55, false), .nilc (.t 56) (mok Try.prog), []⟩,
 ⟨some 60, some (55, false), .ixa (some 128) 1 (.t 59) (.t 58), []⟩,
 ⟨some 61, some (55, false), .ld 1 false (.t 60), []⟩,
 ⟨some 62, some (55, false), .bin .gtr (.t 61) (.c (.int .u64 511)), []⟩,
 ⟨some 63, some (47, true), .pick (.t 55) (.c (.bool true)) (.t 62), []⟩,
 ⟨some 64, some (41, false), .pick (.t 47) (.t 63) (.c (.bool false)), []⟩,
 ⟨some 65, none, .pick (.t 41) (.c (.bool true)) (.t 64), []⟩])
 (.cond (.t 65)
 (.seq
 (.ops 13 [⟨some 2, none, .mv (.c (.nils)), []⟩,
 ⟨some 3, none, .mv (.c (.bool false)), []⟩])
 .ret)
 .skip))
 (.seq
 (.seq
 (.ops 14 [⟨some 66, none, .fld 0 (.t 7), []⟩,
 ⟨some 67, none, .ld 1 false (.t 66), []⟩,
 ⟨some 10, none, .mv (.t 67), []⟩])
 (.block 2
 (.loop [] B46x0)))
 (.ops 20 [⟨some 79, none, .mv (.t 4), []⟩,
 ⟨some 80, none, .ld 2 true (.t 8), []⟩,
 ⟨some 81, none, .bslice [.str [], .str []] 2 1 [(0, (.t 80))] false false, []⟩,
 ⟨some 82, none, .app 2 32 (.t 79) (.t 81) false, []⟩,
 ⟨some 4, none, .mv (.t 82), []⟩]))))))))
 (.ops 21 [⟨some 83, none, .bin .add (.t 19) (.c (.int .i64 1)), []⟩,
 ⟨some 19, none, .mv (.t 83), []⟩]))))

/-- ticketline/slot.list -/
noncomputable def F46 : AFn := ⟨85, [.tmp 2, .tmp 3], (.seq
 (.ops 0 [⟨some 2, none, .mv (.c (.nils)), []⟩,
 ⟨some 3, none, .mv (.c (.bool false)), []⟩])
 (.seq
 (.seq
 (.ops 1 [⟨some 11, none, .mv (.t 0), []⟩,
 ⟨some 12, none, .call 64 [.t 11], []⟩,
 ⟨some 13, none, .un .not (.t 12), []⟩])
 (.cond (.t 13)
 (.seq
 (.ops 2 [⟨some 2, none, .mv (.c (.nils)), []⟩,
 ⟨some 3, none, .mv (.c (.bool false)), []⟩])
 .ret)
 .skip))
 (.seq
 (.ops 3 [⟨some 4, none, .mv (.c (.nils)), []⟩])
 (.seq
 (.ops 4 [⟨some 5, none, .alloc (List.replicate 128 (.bool false)) false, []⟩])
 (.seq
 (.seq
 (.ops 5 [⟨some 14, none, .mv (.t 0), []⟩,
 ⟨some 15, none, .nilc (.t 14) (mok Try.prog), []⟩,
 ⟨some 16, none, .ixa (some 128) 1 (.t 15) (.c (.int .i64 9)), []⟩,
 ⟨some 17, none, .ld 1 false (.t 16), []⟩,
 ⟨some 18, none, .cvi .i64 (.t 17), []⟩,
 ⟨some 19, none, .mv (.c (.int .i64 0)), []⟩])
 (.block 0
 (.loop [] B46x1)))
 (.seq
 (.ops 22 [⟨some 84, none, .mv (.t 4), []⟩,
 ⟨some 2, none, .mv (.t 84), []⟩,
 ⟨some 3, none, .mv (.c (.bool true)), []⟩])
 .ret))))))⟩
theorem F46_code : cfgA.code 46 = some F46 := by kernel_rfl

/-- ticketline/ticketlineref14.Cost -/
noncomputable def F47 : AFn := ⟨13, [.tmp 2], (.seq
 (.ops 0 [⟨some 1, none, .box 2 (.t 0) false, []⟩,
 ⟨some 2, none, .mv (.c (.int .i64 0)), []⟩])
 (.seq
 (.ops 1 [⟨some 3, none, .fld 0 (.t 1), []⟩,
 ⟨some 4, none, .ld 1 false (.t 3), []⟩,
 ⟨some 5, none, .len .string (.t 4), []⟩,
 ⟨some 8, none, .fld 1 (.t 1), []⟩,
 ⟨some 9, none, .ld 1 false (.t 8), []⟩,
 ⟨some 10, none, .len .string (.t 9), []⟩,
 ⟨some 6, none, .call 68 [.t 5], [(9, .ld 1 false (.t 8)), (10, .len .string (.t 9))]⟩,
 ⟨some 7, none, .bin .add (.c (.int .i64 1)) (.t 6), []⟩,
 ⟨some 11, none, .call 68 [.t 10], []⟩,
 ⟨some 12, none, .bin .add (.t 7) (.t 11), []⟩,
 ⟨some 2, none, .mv (.t 12), []⟩])
 .ret))⟩
theorem F47_code : cfgA.code 47 = some F47 := by kernel_rfl

/-- ticketline/ticketlineref14.put: the round 0 -/
@[reducible] noncomputable def B48x0 : AC := (.seq
 (.seq
 (.ops 1 [⟨some 7, none, .mv (.t 6), []⟩,
 ⟨some 8, none, .mv (.t 2), []⟩,
 ⟨some 9, none, .len .slice (.t 8), []⟩,
 ⟨some 10, none, .bin .lss (.t 7) (.t 9), []⟩])
 (.cond (.t 10)
 .skip
 (.exit 0)))
 (.seq
 (.block 1
 (.ops 3 [⟨some 13, none, .mv (.t 0), []⟩,
 ⟨some 14, none, .mv (.t 1), []⟩,
 ⟨some 15, none, .mv (.t 6), []⟩,
 ⟨some 16, none, .bin .add (.t 14) (.t 15), []⟩,
 ⟨some 17, none, .mv (.t 2), []⟩,
 ⟨some 18, none, .mv (.t 6), []⟩,
 ⟨some 19, none, .ixa none 1 (.t 17) (.t 18), []⟩,
 ⟨some 20, none, .ld 1 false (.t 19), []⟩,
 ⟨some 21, none, .nilc (.t 13) (mok Try.prog), []⟩,
 ⟨some 22, none, .ixa (some 128) 1 (.t 21) (.t 16), []⟩,
 ⟨none, none, .st 1 (.t 22) (.t 20), []⟩]))
 (.ops 2 [⟨some 11, none, .mv (.t 6), []⟩,
 ⟨some 12, none, .bin .add (.t 11) (.c (.int .i64 1)), []⟩,
 ⟨some 6, none, .mv (.t 12), []⟩])))

/-- ticketline/ticketlineref14.put -/
noncomputable def F48 : AFn := ⟨23, [], (.seq
 (.ops 0 [⟨some 6, none, .mv (.c (.int .i64 0)), []⟩])
 (.block 0
 (.loop [] B48x0)))⟩
theorem F48_code : cfgA.code 48 = some F48 := by kernel_rfl

/-- ticketline/ticketlineref14.Pack: the round 0 -/
@[reducible] noncomputable def B49x0 : AC := (.seq
 (.seq
 (.ops 3 [⟨some 10, none, .mv (.t 4), []⟩,
 ⟨some 11, none, .mv (.t 3), []⟩,
 ⟨some 12, none, .len .slice (.t 11), []⟩,
 ⟨some 13, none, .bin .mul (.c (.int .i64 8)) (.t 12), []⟩,
 ⟨some 14, none, .bin .lss (.t 10) (.t 13), []⟩])
 (.cond (.t 14)
 .skip
 (.exit 0)))
 (.seq
 (.block 1
 (.seq
 (.ops 5 [⟨some 5, none, .mv (.c (.int .u64 0)), []⟩])
 (.seq
 (.seq
 (.ops 6 [⟨some 17, none, .mv (.t 4), []⟩,
 ⟨some 18, none, .mv (.t 0), []⟩,
 ⟨some 19, none, .len .string (.t 18), []⟩,
 ⟨some 20, none, .bin .lss (.t 17) (.t 19), []⟩])
 (.cond (.t 20)
 (.ops 7 [⟨some 21, none, .mv (.t 0), []⟩,
 ⟨some 22, none, .mv (.t 4), []⟩,
 ⟨some 23, none, .ixs (.t 21) (.t 22), []⟩,
 ⟨some 24, none, .cvi .u64 (.t 23), []⟩,
 ⟨some 5, none, .mv (.t 24), []⟩])
 .skip))
 (.ops 8 [⟨some 25, none, .mv (.t 3), []⟩,
 ⟨some 26, none, .mv (.t 4), []⟩,
 ⟨some 27, none, .bin .quo (.t 26) (.c (.int .i64 8)), []⟩,
 ⟨some 28, none, .mv (.t 3), []⟩,
 ⟨some 29, none, .mv (.t 4), []⟩,
 ⟨some 30, none, .bin .quo (.t 29) (.c (.int .i64 8)), []⟩,
 ⟨some 31, none, .ixa none 1 (.t 28) (.t 30), []⟩,
 ⟨some 32, none, .ld 1 false (.t 31), []⟩,
 ⟨some 33, none, .bin .mul (.c (.int .u64 256)) (.t 32), []⟩,
 ⟨some 34, none, .mv (.t 5), []⟩,
 ⟨some 35, none, .bin .add (.t 33) (.t 34), []⟩,
 ⟨some 36, none, .ixa none 1 (.t 25) (.t 27), []⟩,
 ⟨none, none, .st 1 (.t 36) (.t 35), []⟩]))))
 (.ops 4 [⟨some 15, none, .mv (.t 4), []⟩,
 ⟨some 16, none, .bin .add (.t 15) (.c (.int .i64 1)), []⟩,
 ⟨some 4, none, .mv (.t 16), []⟩])))

/-- ticketline/ticketlineref14.Pack -/
noncomputable def F49 : AFn := ⟨38, [.tmp 2], (.seq
 (.ops 0 [⟨some 2, none, .mv (.c (.nils)), []⟩])
 (.seq
 (.ops 1 [⟨some 6, none, .mv (.t 0), []⟩,
 ⟨some 7, none, .len .string (.t 6), []⟩,
 ⟨some 8, none, .call 68 [.t 7], []⟩,
 ⟨some 9, none, .mks [.int .u64 0] 1 8 (.t 8) (.t 8) false, []⟩,
 ⟨some 3, none, .mv (.t 9), []⟩])
 (.seq
 (.seq
 (.ops 2 [⟨some 4, none, .mv (.c (.int .i64 0)), []⟩])
 (.block 0
 (.loop [] B49x0)))
 (.seq
 (.ops 9 [⟨some 37, none, .mv (.t 3), []⟩,
 ⟨some 2, none, .mv (.t 37), []⟩])
 .ret))))⟩
theorem F49_code : cfgA.code 49 = some F49 := by kernel_rfl

/-- (*ticketline/mem.Mem).Len -/
noncomputable def F50 : AFn := ⟨10, [.tmp 2], (.seq
 (.ops 0 [⟨some 2, none, .mv (.c (.int .i64 0)), []⟩])
 (.seq
 (.seq
 (.ops 1 [⟨some 3, none, .mv (.t 0), []⟩,
 ⟨some 4, none, .call 69 [.t 3], []⟩])
 (.cond (.t 4)
 (.seq
 (.ops 2 [⟨some 2, none, .mv (.c (.int .i64 0)), []⟩])
 .ret)
 .skip))
 (.seq
 (.ops 3 [⟨some 5, none, .mv (.t 0), []⟩,
 ⟨some 6, none, .nilc (.t 5) (mok Try.prog), []⟩,
 ⟨some 7, none, .fld 0 (.t 6), []⟩,
 ⟨some 8, none, .ld 1 false (.t 7), []⟩,
 ⟨some 9, none, .len .slice (.t 8), []⟩,
 ⟨some 2, none, .mv (.t 9), []⟩])
 .ret)))⟩
theorem F50_code : cfgA.code 50 = some F50 := by kernel_rfl

/-- ticketline/arena.place -/
noncomputable def F51 : AFn := ⟨11, [.tmp 4], (.seq
 (.ops 0 [⟨some 4, none, .mv (.c (.int .i64 0)), []⟩])
 (.seq
 (.ops 1 [⟨some 5, none, .mv (.t 0), []⟩,
 ⟨some 6, none, .bin .sub (.t 5) (.c (.int .i64 1)), []⟩,
 ⟨some 7, none, .bin .mul (.c (.int .i64 128)) (.t 6), []⟩,
 ⟨some 8, none, .bin .add (.c (.int .i64 16)) (.t 7), []⟩,
 ⟨some 9, none, .mv (.t 1), []⟩,
 ⟨some 10, none, .bin .add (.t 8) (.t 9), []⟩,
 ⟨some 4, none, .mv (.t 10), []⟩])
 .ret))⟩
theorem F51_code : cfgA.code 51 = some F51 := by kernel_rfl

/-- (*ticketline/mem.Mem).Copy -/
noncomputable def F52 : AFn := ⟨12, [.tmp 2], (.seq
 (.ops 0 [⟨some 2, none, .mv (.c (.nilp)), []⟩])
 (.seq
 (.seq
 (.ops 1 [⟨some 3, none, .mv (.t 0), []⟩,
 ⟨some 4, none, .call 69 [.t 3], []⟩])
 (.cond (.t 4)
 (.seq
 (.ops 2 [⟨some 2, none, .mv (.c (.nilp)), []⟩])
 .ret)
 .skip))
 (.seq
 (.ops 3 [⟨some 5, none, .mv (.t 0), []⟩,
 ⟨some 6, none, .nilc (.t 5) (mok Try.prog), []⟩,
 ⟨some 7, none, .fld 0 (.t 6), []⟩,
 ⟨some 8, none, .ld 1 false (.t 7), []⟩,
 ⟨some 9, none, .call 70 [.t 8], []⟩,
 ⟨some 10, none, .build [.nils] [(0, 1, (.t 9))], []⟩,
 ⟨some 11, none, .box 1 (.t 10) true, []⟩,
 ⟨some 2, none, .mv (.t 11), []⟩])
 .ret)))⟩
theorem F52_code : cfgA.code 52 = some F52 := by kernel_rfl

/-- ticketline/slot.Valid -/
noncomputable def F53 : AFn := ⟨10, [.tmp 2], (.seq
 (.ops 0 [⟨some 1, none, .box 128 (.t 0) false, []⟩,
 ⟨some 2, none, .mv (.c (.bool false)), []⟩])
 (.seq
 (.ops 1 [⟨some 6, none, .call 46 [.t 1], []⟩,
 ⟨some 5, none, .mv (.t 6), []⟩,
 ⟨some 7, none, .ext (.t 5) 0, []⟩,
 ⟨some 8, none, .ext (.t 5) 1, []⟩,
 ⟨some 3, none, .mv (.t 7), []⟩,
 ⟨some 4, none, .mv (.t 8), []⟩])
 (.seq
 (.ops 2 [⟨some 9, none, .mv (.t 4), []⟩,
 ⟨some 2, none, .mv (.t 9), []⟩])
 .ret)))⟩
theorem F53_code : cfgA.code 53 = some F53 := by kernel_rfl

/-- (ticketline/arena.words).get -/
noncomputable def F54 : AFn := ⟨15, [.tmp 4], (.seq
 (.ops 0 [⟨some 2, none, .box 1 (.t 0) false, []⟩,
 ⟨some 4, none, .mv (.c (.int .u64 0)), []⟩])
 (.seq
 (.ops 1 [⟨some 8, none, .fld 0 (.t 2), []⟩,
 ⟨some 9, none, .ld 1 false (.t 8), []⟩,
 ⟨some 10, none, .mv (.t 1), []⟩,
 ⟨some 11, none, .call 71 [.t 9, .t 10], []⟩,
 ⟨some 7, none, .mv (.t 11), []⟩,
 ⟨some 12, none, .ext (.t 7) 0, []⟩,
 ⟨some 13, none, .ext (.t 7) 1, []⟩,
 ⟨some 5, none, .mv (.t 12), []⟩,
 ⟨some 6, none, .mv (.t 13), []⟩])
 (.seq
 (.ops 2 [⟨some 14, none, .mv (.t 5), []⟩,
 ⟨some 4, none, .mv (.t 14), []⟩])
 .ret)))⟩
theorem F54_code : cfgA.code 54 = some F54 := by kernel_rfl

/-- (*ticketline/arena.Arena).put: the round 0 -/
@[reducible] noncomputable def B55x0 : AC := (.seq
 (.seq
 (.ops 2 [⟨some 7, none, .mv (.t 6), []⟩,
 ⟨some 8, none, .bin .lss (.t 7) (.c (.int .i64 128)), []⟩])
 (.cond (.t 8)
 .skip
 (.exit 0)))
 (.seq
 (.block 1
 (.ops 4 [⟨some 11, none, .mv (.t 0), []⟩,
 ⟨some 12, none, .nilc (.t 11) (mok Try.prog), []⟩,
 ⟨some 13, none, .fld 0 (.t 12), []⟩,
 ⟨some 14, none, .ld 1 true (.t 13), []⟩,
 ⟨some 15, none, .mv (.t 1), []⟩,
 ⟨some 16, none, .mv (.t 6), []⟩,
 ⟨some 18, none, .mv (.t 6), []⟩,
 ⟨some 19, none, .ixa (some 128) 1 (.t 5) (.t 18), []⟩,
 ⟨some 20, none, .ld 1 false (.t 19), []⟩,
 ⟨some 17, none, .call 51 [.t 15, .t 16], [(14, .ld 1 true (.t 13)), (20, .ld 1 false (.t 19))]⟩,
 ⟨some 21, none, .call 37 [.t 14, .t 17, .t 20], []⟩]))
 (.ops 3 [⟨some 9, none, .mv (.t 6), []⟩,
 ⟨some 10, none, .bin .add (.t 9) (.c (.int .i64 1)), []⟩,
 ⟨some 6, none, .mv (.t 10), []⟩])))

/-- (*ticketline/arena.Arena).put -/
noncomputable def F55 : AFn := ⟨22, [], (.seq
 (.ops 0 [⟨some 5, none, .box 128 (.t 2) false, []⟩])
 (.seq
 (.ops 1 [⟨some 6, none, .mv (.c (.int .i64 8)), []⟩])
 (.block 0
 (.loop [] B55x0))))⟩
theorem F55_code : cfgA.code 55 = some F55 := by kernel_rfl

/-- (*ticketline/arena.Arena).there -/
noncomputable def F56 : AFn := ⟨17, [.tmp 4], (.seq
 (.ops 0 [⟨some 4, none, .mv (.c (.int .i64 0)), []⟩])
 (.seq
 (.block 0
 (.seq
 (.ops 1 [⟨some 6, none, .mv (.t 0), []⟩,
 ⟨some 7, none, .call 33 [.t 6], []⟩,
 ⟨some 5, none, .mv (.t 7), []⟩])
 (.cond (.t 5)
 (.seq
 (.ops 2 [⟨some 4, none, .mv (.c (.int .i64 1)), []⟩])
 .ret)
 (.seq
 (.ops 3 [⟨some 9, none, .mv (.t 1), []⟩,
 ⟨some 10, none, .bin .lss (.t 9) (.c (.int .i64 1)), []⟩,
 ⟨some 11, none, .mv (.t 10), []⟩,
 ⟨some 12, some (11, false), .mv (.t 1), []⟩,
 ⟨some 13, some (11, false), .mv (.t 0), []⟩,
 ⟨some 14, some (11, false), .call 44 [.t 13], []⟩,
 ⟨some 15, some (11, false), .bin .gtr (.t 12) (.t 14), []⟩,
 ⟨some 16, none, .pick (.t 11) (.c (.bool true)) (.t 15), []⟩,
 ⟨some 8, none, .mv (.t 16), []⟩])
 (.cond (.t 8)
 (.seq
 (.ops 4 [⟨some 4, none, .mv (.c (.int .i64 3)), []⟩])
 .ret)
 .skip)))))
 (.seq
 (.ops 5 [⟨some 4, none, .mv (.c (.int .i64 0)), []⟩])
 .ret)))⟩
theorem F56_code : cfgA.code 56 = some F56 := by kernel_rfl

/-- (*ticketline/mem.Mem).Store -/
noncomputable def F57 : AFn := ⟨18, [.tmp 6], (.seq
 (.ops 0 [⟨some 6, none, .mv (.c (.int .i64 0)), []⟩])
 (.seq
 (.ops 1 [⟨some 10, none, .mv (.t 0), []⟩,
 ⟨some 11, none, .mv (.t 1), []⟩,
 ⟨some 12, none, .mv (.t 2), []⟩,
 ⟨some 13, none, .build [.int .i64 0, .int .i64 0, .int .u64 0, .int .u64 0] [(0, 1, (.c (.int .i64 2))), (1, 1, (.t 11)), (3, 1, (.t 12))], []⟩,
 ⟨some 14, none, .call 72 [.t 10, .t 13], []⟩,
 ⟨some 9, none, .mv (.t 14), []⟩,
 ⟨some 15, none, .ext (.t 9) 0, []⟩,
 ⟨some 16, none, .ext (.t 9) 1, []⟩,
 ⟨some 7, none, .alloc [.int .i64 0, .int .i64 0, .int .u64 0, .int .u64 0] false, []⟩,
 ⟨none, none, .st 4 (.t 7) (.t 15), []⟩,
 ⟨some 8, none, .mv (.t 16), []⟩])
 (.seq
 (.ops 2 [⟨some 17, none, .mv (.t 8), []⟩,
 ⟨some 6, none, .mv (.t 17), []⟩])
 .ret)))⟩
theorem F57_code : cfgA.code 57 = some F57 := by kernel_rfl

/-- (*ticketline/arena.Arena).kind -/
noncomputable def F58 : AFn := ⟨12, [.tmp 4], (.seq
 (.ops 0 [⟨some 4, none, .mv (.c (.int .u64 0)), []⟩])
 (.seq
 (.ops 1 [⟨some 5, none, .mv (.t 0), []⟩,
 ⟨some 6, none, .nilc (.t 5) (mok Try.prog), []⟩,
 ⟨some 7, none, .fld 0 (.t 6), []⟩,
 ⟨some 8, none, .ld 1 true (.t 7), []⟩,
 ⟨some 9, none, .mv (.t 1), []⟩,
 ⟨some 10, none, .call 51 [.t 9, .c (.int .i64 8)], [(8, .ld 1 true (.t 7))]⟩,
 ⟨some 11, none, .call 54 [.t 8, .t 10], []⟩,
 ⟨some 4, none, .mv (.t 11), []⟩])
 .ret))⟩
theorem F58_code : cfgA.code 58 = some F58 := by kernel_rfl

/-- (*ticketline/check.checker).flaw -/
noncomputable def F59 : AFn := ⟨112, [.cell 12 128 true, .tmp 13], (.seq
 (.ops 0 [⟨some 12, none, .alloc (List.replicate 128 (.int .u64 0)) false, []⟩,
 ⟨some 13, none, .mv (.c (.int .i64 0)), []⟩])
 (.seq
 (.ops 1 [⟨some 23, none, .mv (.t 0), []⟩,
 ⟨some 24, none, .nilc (.t 23) (mok Try.prog), []⟩,
 ⟨some 25, none, .fld 0 (.t 24), []⟩,
 ⟨some 26, none, .ld 1 false (.t 25), []⟩,
 ⟨some 27, none, .mv (.t 1), []⟩,
 ⟨some 28, none, .call 39 [.t 26, .t 27], []⟩,
 ⟨some 22, none, .mv (.t 28), []⟩,
 ⟨some 29, none, .ext (.t 22) 0, []⟩,
 ⟨some 30, none, .ext (.t 22) 1, []⟩,
 ⟨some 14, none, .alloc (List.replicate 128 (.int .u64 0)) false, []⟩,
 ⟨none, none, .st 128 (.t 14) (.t 29), []⟩,
 ⟨some 15, none, .mv (.t 30), []⟩])
 (.seq
 (.ops 2 [⟨some 32, none, .mv (.t 0), []⟩,
 ⟨some 33, none, .nilc (.t 32) (mok Try.prog), []⟩,
 ⟨some 34, none, .fld 1 (.t 33), []⟩,
 ⟨some 35, none, .ld 1 false (.t 34), []⟩,
 ⟨some 36, none, .mv (.t 1), []⟩,
 ⟨some 37, none, .lkp .int (.bool false) true (.t 35) (.t 36), []⟩,
 ⟨some 31, none, .mv (.t 37), []⟩,
 ⟨some 38, none, .ext (.t 31) 0, []⟩,
 ⟨some 39, none, .ext (.t 31) 1, []⟩,
 ⟨some 16, none, .mv (.t 38), []⟩,
 ⟨some 17, none, .mv (.t 39), []⟩])
 (.seq
 (.seq
 (.ops 3 [⟨some 40, none, .mv (.t 15), []⟩,
 ⟨some 41, none, .bin .neq (.t 40) (.c (.int .i64 0)), []⟩,
 ⟨some 42, none, .mv (.t 41), []⟩,
 ⟨some 43, some (42, false), .mv (.t 17), []⟩,
 ⟨some 44, some (42, false), .un .not (.t 43), []⟩,
 ⟨some 45, none, .pick (.t 42) (.c (.bool true)) (.t 44), []⟩])
 (.cond (.t 45)
 (.seq
 (.ops 4 [⟨some 46, none, .ld 128 true (.t 14), []⟩,
 ⟨none, none, .st 128 (.t 12) (.t 46), []⟩,
 ⟨some 13, none, .mv (.c (.int .i64 9)), []⟩])
 .ret)
 .skip))
 (.seq
 (.seq
 (.ops 5 [⟨some 47, none, .mv (.t 16), []⟩])
 (.cond (.t 47)
 (.seq
 (.ops 6 [⟨some 48, none, .ld 128 true (.t 14), []⟩,
 ⟨none, none, .st 128 (.t 12) (.t 48), []⟩,
 ⟨some 13, none, .mv (.c (.int .i64 7)), []⟩])
 .ret)
 .skip))
 (.seq
 (.ops 7 [⟨some 49, none, .mv (.t 0), []⟩,
 ⟨some 50, none, .nilc (.t 49) (mok Try.prog), []⟩,
 ⟨some 51, none, .fld 1 (.t 50), []⟩,
 ⟨some 52, none, .ld 1 false (.t 51), []⟩,
 ⟨some 53, none, .mv (.t 1), []⟩,
 ⟨none, none, .mup .int (.t 52) (.t 53) (.c (.bool true)), []⟩])
 (.seq
 (.ops 8 [⟨some 55, none, .ld 128 true (.t 14), []⟩,
 ⟨some 56, none, .call 73 [.t 55], []⟩,
 ⟨some 54, none, .mv (.t 56), []⟩,
 ⟨some 57, none, .ext (.t 54) 0, []⟩,
 ⟨some 58, none, .ext (.t 54) 1, []⟩,
 ⟨some 59, none, .ext (.t 54) 2, []⟩,
 ⟨some 18, none, .mv (.t 57), []⟩,
 ⟨some 19, none, .mv (.t 58), []⟩,
 ⟨some 15, none, .mv (.t 59), []⟩])
 (.seq
 (.ops 9 [⟨some 61, none, .ld 128 true (.t 14), []⟩,
 ⟨some 62, none, .call 74 [.t 61], []⟩,
 ⟨some 60, none, .mv (.t 62), []⟩,
 ⟨some 63, none, .ext (.t 60) 0, []⟩,
 ⟨some 64, none, .ext (.t 60) 1, []⟩,
 ⟨some 20, none, .mv (.t 63), []⟩,
 ⟨some 21, none, .mv (.t 64), []⟩])
 (.seq
 (.block 0
 (.seq
 (.ops 10 [⟨some 66, none, .mv (.t 15), []⟩,
 ⟨some 67, none, .bin .neq (.t 66) (.c (.int .i64 0)), []⟩,
 ⟨some 65, none, .mv (.t 67), []⟩])
 (.cond (.t 65)
 (.seq
 (.ops 11 [⟨some 68, none, .ld 128 true (.t 14), []⟩,
 ⟨none, none, .st 128 (.t 12) (.t 68), []⟩,
 ⟨some 13, none, .mv (.c (.int .i64 1)), []⟩])
 .ret)
 (.seq
 (.ops 12 [⟨some 70, none, .ld 128 true (.t 14), []⟩,
 ⟨some 71, none, .call 75 [.t 70], []⟩,
 ⟨some 72, none, .mv (.t 2), []⟩,
 ⟨some 73, none, .bin .neq (.t 71) (.t 72), []⟩,
 ⟨some 69, none, .mv (.t 73), []⟩])
 (.cond (.t 69)
 (.seq
 (.ops 13 [⟨some 74, none, .ld 128 true (.t 14), []⟩,
 ⟨none, none, .st 128 (.t 12) (.t 74), []⟩,
 ⟨some 13, none, .mv (.c (.int .i64 2)), []⟩])
 .ret)
 (.seq
 (.ops 14 [⟨some 76, none, .mv (.t 18), []⟩,
 ⟨some 77, none, .mv (.t 3), []⟩,
 ⟨some 78, none, .bin .neq (.t 76) (.t 77), []⟩,
 ⟨some 79, none, .mv (.t 78), []⟩,
 ⟨some 80, some (79, false), .mv (.t 19), []⟩,
 ⟨some 81, some (79, false), .mv (.t 4), []⟩,
 ⟨some 82, some (79, false), .bin .neq (.t 80) (.t 81), []⟩,
 ⟨some 83, none, .pick (.t 79) (.c (.bool true)) (.t 82), []⟩,
 ⟨some 75, none, .mv (.t 83), []⟩])
 (.cond (.t 75)
 (.seq
 (.ops 15 [⟨some 84, none, .ld 128 true (.t 14), []⟩,
 ⟨none, none, .st 128 (.t 12) (.t 84), []⟩,
 ⟨some 13, none, .mv (.c (.int .i64 3)), []⟩])
 .ret)
 (.seq
 (.ops 16 [⟨some 86, none, .ld 128 true (.t 14), []⟩,
 ⟨some 87, none, .call 60 [.t 86], []⟩,
 ⟨some 88, none, .un .not (.t 87), []⟩,
 ⟨some 85, none, .mv (.t 88), []⟩])
 (.cond (.t 85)
 (.seq
 (.ops 17 [⟨some 89, none, .ld 128 true (.t 14), []⟩,
 ⟨none, none, .st 128 (.t 12) (.t 89), []⟩,
 ⟨some 13, none, .mv (.c (.int .i64 4)), []⟩])
 .ret)
 (.seq
 (.seq
 (.ops 18 [⟨some 91, none, .mv (.t 5), []⟩,
 ⟨some 92, none, .un .not (.t 91), []⟩,
 ⟨some 93, none, .mv (.t 92), []⟩,
 ⟨some 94, some (93, true), .mv (.t 20), []⟩,
 ⟨some 95, some (93, true), .mv (.t 94), []⟩,
 ⟨some 96, some (95, false), .mv (.t 21), []⟩,
 ⟨some 97, some (95, false), .bin .neq (.t 96) (.c (.int .i64 0)), []⟩,
 ⟨some 98, some (93, true), .pick (.t 95) (.c (.bool true)) (.t 97), []⟩,
 ⟨some 99, none, .pick (.t 93) (.t 98) (.c (.bool false)), []⟩,
 ⟨some 90, none, .mv (.t 99), []⟩])
 (.cond (.t 90)
 .skip
 (.ops 19 [⟨some 100, none, .mv (.t 5), []⟩,
 ⟨some 101, none, .mv (.t 100), []⟩,
 ⟨some 102, some (101, true), .mv (.t 2), []⟩,
 ⟨some 103, some (101, true), .bin .gtr (.t 102) (.c (.int .i64 0)), []⟩,
 ⟨some 104, none, .pick (.t 101) (.t 103) (.c (.bool false)), []⟩,
 ⟨some 105, none, .mv (.t 104), []⟩,
 ⟨some 106, some (105, true), .ld 128 true (.t 14), []⟩,
 ⟨some 107, some (105, true), .call 61 [.t 106], []⟩,
 ⟨some 108, some (105, true), .bin .lss (.t 107) (.c (.int .i64 2)), []⟩,
 ⟨some 109, none, .pick (.t 105) (.t 108) (.c (.bool false)), []⟩,
 ⟨some 90, none, .mv (.t 109), []⟩])))
 (.cond (.t 90)
 (.seq
 (.ops 20 [⟨some 110, none, .ld 128 true (.t 14), []⟩,
 ⟨none, none, .st 128 (.t 12) (.t 110), []⟩,
 ⟨some 13, none, .mv (.c (.int .i64 6)), []⟩])
 .ret)
 .skip)))))))))))
 (.seq
 (.ops 21 [⟨some 111, none, .ld 128 true (.t 14), []⟩,
 ⟨none, none, .st 128 (.t 12) (.t 111), []⟩,
 ⟨some 13, none, .mv (.c (.int .i64 0)), []⟩])
 .ret))))))))))⟩
theorem F59_code : cfgA.code 59 = some F59 := by kernel_rfl

/-- ticketline/check.keysRight -/
noncomputable def F60 : AFn := ⟨46, [.tmp 2], (.seq
 (.ops 0 [⟨some 1, none, .box 128 (.t 0) false, []⟩,
 ⟨some 2, none, .mv (.c (.bool false)), []⟩])
 (.seq
 (.ops 1 [⟨some 10, none, .ld 128 true (.t 1), []⟩,
 ⟨some 11, none, .call 76 [.t 10], []⟩,
 ⟨some 9, none, .mv (.t 11), []⟩,
 ⟨some 12, none, .ext (.t 9) 0, []⟩,
 ⟨some 13, none, .ext (.t 9) 1, []⟩,
 ⟨some 3, none, .mv (.t 12), []⟩,
 ⟨some 4, none, .mv (.t 13), []⟩])
 (.seq
 (.seq
 (.ops 2 [⟨some 14, none, .mv (.t 4), []⟩,
 ⟨some 15, none, .bin .neq (.t 14) (.c (.int .i64 0)), []⟩,
 ⟨some 16, none, .mv (.t 15), []⟩,
 ⟨some 17, some (16, false), .mv (.t 3), []⟩,
 ⟨some 18, some (16, false), .un .not (.t 17), []⟩,
 ⟨some 19, none, .pick (.t 16) (.c (.bool true)) (.t 18), []⟩,
 ⟨some 20, none, .mv (.t 19), []⟩,
 ⟨some 21, some (20, false), .ld 128 true (.t 1), []⟩,
 ⟨some 22, some (20, false), .call 77 [.t 21], []⟩,
 ⟨some 23, some (20, false), .un .not (.t 22), []⟩,
 ⟨some 24, none, .pick (.t 20) (.c (.bool true)) (.t 23), []⟩])
 (.cond (.t 24)
 (.seq
 (.ops 3 [⟨some 2, none, .mv (.c (.bool false)), []⟩])
 .ret)
 .skip))
 (.seq
 (.seq
 (.ops 4 [⟨some 25, none, .ld 128 true (.t 1), []⟩,
 ⟨some 26, none, .call 75 [.t 25], []⟩,
 ⟨some 27, none, .bin .eql (.t 26) (.c (.int .i64 0)), []⟩])
 (.cond (.t 27)
 (.seq
 (.ops 5 [⟨some 2, none, .mv (.c (.bool true)), []⟩])
 .ret)
 .skip))
 (.seq
 (.ops 6 [⟨some 29, none, .ld 128 true (.t 1), []⟩,
 ⟨some 30, none, .call 73 [.t 29], []⟩,
 ⟨some 28, none, .mv (.t 30), []⟩,
 ⟨some 31, none, .ext (.t 28) 0, []⟩,
 ⟨some 32, none, .ext (.t 28) 1, []⟩,
 ⟨some 33, none, .ext (.t 28) 2, []⟩,
 ⟨some 5, none, .mv (.t 31), []⟩,
 ⟨some 6, none, .mv (.t 32), []⟩,
 ⟨some 7, none, .mv (.t 33), []⟩])
 (.seq
 (.ops 7 [⟨some 35, none, .ld 128 true (.t 1), []⟩,
 ⟨some 36, none, .call 78 [.t 35, .c (.int .i64 0)], []⟩,
 ⟨some 34, none, .mv (.t 36), []⟩,
 ⟨some 37, none, .ext (.t 34) 0, []⟩,
 ⟨some 38, none, .ext (.t 34) 1, []⟩,
 ⟨some 8, none, .mv (.t 37), []⟩,
 ⟨some 4, none, .mv (.t 38), []⟩])
 (.seq
 (.ops 8 [⟨some 39, none, .mv (.t 4), []⟩,
 ⟨some 40, none, .bin .eql (.t 39) (.c (.int .i64 0)), []⟩,
 ⟨some 41, none, .mv (.t 40), []⟩,
 ⟨some 42, some (41, true), .mv (.t 8), []⟩,
 ⟨some 43, some (41, true), .mv (.t 5), []⟩,
 ⟨some 44, some (41, true), .bin .eql (.t 42) (.t 43), []⟩,
 ⟨some 45, none, .pick (.t 41) (.t 44) (.c (.bool false)), []⟩,
 ⟨some 2, none, .mv (.t 45), []⟩])
 .ret)))))))⟩
theorem F60_code : cfgA.code 60 = some F60 := by kernel_rfl

/-- ticketline/slot.Len -/
noncomputable def F61 : AFn := ⟨11, [.tmp 2], (.seq
 (.ops 0 [⟨some 1, none, .box 128 (.t 0) false, []⟩,
 ⟨some 2, none, .mv (.c (.int .i64 0)), []⟩])
 (.seq
 (.ops 1 [⟨some 6, none, .call 46 [.t 1], []⟩,
 ⟨some 5, none, .mv (.t 6), []⟩,
 ⟨some 7, none, .ext (.t 5) 0, []⟩,
 ⟨some 8, none, .ext (.t 5) 1, []⟩,
 ⟨some 3, none, .mv (.t 7), []⟩,
 ⟨some 4, none, .mv (.t 8), []⟩])
 (.seq
 (.ops 2 [⟨some 9, none, .mv (.t 3), []⟩,
 ⟨some 10, none, .len .slice (.t 9), []⟩,
 ⟨some 2, none, .mv (.t 10), []⟩])
 .ret)))⟩
theorem F61_code : cfgA.code 61 = some F61 := by kernel_rfl

/-- ticketline/slot.Child -/
noncomputable def F62 : AFn := ⟨28, [.tmp 4, .tmp 5], (.seq
 (.ops 0 [⟨some 2, none, .box 128 (.t 0) false, []⟩,
 ⟨some 4, none, .mv (.c (.int .i64 0)), []⟩,
 ⟨some 5, none, .mv (.c (.int .i64 0)), []⟩])
 (.seq
 (.seq
 (.ops 1 [⟨some 9, none, .mv (.t 1), []⟩,
 ⟨some 10, none, .call 79 [.t 2, .t 9], []⟩,
 ⟨some 8, none, .mv (.t 10), []⟩,
 ⟨some 11, none, .ext (.t 8) 0, []⟩,
 ⟨some 12, none, .ext (.t 8) 1, []⟩,
 ⟨some 6, none, .alloc [.str [], .str []] false, []⟩,
 ⟨none, none, .st 2 (.t 6) (.t 11), []⟩,
 ⟨some 7, none, .mv (.t 12), []⟩])
 (.seq
 (.ops 2 [⟨some 13, none, .mv (.t 7), []⟩,
 ⟨some 14, none, .bin .neq (.t 13) (.c (.int .i64 0)), []⟩])
 (.cond (.t 14)
 (.seq
 (.ops 3 [⟨some 15, none, .mv (.t 7), []⟩,
 ⟨some 4, none, .mv (.c (.int .i64 0)), []⟩,
 ⟨some 5, none, .mv (.t 15), []⟩])
 .ret)
 .skip)))
 (.seq
 (.seq
 (.ops 4 [⟨some 16, none, .ixa (some 128) 1 (.t 2) (.c (.int .i64 8)), []⟩,
 ⟨some 17, none, .ld 1 false (.t 16), []⟩,
 ⟨some 18, none, .bin .eql (.t 17) (.c (.int .u64 1)), []⟩])
 (.cond (.t 18)
 (.seq
 (.ops 5 [⟨some 4, none, .mv (.c (.int .i64 0)), []⟩,
 ⟨some 5, none, .mv (.c (.int .i64 8)), []⟩])
 .ret)
 .skip))
 (.seq
 (.ops 6 [⟨some 19, none, .mv (.t 1), []⟩,
 ⟨some 20, none, .bin .add (.c (.int .i64 20)) (.t 19), []⟩,
 ⟨some 21, none, .ixa (some 128) 1 (.t 2) (.t 20), []⟩,
 ⟨some 22, none, .ld 1 false (.t 21), []⟩,
 ⟨some 23, none, .call 66 [.t 22], []⟩,
 ⟨some 24, none, .fdv 1 1 false (.t 23), []⟩,
 ⟨some 25, none, .ixa (some 128) 1 (.t 2) (.t 24), []⟩,
 ⟨some 26, none, .ld 1 false (.t 25), []⟩,
 ⟨some 27, none, .cvi .i64 (.t 26), []⟩,
 ⟨some 4, none, .mv (.t 27), []⟩,
 ⟨some 5, none, .mv (.c (.int .i64 0)), []⟩])
 .ret))))⟩
theorem F62_code : cfgA.code 62 = some F62 := by kernel_rfl

/-- ticketline/fence.Child -/
noncomputable def F63 : AFn := ⟨58, [.tmp 4, .tmp 5, .tmp 6], (.seq
 (.ops 0 [⟨some 2, none, .box 128 (.t 0) false, []⟩,
 ⟨some 4, none, .mv (.c (.str [])), []⟩,
 ⟨some 5, none, .mv (.c (.str [])), []⟩,
 ⟨some 6, none, .mv (.c (.int .i64 0)), []⟩])
 (.seq
 (.ops 1 [⟨some 9, none, .ld 128 true (.t 2), []⟩,
 ⟨some 10, none, .call 23 [.t 9], []⟩,
 ⟨some 8, none, .mv (.t 10), []⟩,
 ⟨some 11, none, .ext (.t 8) 0, []⟩,
 ⟨some 12, none, .ext (.t 8) 1, []⟩,
 ⟨some 7, none, .mv (.t 11), []⟩,
 ⟨some 6, none, .mv (.t 12), []⟩])
 (.seq
 (.block 0
 (.seq
 (.ops 2 [⟨some 14, none, .mv (.t 6), []⟩,
 ⟨some 15, none, .bin .neq (.t 14) (.c (.int .i64 0)), []⟩,
 ⟨some 13, none, .mv (.t 15), []⟩])
 (.cond (.t 13)
 (.seq
 (.ops 3 [⟨some 16, none, .mv (.t 6), []⟩,
 ⟨some 4, none, .mv (.c (.str [])), []⟩,
 ⟨some 5, none, .mv (.c (.str [])), []⟩,
 ⟨some 6, none, .mv (.t 16), []⟩])
 .ret)
 (.seq
 (.ops 4 [⟨some 18, none, .ld 128 true (.t 2), []⟩,
 ⟨some 19, none, .call 77 [.t 18], []⟩,
 ⟨some 20, none, .un .not (.t 19), []⟩,
 ⟨some 17, none, .mv (.t 20), []⟩])
 (.cond (.t 17)
 (.seq
 (.ops 5 [⟨some 4, none, .mv (.c (.str [])), []⟩,
 ⟨some 5, none, .mv (.c (.str [])), []⟩,
 ⟨some 6, none, .mv (.c (.int .i64 13)), []⟩])
 .ret)
 (.seq
 (.ops 6 [⟨some 22, none, .ld 128 true (.t 2), []⟩,
 ⟨some 23, none, .call 75 [.t 22], []⟩,
 ⟨some 24, none, .bin .eql (.t 23) (.c (.int .i64 0)), []⟩,
 ⟨some 21, none, .mv (.t 24), []⟩])
 (.cond (.t 21)
 (.seq
 (.ops 7 [⟨some 4, none, .mv (.c (.str [])), []⟩,
 ⟨some 5, none, .mv (.c (.str [])), []⟩,
 ⟨some 6, none, .mv (.c (.int .i64 8)), []⟩])
 .ret)
 (.seq
 (.ops 8 [⟨some 26, none, .mv (.t 1), []⟩,
 ⟨some 27, none, .bin .lss (.t 26) (.c (.int .i64 0)), []⟩,
 ⟨some 28, none, .mv (.t 27), []⟩,
 ⟨some 29, some (28, false), .mv (.t 1), []⟩,
 ⟨some 30, some (28, false), .mv (.t 7), []⟩,
 ⟨some 31, some (28, false), .len .slice (.t 30), []⟩,
 ⟨some 32, some (28, false), .bin .geq (.t 29) (.t 31), []⟩,
 ⟨some 33, none, .pick (.t 28) (.c (.bool true)) (.t 32), []⟩,
 ⟨some 25, none, .mv (.t 33), []⟩])
 (.cond (.t 25)
 (.seq
 (.ops 9 [⟨some 4, none, .mv (.c (.str [])), []⟩,
 ⟨some 5, none, .mv (.c (.str [])), []⟩,
 ⟨some 6, none, .mv (.c (.int .i64 3)), []⟩])
 .ret)
 .skip)))))))))
 (.seq
 (.ops 10 [⟨some 35, none, .ld 128 true (.t 2), []⟩,
 ⟨some 36, none, .call 73 [.t 35], []⟩,
 ⟨some 34, none, .mv (.t 36), []⟩,
 ⟨some 37, none, .ext (.t 34) 0, []⟩,
 ⟨some 38, none, .ext (.t 34) 1, []⟩,
 ⟨some 39, none, .ext (.t 34) 2, []⟩,
 ⟨some 5, none, .mv (.t 38), []⟩,
 ⟨some 6, none, .mv (.t 39), []⟩])
 (.seq
 (.seq
 (.ops 11 [⟨some 40, none, .mv (.t 1), []⟩,
 ⟨some 41, none, .bin .add (.t 40) (.c (.int .i64 1)), []⟩,
 ⟨some 42, none, .mv (.t 7), []⟩,
 ⟨some 43, none, .len .slice (.t 42), []⟩,
 ⟨some 44, none, .bin .lss (.t 41) (.t 43), []⟩])
 (.cond (.t 44)
 (.ops 12 [⟨some 45, none, .mv (.t 7), []⟩,
 ⟨some 46, none, .mv (.t 1), []⟩,
 ⟨some 47, none, .bin .add (.t 46) (.c (.int .i64 1)), []⟩,
 ⟨some 48, none, .ixa none 2 (.t 45) (.t 47), []⟩,
 ⟨some 49, none, .fld 0 (.t 48), []⟩,
 ⟨some 50, none, .ld 1 false (.t 49), []⟩,
 ⟨some 5, none, .mv (.t 50), []⟩])
 .skip))
 (.seq
 (.ops 13 [⟨some 51, none, .mv (.t 7), []⟩,
 ⟨some 52, none, .mv (.t 1), []⟩,
 ⟨some 53, none, .ixa none 2 (.t 51) (.t 52), []⟩,
 ⟨some 54, none, .fld 0 (.t 53), []⟩,
 ⟨some 55, none, .ld 1 false (.t 54), []⟩,
 ⟨some 56, none, .mv (.t 5), []⟩,
 ⟨some 57, none, .mv (.t 6), []⟩,
 ⟨some 4, none, .mv (.t 55), []⟩,
 ⟨some 5, none, .mv (.t 56), []⟩,
 ⟨some 6, none, .mv (.t 57), []⟩])
 .ret))))))⟩
theorem F63_code : cfgA.code 63 = some F63 := by kernel_rfl

/-- ticketline/slot.head -/
noncomputable def F64 : AFn := ⟨68, [.tmp 2], (.seq
 (.ops 0 [⟨some 2, none, .mv (.c (.bool false)), []⟩])
 (.seq
 (.seq
 (.ops 1 [⟨some 7, none, .mv (.t 0), []⟩,
 ⟨some 8, none, .nilc (.t 7) (mok Try.prog), []⟩,
 ⟨some 9, none, .ixa (some 128) 1 (.t 8) (.c (.int .i64 8)), []⟩,
 ⟨some 10, none, .ld 1 false (.t 9), []⟩,
 ⟨some 11, none, .bin .lss (.t 10) (.c (.int .u64 1)), []⟩,
 ⟨some 12, none, .mv (.t 11), []⟩,
 ⟨some 13, some (12, false), .mv (.t 0), []⟩,
 ⟨some 14, some (12, false), .nilc (.t 13) (mok Try.prog), []⟩,
 ⟨some 15, some (12, false), .ixa (some 128) 1 (.t 14) (.c (.int .i64 8)), []⟩,
 ⟨some 16, some (12, false), .ld 1 false (.t 15), []⟩,
 ⟨some 17, some (12, false), .bin .gtr (.t 16) (.c (.int .u64 6)), []⟩,
 ⟨some 18, none, .pick (.t 12) (.c (.bool true)) (.t 17), []⟩,
 ⟨some 19, none, .mv (.t 18), []⟩,
 ⟨some 20, some (19, false), .mv (.t 0), []⟩,
 ⟨some 21, some (19, false), .nilc (.t 20) (mok Try.prog), []⟩,
 ⟨some 22, some (19, false), .ixa (some 128) 1 (.t 21) (.c (.int .i64 9)), []⟩,
 ⟨some 23, some (19, false), .ld 1 false (.t 22), []⟩,
 ⟨some 24, some (19, false), .bin .gtr (.t 23) (.c (.int .u64 108)), []⟩,
 ⟨some 25, none, .pick (.t 19) (.c (.bool true)) (.t 24), []⟩,
 ⟨some 26, none, .mv (.t 25), []⟩,
 ⟨some 27, some (26, false), .mv (.t 0), []⟩,
 ⟨some 28, some (26, false), .nilc (.t 27) (mok Try.prog), []⟩,
 ⟨some 29, some (26, false), .ixa (some 128) 1 (.t 28) (.c (.int .i64 10)), []⟩,
 ⟨some 30, some (26, false), .ld 1 false (.t 29), []⟩,
 ⟨some 31, some (26, false), .bin .gtr (.t 30) (.c (.int .u64 511)), []⟩,
 ⟨some 32, none, .pick (.t 26) (.c (.bool true)) (.t 31), []⟩,
 ⟨some 33, none, .mv (.t 32), []⟩,
 ⟨some 34, some (33, false), .mv (.t 0), []⟩,
 ⟨some 35, some (33, false), .nilc (.t 34) (mok Try.prog), []⟩,
 ⟨some 36, some (33, false), .ixa (some 128) 1 (.t 35) (.c (.int .i64 11)), []⟩,
 ⟨some 37, some (33, false), .ld 1 false (.t 36), []⟩,
 ⟨some 38, some (33, false), .bin .gtr (.t 37) (.c (.int .u64 128)), []⟩,
 ⟨some 39, none, .pick (.t 33) (.c (.bool true)) (.t 38), []⟩,
 ⟨some 40, none, .mv (.t 39), []⟩,
 ⟨some 41, some (40, false), .mv (.t 0), []⟩,
 ⟨some 42, some (40, false), .nilc (.t 41) (mok Try.prog), []⟩,
 ⟨some 43, some (40, false), .ixa (some 128) 1 (.t 42) (.c (.int .i64 11)), []⟩,
 ⟨some 44, some (40, false), .ld 1 false (.t 43), []⟩,
 ⟨some 45, some (40, false), .mv (.t 0), []⟩,
 ⟨some 46, some (40, false), .nilc (.t 45) (mok Try.prog), []⟩,
 ⟨some 47, some (40, false), .ixa (some 128) 1 (.t 46) (.c (.int .i64 9)), []⟩,
 ⟨some 48, some (40, false), .ld 1 false (.t 47), []⟩,
 ⟨some 49, some (40, false), .bin .add (.c (.int .u64 20)) (.t 48), []⟩,
 ⟨some 50, some (40, false), .bin .lss (.t 44) (.t 49), []⟩,
 ⟨some 51, none, .pick (.t 40) (.c (.bool true)) (.t 50), []⟩])
 (.cond (.t 51)
 (.seq
 (.ops 2 [⟨some 2, none, .mv (.c (.bool false)), []⟩])
 .ret)
 .skip))
 (.seq
 (.ops 3 [⟨some 53, none, .mv (.t 0), []⟩,
 ⟨some 54, none, .call 80 [.t 53, .c (.int .i64 12)], []⟩,
 ⟨some 52, none, .mv (.t 54), []⟩,
 ⟨some 55, none, .ext (.t 52) 0, []⟩,
 ⟨some 56, none, .ext (.t 52) 1, []⟩,
 ⟨some 3, none, .mv (.t 55), []⟩,
 ⟨some 4, none, .mv (.t 56), []⟩])
 (.seq
 (.ops 4 [⟨some 58, none, .mv (.t 0), []⟩,
 ⟨some 59, none, .call 80 [.t 58, .c (.int .i64 16)], []⟩,
 ⟨some 57, none, .mv (.t 59), []⟩,
 ⟨some 60, none, .ext (.t 57) 0, []⟩,
 ⟨some 61, none, .ext (.t 57) 1, []⟩,
 ⟨some 5, none, .mv (.t 60), []⟩,
 ⟨some 6, none, .mv (.t 61), []⟩])
 (.seq
 (.ops 5 [⟨some 62, none, .mv (.t 4), []⟩,
 ⟨some 63, none, .bin .eql (.t 62) (.c (.int .i64 0)), []⟩,
 ⟨some 64, none, .mv (.t 63), []⟩,
 ⟨some 65, some (64, true), .mv (.t 6), []⟩,
 ⟨some 66, some (64, true), .bin .eql (.t 65) (.c (.int .i64 0)), []⟩,
 ⟨some 67, none, .pick (.t 64) (.t 66) (.c (.bool false)), []⟩,
 ⟨some 2, none, .mv (.t 67), []⟩])
 .ret)))))⟩
theorem F64_code : cfgA.code 64 = some F64 := by kernel_rfl

/-- ticketline/slot.sized -/
noncomputable def F65 : AFn := ⟨69, [.tmp 4], (.seq
 (.ops 0 [⟨some 4, none, .mv (.c (.bool false)), []⟩])
 (.seq
 (.ops 1 [⟨some 8, none, .mv (.t 0), []⟩,
 ⟨some 9, none, .mv (.t 1), []⟩,
 ⟨some 10, none, .bin .add (.c (.int .i64 20)) (.t 9), []⟩,
 ⟨some 11, none, .nilc (.t 8) (mok Try.prog), []⟩,
 ⟨some 12, none, .ixa (some 128) 1 (.t 11) (.t 10), []⟩,
 ⟨some 13, none, .ld 1 false (.t 12), []⟩,
 ⟨some 5, none, .mv (.t 13), []⟩])
 (.seq
 (.seq
 (.ops 2 [⟨some 14, none, .mv (.t 5), []⟩,
 ⟨some 15, none, .bin .shr (.t 14) (.c (.int .u64 16)), []⟩,
 ⟨some 16, none, .bin .geq (.t 15) (.c (.int .u64 128)), []⟩])
 (.cond (.t 16)
 (.seq
 (.ops 3 [⟨some 4, none, .mv (.c (.bool false)), []⟩])
 .ret)
 .skip))
 (.seq
 (.ops 4 [⟨some 17, none, .mv (.t 5), []⟩,
 ⟨some 18, none, .call 66 [.t 17], []⟩,
 ⟨some 6, none, .alloc [.int .i64 0, .int .i64 0, .int .i64 0, .int .i64 0, .int .i64 0] false, []⟩,
 ⟨none, none, .st 5 (.t 6) (.t 18), []⟩])
 (.seq
 (.ops 5 [⟨some 19, none, .mv (.t 0), []⟩,
 ⟨some 20, none, .nilc (.t 19) (mok Try.prog), []⟩,
 ⟨some 21, none, .ixa (some 128) 1 (.t 20) (.c (.int .i64 8)), []⟩,
 ⟨some 22, none, .ld 1 false (.t 21), []⟩,
 ⟨some 23, none, .bin .eql (.t 22) (.c (.int .u64 1)), []⟩,
 ⟨some 7, none, .mv (.t 23), []⟩])
 (.seq
 (.block 0
 (.seq
 (.ops 6 [⟨some 25, none, .fld 3 (.t 6), []⟩,
 ⟨some 26, none, .ld 1 false (.t 25), []⟩,
 ⟨some 27, none, .bin .gtr (.t 26) (.c (.int .i64 24)), []⟩,
 ⟨some 28, none, .mv (.t 27), []⟩,
 ⟨some 29, some (28, false), .fld 3 (.t 6), []⟩,
 ⟨some 30, some (28, false), .ld 1 false (.t 29), []⟩,
 ⟨some 31, some (28, false), .bin .eql (.t 30) (.c (.int .i64 0)), []⟩,
 ⟨some 32, some (28, false), .mv (.t 31), []⟩,
 ⟨some 33, some (32, true), .mv (.t 7), []⟩,
 ⟨some 34, some (32, true), .mv (.t 33), []⟩,
 ⟨some 35, some (34, false), .mv (.t 1), []⟩,
 ⟨some 36, some (34, false), .bin .gtr (.t 35) (.c (.int .i64 0)), []⟩,
 ⟨some 37, some (32, true), .pick (.t 34) (.c (.bool true)) (.t 36), []⟩,
 ⟨some 38, some (28, false), .pick (.t 32) (.t 37) (.c (.bool false)), []⟩,
 ⟨some 39, none, .pick (.t 28) (.c (.bool true)) (.t 38), []⟩,
 ⟨some 24, none, .mv (.t 39), []⟩])
 (.cond (.t 24)
 (.seq
 (.ops 7 [⟨some 4, none, .mv (.c (.bool false)), []⟩])
 .ret)
 (.seq
 (.ops 8 [⟨some 41, none, .mv (.t 7), []⟩,
 ⟨some 42, none, .mv (.t 41), []⟩,
 ⟨some 43, some (42, true), .fld 4 (.t 6), []⟩,
 ⟨some 44, some (42, true), .ld 1 false (.t 43), []⟩,
 ⟨some 45, some (42, true), .bin .gtr (.t 44) (.c (.int .i64 40)), []⟩,
 ⟨some 46, none, .pick (.t 42) (.t 45) (.c (.bool false)), []⟩,
 ⟨some 47, none, .mv (.t 46), []⟩,
 ⟨some 48, some (47, false), .mv (.t 7), []⟩,
 ⟨some 49, some (47, false), .un .not (.t 48), []⟩,
 ⟨some 50, some (47, false), .mv (.t 49), []⟩,
 ⟨some 51, some (50, true), .fld 4 (.t 6), []⟩,
 ⟨some 52, some (50, true), .ld 1 false (.t 51), []⟩,
 ⟨some 53, some (50, true), .bin .neq (.t 52) (.c (.int .i64 8)), []⟩,
 ⟨some 54, some (47, false), .pick (.t 50) (.t 53) (.c (.bool false)), []⟩,
 ⟨some 55, none, .pick (.t 47) (.c (.bool true)) (.t 54), []⟩,
 ⟨some 40, none, .mv (.t 55), []⟩])
 (.cond (.t 40)
 (.seq
 (.ops 9 [⟨some 4, none, .mv (.c (.bool false)), []⟩])
 .ret)
 .skip)))))
 (.seq
 (.ops 10 [⟨some 56, none, .fld 0 (.t 6), []⟩,
 ⟨some 57, none, .ld 1 false (.t 56), []⟩,
 ⟨some 58, none, .cvi .u64 (.t 57), []⟩,
 ⟨some 59, none, .mv (.t 0), []⟩,
 ⟨some 60, none, .nilc (.t 59) (mok Try.prog), []⟩,
 ⟨some 61, none, .ixa (some 128) 1 (.t 60) (.c (.int .i64 11)), []⟩,
 ⟨some 62, none, .ld 1 false (.t 61), []⟩,
 ⟨some 63, none, .bin .geq (.t 58) (.t 62), []⟩,
 ⟨some 64, none, .mv (.t 63), []⟩,
 ⟨some 65, some (64, true), .fld 2 (.t 6), []⟩,
 ⟨some 66, some (64, true), .ld 1 false (.t 65), []⟩,
 ⟨some 67, some (64, true), .bin .leq (.t 66) (.c (.int .i64 128)), []⟩,
 ⟨some 68, none, .pick (.t 64) (.t 67) (.c (.bool false)), []⟩,
 ⟨some 4, none, .mv (.t 68), []⟩])
 .ret)))))))⟩
theorem F65_code : cfgA.code 65 = some F65 := by kernel_rfl

/-- ticketline/slot.entryOf -/
noncomputable def F66 : AFn := ⟨30, [.cell 2 5 true], (.seq
 (.ops 0 [⟨some 2, none, .alloc [.int .i64 0, .int .i64 0, .int .i64 0, .int .i64 0, .int .i64 0] false, []⟩])
 (.seq
 (.ops 1 [⟨some 4, none, .mv (.t 0), []⟩,
 ⟨some 5, none, .bin .shr (.t 4) (.c (.int .u64 16)), []⟩,
 ⟨some 6, none, .cvi .i64 (.t 5), []⟩,
 ⟨some 7, none, .mv (.t 0), []⟩,
 ⟨some 8, none, .bin .shr (.t 7) (.c (.int .u64 8)), []⟩,
 ⟨some 9, none, .bin .and (.t 8) (.c (.int .u64 255)), []⟩,
 ⟨some 10, none, .cvi .i64 (.t 9), []⟩,
 ⟨some 11, none, .mv (.t 0), []⟩,
 ⟨some 12, none, .bin .and (.t 11) (.c (.int .u64 255)), []⟩,
 ⟨some 13, none, .cvi .i64 (.t 12), []⟩,
 ⟨some 14, none, .build [.int .i64 0, .int .i64 0, .int .i64 0, .int .i64 0, .int .i64 0] [(0, 1, (.t 6)), (3, 1, (.t 10)), (4, 1, (.t 13))], []⟩,
 ⟨some 3, none, .alloc [.int .i64 0, .int .i64 0, .int .i64 0, .int .i64 0, .int .i64 0] false, []⟩,
 ⟨none, none, .st 5 (.t 3) (.t 14), []⟩])
 (.seq
 (.ops 2 [⟨some 15, none, .fld 0 (.t 3), []⟩,
 ⟨some 16, none, .ld 1 false (.t 15), []⟩,
 ⟨some 17, none, .fld 3 (.t 3), []⟩,
 ⟨some 18, none, .ld 1 false (.t 17), []⟩,
 ⟨some 19, none, .call 81 [.t 18], [(16, .ld 1 false (.t 15))]⟩,
 ⟨some 20, none, .bin .add (.t 16) (.t 19), []⟩,
 ⟨some 21, none, .fld 1 (.t 3), []⟩,
 ⟨none, none, .st 1 (.t 21) (.t 20), []⟩])
 (.seq
 (.ops 3 [⟨some 22, none, .fld 1 (.t 3), []⟩,
 ⟨some 23, none, .ld 1 false (.t 22), []⟩,
 ⟨some 24, none, .fld 4 (.t 3), []⟩,
 ⟨some 25, none, .ld 1 false (.t 24), []⟩,
 ⟨some 26, none, .call 81 [.t 25], [(23, .ld 1 false (.t 22))]⟩,
 ⟨some 27, none, .bin .add (.t 23) (.t 26), []⟩,
 ⟨some 28, none, .fld 2 (.t 3), []⟩,
 ⟨none, none, .st 1 (.t 28) (.t 27), []⟩])
 (.seq
 (.ops 4 [⟨some 29, none, .ld 5 true (.t 3), []⟩,
 ⟨none, none, .st 5 (.t 2) (.t 29), []⟩])
 .ret)))))⟩
theorem F66_code : cfgA.code 66 = some F66 := by kernel_rfl

/-- ticketline/slot.text -/
noncomputable def F67 : AFn := ⟨43, [.cell 4 2 true, .tmp 5], (.seq
 (.ops 0 [⟨some 3, none, .box 5 (.t 1) false, []⟩,
 ⟨some 4, none, .alloc [.str [], .str []] false, []⟩,
 ⟨some 5, none, .mv (.c (.int .i64 0)), []⟩])
 (.seq
 (.ops 1 [⟨some 10, none, .mv (.t 0), []⟩,
 ⟨some 11, none, .nilc (.t 10) (mok Try.prog), []⟩,
 ⟨some 12, none, .fld 0 (.t 3), []⟩,
 ⟨some 13, none, .ld 1 false (.t 12), []⟩,
 ⟨some 14, none, .fld 1 (.t 3), []⟩,
 ⟨some 15, none, .ld 1 false (.t 14), []⟩,
 ⟨some 16, none, .slc (some 128) 1 (.t 11) (some (.t 13)) (some (.t 15)), []⟩,
 ⟨some 17, none, .fld 3 (.t 3), []⟩,
 ⟨some 18, none, .ld 1 false (.t 17), []⟩,
 ⟨some 19, none, .call 82 [.t 16, .t 18], []⟩,
 ⟨some 9, none, .mv (.t 19), []⟩,
 ⟨some 20, none, .ext (.t 9) 0, []⟩,
 ⟨some 21, none, .ext (.t 9) 1, []⟩,
 ⟨some 6, none, .mv (.t 20), []⟩,
 ⟨some 7, none, .mv (.t 21), []⟩])
 (.seq
 (.seq
 (.ops 2 [⟨some 22, none, .mv (.t 7), []⟩,
 ⟨some 23, none, .bin .neq (.t 22) (.c (.int .i64 0)), []⟩])
 (.cond (.t 23)
 (.seq
 (.ops 3 [⟨some 24, none, .build [.str [], .str []] [], []⟩,
 ⟨some 25, none, .mv (.t 7), []⟩,
 ⟨none, none, .st 2 (.t 4) (.t 24), []⟩,
 ⟨some 5, none, .mv (.t 25), []⟩])
 .ret)
 .skip))
 (.seq
 (.ops 4 [⟨some 27, none, .mv (.t 0), []⟩,
 ⟨some 28, none, .nilc (.t 27) (mok Try.prog), []⟩,
 ⟨some 29, none, .fld 1 (.t 3), []⟩,
 ⟨some 30, none, .ld 1 false (.t 29), []⟩,
 ⟨some 31, none, .fld 2 (.t 3), []⟩,
 ⟨some 32, none, .ld 1 false (.t 31), []⟩,
 ⟨some 33, none, .slc (some 128) 1 (.t 28) (some (.t 30)) (some (.t 32)), []⟩,
 ⟨some 34, none, .fld 4 (.t 3), []⟩,
 ⟨some 35, none, .ld 1 false (.t 34), []⟩,
 ⟨some 36, none, .call 82 [.t 33, .t 35], []⟩,
 ⟨some 26, none, .mv (.t 36), []⟩,
 ⟨some 37, none, .ext (.t 26) 0, []⟩,
 ⟨some 38, none, .ext (.t 26) 1, []⟩,
 ⟨some 8, none, .mv (.t 37), []⟩,
 ⟨some 7, none, .mv (.t 38), []⟩])
 (.seq
 (.ops 5 [⟨some 39, none, .mv (.t 6), []⟩,
 ⟨some 40, none, .mv (.t 8), []⟩,
 ⟨some 41, none, .build [.str [], .str []] [(0, 1, (.t 39)), (1, 1, (.t 40))], []⟩,
 ⟨some 42, none, .mv (.t 7), []⟩,
 ⟨none, none, .st 2 (.t 4) (.t 41), []⟩,
 ⟨some 5, none, .mv (.t 42), []⟩])
 .ret)))))⟩
theorem F67_code : cfgA.code 67 = some F67 := by kernel_rfl

/-- ticketline/ticketlineref14.Words -/
noncomputable def F68 : AFn := ⟨6, [.tmp 2], (.seq
 (.ops 0 [⟨some 2, none, .mv (.c (.int .i64 0)), []⟩])
 (.seq
 (.ops 1 [⟨some 3, none, .mv (.t 0), []⟩,
 ⟨some 4, none, .bin .add (.t 3) (.c (.int .i64 7)), []⟩,
 ⟨some 5, none, .bin .quo (.t 4) (.c (.int .i64 8)), []⟩,
 ⟨some 2, none, .mv (.t 5), []⟩])
 .ret))⟩
theorem F68_code : cfgA.code 68 = some F68 := by kernel_rfl

/-- (*ticketline/mem.Mem).zero -/
noncomputable def F69 : AFn := ⟨13, [.tmp 2], (.seq
 (.ops 0 [⟨some 2, none, .mv (.c (.bool false)), []⟩])
 (.seq
 (.ops 1 [⟨some 3, none, .mv (.t 0), []⟩,
 ⟨some 4, none, .eqn .ptr false (.t 3), []⟩,
 ⟨some 5, none, .mv (.t 4), []⟩,
 ⟨some 6, some (5, false), .mv (.t 0), []⟩,
 ⟨some 7, some (5, false), .nilc (.t 6) (mok Try.prog), []⟩,
 ⟨some 8, some (5, false), .fld 0 (.t 7), []⟩,
 ⟨some 9, some (5, false), .ld 1 false (.t 8), []⟩,
 ⟨some 10, some (5, false), .len .slice (.t 9), []⟩,
 ⟨some 11, some (5, false), .bin .eql (.t 10) (.c (.int .i64 0)), []⟩,
 ⟨some 12, none, .pick (.t 5) (.c (.bool true)) (.t 11), []⟩,
 ⟨some 2, none, .mv (.t 12), []⟩])
 .ret))⟩
theorem F69_code : cfgA.code 69 = some F69 := by kernel_rfl

/-- slices.Clone[[]uint64,uint64] -/
noncomputable def F70 : AFn := ⟨8, [.tmp 2], (.seq
 (.ops 0 [⟨some 2, none, .mv (.c (.nils)), []⟩])
 (.seq
 (.seq
 (.ops 1 [⟨some 3, none, .mv (.t 0), []⟩,
 ⟨some 4, none, .eqn .slice false (.t 3), []⟩])
 (.cond (.t 4)
 (.seq
 (.ops 2 [⟨some 2, none, .mv (.c (.nils)), []⟩])
 .ret)
 .skip))
 (.seq
 (.ops 3 [⟨some 5, none, .bslice [.int .u64 0] 1 0 [] false false, []⟩,
 ⟨some 6, none, .mv (.t 0), []⟩,
 ⟨some 7, none, .app 1 8 (.t 5) (.t 6) true, []⟩,
 ⟨some 2, none, .mv (.t 7), []⟩])
 .ret)))⟩
theorem F70_code : cfgA.code 70 = some F70 := by kernel_rfl

/-- (*ticketline/mem.Mem).Load -/
noncomputable def F71 : AFn := ⟨18, [.tmp 4, .tmp 5], (.seq
 (.ops 0 [⟨some 4, none, .mv (.c (.int .u64 0)), []⟩,
 ⟨some 5, none, .mv (.c (.int .i64 0)), []⟩])
 (.seq
 (.ops 1 [⟨some 9, none, .mv (.t 0), []⟩,
 ⟨some 10, none, .mv (.t 1), []⟩,
 ⟨some 11, none, .build [.int .i64 0, .int .i64 0, .int .u64 0, .int .u64 0] [(0, 1, (.c (.int .i64 1))), (1, 1, (.t 10))], []⟩,
 ⟨some 12, none, .call 72 [.t 9, .t 11], []⟩,
 ⟨some 8, none, .mv (.t 12), []⟩,
 ⟨some 13, none, .ext (.t 8) 0, []⟩,
 ⟨some 14, none, .ext (.t 8) 1, []⟩,
 ⟨some 6, none, .alloc [.int .i64 0, .int .i64 0, .int .u64 0, .int .u64 0] false, []⟩,
 ⟨none, none, .st 4 (.t 6) (.t 13), []⟩,
 ⟨some 7, none, .mv (.t 14), []⟩])
 (.seq
 (.ops 2 [⟨some 15, none, .fld 2 (.t 6), []⟩,
 ⟨some 16, none, .ld 1 false (.t 15), []⟩,
 ⟨some 17, none, .mv (.t 7), []⟩,
 ⟨some 4, none, .mv (.t 16), []⟩,
 ⟨some 5, none, .mv (.t 17), []⟩])
 .ret)))⟩
theorem F71_code : cfgA.code 71 = some F71 := by kernel_rfl

/-- (*ticketline/mem.Mem).Do -/
noncomputable def F72 : AFn := ⟨86, [.cell 4 4 true, .tmp 5], (.seq
 (.ops 0 [⟨some 3, none, .box 4 (.t 1) false, []⟩,
 ⟨some 4, none, .alloc [.int .i64 0, .int .i64 0, .int .u64 0, .int .u64 0] false, []⟩,
 ⟨some 5, none, .mv (.c (.int .i64 0)), []⟩])
 (.seq
 (.block 0
 (.seq
 (.ops 1 [⟨some 8, none, .mv (.t 0), []⟩,
 ⟨some 9, none, .call 69 [.t 8], []⟩,
 ⟨some 7, none, .mv (.t 9), []⟩])
 (.cond (.t 7)
 (.seq
 (.ops 2 [⟨some 10, none, .build [.int .i64 0, .int .i64 0, .int .u64 0, .int .u64 0] [], []⟩,
 ⟨none, none, .st 4 (.t 4) (.t 10), []⟩,
 ⟨some 5, none, .mv (.c (.int .i64 1)), []⟩])
 .ret)
 (.seq
 (.ops 3 [⟨some 12, none, .fld 0 (.t 3), []⟩,
 ⟨some 13, none, .ld 1 false (.t 12), []⟩,
 ⟨some 14, none, .bin .lss (.t 13) (.c (.int .i64 1)), []⟩,
 ⟨some 15, none, .mv (.t 14), []⟩,
 ⟨some 16, some (15, false), .fld 0 (.t 3), []⟩,
 ⟨some 17, some (15, false), .ld 1 false (.t 16), []⟩,
 ⟨some 18, some (15, false), .bin .gtr (.t 17) (.c (.int .i64 4)), []⟩,
 ⟨some 19, none, .pick (.t 15) (.c (.bool true)) (.t 18), []⟩,
 ⟨some 11, none, .mv (.t 19), []⟩])
 (.cond (.t 11)
 (.seq
 (.ops 4 [⟨some 20, none, .build [.int .i64 0, .int .i64 0, .int .u64 0, .int .u64 0] [], []⟩,
 ⟨none, none, .st 4 (.t 4) (.t 20), []⟩,
 ⟨some 5, none, .mv (.c (.int .i64 2)), []⟩])
 .ret)
 (.seq
 (.ops 5 [⟨some 22, none, .fld 1 (.t 3), []⟩,
 ⟨some 23, none, .ld 1 false (.t 22), []⟩,
 ⟨some 24, none, .bin .lss (.t 23) (.c (.int .i64 0)), []⟩,
 ⟨some 25, none, .mv (.t 24), []⟩,
 ⟨some 26, some (25, false), .fld 1 (.t 3), []⟩,
 ⟨some 27, some (25, false), .ld 1 false (.t 26), []⟩,
 ⟨some 28, some (25, false), .mv (.t 0), []⟩,
 ⟨some 29, some (25, false), .nilc (.t 28) (mok Try.prog), []⟩,
 ⟨some 30, some (25, false), .fld 0 (.t 29), []⟩,
 ⟨some 31, some (25, false), .ld 1 false (.t 30), []⟩,
 ⟨some 32, some (25, false), .len .slice (.t 31), []⟩,
 ⟨some 33, some (25, false), .bin .geq (.t 27) (.t 32), []⟩,
 ⟨some 34, none, .pick (.t 25) (.c (.bool true)) (.t 33), []⟩,
 ⟨some 21, none, .mv (.t 34), []⟩])
 (.cond (.t 21)
 (.seq
 (.ops 6 [⟨some 35, none, .build [.int .i64 0, .int .i64 0, .int .u64 0, .int .u64 0] [], []⟩,
 ⟨none, none, .st 4 (.t 4) (.t 35), []⟩,
 ⟨some 5, none, .mv (.c (.int .i64 3)), []⟩])
 .ret)
 .skip)))))))
 (.seq
 (.ops 7 [⟨some 36, none, .mv (.t 0), []⟩,
 ⟨some 37, none, .nilc (.t 36) (mok Try.prog), []⟩,
 ⟨some 38, none, .fld 0 (.t 37), []⟩,
 ⟨some 39, none, .ld 1 false (.t 38), []⟩,
 ⟨some 40, none, .fld 1 (.t 3), []⟩,
 ⟨some 41, none, .ld 1 false (.t 40), []⟩,
 ⟨some 42, none, .ixa none 1 (.t 39) (.t 41), []⟩,
 ⟨some 43, none, .ld 1 false (.t 42), []⟩,
 ⟨some 6, none, .mv (.t 43), []⟩])
 (.seq
 (.seq
 (.ops 8 [⟨some 44, none, .fld 0 (.t 3), []⟩,
 ⟨some 45, none, .ld 1 false (.t 44), []⟩,
 ⟨some 46, none, .bin .eql (.t 45) (.c (.int .i64 2)), []⟩,
 ⟨some 47, none, .mv (.t 46), []⟩,
 ⟨some 48, some (47, false), .fld 0 (.t 3), []⟩,
 ⟨some 49, some (47, false), .ld 1 false (.t 48), []⟩,
 ⟨some 50, some (47, false), .bin .eql (.t 49) (.c (.int .i64 4)), []⟩,
 ⟨some 51, none, .pick (.t 47) (.c (.bool true)) (.t 50), []⟩,
 ⟨some 52, none, .mv (.t 51), []⟩,
 ⟨some 53, some (52, false), .fld 0 (.t 3), []⟩,
 ⟨some 54, some (52, false), .ld 1 false (.t 53), []⟩,
 ⟨some 55, some (52, false), .bin .eql (.t 54) (.c (.int .i64 3)), []⟩,
 ⟨some 56, some (52, false), .mv (.t 55), []⟩,
 ⟨some 57, some (56, true), .mv (.t 6), []⟩,
 ⟨some 58, some (56, true), .fld 2 (.t 3), []⟩,
 ⟨some 59, some (56, true), .ld 1 false (.t 58), []⟩,
 ⟨some 60, some (56, true), .bin .eql (.t 57) (.t 59), []⟩,
 ⟨some 61, some (52, false), .pick (.t 56) (.t 60) (.c (.bool false)), []⟩,
 ⟨some 62, none, .pick (.t 52) (.c (.bool true)) (.t 61), []⟩])
 (.cond (.t 62)
 (.ops 9 [⟨some 63, none, .mv (.t 0), []⟩,
 ⟨some 64, none, .nilc (.t 63) (mok Try.prog), []⟩,
 ⟨some 65, none, .fld 0 (.t 64), []⟩,
 ⟨some 66, none, .ld 1 false (.t 65), []⟩,
 ⟨some 67, none, .fld 1 (.t 3), []⟩,
 ⟨some 68, none, .ld 1 false (.t 67), []⟩,
 ⟨some 69, none, .fld 3 (.t 3), []⟩,
 ⟨some 70, none, .ld 1 false (.t 69), []⟩,
 ⟨some 71, none, .ixa none 1 (.t 66) (.t 68), []⟩,
 ⟨none, none, .st 1 (.t 71) (.t 70), []⟩])
 .skip))
 (.seq
 (.ops 10 [⟨some 72, none, .fld 0 (.t 3), []⟩,
 ⟨some 73, none, .ld 1 false (.t 72), []⟩,
 ⟨some 74, none, .fld 1 (.t 3), []⟩,
 ⟨some 75, none, .ld 1 false (.t 74), []⟩,
 ⟨some 76, none, .mv (.t 6), []⟩,
 ⟨some 77, none, .mv (.t 0), []⟩,
 ⟨some 78, none, .nilc (.t 77) (mok Try.prog), []⟩,
 ⟨some 79, none, .fld 0 (.t 78), []⟩,
 ⟨some 80, none, .ld 1 false (.t 79), []⟩,
 ⟨some 81, none, .fld 1 (.t 3), []⟩,
 ⟨some 82, none, .ld 1 false (.t 81), []⟩,
 ⟨some 83, none, .ixa none 1 (.t 80) (.t 82), []⟩,
 ⟨some 84, none, .ld 1 false (.t 83), []⟩,
 ⟨some 85, none, .build [.int .i64 0, .int .i64 0, .int .u64 0, .int .u64 0] [(0, 1, (.t 73)), (1, 1, (.t 75)), (2, 1, (.t 76)), (3, 1, (.t 84))], []⟩,
 ⟨none, none, .st 4 (.t 4) (.t 85), []⟩,
 ⟨some 5, none, .mv (.c (.int .i64 0)), []⟩])
 .ret)))))⟩
theorem F72_code : cfgA.code 72 = some F72 := by kernel_rfl

/-- ticketline/slot.Fences -/
noncomputable def F73 : AFn := ⟨18, [.tmp 2, .tmp 3, .tmp 4], (.seq
 (.ops 0 [⟨some 1, none, .box 128 (.t 0) false, []⟩,
 ⟨some 2, none, .mv (.c (.str [])), []⟩,
 ⟨some 3, none, .mv (.c (.str [])), []⟩,
 ⟨some 4, none, .mv (.c (.int .i64 0)), []⟩])
 (.seq
 (.seq
 (.ops 1 [⟨some 5, none, .ld 128 true (.t 1), []⟩,
 ⟨some 6, none, .call 53 [.t 5], []⟩,
 ⟨some 7, none, .un .not (.t 6), []⟩])
 (.cond (.t 7)
 (.seq
 (.ops 2 [⟨some 2, none, .mv (.c (.str [])), []⟩,
 ⟨some 3, none, .mv (.c (.str [])), []⟩,
 ⟨some 4, none, .mv (.c (.int .i64 12)), []⟩])
 .ret)
 .skip))
 (.seq
 (.ops 3 [⟨some 9, none, .call 80 [.t 1, .c (.int .i64 12)], []⟩,
 ⟨some 8, none, .mv (.t 9), []⟩,
 ⟨some 10, none, .ext (.t 8) 0, []⟩,
 ⟨some 11, none, .ext (.t 8) 1, []⟩,
 ⟨some 2, none, .mv (.t 10), []⟩])
 (.seq
 (.ops 4 [⟨some 13, none, .call 80 [.t 1, .c (.int .i64 16)], []⟩,
 ⟨some 12, none, .mv (.t 13), []⟩,
 ⟨some 14, none, .ext (.t 12) 0, []⟩,
 ⟨some 15, none, .ext (.t 12) 1, []⟩,
 ⟨some 3, none, .mv (.t 14), []⟩])
 (.seq
 (.ops 5 [⟨some 16, none, .mv (.t 2), []⟩,
 ⟨some 17, none, .mv (.t 3), []⟩,
 ⟨some 2, none, .mv (.t 16), []⟩,
 ⟨some 3, none, .mv (.t 17), []⟩,
 ⟨some 4, none, .mv (.c (.int .i64 0)), []⟩])
 .ret)))))⟩
theorem F73_code : cfgA.code 73 = some F73 := by kernel_rfl

/-- ticketline/merge.Poor -/
noncomputable def F74 : AFn := ⟨20, [.tmp 2, .tmp 3], (.seq
 (.ops 0 [⟨some 1, none, .box 128 (.t 0) false, []⟩,
 ⟨some 2, none, .mv (.c (.bool false)), []⟩,
 ⟨some 3, none, .mv (.c (.int .i64 0)), []⟩])
 (.seq
 (.seq
 (.ops 1 [⟨some 7, none, .ld 128 true (.t 1), []⟩,
 ⟨some 8, none, .call 83 [.t 7], []⟩,
 ⟨some 4, none, .mv (.t 8), []⟩])
 (.seq
 (.ops 2 [⟨some 9, none, .mv (.t 4), []⟩,
 ⟨some 10, none, .bin .neq (.t 9) (.c (.int .i64 0)), []⟩])
 (.cond (.t 10)
 (.seq
 (.ops 3 [⟨some 11, none, .mv (.t 4), []⟩,
 ⟨some 2, none, .mv (.c (.bool false)), []⟩,
 ⟨some 3, none, .mv (.t 11), []⟩])
 .ret)
 .skip)))
 (.seq
 (.ops 4 [⟨some 13, none, .ld 128 true (.t 1), []⟩,
 ⟨some 14, none, .call 84 [.t 13], []⟩,
 ⟨some 12, none, .mv (.t 14), []⟩,
 ⟨some 15, none, .ext (.t 12) 0, []⟩,
 ⟨some 16, none, .ext (.t 12) 1, []⟩,
 ⟨some 5, none, .mv (.t 15), []⟩,
 ⟨some 6, none, .mv (.t 16), []⟩])
 (.seq
 (.ops 5 [⟨some 17, none, .mv (.t 5), []⟩,
 ⟨some 18, none, .bin .lss (.t 17) (.c (.int .i64 36)), []⟩,
 ⟨some 19, none, .mv (.t 6), []⟩,
 ⟨some 2, none, .mv (.t 18), []⟩,
 ⟨some 3, none, .mv (.t 19), []⟩])
 .ret))))⟩
theorem F74_code : cfgA.code 74 = some F74 := by kernel_rfl

/-- ticketline/slot.Level -/
noncomputable def F75 : AFn := ⟨10, [.tmp 2], (.seq
 (.ops 0 [⟨some 1, none, .box 128 (.t 0) false, []⟩,
 ⟨some 2, none, .mv (.c (.int .i64 0)), []⟩])
 (.seq
 (.seq
 (.ops 1 [⟨some 3, none, .ld 128 true (.t 1), []⟩,
 ⟨some 4, none, .call 53 [.t 3], []⟩,
 ⟨some 5, none, .un .not (.t 4), []⟩])
 (.cond (.t 5)
 (.seq
 (.ops 2 [⟨some 2, none, .mv (.c (.int .i64 (-1))), []⟩])
 .ret)
 .skip))
 (.seq
 (.ops 3 [⟨some 6, none, .ixa (some 128) 1 (.t 1) (.c (.int .i64 8)), []⟩,
 ⟨some 7, none, .ld 1 false (.t 6), []⟩,
 ⟨some 8, none, .cvi .i64 (.t 7), []⟩,
 ⟨some 9, none, .bin .sub (.t 8) (.c (.int .i64 1)), []⟩,
 ⟨some 2, none, .mv (.t 9), []⟩])
 .ret)))⟩
theorem F75_code : cfgA.code 75 = some F75 := by kernel_rfl

/-- ticketline/fence.Within: the round 0 -/
@[reducible] noncomputable def B76x0 : AC := (.seq
 (.ops 6 [⟨some 27, none, .bin .lss (.t 26) (.t 25), []⟩])
 (.seq
 (.cond (.t 27)
 .skip
 (.exit 0))
 (.seq
 (.block 1
 (.seq
 (.ops 7 [⟨some 28, none, .ixa none 2 (.t 24) (.t 26), []⟩,
 ⟨some 29, none, .ld 2 true (.t 28), []⟩,
 ⟨some 9, none, .alloc [.str [], .str []] false, []⟩,
 ⟨none, none, .st 2 (.t 9) (.t 29), []⟩])
 (.seq
 (.ops 8 [⟨some 30, none, .mv (.t 4), []⟩,
 ⟨some 31, none, .mv (.t 5), []⟩,
 ⟨some 32, none, .fld 0 (.t 9), []⟩,
 ⟨some 33, none, .ld 1 false (.t 32), []⟩,
 ⟨some 34, none, .call 85 [.t 30, .t 31, .t 33], []⟩,
 ⟨some 35, none, .bin .neq (.t 34) (.c (.int .i64 0)), []⟩])
 (.cond (.t 35)
 (.seq
 (.ops 9 [⟨some 2, none, .mv (.c (.bool false)), []⟩,
 ⟨some 3, none, .mv (.c (.int .i64 0)), []⟩])
 .ret)
 .skip))))
 (.ops 10 [⟨some 36, none, .bin .add (.t 26) (.c (.int .i64 1)), []⟩,
 ⟨some 26, none, .mv (.t 36), []⟩]))))

/-- ticketline/fence.Within -/
noncomputable def F76 : AFn := ⟨40, [.tmp 2, .tmp 3], (.seq
 (.ops 0 [⟨some 1, none, .box 128 (.t 0) false, []⟩,
 ⟨some 2, none, .mv (.c (.bool false)), []⟩,
 ⟨some 3, none, .mv (.c (.int .i64 0)), []⟩])
 (.seq
 (.ops 1 [⟨some 11, none, .ld 128 true (.t 1), []⟩,
 ⟨some 12, none, .call 73 [.t 11], []⟩,
 ⟨some 10, none, .mv (.t 12), []⟩,
 ⟨some 13, none, .ext (.t 10) 0, []⟩,
 ⟨some 14, none, .ext (.t 10) 1, []⟩,
 ⟨some 15, none, .ext (.t 10) 2, []⟩,
 ⟨some 4, none, .mv (.t 13), []⟩,
 ⟨some 5, none, .mv (.t 14), []⟩,
 ⟨some 6, none, .mv (.t 15), []⟩])
 (.seq
 (.seq
 (.ops 2 [⟨some 16, none, .mv (.t 6), []⟩,
 ⟨some 17, none, .bin .neq (.t 16) (.c (.int .i64 0)), []⟩])
 (.cond (.t 17)
 (.seq
 (.ops 3 [⟨some 18, none, .mv (.t 6), []⟩,
 ⟨some 2, none, .mv (.c (.bool false)), []⟩,
 ⟨some 3, none, .mv (.t 18), []⟩])
 .ret)
 .skip))
 (.seq
 (.ops 4 [⟨some 20, none, .ld 128 true (.t 1), []⟩,
 ⟨some 21, none, .call 23 [.t 20], []⟩,
 ⟨some 19, none, .mv (.t 21), []⟩,
 ⟨some 22, none, .ext (.t 19) 0, []⟩,
 ⟨some 23, none, .ext (.t 19) 1, []⟩,
 ⟨some 7, none, .mv (.t 22), []⟩,
 ⟨some 6, none, .mv (.t 23), []⟩])
 (.seq
 (.seq
 (.ops 5 [⟨some 24, none, .mv (.t 7), []⟩,
 ⟨some 25, none, .len .slice (.t 24), []⟩,
 ⟨some 26, none, .mv (.c (.int .i64 0)), []⟩])
 (.block 0
 (.loop [] B76x0)))
 (.seq
 (.ops 11 [⟨some 37, none, .mv (.t 6), []⟩,
 ⟨some 38, none, .bin .eql (.t 37) (.c (.int .i64 0)), []⟩,
 ⟨some 39, none, .mv (.t 6), []⟩,
 ⟨some 2, none, .mv (.t 38), []⟩,
 ⟨some 3, none, .mv (.t 39), []⟩])
 .ret))))))⟩
theorem F76_code : cfgA.code 76 = some F76 := by kernel_rfl

/-- ticketline/search.Sorted -/
noncomputable def F77 : AFn := ⟨12, [.tmp 2], (.seq
 (.ops 0 [⟨some 1, none, .box 128 (.t 0) false, []⟩,
 ⟨some 2, none, .mv (.c (.bool false)), []⟩])
 (.seq
 (.ops 1 [⟨some 6, none, .ld 128 true (.t 1), []⟩,
 ⟨some 7, none, .call 86 [.t 6], []⟩,
 ⟨some 5, none, .mv (.t 7), []⟩,
 ⟨some 8, none, .ext (.t 5) 0, []⟩,
 ⟨some 9, none, .ext (.t 5) 1, []⟩,
 ⟨some 3, none, .mv (.t 8), []⟩,
 ⟨some 4, none, .mv (.t 9), []⟩])
 (.seq
 (.ops 2 [⟨some 10, none, .mv (.t 4), []⟩,
 ⟨some 11, none, .bin .eql (.t 10) (.c (.int .i64 0)), []⟩,
 ⟨some 2, none, .mv (.t 11), []⟩])
 .ret)))⟩
theorem F77_code : cfgA.code 77 = some F77 := by kernel_rfl

/-- ticketline/slot.Key -/
noncomputable def F78 : AFn := ⟨16, [.tmp 4, .tmp 5], (.seq
 (.ops 0 [⟨some 2, none, .box 128 (.t 0) false, []⟩,
 ⟨some 4, none, .mv (.c (.str [])), []⟩,
 ⟨some 5, none, .mv (.c (.int .i64 0)), []⟩])
 (.seq
 (.ops 1 [⟨some 9, none, .mv (.t 1), []⟩,
 ⟨some 10, none, .call 79 [.t 2, .t 9], []⟩,
 ⟨some 8, none, .mv (.t 10), []⟩,
 ⟨some 11, none, .ext (.t 8) 0, []⟩,
 ⟨some 12, none, .ext (.t 8) 1, []⟩,
 ⟨some 6, none, .alloc [.str [], .str []] false, []⟩,
 ⟨none, none, .st 2 (.t 6) (.t 11), []⟩,
 ⟨some 7, none, .mv (.t 12), []⟩])
 (.seq
 (.ops 2 [⟨some 13, none, .fld 0 (.t 6), []⟩,
 ⟨some 14, none, .ld 1 false (.t 13), []⟩,
 ⟨some 15, none, .mv (.t 7), []⟩,
 ⟨some 4, none, .mv (.t 14), []⟩,
 ⟨some 5, none, .mv (.t 15), []⟩])
 .ret)))⟩
theorem F78_code : cfgA.code 78 = some F78 := by kernel_rfl

/-- ticketline/slot.pair -/
noncomputable def F79 : AFn := ⟨31, [.cell 4 2 true, .tmp 5], (.seq
 (.ops 0 [⟨some 4, none, .alloc [.str [], .str []] false, []⟩,
 ⟨some 5, none, .mv (.c (.int .i64 0)), []⟩])
 (.seq
 (.ops 1 [⟨some 9, none, .mv (.t 0), []⟩,
 ⟨some 10, none, .call 46 [.t 9], []⟩,
 ⟨some 8, none, .mv (.t 10), []⟩,
 ⟨some 11, none, .ext (.t 8) 0, []⟩,
 ⟨some 12, none, .ext (.t 8) 1, []⟩,
 ⟨some 6, none, .mv (.t 11), []⟩,
 ⟨some 7, none, .mv (.t 12), []⟩])
 (.seq
 (.block 0
 (.seq
 (.ops 2 [⟨some 14, none, .mv (.t 7), []⟩,
 ⟨some 15, none, .un .not (.t 14), []⟩,
 ⟨some 13, none, .mv (.t 15), []⟩])
 (.cond (.t 13)
 (.seq
 (.ops 3 [⟨some 16, none, .build [.str [], .str []] [], []⟩,
 ⟨none, none, .st 2 (.t 4) (.t 16), []⟩,
 ⟨some 5, none, .mv (.c (.int .i64 12)), []⟩])
 .ret)
 (.seq
 (.ops 4 [⟨some 18, none, .mv (.t 1), []⟩,
 ⟨some 19, none, .bin .lss (.t 18) (.c (.int .i64 0)), []⟩,
 ⟨some 20, none, .mv (.t 19), []⟩,
 ⟨some 21, some (20, false), .mv (.t 1), []⟩,
 ⟨some 22, some (20, false), .mv (.t 6), []⟩,
 ⟨some 23, some (20, false), .len .slice (.t 22), []⟩,
 ⟨some 24, some (20, false), .bin .geq (.t 21) (.t 23), []⟩,
 ⟨some 25, none, .pick (.t 20) (.c (.bool true)) (.t 24), []⟩,
 ⟨some 17, none, .mv (.t 25), []⟩])
 (.cond (.t 17)
 (.seq
 (.ops 5 [⟨some 26, none, .build [.str [], .str []] [], []⟩,
 ⟨none, none, .st 2 (.t 4) (.t 26), []⟩,
 ⟨some 5, none, .mv (.c (.int .i64 3)), []⟩])
 .ret)
 .skip)))))
 (.seq
 (.ops 6 [⟨some 27, none, .mv (.t 6), []⟩,
 ⟨some 28, none, .mv (.t 1), []⟩,
 ⟨some 29, none, .ixa none 2 (.t 27) (.t 28), []⟩,
 ⟨some 30, none, .ld 2 true (.t 29), []⟩,
 ⟨none, none, .st 2 (.t 4) (.t 30), []⟩,
 ⟨some 5, none, .mv (.c (.int .i64 0)), []⟩])
 .ret))))⟩
theorem F79_code : cfgA.code 79 = some F79 := by kernel_rfl

/-- ticketline/slot.fence: the round 0 -/
@[reducible] noncomputable def B80x0 : AC := (.seq
 (.ops 6 [⟨some 35, none, .bin .lss (.t 34) (.t 33), []⟩])
 (.seq
 (.cond (.t 35)
 .skip
 (.exit 0))
 (.seq
 (.block 1
 (.seq
 (.ops 7 [⟨some 36, none, .ixa none 1 (.t 32) (.t 34), []⟩,
 ⟨some 37, none, .ld 1 false (.t 36), []⟩,
 ⟨some 9, none, .mv (.t 37), []⟩])
 (.seq
 (.ops 8 [⟨some 38, none, .mv (.t 9), []⟩,
 ⟨some 39, none, .bin .neq (.t 38) (.c (.int .u64 0)), []⟩])
 (.cond (.t 39)
 (.seq
 (.ops 9 [⟨some 4, none, .mv (.c (.str [])), []⟩,
 ⟨some 5, none, .mv (.c (.int .i64 12)), []⟩])
 .ret)
 .skip))))
 (.ops 10 [⟨some 40, none, .bin .add (.t 34) (.c (.int .i64 1)), []⟩,
 ⟨some 34, none, .mv (.t 40), []⟩]))))

/-- ticketline/slot.fence -/
noncomputable def F80 : AFn := ⟨51, [.tmp 4, .tmp 5], (.seq
 (.ops 0 [⟨some 4, none, .mv (.c (.str [])), []⟩,
 ⟨some 5, none, .mv (.c (.int .i64 0)), []⟩])
 (.seq
 (.seq
 (.ops 1 [⟨some 10, none, .mv (.t 0), []⟩,
 ⟨some 11, none, .mv (.t 1), []⟩,
 ⟨some 12, none, .nilc (.t 10) (mok Try.prog), []⟩,
 ⟨some 13, none, .ixa (some 128) 1 (.t 12) (.t 11), []⟩,
 ⟨some 14, none, .ld 1 false (.t 13), []⟩,
 ⟨some 15, none, .bin .gtr (.t 14) (.c (.int .u64 24)), []⟩])
 (.cond (.t 15)
 (.seq
 (.ops 2 [⟨some 4, none, .mv (.c (.str [])), []⟩,
 ⟨some 5, none, .mv (.c (.int .i64 12)), []⟩])
 .ret)
 .skip))
 (.seq
 (.ops 3 [⟨some 16, none, .mv (.t 0), []⟩,
 ⟨some 17, none, .mv (.t 1), []⟩,
 ⟨some 18, none, .nilc (.t 16) (mok Try.prog), []⟩,
 ⟨some 19, none, .ixa (some 128) 1 (.t 18) (.t 17), []⟩,
 ⟨some 20, none, .ld 1 false (.t 19), []⟩,
 ⟨some 21, none, .cvi .i64 (.t 20), []⟩,
 ⟨some 6, none, .mv (.t 21), []⟩])
 (.seq
 (.ops 4 [⟨some 22, none, .mv (.t 1), []⟩,
 ⟨some 23, none, .bin .add (.t 22) (.c (.int .i64 1)), []⟩,
 ⟨some 24, none, .mv (.t 6), []⟩,
 ⟨some 25, none, .call 81 [.t 24], []⟩,
 ⟨some 26, none, .bin .add (.t 23) (.t 25), []⟩,
 ⟨some 7, none, .mv (.t 26), []⟩])
 (.seq
 (.seq
 (.ops 5 [⟨some 27, none, .mv (.t 0), []⟩,
 ⟨some 28, none, .nilc (.t 27) (mok Try.prog), []⟩,
 ⟨some 29, none, .mv (.t 7), []⟩,
 ⟨some 30, none, .mv (.t 1), []⟩,
 ⟨some 31, none, .bin .add (.t 30) (.c (.int .i64 4)), []⟩,
 ⟨some 32, none, .slc (some 128) 1 (.t 28) (some (.t 29)) (some (.t 31)), []⟩,
 ⟨some 33, none, .len .slice (.t 32), []⟩,
 ⟨some 34, none, .mv (.c (.int .i64 0)), []⟩])
 (.block 0
 (.loop [] B80x0)))
 (.seq
 (.ops 11 [⟨some 41, none, .mv (.t 0), []⟩,
 ⟨some 42, none, .nilc (.t 41) (mok Try.prog), []⟩,
 ⟨some 43, none, .mv (.t 1), []⟩,
 ⟨some 44, none, .bin .add (.t 43) (.c (.int .i64 1)), []⟩,
 ⟨some 45, none, .mv (.t 7), []⟩,
 ⟨some 46, none, .slc (some 128) 1 (.t 42) (some (.t 44)) (some (.t 45)), []⟩,
 ⟨some 47, none, .mv (.t 6), []⟩,
 ⟨some 48, none, .call 82 [.t 46, .t 47], []⟩,
 ⟨some 49, none, .ext (.t 48) 0, []⟩,
 ⟨some 50, none, .ext (.t 48) 1, []⟩,
 ⟨some 4, none, .mv (.t 49), []⟩,
 ⟨some 5, none, .mv (.t 50), []⟩])
 .ret))))))⟩
theorem F80_code : cfgA.code 80 = some F80 := by kernel_rfl

/-- ticketline/keys.Words -/
noncomputable def F81 : AFn := ⟨9, [.tmp 2], (.seq
 (.ops 0 [⟨some 2, none, .mv (.c (.int .i64 0)), []⟩])
 (.seq
 (.seq
 (.ops 1 [⟨some 3, none, .mv (.t 0), []⟩,
 ⟨some 4, none, .bin .leq (.t 3) (.c (.int .i64 0)), []⟩])
 (.cond (.t 4)
 (.seq
 (.ops 2 [⟨some 2, none, .mv (.c (.int .i64 0)), []⟩])
 .ret)
 .skip))
 (.seq
 (.ops 3 [⟨some 5, none, .mv (.t 0), []⟩,
 ⟨some 6, none, .bin .sub (.t 5) (.c (.int .i64 1)), []⟩,
 ⟨some 7, none, .bin .quo (.t 6) (.c (.int .i64 8)), []⟩,
 ⟨some 8, none, .bin .add (.t 7) (.c (.int .i64 1)), []⟩,
 ⟨some 2, none, .mv (.t 8), []⟩])
 .ret)))⟩
theorem F81_code : cfgA.code 81 = some F81 := by kernel_rfl

/-- ticketline/keys.Unpack: the round 0 -/
@[reducible] noncomputable def B82x0 : AC := (.seq
 (.seq
 (.ops 12 [⟨some 30, none, .mv (.t 9), []⟩,
 ⟨some 31, none, .bin .geq (.t 30) (.c (.int .i64 0)), []⟩])
 (.cond (.t 31)
 .skip
 (.exit 3)))
 (.seq
 (.block 4
 (.ops 14 [⟨some 34, none, .mv (.t 6), []⟩,
 ⟨some 35, none, .mv (.t 8), []⟩,
 ⟨some 36, none, .mv (.t 9), []⟩,
 ⟨some 37, none, .bin .mul (.c (.int .i64 8)) (.t 36), []⟩,
 ⟨some 38, none, .bin .shr (.t 35) (.t 37), []⟩,
 ⟨some 39, none, .cvi .u8 (.t 38), []⟩,
 ⟨some 40, none, .bslice [.int .u8 0] 1 1 [(0, (.t 39))] false false, []⟩,
 ⟨some 41, none, .app 1 1 (.t 34) (.t 40) false, []⟩,
 ⟨some 6, none, .mv (.t 41), []⟩]))
 (.ops 13 [⟨some 32, none, .mv (.t 9), []⟩,
 ⟨some 33, none, .bin .sub (.t 32) (.c (.int .i64 1)), []⟩,
 ⟨some 9, none, .mv (.t 33), []⟩])))

/-- ticketline/keys.Unpack: the round 1 -/
@[reducible] noncomputable def B82x1 : AC := (.seq
 (.ops 9 [⟨some 27, none, .bin .lss (.t 26) (.t 25), []⟩])
 (.seq
 (.cond (.t 27)
 .skip
 (.exit 1))
 (.seq
 (.block 2
 (.seq
 (.ops 10 [⟨some 28, none, .ixa none 1 (.t 24) (.t 26), []⟩,
 ⟨some 29, none, .ld 1 false (.t 28), []⟩,
 ⟨some 8, none, .mv (.t 29), []⟩])
 (.seq
 (.ops 11 [⟨some 9, none, .mv (.c (.int .i64 7)), []⟩])
 (.block 3
 (.loop [] B82x0)))))
 (.ops 15 [⟨some 42, none, .bin .add (.t 26) (.c (.int .i64 1)), []⟩,
 ⟨some 26, none, .mv (.t 42), []⟩]))))

/-- ticketline/keys.Unpack: the round 2 -/
@[reducible] noncomputable def B82x2 : AC := (.seq
 (.ops 17 [⟨some 48, none, .bin .lss (.t 47) (.t 46), []⟩])
 (.seq
 (.cond (.t 48)
 .skip
 (.exit 5))
 (.seq
 (.block 6
 (.seq
 (.ops 18 [⟨some 49, none, .ixa none 1 (.t 45) (.t 47), []⟩,
 ⟨some 50, none, .ld 1 false (.t 49), []⟩,
 ⟨some 11, none, .mv (.t 50), []⟩])
 (.seq
 (.ops 19 [⟨some 51, none, .mv (.t 11), []⟩,
 ⟨some 52, none, .bin .neq (.t 51) (.c (.int .u8 0)), []⟩])
 (.cond (.t 52)
 (.seq
 (.ops 20 [⟨some 4, none, .mv (.c (.str [])), []⟩,
 ⟨some 5, none, .mv (.c (.int .i64 12)), []⟩])
 .ret)
 .skip))))
 (.ops 21 [⟨some 53, none, .bin .add (.t 47) (.c (.int .i64 1)), []⟩,
 ⟨some 47, none, .mv (.t 53), []⟩]))))

/-- ticketline/keys.Unpack -/
noncomputable def F82 : AFn := ⟨58, [.tmp 4, .tmp 5], (.seq
 (.ops 0 [⟨some 4, none, .mv (.c (.str [])), []⟩,
 ⟨some 5, none, .mv (.c (.int .i64 0)), []⟩])
 (.seq
 (.block 0
 (.seq
 (.ops 1 [⟨some 13, none, .mv (.t 1), []⟩,
 ⟨some 14, none, .bin .lss (.t 13) (.c (.int .i64 0)), []⟩,
 ⟨some 12, none, .mv (.t 14), []⟩])
 (.cond (.t 12)
 (.seq
 (.ops 2 [⟨some 4, none, .mv (.c (.str [])), []⟩,
 ⟨some 5, none, .mv (.c (.int .i64 2)), []⟩])
 .ret)
 (.seq
 (.ops 3 [⟨some 16, none, .mv (.t 1), []⟩,
 ⟨some 17, none, .bin .gtr (.t 16) (.c (.int .i64 40)), []⟩,
 ⟨some 15, none, .mv (.t 17), []⟩])
 (.cond (.t 15)
 (.seq
 (.ops 4 [⟨some 4, none, .mv (.c (.str [])), []⟩,
 ⟨some 5, none, .mv (.c (.int .i64 5)), []⟩])
 .ret)
 (.seq
 (.ops 5 [⟨some 19, none, .mv (.t 0), []⟩,
 ⟨some 20, none, .len .slice (.t 19), []⟩,
 ⟨some 21, none, .mv (.t 1), []⟩,
 ⟨some 22, none, .call 81 [.t 21], []⟩,
 ⟨some 23, none, .bin .neq (.t 20) (.t 22), []⟩,
 ⟨some 18, none, .mv (.t 23), []⟩])
 (.cond (.t 18)
 (.seq
 (.ops 6 [⟨some 4, none, .mv (.c (.str [])), []⟩,
 ⟨some 5, none, .mv (.c (.int .i64 12)), []⟩])
 .ret)
 .skip)))))))
 (.seq
 (.ops 7 [⟨some 6, none, .mv (.c (.nils)), []⟩])
 (.seq
 (.seq
 (.ops 8 [⟨some 24, none, .mv (.t 0), []⟩,
 ⟨some 25, none, .len .slice (.t 24), []⟩,
 ⟨some 26, none, .mv (.c (.int .i64 0)), []⟩])
 (.block 1
 (.loop [] B82x1)))
 (.seq
 (.seq
 (.ops 16 [⟨some 43, none, .mv (.t 6), []⟩,
 ⟨some 44, none, .mv (.t 1), []⟩,
 ⟨some 45, none, .slc none 1 (.t 43) (some (.t 44)) none, []⟩,
 ⟨some 46, none, .len .slice (.t 45), []⟩,
 ⟨some 47, none, .mv (.c (.int .i64 0)), []⟩])
 (.block 5
 (.loop [] B82x2)))
 (.seq
 (.ops 22 [⟨some 54, none, .mv (.t 6), []⟩,
 ⟨some 55, none, .mv (.t 1), []⟩,
 ⟨some 56, none, .slc none 1 (.t 54) none (some (.t 55)), []⟩,
 ⟨some 57, none, .cvs (.t 56), []⟩,
 ⟨some 4, none, .mv (.t 57), []⟩,
 ⟨some 5, none, .mv (.c (.int .i64 0)), []⟩])
 .ret))))))⟩
theorem F82_code : cfgA.code 82 = some F82 := by kernel_rfl

/-- ticketline/merge.check -/
noncomputable def F83 : AFn := ⟨11, [.tmp 2], (.seq
 (.ops 0 [⟨some 1, none, .box 128 (.t 0) false, []⟩,
 ⟨some 2, none, .mv (.c (.int .i64 0)), []⟩])
 (.seq
 (.block 0
 (.seq
 (.ops 1 [⟨some 4, none, .ld 128 true (.t 1), []⟩,
 ⟨some 5, none, .call 53 [.t 4], []⟩,
 ⟨some 6, none, .un .not (.t 5), []⟩,
 ⟨some 3, none, .mv (.t 6), []⟩])
 (.cond (.t 3)
 (.seq
 (.ops 2 [⟨some 2, none, .mv (.c (.int .i64 12)), []⟩])
 .ret)
 (.seq
 (.ops 3 [⟨some 8, none, .ld 128 true (.t 1), []⟩,
 ⟨some 9, none, .call 77 [.t 8], []⟩,
 ⟨some 10, none, .un .not (.t 9), []⟩,
 ⟨some 7, none, .mv (.t 10), []⟩])
 (.cond (.t 7)
 (.seq
 (.ops 4 [⟨some 2, none, .mv (.c (.int .i64 13)), []⟩])
 .ret)
 .skip)))))
 (.seq
 (.ops 5 [⟨some 2, none, .mv (.c (.int .i64 0)), []⟩])
 .ret)))⟩
theorem F83_code : cfgA.code 83 = some F83 := by kernel_rfl

/-- ticketline/slot.Load: the round 0 -/
@[reducible] noncomputable def B84x0 : AC := (.seq
 (.ops 6 [⟨some 18, none, .bin .lss (.t 17) (.t 16), []⟩])
 (.seq
 (.cond (.t 18)
 .skip
 (.exit 0))
 (.seq
 (.block 1
 (.seq
 (.ops 7 [⟨some 19, none, .ixa none 2 (.t 15) (.t 17), []⟩,
 ⟨some 20, none, .ld 2 true (.t 19), []⟩,
 ⟨some 8, none, .alloc [.str [], .str []] false, []⟩,
 ⟨none, none, .st 2 (.t 8) (.t 20), []⟩])
 (.ops 8 [⟨some 21, none, .mv (.t 6), []⟩,
 ⟨some 22, none, .fld 0 (.t 8), []⟩,
 ⟨some 23, none, .ld 1 false (.t 22), []⟩,
 ⟨some 24, none, .fld 1 (.t 8), []⟩,
 ⟨some 25, none, .ld 1 false (.t 24), []⟩,
 ⟨some 26, none, .call 87 [.t 23, .t 25], []⟩,
 ⟨some 27, none, .bin .add (.t 21) (.t 26), []⟩,
 ⟨some 6, none, .mv (.t 27), []⟩])))
 (.ops 9 [⟨some 28, none, .bin .add (.t 17) (.c (.int .i64 1)), []⟩,
 ⟨some 17, none, .mv (.t 28), []⟩]))))

/-- ticketline/slot.Load -/
noncomputable def F84 : AFn := ⟨30, [.tmp 2, .tmp 3], (.seq
 (.ops 0 [⟨some 1, none, .box 128 (.t 0) false, []⟩,
 ⟨some 2, none, .mv (.c (.int .i64 0)), []⟩,
 ⟨some 3, none, .mv (.c (.int .i64 0)), []⟩])
 (.seq
 (.ops 1 [⟨some 10, none, .call 46 [.t 1], []⟩,
 ⟨some 9, none, .mv (.t 10), []⟩,
 ⟨some 11, none, .ext (.t 9) 0, []⟩,
 ⟨some 12, none, .ext (.t 9) 1, []⟩,
 ⟨some 4, none, .mv (.t 11), []⟩,
 ⟨some 5, none, .mv (.t 12), []⟩])
 (.seq
 (.seq
 (.ops 2 [⟨some 13, none, .mv (.t 5), []⟩,
 ⟨some 14, none, .un .not (.t 13), []⟩])
 (.cond (.t 14)
 (.seq
 (.ops 3 [⟨some 2, none, .mv (.c (.int .i64 0)), []⟩,
 ⟨some 3, none, .mv (.c (.int .i64 12)), []⟩])
 .ret)
 .skip))
 (.seq
 (.ops 4 [⟨some 6, none, .mv (.c (.int .i64 0)), []⟩])
 (.seq
 (.seq
 (.ops 5 [⟨some 15, none, .mv (.t 4), []⟩,
 ⟨some 16, none, .len .slice (.t 15), []⟩,
 ⟨some 17, none, .mv (.c (.int .i64 0)), []⟩])
 (.block 0
 (.loop [] B84x0)))
 (.seq
 (.ops 10 [⟨some 29, none, .mv (.t 6), []⟩,
 ⟨some 2, none, .mv (.t 29), []⟩,
 ⟨some 3, none, .mv (.c (.int .i64 0)), []⟩])
 .ret))))))⟩
theorem F84_code : cfgA.code 84 = some F84 := by kernel_rfl

/-- ticketline/fence.place -/
noncomputable def F85 : AFn := ⟨21, [.tmp 6], (.seq
 (.ops 0 [⟨some 6, none, .mv (.c (.int .i64 0)), []⟩])
 (.seq
 (.block 0
 (.seq
 (.ops 1 [⟨some 8, none, .mv (.t 2), []⟩,
 ⟨some 9, none, .mv (.t 0), []⟩,
 ⟨some 10, none, .call 88 [.t 8, .t 9], []⟩,
 ⟨some 11, none, .bin .lss (.t 10) (.c (.int .i64 0)), []⟩,
 ⟨some 7, none, .mv (.t 11), []⟩])
 (.cond (.t 7)
 (.seq
 (.ops 2 [⟨some 6, none, .mv (.c (.int .i64 (-1))), []⟩])
 .ret)
 (.seq
 (.ops 3 [⟨some 13, none, .mv (.t 1), []⟩,
 ⟨some 14, none, .bin .neq (.t 13) (.c (.str [])), []⟩,
 ⟨some 15, none, .mv (.t 14), []⟩,
 ⟨some 16, some (15, true), .mv (.t 2), []⟩,
 ⟨some 17, some (15, true), .mv (.t 1), []⟩,
 ⟨some 18, some (15, true), .call 88 [.t 16, .t 17], []⟩,
 ⟨some 19, some (15, true), .bin .geq (.t 18) (.c (.int .i64 0)), []⟩,
 ⟨some 20, none, .pick (.t 15) (.t 19) (.c (.bool false)), []⟩,
 ⟨some 12, none, .mv (.t 20), []⟩])
 (.cond (.t 12)
 (.seq
 (.ops 4 [⟨some 6, none, .mv (.c (.int .i64 1)), []⟩])
 .ret)
 .skip)))))
 (.seq
 (.ops 5 [⟨some 6, none, .mv (.c (.int .i64 0)), []⟩])
 .ret)))⟩
theorem F85_code : cfgA.code 85 = some F85 := by kernel_rfl

/-- ticketline/search.sorted: the round 0 -/
@[reducible] noncomputable def B86x0 : AC := (.seq
 (.seq
 (.ops 5 [⟨some 15, none, .mv (.t 6), []⟩,
 ⟨some 16, none, .mv (.t 4), []⟩,
 ⟨some 17, none, .len .slice (.t 16), []⟩,
 ⟨some 18, none, .bin .lss (.t 15) (.t 17), []⟩])
 (.cond (.t 18)
 .skip
 (.exit 0)))
 (.seq
 (.block 1
 (.seq
 (.ops 7 [⟨some 21, none, .mv (.t 4), []⟩,
 ⟨some 22, none, .mv (.t 6), []⟩,
 ⟨some 23, none, .bin .sub (.t 22) (.c (.int .i64 1)), []⟩,
 ⟨some 24, none, .ixa none 2 (.t 21) (.t 23), []⟩,
 ⟨some 25, none, .fld 0 (.t 24), []⟩,
 ⟨some 26, none, .ld 1 false (.t 25), []⟩,
 ⟨some 27, none, .mv (.t 4), []⟩,
 ⟨some 28, none, .mv (.t 6), []⟩,
 ⟨some 29, none, .ixa none 2 (.t 27) (.t 28), []⟩,
 ⟨some 30, none, .fld 0 (.t 29), []⟩,
 ⟨some 31, none, .ld 1 false (.t 30), []⟩,
 ⟨some 32, none, .call 88 [.t 26, .t 31], []⟩,
 ⟨some 33, none, .bin .geq (.t 32) (.c (.int .i64 0)), []⟩])
 (.cond (.t 33)
 (.seq
 (.ops 8 [⟨some 2, none, .mv (.c (.nils)), []⟩,
 ⟨some 3, none, .mv (.c (.int .i64 13)), []⟩])
 .ret)
 .skip)))
 (.ops 6 [⟨some 19, none, .mv (.t 6), []⟩,
 ⟨some 20, none, .bin .add (.t 19) (.c (.int .i64 1)), []⟩,
 ⟨some 6, none, .mv (.t 20), []⟩])))

/-- ticketline/search.sorted -/
noncomputable def F86 : AFn := ⟨35, [.tmp 2, .tmp 3], (.seq
 (.ops 0 [⟨some 1, none, .box 128 (.t 0) false, []⟩,
 ⟨some 2, none, .mv (.c (.nils)), []⟩,
 ⟨some 3, none, .mv (.c (.int .i64 0)), []⟩])
 (.seq
 (.ops 1 [⟨some 8, none, .ld 128 true (.t 1), []⟩,
 ⟨some 9, none, .call 23 [.t 8], []⟩,
 ⟨some 7, none, .mv (.t 9), []⟩,
 ⟨some 10, none, .ext (.t 7) 0, []⟩,
 ⟨some 11, none, .ext (.t 7) 1, []⟩,
 ⟨some 4, none, .mv (.t 10), []⟩,
 ⟨some 5, none, .mv (.t 11), []⟩])
 (.seq
 (.seq
 (.ops 2 [⟨some 12, none, .mv (.t 5), []⟩,
 ⟨some 13, none, .bin .neq (.t 12) (.c (.int .i64 0)), []⟩])
 (.cond (.t 13)
 (.seq
 (.ops 3 [⟨some 14, none, .mv (.t 5), []⟩,
 ⟨some 2, none, .mv (.c (.nils)), []⟩,
 ⟨some 3, none, .mv (.t 14), []⟩])
 .ret)
 .skip))
 (.seq
 (.seq
 (.ops 4 [⟨some 6, none, .mv (.c (.int .i64 1)), []⟩])
 (.block 0
 (.loop [] B86x0)))
 (.seq
 (.ops 9 [⟨some 34, none, .mv (.t 4), []⟩,
 ⟨some 2, none, .mv (.t 34), []⟩,
 ⟨some 3, none, .mv (.c (.int .i64 0)), []⟩])
 .ret)))))⟩
theorem F86_code : cfgA.code 86 = some F86 := by kernel_rfl

/-- ticketline/slot.Cost -/
noncomputable def F87 : AFn := ⟨13, [.tmp 4], (.seq
 (.ops 0 [⟨some 4, none, .mv (.c (.int .i64 0)), []⟩])
 (.seq
 (.ops 1 [⟨some 5, none, .mv (.t 0), []⟩,
 ⟨some 6, none, .len .string (.t 5), []⟩,
 ⟨some 7, none, .call 81 [.t 6], []⟩,
 ⟨some 8, none, .bin .add (.c (.int .i64 1)) (.t 7), []⟩,
 ⟨some 9, none, .mv (.t 1), []⟩,
 ⟨some 10, none, .len .string (.t 9), []⟩,
 ⟨some 11, none, .call 81 [.t 10], []⟩,
 ⟨some 12, none, .bin .add (.t 8) (.t 11), []⟩,
 ⟨some 4, none, .mv (.t 12), []⟩])
 .ret))⟩
theorem F87_code : cfgA.code 87 = some F87 := by kernel_rfl

/-- ticketline/keys.Compare -/
noncomputable def F88 : AFn := ⟨8, [.tmp 4], (.seq
 (.ops 0 [⟨some 4, none, .mv (.c (.int .i64 0)), []⟩])
 (.seq
 (.ops 1 [⟨some 5, none, .mv (.t 0), []⟩,
 ⟨some 6, none, .mv (.t 1), []⟩,
 ⟨some 7, none, .call 89 [.t 5, .t 6], []⟩,
 ⟨some 4, none, .mv (.t 7), []⟩])
 .ret))⟩
theorem F88_code : cfgA.code 88 = some F88 := by kernel_rfl

/-- strings.Compare -/
noncomputable def F89 : AFn := ⟨8, [.tmp 4], (.seq
 (.ops 0 [⟨some 4, none, .mv (.c (.int .i64 0)), []⟩])
 (.seq
 (.ops 1 [⟨some 5, none, .mv (.t 0), []⟩,
 ⟨some 6, none, .mv (.t 1), []⟩,
 ⟨some 7, none, .call 90 [.t 5, .t 6], []⟩,
 ⟨some 4, none, .mv (.t 7), []⟩])
 .ret))⟩
theorem F89_code : cfgA.code 89 = some F89 := by kernel_rfl

end Den
