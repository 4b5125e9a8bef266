/- What stands round the loops. -/
import Derived.Test.YtajcniofkpifaaaCodeT
import Derived.Test.YtajcniofkpifaaaDenGA
set_option linter.unusedVariables false
namespace Den
open Go Go.Proofs
set_option maxRecDepth 1000000

/-- What stands round the loop 0 -/
noncomputable def W8x0 (cfg : Cfg) (call : CallT) (N : Nat) (l : Option (Ex × St)) : Ans := fin false ⟨61, [.tmp 2, .tmp 3], .skip⟩ (seqC (cfg := cfg) (call := call) N (blockC 0 l) (.seq
 (.seq
 (.ops 11 [⟨some 40, none, .mv (.t 0), []⟩,
 ⟨some 41, none, .call 22 [.t 40], []⟩,
 ⟨some 42, none, .len .slice (.t 41), []⟩,
 ⟨some 43, none, .mv (.c (.int .i64 0)), []⟩])
 (.block 2
 (.loop [] B8x1)))
 (.seq
 (.ops 17 [⟨some 60, none, .mv (.t 6), []⟩,
 ⟨some 2, none, .mv (.t 60), []⟩,
 ⟨some 3, none, .mv (.c (.int .i64 0)), []⟩])
 .ret)))

/-- What stands round the loop 1 -/
noncomputable def W8x1 (cfg : Cfg) (call : CallT) (N : Nat) (l : Option (Ex × St)) : Ans := fin false ⟨61, [.tmp 2, .tmp 3], .skip⟩ (seqC (cfg := cfg) (call := call) N (blockC 2 l) (.seq
 (.ops 17 [⟨some 60, none, .mv (.t 6), []⟩,
 ⟨some 2, none, .mv (.t 60), []⟩,
 ⟨some 3, none, .mv (.c (.int .i64 0)), []⟩])
 .ret))

/-- What stands round the loop 0 -/
noncomputable def W10x0 (cfg : Cfg) (call : CallT) (N : Nat) (l : Option (Ex × St)) : Ans := fin false ⟨48, [.tmp 2, .tmp 3], .skip⟩ (seqC (cfg := cfg) (call := call) N (blockC 0 l) (.seq
 (.ops 16 [⟨some 47, none, .mv (.t 6), []⟩,
 ⟨some 2, none, .mv (.t 47), []⟩,
 ⟨some 3, none, .mv (.c (.int .i64 0)), []⟩])
 .ret))

/-- What stands round the loop 0 -/
noncomputable def W12x0 (cfg : Cfg) (call : CallT) (N : Nat) (l : Option (Ex × St)) : Ans := fin false ⟨85, [.cell 10 128 true, .tmp 11], .skip⟩ (seqC (cfg := cfg) (call := call) N (blockC 0 l) (.seq
 (.seq
 (.ops 12 [⟨some 61, none, .mv (.t 4), []⟩,
 ⟨some 62, none, .call 26 [.t 61], []⟩,
 ⟨some 63, none, .bin .gtr (.t 62) (.c (.int .i64 108)), []⟩])
 (.cond (.t 63)
 (.seq
 (.ops 13 [⟨some 64, none, .build (List.replicate 128 (.int .u64 0)) [], []⟩,
 ⟨none, none, .st 128 (.t 10) (.t 64), []⟩,
 ⟨some 11, none, .mv (.c (.int .i64 7)), []⟩])
 .ret)
 .skip))
 (.seq
 (.ops 14 [⟨some 65, none, .mv (.t 0), []⟩,
 ⟨some 66, none, .mv (.t 1), []⟩,
 ⟨some 67, none, .mv (.t 2), []⟩,
 ⟨some 68, none, .call 27 [.t 65, .t 66, .t 67], []⟩,
 ⟨some 15, none, .alloc (List.replicate 128 (.int .u64 0)) false, []⟩,
 ⟨none, none, .st 128 (.t 15) (.t 68), []⟩])
 (.seq
 (.ops 15 [⟨some 69, none, .mv (.t 3), []⟩,
 ⟨some 70, none, .cvi .u64 (.t 69), []⟩,
 ⟨some 71, none, .ixa (some 128) 1 (.t 15) (.c (.int .i64 10)), []⟩,
 ⟨none, none, .st 1 (.t 71) (.t 70), []⟩])
 (.seq
 (.seq
 (.ops 16 [⟨some 16, none, .mv (.c (.int .i64 0)), []⟩])
 (.block 2
 (.loop [] B12x1)))
 (.seq
 (.ops 20 [⟨some 84, none, .ld 128 true (.t 15), []⟩,
 ⟨none, none, .st 128 (.t 10) (.t 84), []⟩,
 ⟨some 11, none, .mv (.c (.int .i64 0)), []⟩])
 .ret))))))

/-- What stands round the loop 1 -/
noncomputable def W12x1 (cfg : Cfg) (call : CallT) (N : Nat) (l : Option (Ex × St)) : Ans := fin false ⟨85, [.cell 10 128 true, .tmp 11], .skip⟩ (seqC (cfg := cfg) (call := call) N (blockC 2 l) (.seq
 (.ops 20 [⟨some 84, none, .ld 128 true (.t 15), []⟩,
 ⟨none, none, .st 128 (.t 10) (.t 84), []⟩,
 ⟨some 11, none, .mv (.c (.int .i64 0)), []⟩])
 .ret))

/-- What stands round the loop 0, in the round of the loop 1 -/
noncomputable def W14x0 (cfg : Cfg) (call : CallT) (N : Nat) (l : Option (Ex × St)) : Option (Ex × St) := (seqC (cfg := cfg) (call := call) N (blockC 1 (seqC (cfg := cfg) (call := call) N (blockC 2 l) (.ops 10 [⟨some 28, none, .mv (.t 5), []⟩,
 ⟨some 29, none, .mv (.t 7), []⟩,
 ⟨some 30, none, .cvs (.t 29), []⟩,
 ⟨some 31, none, .mv (.t 8), []⟩,
 ⟨some 32, none, .cvs (.t 31), []⟩,
 ⟨some 33, none, .build [.str [], .str []] [(0, 1, (.t 30)), (1, 1, (.t 32))], []⟩,
 ⟨some 34, none, .bslice [.str [], .str []] 2 1 [(0, (.t 33))] false false, []⟩,
 ⟨some 35, none, .app 2 32 (.t 28) (.t 34) false, []⟩,
 ⟨some 5, none, .mv (.t 35), []⟩]))) (.ops 4 [⟨some 13, none, .mv (.t 6), []⟩,
 ⟨some 14, none, .bin .add (.t 13) (.c (.int .i64 1)), []⟩,
 ⟨some 6, none, .mv (.t 14), []⟩]))

/-- What stands round the loop 1 -/
noncomputable def W14x1 (cfg : Cfg) (call : CallT) (N : Nat) (l : Option (Ex × St)) : Ans := fin false ⟨37, [.tmp 4], .skip⟩ (seqC (cfg := cfg) (call := call) N (blockC 0 l) (.seq
 (.ops 11 [⟨some 36, none, .mv (.t 5), []⟩,
 ⟨some 4, none, .mv (.t 36), []⟩])
 .ret))

/-- What stands round the loop 0 -/
noncomputable def W15x0 (cfg : Cfg) (call : CallT) (N : Nat) (l : Option (Ex × St)) : Ans := fin false ⟨62, [.tmp 6], .skip⟩ (seqC (cfg := cfg) (call := call) N (blockC 0 l) (.seq
 (.seq
 (.ops 13 [⟨some 57, none, .mv (.t 9), []⟩,
 ⟨some 58, none, .mv (.t 1), []⟩,
 ⟨some 59, none, .call 19 [.t 57, .t 58], []⟩,
 ⟨some 60, none, .bin .neq (.t 59) (.c (.int .i64 0)), []⟩])
 (.cond (.t 60)
 (.seq
 (.ops 14 [⟨some 6, none, .mv (.c (.nilp)), []⟩])
 .ret)
 .skip))
 (.seq
 (.ops 15 [⟨some 61, none, .mv (.t 9), []⟩,
 ⟨some 6, none, .mv (.t 61), []⟩])
 .ret)))

/-- What stands round the loop 0 -/
noncomputable def W21x0 (cfg : Cfg) (call : CallT) (N : Nat) (l : Option (Ex × St)) : Ans := fin false ⟨121, [.tmp 2, .tmp 3], .skip⟩ (seqC (cfg := cfg) (call := call) N (blockC 0 l) (.seq
 (.ops 10 [⟨some 11, none, .mv (.c (.int .i64 0)), []⟩])
 (.seq
 (.seq
 (.ops 11 [⟨some 44, none, .mv (.t 0), []⟩,
 ⟨some 45, none, .mv (.t 0), []⟩,
 ⟨some 46, none, .call 40 [.t 45], []⟩,
 ⟨some 47, none, .call 39 [.t 44, .t 46], []⟩,
 ⟨some 43, none, .mv (.t 47), []⟩,
 ⟨some 48, none, .ext (.t 43) 0, []⟩,
 ⟨some 49, none, .ext (.t 43) 1, []⟩,
 ⟨some 12, none, .alloc (List.replicate 128 (.int .u64 0)) false, []⟩,
 ⟨none, none, .st 128 (.t 12) (.t 48), []⟩,
 ⟨some 13, none, .mv (.t 49), []⟩])
 (.seq
 (.ops 12 [⟨some 50, none, .mv (.t 13), []⟩,
 ⟨some 51, none, .bin .eql (.t 50) (.c (.int .i64 0)), []⟩])
 (.cond (.t 51)
 (.ops 13 [⟨some 52, none, .ixa (some 128) 1 (.t 12) (.c (.int .i64 8)), []⟩,
 ⟨some 53, none, .ld 1 false (.t 52), []⟩,
 ⟨some 54, none, .cvi .i64 (.t 53), []⟩,
 ⟨some 55, none, .bin .sub (.t 54) (.c (.int .i64 1)), []⟩,
 ⟨some 11, none, .mv (.t 55), []⟩])
 .skip)))
 (.seq
 (.ops 14 [⟨some 56, none, .mv (.t 8), []⟩,
 ⟨some 57, none, .mv (.t 0), []⟩,
 ⟨some 58, none, .call 40 [.t 57], []⟩,
 ⟨some 59, none, .mv (.t 11), []⟩,
 ⟨some 60, none, .call 41 [.t 56, .t 58, .t 59, .c (.str []), .c (.str []), .c (.bool true)], []⟩])
 (.seq
 (.ops 15 [⟨some 14, none, .alloc [.int .i64 0, .int .i64 0, .int .i64 0, .int .i64 0, .int .i64 0, .int .i64 0] false, []⟩])
 (.seq
 (.seq
 (.ops 16 [⟨some 61, none, .mv (.t 8), []⟩,
 ⟨some 62, none, .nilc (.t 61) (mok Try.prog), []⟩,
 ⟨some 63, none, .fld 2 (.t 62), []⟩,
 ⟨some 64, none, .ld 1 false (.t 63), []⟩,
 ⟨some 65, none, .len .slice (.t 64), []⟩,
 ⟨some 66, none, .bin .sub (.t 65) (.c (.int .i64 1)), []⟩,
 ⟨some 15, none, .mv (.t 66), []⟩])
 (.block 2
 (.loop [] B21x1)))
 (.seq
 (.ops 24 [⟨some 120, none, .mv (.t 8), []⟩,
 ⟨some 2, none, .mv (.t 120), []⟩,
 ⟨some 3, none, .mv (.c (.int .i64 0)), []⟩])
 .ret)))))))

/-- What stands round the loop 1 -/
noncomputable def W21x1 (cfg : Cfg) (call : CallT) (N : Nat) (l : Option (Ex × St)) : Ans := fin false ⟨121, [.tmp 2, .tmp 3], .skip⟩ (seqC (cfg := cfg) (call := call) N (blockC 2 l) (.seq
 (.ops 24 [⟨some 120, none, .mv (.t 8), []⟩,
 ⟨some 2, none, .mv (.t 120), []⟩,
 ⟨some 3, none, .mv (.c (.int .i64 0)), []⟩])
 .ret))

/-- What stands round the loop 0 -/
noncomputable def W22x0 (cfg : Cfg) (call : CallT) (N : Nat) (l : Option (Ex × St)) : Ans := fin false ⟨21, [.tmp 2], .skip⟩ (seqC (cfg := cfg) (call := call) N (blockC 0 l) (.seq
 (.ops 9 [⟨some 20, none, .mv (.t 3), []⟩,
 ⟨some 2, none, .mv (.t 20), []⟩])
 .ret))

/-- What stands round the loop 0 -/
noncomputable def W26x0 (cfg : Cfg) (call : CallT) (N : Nat) (l : Option (Ex × St)) : Ans := fin false ⟨19, [.tmp 2], .skip⟩ (seqC (cfg := cfg) (call := call) N (blockC 0 l) (.seq
 (.ops 6 [⟨some 18, none, .mv (.t 3), []⟩,
 ⟨some 2, none, .mv (.t 18), []⟩])
 .ret))

/-- What stands round the loop 0 -/
noncomputable def W30x0 (cfg : Cfg) (call : CallT) (N : Nat) (l : Option (Ex × St)) : Ans := fin false ⟨64, [.tmp 4, .tmp 5], .skip⟩ (seqC (cfg := cfg) (call := call) N (blockC 1 l) (.seq
 (.ops 11 [⟨some 41, none, .ld 1 true (.t 6), []⟩,
 ⟨some 42, none, .mv (.t 1), []⟩,
 ⟨some 43, none, .cvi .u64 (.t 42), []⟩,
 ⟨some 44, none, .call 37 [.t 41, .c (.int .i64 0), .t 43], []⟩])
 (.seq
 (.ops 12 [⟨some 45, none, .ld 1 true (.t 6), []⟩,
 ⟨some 46, none, .call 37 [.t 45, .c (.int .i64 1), .c (.int .u64 1)], []⟩])
 (.seq
 (.ops 13 [⟨some 47, none, .ld 1 true (.t 6), []⟩,
 ⟨some 48, none, .call 37 [.t 47, .c (.int .i64 4), .c (.int .u64 1)], []⟩])
 (.seq
 (.seq
 (.ops 14 [⟨some 8, none, .mv (.c (.int .i64 1)), []⟩])
 (.block 3
 (.loop [] B30x1)))
 (.seq
 (.ops 18 [⟨some 61, none, .ld 1 true (.t 6), []⟩,
 ⟨some 62, none, .build [.nilp] [(0, 1, (.t 61))], []⟩,
 ⟨some 63, none, .box 1 (.t 62) true, []⟩,
 ⟨some 4, none, .mv (.t 63), []⟩,
 ⟨some 5, none, .mv (.c (.int .i64 0)), []⟩])
 .ret))))))

/-- What stands round the loop 1 -/
noncomputable def W30x1 (cfg : Cfg) (call : CallT) (N : Nat) (l : Option (Ex × St)) : Ans := fin false ⟨64, [.tmp 4, .tmp 5], .skip⟩ (seqC (cfg := cfg) (call := call) N (blockC 3 l) (.seq
 (.ops 18 [⟨some 61, none, .ld 1 true (.t 6), []⟩,
 ⟨some 62, none, .build [.nilp] [(0, 1, (.t 61))], []⟩,
 ⟨some 63, none, .box 1 (.t 62) true, []⟩,
 ⟨some 4, none, .mv (.t 63), []⟩,
 ⟨some 5, none, .mv (.c (.int .i64 0)), []⟩])
 .ret))

/-- What stands round the loop 0 -/
noncomputable def W32x0 (cfg : Cfg) (call : CallT) (N : Nat) (l : Option (Ex × St)) : Ans := fin false ⟨26, [.tmp 4], .skip⟩ (seqC (cfg := cfg) (call := call) N (blockC 0 l) (.seq
 (.ops 8 [⟨some 4, none, .mv (.c (.bool true)), []⟩])
 .ret))

/-- What stands round the loop 0 -/
noncomputable def W38x0 (cfg : Cfg) (call : CallT) (N : Nat) (l : Option (Ex × St)) : Ans := fin false ⟨40, [.tmp 2, .tmp 3, .tmp 4, .tmp 5], .skip⟩ (seqC (cfg := cfg) (call := call) N (blockC 0 l) (.seq
 (.ops 12 [⟨some 35, none, .mv (.t 0), []⟩,
 ⟨some 36, none, .call 44 [.t 35], []⟩,
 ⟨some 37, none, .mv (.t 3), []⟩,
 ⟨some 38, none, .mv (.t 4), []⟩,
 ⟨some 39, none, .mv (.t 5), []⟩,
 ⟨some 2, none, .mv (.t 36), []⟩,
 ⟨some 3, none, .mv (.t 37), []⟩,
 ⟨some 4, none, .mv (.t 38), []⟩,
 ⟨some 5, none, .mv (.t 39), []⟩])
 .ret))

/-- What stands round the loop 0 -/
noncomputable def W39x0 (cfg : Cfg) (call : CallT) (N : Nat) (l : Option (Ex × St)) : Ans := fin false ⟨31, [.cell 4 128 true, .tmp 5], .skip⟩ (seqC (cfg := cfg) (call := call) N (blockC 0 l) (.seq
 (.ops 10 [⟨some 30, none, .ld 128 true (.t 6), []⟩,
 ⟨none, none, .st 128 (.t 4) (.t 30), []⟩,
 ⟨some 5, none, .mv (.c (.int .i64 0)), []⟩])
 .ret))

/-- What stands round the loop 0 -/
noncomputable def W41x0 (cfg : Cfg) (call : CallT) (N : Nat) (l : Option (Ex × St)) : Ans := fin false ⟨90, [], .skip⟩ (blockC 0 l)

/-- What stands round the loop 0, in the round of the loop 1 -/
noncomputable def W46x0 (cfg : Cfg) (call : CallT) (N : Nat) (l : Option (Ex × St)) : Option (Ex × St) := (seqC (cfg := cfg) (call := call) N (blockC 1 (seqC (cfg := cfg) (call := call) N (blockC 2 l) (.ops 20 [⟨some 79, none, .mv (.t 4), []⟩,
 ⟨some 80, none, .ld 2 true (.t 8), []⟩,
 ⟨some 81, none, .bslice [.str [], .str []] 2 1 [(0, (.t 80))] false false, []⟩,
 ⟨some 82, none, .app 2 32 (.t 79) (.t 81) false, []⟩,
 ⟨some 4, none, .mv (.t 82), []⟩]))) (.ops 21 [⟨some 83, none, .bin .add (.t 19) (.c (.int .i64 1)), []⟩,
 ⟨some 19, none, .mv (.t 83), []⟩]))

/-- What stands round the loop 1 -/
noncomputable def W46x1 (cfg : Cfg) (call : CallT) (N : Nat) (l : Option (Ex × St)) : Ans := fin false ⟨85, [.tmp 2, .tmp 3], .skip⟩ (seqC (cfg := cfg) (call := call) N (blockC 0 l) (.seq
 (.ops 22 [⟨some 84, none, .mv (.t 4), []⟩,
 ⟨some 2, none, .mv (.t 84), []⟩,
 ⟨some 3, none, .mv (.c (.bool true)), []⟩])
 .ret))

/-- What stands round the loop 0 -/
noncomputable def W48x0 (cfg : Cfg) (call : CallT) (N : Nat) (l : Option (Ex × St)) : Ans := fin false ⟨23, [], .skip⟩ (blockC 0 l)

/-- What stands round the loop 0 -/
noncomputable def W49x0 (cfg : Cfg) (call : CallT) (N : Nat) (l : Option (Ex × St)) : Ans := fin false ⟨38, [.tmp 2], .skip⟩ (seqC (cfg := cfg) (call := call) N (blockC 0 l) (.seq
 (.ops 9 [⟨some 37, none, .mv (.t 3), []⟩,
 ⟨some 2, none, .mv (.t 37), []⟩])
 .ret))

/-- What stands round the loop 0 -/
noncomputable def W55x0 (cfg : Cfg) (call : CallT) (N : Nat) (l : Option (Ex × St)) : Ans := fin false ⟨22, [], .skip⟩ (blockC 0 l)

/-- What stands round the loop 0 -/
noncomputable def W76x0 (cfg : Cfg) (call : CallT) (N : Nat) (l : Option (Ex × St)) : Ans := fin false ⟨40, [.tmp 2, .tmp 3], .skip⟩ (seqC (cfg := cfg) (call := call) N (blockC 0 l) (.seq
 (.ops 11 [⟨some 37, none, .mv (.t 6), []⟩,
 ⟨some 38, none, .bin .eql (.t 37) (.c (.int .i64 0)), []⟩,
 ⟨some 39, none, .mv (.t 6), []⟩,
 ⟨some 2, none, .mv (.t 38), []⟩,
 ⟨some 3, none, .mv (.t 39), []⟩])
 .ret))

/-- What stands round the loop 0 -/
noncomputable def W80x0 (cfg : Cfg) (call : CallT) (N : Nat) (l : Option (Ex × St)) : Ans := fin false ⟨51, [.tmp 4, .tmp 5], .skip⟩ (seqC (cfg := cfg) (call := call) N (blockC 0 l) (.seq
 (.ops 11 [⟨some 41, none, .mv (.t 0), []⟩,
 ⟨some 42, none, .nilc (.t 41) (mok Try.prog), []⟩,
 ⟨some 43, none, .mv (.t 1), []⟩,
 ⟨some 44, none, .bin .add (.t 43) (.c (.int .i64 1)), []⟩,
 ⟨some 45, none, .mv (.t 7), []⟩,
 ⟨some 46, none, .slc (some 128) 1 (.t 42) (some (.t 44)) (some (.t 45)), []⟩,
 ⟨some 47, none, .mv (.t 6), []⟩,
 ⟨some 48, none, .call 82 [.t 46, .t 47], []⟩,
 ⟨some 49, none, .ext (.t 48) 0, []⟩,
 ⟨some 50, none, .ext (.t 48) 1, []⟩,
 ⟨some 4, none, .mv (.t 49), []⟩,
 ⟨some 5, none, .mv (.t 50), []⟩])
 .ret))

/-- What stands round the loop 0, in the round of the loop 1 -/
noncomputable def W82x0 (cfg : Cfg) (call : CallT) (N : Nat) (l : Option (Ex × St)) : Option (Ex × St) := (seqC (cfg := cfg) (call := call) N (blockC 2 (blockC 3 l)) (.ops 15 [⟨some 42, none, .bin .add (.t 26) (.c (.int .i64 1)), []⟩,
 ⟨some 26, none, .mv (.t 42), []⟩]))

/-- What stands round the loop 1 -/
noncomputable def W82x1 (cfg : Cfg) (call : CallT) (N : Nat) (l : Option (Ex × St)) : Ans := fin false ⟨58, [.tmp 4, .tmp 5], .skip⟩ (seqC (cfg := cfg) (call := call) N (blockC 1 l) (.seq
 (.seq
 (.ops 16 [⟨some 43, none, .mv (.t 6), []⟩,
 ⟨some 44, none, .mv (.t 1), []⟩,
 ⟨some 45, none, .slc none 1 (.t 43) (some (.t 44)) none, []⟩,
 ⟨some 46, none, .len .slice (.t 45), []⟩,
 ⟨some 47, none, .mv (.c (.int .i64 0)), []⟩])
 (.block 5
 (.loop [] B82x2)))
 (.seq
 (.ops 22 [⟨some 54, none, .mv (.t 6), []⟩,
 ⟨some 55, none, .mv (.t 1), []⟩,
 ⟨some 56, none, .slc none 1 (.t 54) none (some (.t 55)), []⟩,
 ⟨some 57, none, .cvs (.t 56), []⟩,
 ⟨some 4, none, .mv (.t 57), []⟩,
 ⟨some 5, none, .mv (.c (.int .i64 0)), []⟩])
 .ret)))

/-- What stands round the loop 2 -/
noncomputable def W82x2 (cfg : Cfg) (call : CallT) (N : Nat) (l : Option (Ex × St)) : Ans := fin false ⟨58, [.tmp 4, .tmp 5], .skip⟩ (seqC (cfg := cfg) (call := call) N (blockC 5 l) (.seq
 (.ops 22 [⟨some 54, none, .mv (.t 6), []⟩,
 ⟨some 55, none, .mv (.t 1), []⟩,
 ⟨some 56, none, .slc none 1 (.t 54) none (some (.t 55)), []⟩,
 ⟨some 57, none, .cvs (.t 56), []⟩,
 ⟨some 4, none, .mv (.t 57), []⟩,
 ⟨some 5, none, .mv (.c (.int .i64 0)), []⟩])
 .ret))

/-- What stands round the loop 0 -/
noncomputable def W84x0 (cfg : Cfg) (call : CallT) (N : Nat) (l : Option (Ex × St)) : Ans := fin false ⟨30, [.tmp 2, .tmp 3], .skip⟩ (seqC (cfg := cfg) (call := call) N (blockC 0 l) (.seq
 (.ops 10 [⟨some 29, none, .mv (.t 6), []⟩,
 ⟨some 2, none, .mv (.t 29), []⟩,
 ⟨some 3, none, .mv (.c (.int .i64 0)), []⟩])
 .ret))

/-- What stands round the loop 0 -/
noncomputable def W86x0 (cfg : Cfg) (call : CallT) (N : Nat) (l : Option (Ex × St)) : Ans := fin false ⟨35, [.tmp 2, .tmp 3], .skip⟩ (seqC (cfg := cfg) (call := call) N (blockC 0 l) (.seq
 (.ops 9 [⟨some 34, none, .mv (.t 4), []⟩,
 ⟨some 2, none, .mv (.t 34), []⟩,
 ⟨some 3, none, .mv (.c (.int .i64 0)), []⟩])
 .ret))

end Den
