/- What stands round the loops. -/
import Derived.Test.YtajdklfckcgifaaGreatCodeT
import Derived.Test.YtajdklfckcgifaaGreatDenG6
set_option linter.unusedVariables false
namespace Den
open Go Go.Proofs
set_option maxRecDepth 1000000

/-- What stands round the loop 0 -/
noncomputable def W3x0 (cfg : Cfg) (call : CallT) (N : Nat) (l : Option (Ex × St)) : Ans := fin false ⟨240, [.tmp 4], .skip⟩ (seqC (cfg := cfg) (call := call) N (blockC 0 l) (.seq
 (.ops 29 [⟨some 201, none, .mv (.t 13), []⟩,
 ⟨some 202, none, .fld 0 (.t 2), []⟩,
 ⟨some 203, none, .ld 1 false (.t 202), []⟩,
 ⟨some 204, none, .bin .eql (.t 201) (.t 203), []⟩,
 ⟨some 205, none, .mv (.t 204), []⟩,
 ⟨some 206, some (205, true), .mv (.t 14), []⟩,
 ⟨some 207, some (205, true), .mv (.t 13), []⟩,
 ⟨some 208, some (205, true), .bin .sub (.t 207) (.c (.int .i64 1)), []⟩,
 ⟨some 209, some (205, true), .bin .eql (.t 206) (.t 208), []⟩,
 ⟨some 210, none, .pick (.t 205) (.t 209) (.c (.bool false)), []⟩,
 ⟨some 211, none, .mv (.t 210), []⟩,
 ⟨some 212, some (211, true), .mv (.t 15), []⟩,
 ⟨some 213, some (211, true), .bin .eql (.t 212) (.c (.int .i64 1)), []⟩,
 ⟨some 214, none, .pick (.t 211) (.t 213) (.c (.bool false)), []⟩,
 ⟨some 215, none, .mv (.t 214), []⟩,
 ⟨some 216, some (215, true), .mv (.t 16), []⟩,
 ⟨some 217, some (215, true), .bin .eql (.t 216) (.c (.int .i64 0)), []⟩,
 ⟨some 218, none, .pick (.t 215) (.t 217) (.c (.bool false)), []⟩,
 ⟨some 219, none, .mv (.t 218), []⟩,
 ⟨some 220, some (219, true), .mv (.t 10), []⟩,
 ⟨some 221, some (219, true), .bin .eql (.t 220) (.c (.int .i64 0)), []⟩,
 ⟨some 222, none, .pick (.t 219) (.t 221) (.c (.bool false)), []⟩,
 ⟨some 223, none, .mv (.t 222), []⟩,
 ⟨some 224, some (223, true), .mv (.t 19), []⟩,
 ⟨some 225, some (223, true), .bin .eql (.t 224) (.c (.int .i64 0)), []⟩,
 ⟨some 226, none, .pick (.t 223) (.t 225) (.c (.bool false)), []⟩,
 ⟨some 227, none, .mv (.t 226), []⟩,
 ⟨some 228, some (227, true), .ld 128 true (.t 17), []⟩,
 ⟨some 229, some (227, true), .call 22 [.t 228], []⟩,
 ⟨some 230, some (227, true), .bin .eql (.t 229) (.c (.int .i64 0)), []⟩,
 ⟨some 231, none, .pick (.t 227) (.t 230) (.c (.bool false)), []⟩,
 ⟨some 232, none, .mv (.t 231), []⟩,
 ⟨some 233, some (232, true), .ld 128 true (.t 17), []⟩,
 ⟨some 234, some (232, true), .call 23 [.t 233], []⟩,
 ⟨some 235, some (232, true), .bin .eql (.t 234) (.c (.int .i64 0)), []⟩,
 ⟨some 236, none, .pick (.t 232) (.t 235) (.c (.bool false)), []⟩,
 ⟨some 237, none, .mv (.t 236), []⟩,
 ⟨some 238, some (237, true), .call 10 [], []⟩,
 ⟨some 239, none, .pick (.t 237) (.t 238) (.c (.bool false)), []⟩,
 ⟨some 4, none, .mv (.t 239), []⟩])
 .ret))

/-- What stands round the loop 0 -/
noncomputable def W19x0 (cfg : Cfg) (call : CallT) (N : Nat) (l : Option (Ex × St)) : Ans := fin false ⟨40, [.tmp 2, .tmp 3, .tmp 4, .tmp 5], .skip⟩ (seqC (cfg := cfg) (call := call) N (blockC 0 l) (.seq
 (.ops 12 [⟨some 35, none, .mv (.t 0), []⟩,
 ⟨some 36, none, .call 65 [.t 35], []⟩,
 ⟨some 37, none, .mv (.t 3), []⟩,
 ⟨some 38, none, .mv (.t 4), []⟩,
 ⟨some 39, none, .mv (.t 5), []⟩,
 ⟨some 2, none, .mv (.t 36), []⟩,
 ⟨some 3, none, .mv (.t 37), []⟩,
 ⟨some 4, none, .mv (.t 38), []⟩,
 ⟨some 5, none, .mv (.t 39), []⟩])
 .ret))

/-- What stands round the loop 0 -/
noncomputable def W20x0 (cfg : Cfg) (call : CallT) (N : Nat) (l : Option (Ex × St)) : Ans := fin false ⟨31, [.cell 4 128 true, .tmp 5], .skip⟩ (seqC (cfg := cfg) (call := call) N (blockC 0 l) (.seq
 (.ops 10 [⟨some 30, none, .ld 128 true (.t 6), []⟩,
 ⟨none, none, .st 128 (.t 4) (.t 30), []⟩,
 ⟨some 5, none, .mv (.c (.int .i64 0)), []⟩])
 .ret))

/-- What stands round the loop 0 -/
noncomputable def W43x0 (cfg : Cfg) (call : CallT) (N : Nat) (l : Option (Ex × St)) : Ans := fin false ⟨64, [.tmp 4, .tmp 5], .skip⟩ (seqC (cfg := cfg) (call := call) N (blockC 1 l) (.seq
 (.ops 11 [⟨some 41, none, .ld 1 true (.t 6), []⟩,
 ⟨some 42, none, .mv (.t 1), []⟩,
 ⟨some 43, none, .cvi .u64 (.t 42), []⟩,
 ⟨some 44, none, .call 82 [.t 41, .c (.int .i64 0), .t 43], []⟩])
 (.seq
 (.ops 12 [⟨some 45, none, .ld 1 true (.t 6), []⟩,
 ⟨some 46, none, .call 82 [.t 45, .c (.int .i64 1), .c (.int .u64 1)], []⟩])
 (.seq
 (.ops 13 [⟨some 47, none, .ld 1 true (.t 6), []⟩,
 ⟨some 48, none, .call 82 [.t 47, .c (.int .i64 4), .c (.int .u64 1)], []⟩])
 (.seq
 (.seq
 (.ops 14 [⟨some 8, none, .mv (.c (.int .i64 1)), []⟩])
 (.block 3
 (.loop [] B43x1)))
 (.seq
 (.ops 18 [⟨some 61, none, .ld 1 true (.t 6), []⟩,
 ⟨some 62, none, .build [.nilp] [(0, 1, (.t 61))], []⟩,
 ⟨some 63, none, .box 1 (.t 62) true, []⟩,
 ⟨some 4, none, .mv (.t 63), []⟩,
 ⟨some 5, none, .mv (.c (.int .i64 0)), []⟩])
 .ret))))))

/-- What stands round the loop 1 -/
noncomputable def W43x1 (cfg : Cfg) (call : CallT) (N : Nat) (l : Option (Ex × St)) : Ans := fin false ⟨64, [.tmp 4, .tmp 5], .skip⟩ (seqC (cfg := cfg) (call := call) N (blockC 3 l) (.seq
 (.ops 18 [⟨some 61, none, .ld 1 true (.t 6), []⟩,
 ⟨some 62, none, .build [.nilp] [(0, 1, (.t 61))], []⟩,
 ⟨some 63, none, .box 1 (.t 62) true, []⟩,
 ⟨some 4, none, .mv (.t 63), []⟩,
 ⟨some 5, none, .mv (.c (.int .i64 0)), []⟩])
 .ret))

/-- What stands round the loop 0 -/
noncomputable def W50x0 (cfg : Cfg) (call : CallT) (N : Nat) (l : Option (Ex × St)) : Ans := fin false ⟨59, [.tmp 6, .tmp 7], .skip⟩ (seqC (cfg := cfg) (call := call) N (blockC 0 l) (.seq
 (.ops 12 [⟨some 56, none, .mv (.t 0), []⟩,
 ⟨some 57, none, .invk (.t 56) "Done" [], []⟩,
 ⟨some 58, none, .mv (.t 7), []⟩,
 ⟨some 6, none, .mv (.t 57), []⟩,
 ⟨some 7, none, .mv (.t 58), []⟩])
 .ret))

/-- What stands round the loop 0 -/
noncomputable def W62x0 (cfg : Cfg) (call : CallT) (N : Nat) (l : Option (Ex × St)) : Ans := fin false ⟨114, [.tmp 2], .skip⟩ (seqC (cfg := cfg) (call := call) N (blockC 0 l) (.seq
 (.ops 15 [⟨some 95, none, .mv (.t 0), []⟩,
 ⟨some 96, none, .nilc (.t 95) (mok Tryz.prog), []⟩,
 ⟨some 97, none, .fld 0 (.t 96), []⟩,
 ⟨some 98, none, .ld 1 true (.t 97), []⟩,
 ⟨some 99, none, .call 64 [.t 98, .c (.int .i64 3)], []⟩,
 ⟨some 15, none, .mv (.t 99), []⟩])
 (.seq
 (.ops 16 [⟨some 100, none, .mv (.t 15), []⟩,
 ⟨some 101, none, .bin .eql (.t 100) (.c (.int .u64 0)), []⟩,
 ⟨some 102, none, .mv (.t 101), []⟩,
 ⟨some 103, some (102, false), .mv (.t 15), []⟩,
 ⟨some 104, some (102, false), .mv (.t 7), []⟩,
 ⟨some 105, some (102, false), .cvi .u64 (.t 104), []⟩,
 ⟨some 106, some (102, false), .bin .leq (.t 103) (.t 105), []⟩,
 ⟨some 107, some (102, false), .mv (.t 106), []⟩,
 ⟨some 108, some (107, true), .mv (.t 0), []⟩,
 ⟨some 109, some (107, true), .mv (.t 15), []⟩,
 ⟨some 110, some (107, true), .cvi .i64 (.t 109), []⟩,
 ⟨some 111, some (107, true), .call 67 [.t 108, .t 110], []⟩,
 ⟨some 112, some (102, false), .pick (.t 107) (.t 111) (.c (.bool false)), []⟩,
 ⟨some 113, none, .pick (.t 102) (.c (.bool true)) (.t 112), []⟩,
 ⟨some 2, none, .mv (.t 113), []⟩])
 .ret)))

/-- What stands round the loop 0, in the round of the loop 1 -/
noncomputable def W71x0 (cfg : Cfg) (call : CallT) (N : Nat) (l : Option (Ex × St)) : Option (Ex × St) := (seqC (cfg := cfg) (call := call) N (blockC 1 (seqC (cfg := cfg) (call := call) N (blockC 2 l) (.ops 20 [⟨some 79, none, .mv (.t 4), []⟩,
 ⟨some 80, none, .ld 2 true (.t 8), []⟩,
 ⟨some 81, none, .bslice [.str [], .str []] 2 1 [(0, (.t 80))] false false, []⟩,
 ⟨some 82, none, .app 2 32 (.t 79) (.t 81) false, []⟩,
 ⟨some 4, none, .mv (.t 82), []⟩]))) (.ops 21 [⟨some 83, none, .bin .add (.t 19) (.c (.int .i64 1)), []⟩,
 ⟨some 19, none, .mv (.t 83), []⟩]))

/-- What stands round the loop 1 -/
noncomputable def W71x1 (cfg : Cfg) (call : CallT) (N : Nat) (l : Option (Ex × St)) : Ans := fin false ⟨85, [.tmp 2, .tmp 3], .skip⟩ (seqC (cfg := cfg) (call := call) N (blockC 0 l) (.seq
 (.ops 22 [⟨some 84, none, .mv (.t 4), []⟩,
 ⟨some 2, none, .mv (.t 84), []⟩,
 ⟨some 3, none, .mv (.c (.bool true)), []⟩])
 .ret))

/-- What stands round the loop 0 -/
noncomputable def W83x0 (cfg : Cfg) (call : CallT) (N : Nat) (l : Option (Ex × St)) : Ans := fin false ⟨22, [], .skip⟩ (blockC 0 l)

/-- What stands round the loop 0 -/
noncomputable def W90x0 (cfg : Cfg) (call : CallT) (N : Nat) (l : Option (Ex × St)) : Ans := fin false ⟨52, [.tmp 6, .tmp 7], .skip⟩ (seqC (cfg := cfg) (call := call) N (blockC 0 l) (.seq
 (.ops 8 [⟨some 51, none, .mv (.t 8), []⟩,
 ⟨some 6, none, .mv (.t 51), []⟩,
 ⟨some 7, none, .mv (.c (.bool true)), []⟩])
 .ret))

/-- What stands round the loop 0, in the round of the loop 1 -/
noncomputable def W112x0 (cfg : Cfg) (call : CallT) (N : Nat) (l : Option (Ex × St)) : Option (Ex × St) := (seqC (cfg := cfg) (call := call) N (blockC 1 (seqC (cfg := cfg) (call := call) N (blockC 2 l) (.ops 16 [⟨some 38, none, .mv (.t 4), []⟩,
 ⟨some 39, none, .mv (.t 6), []⟩,
 ⟨some 40, none, .bslice [.int .u64 0] 1 1 [(0, (.t 39))] false false, []⟩,
 ⟨some 41, none, .app 1 8 (.t 38) (.t 40) false, []⟩,
 ⟨some 4, none, .mv (.t 41), []⟩]))) (.ops 17 [⟨some 42, none, .bin .add (.t 15) (.c (.int .i64 1)), []⟩,
 ⟨some 15, none, .mv (.t 42), []⟩]))

/-- What stands round the loop 1 -/
noncomputable def W112x1 (cfg : Cfg) (call : CallT) (N : Nat) (l : Option (Ex × St)) : Ans := fin false ⟨44, [.tmp 2, .tmp 3], .skip⟩ (seqC (cfg := cfg) (call := call) N (blockC 0 l) (.seq
 (.ops 18 [⟨some 43, none, .mv (.t 4), []⟩,
 ⟨some 2, none, .mv (.t 43), []⟩,
 ⟨some 3, none, .mv (.c (.int .i64 0)), []⟩])
 .ret))

/-- What stands round the loop 0 -/
noncomputable def W123x0 (cfg : Cfg) (call : CallT) (N : Nat) (l : Option (Ex × St)) : Ans := fin false ⟨51, [.tmp 4, .tmp 5], .skip⟩ (seqC (cfg := cfg) (call := call) N (blockC 0 l) (.seq
 (.ops 11 [⟨some 41, none, .mv (.t 0), []⟩,
 ⟨some 42, none, .nilc (.t 41) (mok Tryz.prog), []⟩,
 ⟨some 43, none, .mv (.t 1), []⟩,
 ⟨some 44, none, .bin .add (.t 43) (.c (.int .i64 1)), []⟩,
 ⟨some 45, none, .mv (.t 7), []⟩,
 ⟨some 46, none, .slc (some 128) 1 (.t 42) (some (.t 44)) (some (.t 45)), []⟩,
 ⟨some 47, none, .mv (.t 6), []⟩,
 ⟨some 48, none, .call 125 [.t 46, .t 47], []⟩,
 ⟨some 49, none, .ext (.t 48) 0, []⟩,
 ⟨some 50, none, .ext (.t 48) 1, []⟩,
 ⟨some 4, none, .mv (.t 49), []⟩,
 ⟨some 5, none, .mv (.t 50), []⟩])
 .ret))

/-- What stands round the loop 0, in the round of the loop 1 -/
noncomputable def W125x0 (cfg : Cfg) (call : CallT) (N : Nat) (l : Option (Ex × St)) : Option (Ex × St) := (seqC (cfg := cfg) (call := call) N (blockC 2 (blockC 3 l)) (.ops 15 [⟨some 42, none, .bin .add (.t 26) (.c (.int .i64 1)), []⟩,
 ⟨some 26, none, .mv (.t 42), []⟩]))

/-- What stands round the loop 1 -/
noncomputable def W125x1 (cfg : Cfg) (call : CallT) (N : Nat) (l : Option (Ex × St)) : Ans := fin false ⟨58, [.tmp 4, .tmp 5], .skip⟩ (seqC (cfg := cfg) (call := call) N (blockC 1 l) (.seq
 (.seq
 (.ops 16 [⟨some 43, none, .mv (.t 6), []⟩,
 ⟨some 44, none, .mv (.t 1), []⟩,
 ⟨some 45, none, .slc none 1 (.t 43) (some (.t 44)) none, []⟩,
 ⟨some 46, none, .len .slice (.t 45), []⟩,
 ⟨some 47, none, .mv (.c (.int .i64 0)), []⟩])
 (.block 5
 (.loop [] B125x2)))
 (.seq
 (.ops 22 [⟨some 54, none, .mv (.t 6), []⟩,
 ⟨some 55, none, .mv (.t 1), []⟩,
 ⟨some 56, none, .slc none 1 (.t 54) none (some (.t 55)), []⟩,
 ⟨some 57, none, .cvs (.t 56), []⟩,
 ⟨some 4, none, .mv (.t 57), []⟩,
 ⟨some 5, none, .mv (.c (.int .i64 0)), []⟩])
 .ret)))

/-- What stands round the loop 2 -/
noncomputable def W125x2 (cfg : Cfg) (call : CallT) (N : Nat) (l : Option (Ex × St)) : Ans := fin false ⟨58, [.tmp 4, .tmp 5], .skip⟩ (seqC (cfg := cfg) (call := call) N (blockC 5 l) (.seq
 (.ops 22 [⟨some 54, none, .mv (.t 6), []⟩,
 ⟨some 55, none, .mv (.t 1), []⟩,
 ⟨some 56, none, .slc none 1 (.t 54) none (some (.t 55)), []⟩,
 ⟨some 57, none, .cvs (.t 56), []⟩,
 ⟨some 4, none, .mv (.t 57), []⟩,
 ⟨some 5, none, .mv (.c (.int .i64 0)), []⟩])
 .ret))

/-- What stands round the loop 0 -/
noncomputable def W184x0 (cfg : Cfg) (call : CallT) (N : Nat) (l : Option (Ex × St)) : Ans := fin false ⟨172, [], .skip⟩ (seqC (cfg := cfg) (call := call) N (blockC 0 l) (.seq
 (.ops 13 [⟨some 108, none, .ld 128 true (.t 5), []⟩,
 ⟨some 109, none, .call 168 [.t 108], []⟩,
 ⟨some 15, none, .mv (.t 109), []⟩])
 (.seq
 (.seq
 (.ops 14 [⟨some 110, none, .mv (.t 0), []⟩,
 ⟨some 111, none, .nilc (.t 110) (mok Tryz.prog), []⟩,
 ⟨some 112, none, .fld 13 (.t 111), []⟩,
 ⟨some 113, none, .ld 1 false (.t 112), []⟩,
 ⟨some 114, none, .len .slice (.t 113), []⟩,
 ⟨some 115, none, .mv (.t 0), []⟩,
 ⟨some 116, none, .nilc (.t 115) (mok Tryz.prog), []⟩,
 ⟨some 117, none, .fld 4 (.t 116), []⟩,
 ⟨some 118, none, .ld 1 false (.t 117), []⟩,
 ⟨some 119, none, .bin .eql (.t 114) (.t 118), []⟩,
 ⟨some 120, none, .mv (.t 119), []⟩,
 ⟨some 121, some (120, false), .mv (.t 15), []⟩,
 ⟨some 122, some (120, false), .bin .eql (.t 121) (.c (.int .i64 0)), []⟩,
 ⟨some 123, none, .pick (.t 120) (.c (.bool true)) (.t 122), []⟩,
 ⟨some 124, none, .mv (.t 123), []⟩,
 ⟨some 125, some (124, false), .mv (.t 11), []⟩,
 ⟨some 126, some (124, false), .bin .eql (.t 125) (.c (.str [])), []⟩,
 ⟨some 127, none, .pick (.t 124) (.c (.bool true)) (.t 126), []⟩,
 ⟨some 128, none, .mv (.t 127), []⟩,
 ⟨some 129, some (128, false), .mv (.t 0), []⟩,
 ⟨some 130, some (128, false), .nilc (.t 129) (mok Tryz.prog), []⟩,
 ⟨some 131, some (128, false), .fld 3 (.t 130), []⟩,
 ⟨some 132, some (128, false), .ld 1 false (.t 131), []⟩,
 ⟨some 133, some (128, false), .bin .neq (.t 132) (.c (.str [])), []⟩,
 ⟨some 134, some (128, false), .mv (.t 133), []⟩,
 ⟨some 135, some (134, true), .mv (.t 11), []⟩,
 ⟨some 136, some (134, true), .mv (.t 0), []⟩,
 ⟨some 137, some (134, true), .nilc (.t 136) (mok Tryz.prog), []⟩,
 ⟨some 138, some (134, true), .fld 3 (.t 137), []⟩,
 ⟨some 139, some (134, true), .ld 1 false (.t 138), []⟩,
 ⟨some 140, some (134, true), .bin .geq (.t 135) (.t 139), []⟩,
 ⟨some 141, some (128, false), .pick (.t 134) (.t 140) (.c (.bool false)), []⟩,
 ⟨some 142, none, .pick (.t 128) (.c (.bool true)) (.t 141), []⟩])
 (.cond (.t 142)
 (.seq
 (.ops 15 [⟨some 143, none, .mv (.t 0), []⟩,
 ⟨some 144, none, .call 187 [.t 143], []⟩])
 .ret)
 .skip))
 (.seq
 (.ops 16 [⟨some 145, none, .mv (.t 0), []⟩,
 ⟨some 146, none, .mv (.t 0), []⟩,
 ⟨some 147, none, .mv (.t 0), []⟩,
 ⟨some 148, none, .mv (.t 0), []⟩,
 ⟨some 149, none, .mv (.t 11), []⟩,
 ⟨some 150, none, .mv (.t 15), []⟩,
 ⟨some 151, none, .mv (.t 0), []⟩,
 ⟨some 152, none, .nilc (.t 151) (mok Tryz.prog), []⟩,
 ⟨some 153, none, .fld 0 (.t 152), []⟩,
 ⟨some 154, none, .ld 2 true (.t 153), []⟩,
 ⟨some 155, none, .mv (.t 15), []⟩,
 ⟨some 156, none, .call 172 [.t 154, .t 155], []⟩,
 ⟨some 157, none, .nilc (.t 145) (mok Tryz.prog), []⟩,
 ⟨some 158, none, .fld 10 (.t 157), []⟩,
 ⟨none, none, .st 1 (.t 158) (.t 149), []⟩,
 ⟨some 159, none, .nilc (.t 146) (mok Tryz.prog), []⟩,
 ⟨some 160, none, .fld 9 (.t 159), []⟩,
 ⟨none, none, .st 1 (.t 160) (.t 150), []⟩,
 ⟨some 161, none, .nilc (.t 147) (mok Tryz.prog), []⟩,
 ⟨some 162, none, .fld 8 (.t 161), []⟩,
 ⟨none, none, .st 1 (.t 162) (.t 156), []⟩,
 ⟨some 163, none, .nilc (.t 148) (mok Tryz.prog), []⟩,
 ⟨some 164, none, .fld 14 (.t 163), []⟩,
 ⟨none, none, .st 1 (.t 164) (.c (.int .i64 2)), []⟩])
 (.seq
 (.ops 17 [⟨some 165, none, .mv (.t 0), []⟩,
 ⟨some 166, none, .nilc (.t 165) (mok Tryz.prog), []⟩,
 ⟨some 167, none, .fld 8 (.t 166), []⟩,
 ⟨some 168, none, .ld 1 false (.t 167), []⟩,
 ⟨some 169, none, .eqn .ptr false (.t 168), []⟩])
 (.cond (.t 169)
 (.ops 18 [⟨some 170, none, .mv (.t 0), []⟩,
 ⟨some 171, none, .call 183 [.t 170], []⟩])
 .skip))))))

end Den
