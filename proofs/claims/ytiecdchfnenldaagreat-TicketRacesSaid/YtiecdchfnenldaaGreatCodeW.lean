/- What stands round the loops. -/
import Derived.Test.YtiecdchfnenldaaGreatCodeT
import Derived.Test.YtiecdchfnenldaaGreatDenG6
set_option linter.unusedVariables false
namespace Den
open Go Go.Proofs
set_option maxRecDepth 1000000

/-- What stands round the loop 0 -/
noncomputable def W10x0 (cfg : Cfg) (call : CallT) (N : Nat) (l : Option (Ex × St)) : Ans := fin false ⟨139, [.tmp 6], .skip⟩ (seqC (cfg := cfg) (call := call) N (blockC 0 l) (.seq
 (.ops 15 [⟨some 72, none, .mkf 53 [.t 11, .t 10, .t 7, .t 8, .t 12, .t 3, .t 4], []⟩,
 ⟨some 14, none, .mv (.t 72), []⟩])
 (.seq
 (.seq
 (.ops 16 [⟨some 15, none, .mv (.c (.int .i64 0)), []⟩])
 (.block 2
 (.loop [] B10x3)))
 (.seq
 (.ops 37 [⟨some 6, none, .mv (.c (.bool false)), []⟩])
 .ret))))

/-- What stands round the loop 1, in the round of the loop 3 -/
noncomputable def W10x1 (cfg : Cfg) (call : CallT) (N : Nat) (l : Option (Ex × St)) : Option (Ex × St) := (seqC (cfg := cfg) (call := call) N (blockC 3 (seqC (cfg := cfg) (call := call) N (blockC 4 l) (.seq
 (.ops 25 [⟨some 20, none, .mv (.c (.bool false)), []⟩,
 ⟨some 21, none, .mv (.c (.bool false)), []⟩])
 (.seq
 (.seq
 (.ops 26 [⟨some 22, none, .mv (.c (.int .i64 0)), []⟩])
 (.block 6
 (.loop [] B10x2)))
 (.seq
 (.seq
 (.ops 33 [⟨some 124, none, .mv (.t 20), []⟩,
 ⟨some 125, none, .un .not (.t 124), []⟩])
 (.cond (.t 125)
 (.seq
 (.ops 34 [⟨some 126, none, .ld 1 false (.t 12), []⟩,
 ⟨some 127, none, .len .map (.t 126), []⟩,
 ⟨some 128, none, .ld 1 false (.t 3), []⟩,
 ⟨some 129, none, .cvi .i64 (.t 128), []⟩,
 ⟨some 130, none, .ld 1 false (.t 4), []⟩,
 ⟨some 131, none, .cvi .i64 (.t 130), []⟩,
 ⟨some 132, none, .bin .mul (.t 129) (.t 131), []⟩,
 ⟨some 133, none, .bin .eql (.t 127) (.t 132), []⟩,
 ⟨some 134, none, .mv (.t 133), []⟩,
 ⟨some 135, some (134, true), .call 41 [], []⟩,
 ⟨some 136, none, .pick (.t 134) (.t 135) (.c (.bool false)), []⟩,
 ⟨some 6, none, .mv (.t 136), []⟩])
 .ret)
 .skip))
 (.seq
 (.ops 35 [⟨some 137, none, .mv (.t 21), []⟩,
 ⟨some 138, none, .un .not (.t 137), []⟩])
 (.cond (.t 138)
 (.seq
 (.ops 36 [⟨some 6, none, .mv (.c (.bool false)), []⟩])
 .ret)
 .skip))))))) (.ops 18 [⟨some 75, none, .mv (.t 15), []⟩,
 ⟨some 76, none, .bin .add (.t 75) (.c (.int .i64 1)), []⟩,
 ⟨some 15, none, .mv (.t 76), []⟩]))

/-- What stands round the loop 2, in the round of the loop 3 -/
noncomputable def W10x2 (cfg : Cfg) (call : CallT) (N : Nat) (l : Option (Ex × St)) : Option (Ex × St) := (seqC (cfg := cfg) (call := call) N (blockC 3 (seqC (cfg := cfg) (call := call) N (blockC 6 l) (.seq
 (.seq
 (.ops 33 [⟨some 124, none, .mv (.t 20), []⟩,
 ⟨some 125, none, .un .not (.t 124), []⟩])
 (.cond (.t 125)
 (.seq
 (.ops 34 [⟨some 126, none, .ld 1 false (.t 12), []⟩,
 ⟨some 127, none, .len .map (.t 126), []⟩,
 ⟨some 128, none, .ld 1 false (.t 3), []⟩,
 ⟨some 129, none, .cvi .i64 (.t 128), []⟩,
 ⟨some 130, none, .ld 1 false (.t 4), []⟩,
 ⟨some 131, none, .cvi .i64 (.t 130), []⟩,
 ⟨some 132, none, .bin .mul (.t 129) (.t 131), []⟩,
 ⟨some 133, none, .bin .eql (.t 127) (.t 132), []⟩,
 ⟨some 134, none, .mv (.t 133), []⟩,
 ⟨some 135, some (134, true), .call 41 [], []⟩,
 ⟨some 136, none, .pick (.t 134) (.t 135) (.c (.bool false)), []⟩,
 ⟨some 6, none, .mv (.t 136), []⟩])
 .ret)
 .skip))
 (.seq
 (.ops 35 [⟨some 137, none, .mv (.t 21), []⟩,
 ⟨some 138, none, .un .not (.t 137), []⟩])
 (.cond (.t 138)
 (.seq
 (.ops 36 [⟨some 6, none, .mv (.c (.bool false)), []⟩])
 .ret)
 .skip))))) (.ops 18 [⟨some 75, none, .mv (.t 15), []⟩,
 ⟨some 76, none, .bin .add (.t 75) (.c (.int .i64 1)), []⟩,
 ⟨some 15, none, .mv (.t 76), []⟩]))

/-- What stands round the loop 3 -/
noncomputable def W10x3 (cfg : Cfg) (call : CallT) (N : Nat) (l : Option (Ex × St)) : Ans := fin false ⟨139, [.tmp 6], .skip⟩ (seqC (cfg := cfg) (call := call) N (blockC 2 l) (.seq
 (.ops 37 [⟨some 6, none, .mv (.c (.bool false)), []⟩])
 .ret))

/-- What stands round the loop 0 -/
noncomputable def W11x0 (cfg : Cfg) (call : CallT) (N : Nat) (l : Option (Ex × St)) : Ans := fin false ⟨78, [.tmp 0], .skip⟩ (seqC (cfg := cfg) (call := call) N (blockC 0 l) (.seq
 (.ops 12 [⟨some 8, none, .mv (.c (.nilp)), []⟩])
 (.seq
 (.ops 13 [⟨some 53, none, .mv (.t 8), []⟩,
 ⟨some 54, none, .call 43 [.t 53], []⟩,
 ⟨some 55, none, .un .not (.t 54), []⟩,
 ⟨some 56, none, .mv (.t 55), []⟩,
 ⟨some 57, some (56, true), .mv (.t 8), []⟩,
 ⟨some 58, some (56, true), .call 45 [.t 57], []⟩,
 ⟨some 59, some (56, true), .bin .eql (.t 58) (.c (.int .i64 0)), []⟩,
 ⟨some 60, none, .pick (.t 56) (.t 59) (.c (.bool false)), []⟩,
 ⟨some 61, none, .mv (.t 60), []⟩,
 ⟨some 62, some (61, true), .mv (.t 8), []⟩,
 ⟨some 63, some (61, true), .call 46 [.t 62], []⟩,
 ⟨some 64, some (61, true), .bin .eql (.t 63) (.c (.int .i64 0)), []⟩,
 ⟨some 65, none, .pick (.t 61) (.t 64) (.c (.bool false)), []⟩,
 ⟨some 66, none, .mv (.t 65), []⟩,
 ⟨some 67, some (66, true), .mv (.t 8), []⟩,
 ⟨some 68, some (66, true), .call 47 [.t 67], []⟩,
 ⟨some 69, none, .pick (.t 66) (.t 68) (.c (.bool false)), []⟩,
 ⟨some 70, none, .mv (.t 69), []⟩,
 ⟨some 71, some (70, true), .mv (.t 8), []⟩,
 ⟨some 72, some (70, true), .call 42 [.t 71], []⟩,
 ⟨some 73, some (70, true), .eqn .ptr false (.t 72), []⟩,
 ⟨some 74, none, .pick (.t 70) (.t 73) (.c (.bool false)), []⟩,
 ⟨some 75, none, .mv (.t 74), []⟩,
 ⟨some 76, some (75, true), .call 41 [], []⟩,
 ⟨some 77, none, .pick (.t 75) (.t 76) (.c (.bool false)), []⟩,
 ⟨some 0, none, .mv (.t 77), []⟩])
 .ret)))

/-- What stands round the loop 0 -/
noncomputable def W59x0 (cfg : Cfg) (call : CallT) (N : Nat) (l : Option (Ex × St)) : Ans := fin false ⟨32, [.tmp 6, .tmp 7], .skip⟩ (seqC (cfg := cfg) (call := call) N (blockC 0 l) (.seq
 (.ops 8 [⟨some 29, none, .mv (.t 0), []⟩,
 ⟨some 30, none, .invk (.t 29) "Done" [], []⟩,
 ⟨some 31, none, .mv (.t 7), []⟩,
 ⟨some 6, none, .mv (.t 30), []⟩,
 ⟨some 7, none, .mv (.t 31), []⟩])
 .ret))

/-- What stands round the loop 0 -/
noncomputable def W61x0 (cfg : Cfg) (call : CallT) (N : Nat) (l : Option (Ex × St)) : Ans := fin false ⟨64, [.tmp 4, .tmp 5], .skip⟩ (seqC (cfg := cfg) (call := call) N (blockC 1 l) (.seq
 (.ops 11 [⟨some 41, none, .ld 1 true (.t 6), []⟩,
 ⟨some 42, none, .mv (.t 1), []⟩,
 ⟨some 43, none, .cvi .u64 (.t 42), []⟩,
 ⟨some 44, none, .call 106 [.t 41, .c (.int .i64 0), .t 43], []⟩])
 (.seq
 (.ops 12 [⟨some 45, none, .ld 1 true (.t 6), []⟩,
 ⟨some 46, none, .call 106 [.t 45, .c (.int .i64 1), .c (.int .u64 1)], []⟩])
 (.seq
 (.ops 13 [⟨some 47, none, .ld 1 true (.t 6), []⟩,
 ⟨some 48, none, .call 106 [.t 47, .c (.int .i64 4), .c (.int .u64 1)], []⟩])
 (.seq
 (.seq
 (.ops 14 [⟨some 8, none, .mv (.c (.int .i64 1)), []⟩])
 (.block 3
 (.loop [] B61x1)))
 (.seq
 (.ops 18 [⟨some 61, none, .ld 1 true (.t 6), []⟩,
 ⟨some 62, none, .build [.nilp] [(0, 1, (.t 61))], []⟩,
 ⟨some 63, none, .box 1 (.t 62) true, []⟩,
 ⟨some 4, none, .mv (.t 63), []⟩,
 ⟨some 5, none, .mv (.c (.int .i64 0)), []⟩])
 .ret))))))

/-- What stands round the loop 1 -/
noncomputable def W61x1 (cfg : Cfg) (call : CallT) (N : Nat) (l : Option (Ex × St)) : Ans := fin false ⟨64, [.tmp 4, .tmp 5], .skip⟩ (seqC (cfg := cfg) (call := call) N (blockC 3 l) (.seq
 (.ops 18 [⟨some 61, none, .ld 1 true (.t 6), []⟩,
 ⟨some 62, none, .build [.nilp] [(0, 1, (.t 61))], []⟩,
 ⟨some 63, none, .box 1 (.t 62) true, []⟩,
 ⟨some 4, none, .mv (.t 63), []⟩,
 ⟨some 5, none, .mv (.c (.int .i64 0)), []⟩])
 .ret))

/-- What stands round the loop 0 -/
noncomputable def W112x0 (cfg : Cfg) (call : CallT) (N : Nat) (l : Option (Ex × St)) : Ans := fin false ⟨22, [], .skip⟩ (blockC 0 l)

/-- What stands round the loop 0, in the round of the loop 1 -/
noncomputable def W124x0 (cfg : Cfg) (call : CallT) (N : Nat) (l : Option (Ex × St)) : Option (Ex × St) := (seqC (cfg := cfg) (call := call) N (blockC 1 (seqC (cfg := cfg) (call := call) N (blockC 2 l) (.ops 16 [⟨some 38, none, .mv (.t 4), []⟩,
 ⟨some 39, none, .mv (.t 6), []⟩,
 ⟨some 40, none, .bslice [.int .u64 0] 1 1 [(0, (.t 39))] false false, []⟩,
 ⟨some 41, none, .app 1 8 (.t 38) (.t 40) false, []⟩,
 ⟨some 4, none, .mv (.t 41), []⟩]))) (.ops 17 [⟨some 42, none, .bin .add (.t 15) (.c (.int .i64 1)), []⟩,
 ⟨some 15, none, .mv (.t 42), []⟩]))

/-- What stands round the loop 1 -/
noncomputable def W124x1 (cfg : Cfg) (call : CallT) (N : Nat) (l : Option (Ex × St)) : Ans := fin false ⟨44, [.tmp 2, .tmp 3], .skip⟩ (seqC (cfg := cfg) (call := call) N (blockC 0 l) (.seq
 (.ops 18 [⟨some 43, none, .mv (.t 4), []⟩,
 ⟨some 2, none, .mv (.t 43), []⟩,
 ⟨some 3, none, .mv (.c (.int .i64 0)), []⟩])
 .ret))

/-- What stands round the loop 0, in the round of the loop 1 -/
noncomputable def W125x0 (cfg : Cfg) (call : CallT) (N : Nat) (l : Option (Ex × St)) : Option (Ex × St) := (seqC (cfg := cfg) (call := call) N (blockC 1 (seqC (cfg := cfg) (call := call) N (blockC 2 l) (.ops 20 [⟨some 79, none, .mv (.t 4), []⟩,
 ⟨some 80, none, .ld 2 true (.t 8), []⟩,
 ⟨some 81, none, .bslice [.str [], .str []] 2 1 [(0, (.t 80))] false false, []⟩,
 ⟨some 82, none, .app 2 32 (.t 79) (.t 81) false, []⟩,
 ⟨some 4, none, .mv (.t 82), []⟩]))) (.ops 21 [⟨some 83, none, .bin .add (.t 19) (.c (.int .i64 1)), []⟩,
 ⟨some 19, none, .mv (.t 83), []⟩]))

/-- What stands round the loop 1 -/
noncomputable def W125x1 (cfg : Cfg) (call : CallT) (N : Nat) (l : Option (Ex × St)) : Ans := fin false ⟨85, [.tmp 2, .tmp 3], .skip⟩ (seqC (cfg := cfg) (call := call) N (blockC 0 l) (.seq
 (.ops 22 [⟨some 84, none, .mv (.t 4), []⟩,
 ⟨some 2, none, .mv (.t 84), []⟩,
 ⟨some 3, none, .mv (.c (.bool true)), []⟩])
 .ret))

/-- What stands round the loop 0 -/
noncomputable def W141x0 (cfg : Cfg) (call : CallT) (N : Nat) (l : Option (Ex × St)) : Ans := fin false ⟨51, [.tmp 4, .tmp 5], .skip⟩ (seqC (cfg := cfg) (call := call) N (blockC 0 l) (.seq
 (.ops 11 [⟨some 41, none, .mv (.t 0), []⟩,
 ⟨some 42, none, .nilc (.t 41) (mok Tryz.prog), []⟩,
 ⟨some 43, none, .mv (.t 1), []⟩,
 ⟨some 44, none, .bin .add (.t 43) (.c (.int .i64 1)), []⟩,
 ⟨some 45, none, .mv (.t 7), []⟩,
 ⟨some 46, none, .slc (some 128) 1 (.t 42) (some (.t 44)) (some (.t 45)), []⟩,
 ⟨some 47, none, .mv (.t 6), []⟩,
 ⟨some 48, none, .call 142 [.t 46, .t 47], []⟩,
 ⟨some 49, none, .ext (.t 48) 0, []⟩,
 ⟨some 50, none, .ext (.t 48) 1, []⟩,
 ⟨some 4, none, .mv (.t 49), []⟩,
 ⟨some 5, none, .mv (.t 50), []⟩])
 .ret))

/-- What stands round the loop 0, in the round of the loop 1 -/
noncomputable def W142x0 (cfg : Cfg) (call : CallT) (N : Nat) (l : Option (Ex × St)) : Option (Ex × St) := (seqC (cfg := cfg) (call := call) N (blockC 2 (blockC 3 l)) (.ops 15 [⟨some 42, none, .bin .add (.t 26) (.c (.int .i64 1)), []⟩,
 ⟨some 26, none, .mv (.t 42), []⟩]))

/-- What stands round the loop 1 -/
noncomputable def W142x1 (cfg : Cfg) (call : CallT) (N : Nat) (l : Option (Ex × St)) : Ans := fin false ⟨58, [.tmp 4, .tmp 5], .skip⟩ (seqC (cfg := cfg) (call := call) N (blockC 1 l) (.seq
 (.seq
 (.ops 16 [⟨some 43, none, .mv (.t 6), []⟩,
 ⟨some 44, none, .mv (.t 1), []⟩,
 ⟨some 45, none, .slc none 1 (.t 43) (some (.t 44)) none, []⟩,
 ⟨some 46, none, .len .slice (.t 45), []⟩,
 ⟨some 47, none, .mv (.c (.int .i64 0)), []⟩])
 (.block 5
 (.loop [] B142x2)))
 (.seq
 (.ops 22 [⟨some 54, none, .mv (.t 6), []⟩,
 ⟨some 55, none, .mv (.t 1), []⟩,
 ⟨some 56, none, .slc none 1 (.t 54) none (some (.t 55)), []⟩,
 ⟨some 57, none, .cvs (.t 56), []⟩,
 ⟨some 4, none, .mv (.t 57), []⟩,
 ⟨some 5, none, .mv (.c (.int .i64 0)), []⟩])
 .ret)))

/-- What stands round the loop 2 -/
noncomputable def W142x2 (cfg : Cfg) (call : CallT) (N : Nat) (l : Option (Ex × St)) : Ans := fin false ⟨58, [.tmp 4, .tmp 5], .skip⟩ (seqC (cfg := cfg) (call := call) N (blockC 5 l) (.seq
 (.ops 22 [⟨some 54, none, .mv (.t 6), []⟩,
 ⟨some 55, none, .mv (.t 1), []⟩,
 ⟨some 56, none, .slc none 1 (.t 54) none (some (.t 55)), []⟩,
 ⟨some 57, none, .cvs (.t 56), []⟩,
 ⟨some 4, none, .mv (.t 57), []⟩,
 ⟨some 5, none, .mv (.c (.int .i64 0)), []⟩])
 .ret))

end Den
