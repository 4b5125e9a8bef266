/- What stands round the loops. -/
import Derived.Test.YtiecdchfnenldaaGreatCodeT
import Derived.Test.YtiecdchfnenldaaGreatDenG6
set_option linter.unusedVariables false
namespace Den
open Go Go.Proofs
set_option maxRecDepth 1000000

/-- What stands round the loop 0 -/
noncomputable def W4x0 (cfg : Cfg) (call : CallT) (N : Nat) (l : Option (Ex × St)) : Ans := fin false ⟨173, [.tmp 8], .skip⟩ (seqC (cfg := cfg) (call := call) N (blockC 0 l) (.seq
 (.seq
 (.ops 15 [⟨some 15, none, .mv (.c (.int .i64 0)), []⟩])
 (.block 2
 (.loop [] B4x3)))
 (.seq
 (.ops 39 [⟨some 8, none, .mv (.c (.bool false)), []⟩])
 .ret)))

/-- What stands round the loop 1, in the round of the loop 3 -/
noncomputable def W4x1 (cfg : Cfg) (call : CallT) (N : Nat) (l : Option (Ex × St)) : Option (Ex × St) := (seqC (cfg := cfg) (call := call) N (blockC 3 (seqC (cfg := cfg) (call := call) N (blockC 4 l) (.seq
 (.ops 26 [⟨some 19, none, .mv (.c (.bool false)), []⟩,
 ⟨some 20, none, .mv (.c (.bool false)), []⟩])
 (.seq
 (.seq
 (.ops 27 [⟨some 21, none, .mv (.c (.int .i64 0)), []⟩])
 (.block 6
 (.loop [] B4x2)))
 (.seq
 (.seq
 (.ops 35 [⟨some 163, none, .mv (.t 19), []⟩,
 ⟨some 164, none, .un .not (.t 163), []⟩])
 (.cond (.t 164)
 (.seq
 (.ops 36 [⟨some 165, none, .ld 2 true (.t 9), []⟩,
 ⟨some 166, none, .mv (.t 10), []⟩,
 ⟨some 167, none, .call 23 [.t 165, .t 166, .c (.int .i64 0), .c (.nils)], []⟩,
 ⟨some 168, none, .mv (.t 167), []⟩,
 ⟨some 169, some (168, true), .call 13 [], []⟩,
 ⟨some 170, none, .pick (.t 168) (.t 169) (.c (.bool false)), []⟩,
 ⟨some 8, none, .mv (.t 170), []⟩])
 .ret)
 .skip))
 (.seq
 (.ops 37 [⟨some 171, none, .mv (.t 20), []⟩,
 ⟨some 172, none, .un .not (.t 171), []⟩])
 (.cond (.t 172)
 (.seq
 (.ops 38 [⟨some 8, none, .mv (.c (.bool false)), []⟩])
 .ret)
 .skip))))))) (.ops 17 [⟨some 97, none, .mv (.t 15), []⟩,
 ⟨some 98, none, .bin .add (.t 97) (.c (.int .i64 1)), []⟩,
 ⟨some 15, none, .mv (.t 98), []⟩]))

/-- What stands round the loop 2, in the round of the loop 3 -/
noncomputable def W4x2 (cfg : Cfg) (call : CallT) (N : Nat) (l : Option (Ex × St)) : Option (Ex × St) := (seqC (cfg := cfg) (call := call) N (blockC 3 (seqC (cfg := cfg) (call := call) N (blockC 6 l) (.seq
 (.seq
 (.ops 35 [⟨some 163, none, .mv (.t 19), []⟩,
 ⟨some 164, none, .un .not (.t 163), []⟩])
 (.cond (.t 164)
 (.seq
 (.ops 36 [⟨some 165, none, .ld 2 true (.t 9), []⟩,
 ⟨some 166, none, .mv (.t 10), []⟩,
 ⟨some 167, none, .call 23 [.t 165, .t 166, .c (.int .i64 0), .c (.nils)], []⟩,
 ⟨some 168, none, .mv (.t 167), []⟩,
 ⟨some 169, some (168, true), .call 13 [], []⟩,
 ⟨some 170, none, .pick (.t 168) (.t 169) (.c (.bool false)), []⟩,
 ⟨some 8, none, .mv (.t 170), []⟩])
 .ret)
 .skip))
 (.seq
 (.ops 37 [⟨some 171, none, .mv (.t 20), []⟩,
 ⟨some 172, none, .un .not (.t 171), []⟩])
 (.cond (.t 172)
 (.seq
 (.ops 38 [⟨some 8, none, .mv (.c (.bool false)), []⟩])
 .ret)
 .skip))))) (.ops 17 [⟨some 97, none, .mv (.t 15), []⟩,
 ⟨some 98, none, .bin .add (.t 97) (.c (.int .i64 1)), []⟩,
 ⟨some 15, none, .mv (.t 98), []⟩]))

/-- What stands round the loop 3 -/
noncomputable def W4x3 (cfg : Cfg) (call : CallT) (N : Nat) (l : Option (Ex × St)) : Ans := fin false ⟨173, [.tmp 8], .skip⟩ (seqC (cfg := cfg) (call := call) N (blockC 2 l) (.seq
 (.ops 39 [⟨some 8, none, .mv (.c (.bool false)), []⟩])
 .ret))

/-- What stands round the loop 0 -/
noncomputable def W5x0 (cfg : Cfg) (call : CallT) (N : Nat) (l : Option (Ex × St)) : Ans := fin false ⟨131, [.tmp 0], .skip⟩ (seqC (cfg := cfg) (call := call) N (blockC 0 l) (.seq
 (.seq
 (.ops 13 [⟨some 60, none, .mv (.t 4), []⟩,
 ⟨some 61, none, .build [.nilp, .int .i64 0, .int .i64 0, .nili, .int .u64 0, .bool false, .int .i64 0, .int .i64 0] [], []⟩,
 ⟨some 62, none, .box 8 (.t 61) false, []⟩,
 ⟨some 63, none, .bslice [.nilp] 1 2 [(0, (.t 60)), (1, (.t 62))] true false, []⟩,
 ⟨some 64, none, .len .slice (.t 63), []⟩,
 ⟨some 65, none, .mv (.c (.int .i64 0)), []⟩])
 (.block 2
 (.loop [] B5x1)))
 (.seq
 (.ops 20 [⟨some 95, none, .call 34 [], []⟩,
 ⟨some 96, none, .call 33 [.c (.nili), .t 95], []⟩,
 ⟨some 94, none, .mv (.t 96), []⟩,
 ⟨some 97, none, .ext (.t 94) 0, []⟩,
 ⟨some 98, none, .ext (.t 94) 1, []⟩,
 ⟨some 13, none, .alloc [.int .i64 0, .nils] false, []⟩,
 ⟨none, none, .st 2 (.t 13) (.t 97), []⟩,
 ⟨some 2, none, .mv (.t 98), []⟩])
 (.seq
 (.ops 21 [⟨some 100, none, .mv (.t 1), []⟩,
 ⟨some 101, none, .mki 26 (.t 100), []⟩,
 ⟨some 102, none, .build [.int .i64 0, .int .i64 0] [], []⟩,
 ⟨some 103, none, .call 33 [.t 101, .t 102], []⟩,
 ⟨some 99, none, .mv (.t 103), []⟩,
 ⟨some 104, none, .ext (.t 99) 0, []⟩,
 ⟨some 105, none, .ext (.t 99) 1, []⟩,
 ⟨some 14, none, .alloc [.int .i64 0, .nils] false, []⟩,
 ⟨none, none, .st 2 (.t 14) (.t 104), []⟩,
 ⟨some 15, none, .mv (.t 105), []⟩])
 (.seq
 (.ops 22 [⟨some 106, none, .fld 1 (.t 13), []⟩,
 ⟨some 107, none, .ld 1 false (.t 106), []⟩,
 ⟨some 108, none, .len .slice (.t 107), []⟩,
 ⟨some 109, none, .fld 0 (.t 13), []⟩,
 ⟨some 110, none, .ld 1 false (.t 109), []⟩,
 ⟨some 111, none, .bin .add (.t 108) (.t 110), []⟩,
 ⟨some 112, none, .fld 1 (.t 14), []⟩,
 ⟨some 113, none, .ld 1 false (.t 112), []⟩,
 ⟨some 114, none, .len .slice (.t 113), []⟩,
 ⟨some 115, none, .bin .add (.t 111) (.t 114), []⟩,
 ⟨some 116, none, .fld 0 (.t 14), []⟩,
 ⟨some 117, none, .ld 1 false (.t 116), []⟩,
 ⟨some 118, none, .bin .add (.t 115) (.t 117), []⟩,
 ⟨some 119, none, .bin .eql (.t 118) (.c (.int .i64 0)), []⟩,
 ⟨some 120, none, .mv (.t 119), []⟩,
 ⟨some 121, some (120, true), .mv (.t 2), []⟩,
 ⟨some 122, some (120, true), .bin .eql (.t 121) (.c (.int .i64 2)), []⟩,
 ⟨some 123, none, .pick (.t 120) (.t 122) (.c (.bool false)), []⟩,
 ⟨some 124, none, .mv (.t 123), []⟩,
 ⟨some 125, some (124, true), .mv (.t 15), []⟩,
 ⟨some 126, some (124, true), .bin .eql (.t 125) (.c (.int .i64 2)), []⟩,
 ⟨some 127, none, .pick (.t 124) (.t 126) (.c (.bool false)), []⟩,
 ⟨some 128, none, .mv (.t 127), []⟩,
 ⟨some 129, some (128, true), .call 13 [], []⟩,
 ⟨some 130, none, .pick (.t 128) (.t 129) (.c (.bool false)), []⟩,
 ⟨some 0, none, .mv (.t 130), []⟩])
 .ret)))))

/-- What stands round the loop 1 -/
noncomputable def W5x1 (cfg : Cfg) (call : CallT) (N : Nat) (l : Option (Ex × St)) : Ans := fin false ⟨131, [.tmp 0], .skip⟩ (seqC (cfg := cfg) (call := call) N (blockC 2 l) (.seq
 (.ops 20 [⟨some 95, none, .call 34 [], []⟩,
 ⟨some 96, none, .call 33 [.c (.nili), .t 95], []⟩,
 ⟨some 94, none, .mv (.t 96), []⟩,
 ⟨some 97, none, .ext (.t 94) 0, []⟩,
 ⟨some 98, none, .ext (.t 94) 1, []⟩,
 ⟨some 13, none, .alloc [.int .i64 0, .nils] false, []⟩,
 ⟨none, none, .st 2 (.t 13) (.t 97), []⟩,
 ⟨some 2, none, .mv (.t 98), []⟩])
 (.seq
 (.ops 21 [⟨some 100, none, .mv (.t 1), []⟩,
 ⟨some 101, none, .mki 26 (.t 100), []⟩,
 ⟨some 102, none, .build [.int .i64 0, .int .i64 0] [], []⟩,
 ⟨some 103, none, .call 33 [.t 101, .t 102], []⟩,
 ⟨some 99, none, .mv (.t 103), []⟩,
 ⟨some 104, none, .ext (.t 99) 0, []⟩,
 ⟨some 105, none, .ext (.t 99) 1, []⟩,
 ⟨some 14, none, .alloc [.int .i64 0, .nils] false, []⟩,
 ⟨none, none, .st 2 (.t 14) (.t 104), []⟩,
 ⟨some 15, none, .mv (.t 105), []⟩])
 (.seq
 (.ops 22 [⟨some 106, none, .fld 1 (.t 13), []⟩,
 ⟨some 107, none, .ld 1 false (.t 106), []⟩,
 ⟨some 108, none, .len .slice (.t 107), []⟩,
 ⟨some 109, none, .fld 0 (.t 13), []⟩,
 ⟨some 110, none, .ld 1 false (.t 109), []⟩,
 ⟨some 111, none, .bin .add (.t 108) (.t 110), []⟩,
 ⟨some 112, none, .fld 1 (.t 14), []⟩,
 ⟨some 113, none, .ld 1 false (.t 112), []⟩,
 ⟨some 114, none, .len .slice (.t 113), []⟩,
 ⟨some 115, none, .bin .add (.t 111) (.t 114), []⟩,
 ⟨some 116, none, .fld 0 (.t 14), []⟩,
 ⟨some 117, none, .ld 1 false (.t 116), []⟩,
 ⟨some 118, none, .bin .add (.t 115) (.t 117), []⟩,
 ⟨some 119, none, .bin .eql (.t 118) (.c (.int .i64 0)), []⟩,
 ⟨some 120, none, .mv (.t 119), []⟩,
 ⟨some 121, some (120, true), .mv (.t 2), []⟩,
 ⟨some 122, some (120, true), .bin .eql (.t 121) (.c (.int .i64 2)), []⟩,
 ⟨some 123, none, .pick (.t 120) (.t 122) (.c (.bool false)), []⟩,
 ⟨some 124, none, .mv (.t 123), []⟩,
 ⟨some 125, some (124, true), .mv (.t 15), []⟩,
 ⟨some 126, some (124, true), .bin .eql (.t 125) (.c (.int .i64 2)), []⟩,
 ⟨some 127, none, .pick (.t 124) (.t 126) (.c (.bool false)), []⟩,
 ⟨some 128, none, .mv (.t 127), []⟩,
 ⟨some 129, some (128, true), .call 13 [], []⟩,
 ⟨some 130, none, .pick (.t 128) (.t 129) (.c (.bool false)), []⟩,
 ⟨some 0, none, .mv (.t 130), []⟩])
 .ret))))

/-- What stands round the loop 0 -/
noncomputable def W17x0 (cfg : Cfg) (call : CallT) (N : Nat) (l : Option (Ex × St)) : Ans := fin false ⟨32, [.tmp 6, .tmp 7], .skip⟩ (seqC (cfg := cfg) (call := call) N (blockC 0 l) (.seq
 (.ops 8 [⟨some 29, none, .mv (.t 0), []⟩,
 ⟨some 30, none, .invk (.t 29) "Done" [], []⟩,
 ⟨some 31, none, .mv (.t 7), []⟩,
 ⟨some 6, none, .mv (.t 30), []⟩,
 ⟨some 7, none, .mv (.t 31), []⟩])
 .ret))

/-- What stands round the loop 0 -/
noncomputable def W25x0 (cfg : Cfg) (call : CallT) (N : Nat) (l : Option (Ex × St)) : Ans := fin false ⟨32, [.tmp 2], .skip⟩ (seqC (cfg := cfg) (call := call) N (blockC 0 l) (.seq
 (.ops 7 [⟨some 31, none, .mv (.t 3), []⟩,
 ⟨some 2, none, .mv (.t 31), []⟩])
 .ret))

/-- What stands round the loop 0 -/
noncomputable def W33x0 (cfg : Cfg) (call : CallT) (N : Nat) (l : Option (Ex × St)) : Ans := fin false ⟨106, [.cell 4 2 true, .tmp 5], .skip⟩ (seqC (cfg := cfg) (call := call) N (blockC 0 l) (.seq
 (.seq
 (.ops 16 [⟨some 94, none, .mv (.t 7), []⟩,
 ⟨some 95, none, .bin .neq (.t 94) (.c (.int .i64 0)), []⟩])
 (.cond (.t 95)
 (.seq
 (.ops 17 [⟨some 96, none, .build [.int .i64 0, .nils] [], []⟩,
 ⟨some 97, none, .mv (.t 7), []⟩,
 ⟨none, none, .st 2 (.t 4) (.t 96), []⟩,
 ⟨some 5, none, .mv (.t 97), []⟩])
 .ret)
 .skip))
 (.seq
 (.seq
 (.ops 18 [⟨some 98, none, .fld 1 (.t 9), []⟩,
 ⟨some 99, none, .ld 1 false (.t 98), []⟩,
 ⟨some 100, none, .len .slice (.t 99), []⟩,
 ⟨some 101, none, .fld 1 (.t 3), []⟩,
 ⟨some 102, none, .ld 1 false (.t 101), []⟩,
 ⟨some 103, none, .bin .gtr (.t 100) (.t 102), []⟩])
 (.cond (.t 103)
 (.seq
 (.ops 19 [⟨some 104, none, .build [.int .i64 0, .nils] [], []⟩,
 ⟨none, none, .st 2 (.t 4) (.t 104), []⟩,
 ⟨some 5, none, .mv (.c (.int .i64 12)), []⟩])
 .ret)
 .skip))
 (.seq
 (.ops 20 [⟨some 105, none, .ld 2 true (.t 9), []⟩,
 ⟨none, none, .st 2 (.t 4) (.t 105), []⟩,
 ⟨some 5, none, .mv (.c (.int .i64 0)), []⟩])
 .ret))))

/-- What stands round the loop 0 -/
noncomputable def W61x0 (cfg : Cfg) (call : CallT) (N : Nat) (l : Option (Ex × St)) : Ans := fin false ⟨64, [.tmp 4, .tmp 5], .skip⟩ (seqC (cfg := cfg) (call := call) N (blockC 1 l) (.seq
 (.ops 11 [⟨some 41, none, .ld 1 true (.t 6), []⟩,
 ⟨some 42, none, .mv (.t 1), []⟩,
 ⟨some 43, none, .cvi .u64 (.t 42), []⟩,
 ⟨some 44, none, .call 106 [.t 41, .c (.int .i64 0), .t 43], []⟩])
 (.seq
 (.ops 12 [⟨some 45, none, .ld 1 true (.t 6), []⟩,
 ⟨some 46, none, .call 106 [.t 45, .c (.int .i64 1), .c (.int .u64 1)], []⟩])
 (.seq
 (.ops 13 [⟨some 47, none, .ld 1 true (.t 6), []⟩,
 ⟨some 48, none, .call 106 [.t 47, .c (.int .i64 4), .c (.int .u64 1)], []⟩])
 (.seq
 (.seq
 (.ops 14 [⟨some 8, none, .mv (.c (.int .i64 1)), []⟩])
 (.block 3
 (.loop [] B61x1)))
 (.seq
 (.ops 18 [⟨some 61, none, .ld 1 true (.t 6), []⟩,
 ⟨some 62, none, .build [.nilp] [(0, 1, (.t 61))], []⟩,
 ⟨some 63, none, .box 1 (.t 62) true, []⟩,
 ⟨some 4, none, .mv (.t 63), []⟩,
 ⟨some 5, none, .mv (.c (.int .i64 0)), []⟩])
 .ret))))))

/-- What stands round the loop 1 -/
noncomputable def W61x1 (cfg : Cfg) (call : CallT) (N : Nat) (l : Option (Ex × St)) : Ans := fin false ⟨64, [.tmp 4, .tmp 5], .skip⟩ (seqC (cfg := cfg) (call := call) N (blockC 3 l) (.seq
 (.ops 18 [⟨some 61, none, .ld 1 true (.t 6), []⟩,
 ⟨some 62, none, .build [.nilp] [(0, 1, (.t 61))], []⟩,
 ⟨some 63, none, .box 1 (.t 62) true, []⟩,
 ⟨some 4, none, .mv (.t 63), []⟩,
 ⟨some 5, none, .mv (.c (.int .i64 0)), []⟩])
 .ret))

/-- What stands round the loop 0 -/
noncomputable def W70x0 (cfg : Cfg) (call : CallT) (N : Nat) (l : Option (Ex × St)) : Ans := fin false ⟨26, [.tmp 4], .skip⟩ (seqC (cfg := cfg) (call := call) N (blockC 0 l) (.seq
 (.ops 8 [⟨some 4, none, .mv (.c (.bool true)), []⟩])
 .ret))

/-- What stands round the loop 0 -/
noncomputable def W112x0 (cfg : Cfg) (call : CallT) (N : Nat) (l : Option (Ex × St)) : Ans := fin false ⟨22, [], .skip⟩ (blockC 0 l)

/-- What stands round the loop 0, in the round of the loop 1 -/
noncomputable def W124x0 (cfg : Cfg) (call : CallT) (N : Nat) (l : Option (Ex × St)) : Option (Ex × St) := (seqC (cfg := cfg) (call := call) N (blockC 1 (seqC (cfg := cfg) (call := call) N (blockC 2 l) (.ops 16 [⟨some 38, none, .mv (.t 4), []⟩,
 ⟨some 39, none, .mv (.t 6), []⟩,
 ⟨some 40, none, .bslice [.int .u64 0] 1 1 [(0, (.t 39))] false false, []⟩,
 ⟨some 41, none, .app 1 8 (.t 38) (.t 40) false, []⟩,
 ⟨some 4, none, .mv (.t 41), []⟩]))) (.ops 17 [⟨some 42, none, .bin .add (.t 15) (.c (.int .i64 1)), []⟩,
 ⟨some 15, none, .mv (.t 42), []⟩]))

/-- What stands round the loop 1 -/
noncomputable def W124x1 (cfg : Cfg) (call : CallT) (N : Nat) (l : Option (Ex × St)) : Ans := fin false ⟨44, [.tmp 2, .tmp 3], .skip⟩ (seqC (cfg := cfg) (call := call) N (blockC 0 l) (.seq
 (.ops 18 [⟨some 43, none, .mv (.t 4), []⟩,
 ⟨some 2, none, .mv (.t 43), []⟩,
 ⟨some 3, none, .mv (.c (.int .i64 0)), []⟩])
 .ret))

/-- What stands round the loop 0, in the round of the loop 1 -/
noncomputable def W125x0 (cfg : Cfg) (call : CallT) (N : Nat) (l : Option (Ex × St)) : Option (Ex × St) := (seqC (cfg := cfg) (call := call) N (blockC 1 (seqC (cfg := cfg) (call := call) N (blockC 2 l) (.ops 20 [⟨some 79, none, .mv (.t 4), []⟩,
 ⟨some 80, none, .ld 2 true (.t 8), []⟩,
 ⟨some 81, none, .bslice [.str [], .str []] 2 1 [(0, (.t 80))] false false, []⟩,
 ⟨some 82, none, .app 2 32 (.t 79) (.t 81) false, []⟩,
 ⟨some 4, none, .mv (.t 82), []⟩]))) (.ops 21 [⟨some 83, none, .bin .add (.t 19) (.c (.int .i64 1)), []⟩,
 ⟨some 19, none, .mv (.t 83), []⟩]))

/-- What stands round the loop 1 -/
noncomputable def W125x1 (cfg : Cfg) (call : CallT) (N : Nat) (l : Option (Ex × St)) : Ans := fin false ⟨85, [.tmp 2, .tmp 3], .skip⟩ (seqC (cfg := cfg) (call := call) N (blockC 0 l) (.seq
 (.ops 22 [⟨some 84, none, .mv (.t 4), []⟩,
 ⟨some 2, none, .mv (.t 84), []⟩,
 ⟨some 3, none, .mv (.c (.bool true)), []⟩])
 .ret))

/-- What stands round the loop 0 -/
noncomputable def W141x0 (cfg : Cfg) (call : CallT) (N : Nat) (l : Option (Ex × St)) : Ans := fin false ⟨51, [.tmp 4, .tmp 5], .skip⟩ (seqC (cfg := cfg) (call := call) N (blockC 0 l) (.seq
 (.ops 11 [⟨some 41, none, .mv (.t 0), []⟩,
 ⟨some 42, none, .nilc (.t 41) (mok Tryz.prog), []⟩,
 ⟨some 43, none, .mv (.t 1), []⟩,
 ⟨some 44, none, .bin .add (.t 43) (.c (.int .i64 1)), []⟩,
 ⟨some 45, none, .mv (.t 7), []⟩,
 ⟨some 46, none, .slc (some 128) 1 (.t 42) (some (.t 44)) (some (.t 45)), []⟩,
 ⟨some 47, none, .mv (.t 6), []⟩,
 ⟨some 48, none, .call 142 [.t 46, .t 47], []⟩,
 ⟨some 49, none, .ext (.t 48) 0, []⟩,
 ⟨some 50, none, .ext (.t 48) 1, []⟩,
 ⟨some 4, none, .mv (.t 49), []⟩,
 ⟨some 5, none, .mv (.t 50), []⟩])
 .ret))

/-- What stands round the loop 0, in the round of the loop 1 -/
noncomputable def W142x0 (cfg : Cfg) (call : CallT) (N : Nat) (l : Option (Ex × St)) : Option (Ex × St) := (seqC (cfg := cfg) (call := call) N (blockC 2 (blockC 3 l)) (.ops 15 [⟨some 42, none, .bin .add (.t 26) (.c (.int .i64 1)), []⟩,
 ⟨some 26, none, .mv (.t 42), []⟩]))

/-- What stands round the loop 1 -/
noncomputable def W142x1 (cfg : Cfg) (call : CallT) (N : Nat) (l : Option (Ex × St)) : Ans := fin false ⟨58, [.tmp 4, .tmp 5], .skip⟩ (seqC (cfg := cfg) (call := call) N (blockC 1 l) (.seq
 (.seq
 (.ops 16 [⟨some 43, none, .mv (.t 6), []⟩,
 ⟨some 44, none, .mv (.t 1), []⟩,
 ⟨some 45, none, .slc none 1 (.t 43) (some (.t 44)) none, []⟩,
 ⟨some 46, none, .len .slice (.t 45), []⟩,
 ⟨some 47, none, .mv (.c (.int .i64 0)), []⟩])
 (.block 5
 (.loop [] B142x2)))
 (.seq
 (.ops 22 [⟨some 54, none, .mv (.t 6), []⟩,
 ⟨some 55, none, .mv (.t 1), []⟩,
 ⟨some 56, none, .slc none 1 (.t 54) none (some (.t 55)), []⟩,
 ⟨some 57, none, .cvs (.t 56), []⟩,
 ⟨some 4, none, .mv (.t 57), []⟩,
 ⟨some 5, none, .mv (.c (.int .i64 0)), []⟩])
 .ret)))

/-- What stands round the loop 2 -/
noncomputable def W142x2 (cfg : Cfg) (call : CallT) (N : Nat) (l : Option (Ex × St)) : Ans := fin false ⟨58, [.tmp 4, .tmp 5], .skip⟩ (seqC (cfg := cfg) (call := call) N (blockC 5 l) (.seq
 (.ops 22 [⟨some 54, none, .mv (.t 6), []⟩,
 ⟨some 55, none, .mv (.t 1), []⟩,
 ⟨some 56, none, .slc none 1 (.t 54) none (some (.t 55)), []⟩,
 ⟨some 57, none, .cvs (.t 56), []⟩,
 ⟨some 4, none, .mv (.t 57), []⟩,
 ⟨some 5, none, .mv (.c (.int .i64 0)), []⟩])
 .ret))

end Den
