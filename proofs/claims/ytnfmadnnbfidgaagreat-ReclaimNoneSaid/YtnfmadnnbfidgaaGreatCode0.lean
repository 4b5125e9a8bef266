/- Functions of the program, as den reads them. -/
import Derived.Test.YtnfmadnnbfidgaaGreatA
namespace Den
open Go Go.Proofs
set_option maxRecDepth 1000000

/-- ticketline/ticketlinelaw27.DescendNone: the round 0 -/
noncomputable def B3x0 : AC := (.seq
 (.ops 7 [⟨some 30, none, .bin .lss (.t 29) (.t 28), []⟩])
 (.seq
  (.cond (.t 30)
   .skip
   (.exit 0))
  (.seq
   (.block 1
    (.seq
     (.ops 8 [⟨some 31, none, .ixa none 1 (.t 27) (.t 29), []⟩,
       ⟨some 32, none, .ld 1 false (.t 31), []⟩,
       ⟨some 6, none, .mv (.t 32), []⟩])
     (.seq
      (.ops 9 [⟨some 34, none, .mv (.t 6), []⟩,
        ⟨some 35, none, .mv (.t 1), []⟩,
        ⟨some 36, none, .mki 22 (.t 35), []⟩,
        ⟨some 37, none, .call 6 [.t 34, .t 36], []⟩,
        ⟨some 33, none, .mv (.t 37), []⟩,
        ⟨some 38, none, .ext (.t 33) 0, []⟩,
        ⟨some 39, none, .ext (.t 33) 1, []⟩,
        ⟨some 7, none, .mv (.t 38), []⟩,
        ⟨some 8, none, .mv (.t 39), []⟩])
      (.seq
       (.ops 10 [⟨some 40, none, .mv (.t 8), []⟩,
         ⟨some 41, none, .bin .neq (.t 40) (.c (.int .i64 1)), []⟩,
         ⟨some 42, none, .mv (.t 41), []⟩,
         ⟨some 43, some (42, false), .mv (.t 6), []⟩,
         ⟨some 44, some (42, false), .call 7 [.t 43], []⟩,
         ⟨some 45, some (42, false), .un .not (.t 44), []⟩,
         ⟨some 46, none, .pick (.t 42) (.c (.bool true)) (.t 45), []⟩,
         ⟨some 47, none, .mv (.t 46), []⟩,
         ⟨some 48, some (47, false), .mv (.t 6), []⟩,
         ⟨some 49, some (47, false), .call 8 [.t 48], []⟩,
         ⟨some 50, some (47, false), .bin .neq (.t 49) (.c (.int .u64 0)), []⟩,
         ⟨some 51, none, .pick (.t 47) (.c (.bool true)) (.t 50), []⟩,
         ⟨some 52, none, .mv (.t 51), []⟩,
         ⟨some 53, some (52, false), .mv (.t 6), []⟩,
         ⟨some 54, some (52, false), .call 9 [.t 53], []⟩,
         ⟨some 55, some (52, false), .eqn .iface true (.t 54), []⟩,
         ⟨some 56, none, .pick (.t 52) (.c (.bool true)) (.t 55), []⟩,
         ⟨some 57, none, .mv (.t 56), []⟩,
         ⟨some 58, some (57, false), .mv (.t 6), []⟩,
         ⟨some 59, some (57, false), .call 10 [.t 58], []⟩,
         ⟨some 60, some (57, false), .build [.int .i64 0, .int .u64 0, .int .u64 0, .int .u64 0, .int .u64 0, .int .u64 0, .int .u64 0, .int .u64 0, .int .u64 0, .int .u64 0, .int .u64 0, .int .u64 0, .int .u64 0, .int .u64 0, .int .u64 0, .int .u64 0, .int .u64 0, .int .u64 0, .int .u64 0, .int .u64 0, .int .u64 0, .int .u64 0, .int .u64 0, .int .u64 0, .int .u64 0, .int .u64 0, .int .u64 0, .int .u64 0, .int .u64 0, .int .u64 0, .int .u64 0, .int .u64 0, .int .u64 0, .int .u64 0, .int .u64 0, .int .u64 0, .int .u64 0, .int .u64 0, .int .u64 0, .int .u64 0, .int .u64 0, .int .u64 0, .int .u64 0, .int .u64 0, .int .u64 0, .int .u64 0, .int .u64 0, .int .u64 0, .int .u64 0, .int .u64 0, .int .u64 0, .int .u64 0, .int .u64 0, .int .u64 0, .int .u64 0, .int .u64 0, .int .u64 0, .int .u64 0, .int .u64 0, .int .u64 0, .int .u64 0, .int .u64 0, .int .u64 0, .int .u64 0, .int .u64 0, .int .u64 0, .int .u64 0, .int .u64 0, .int .u64 0, .int .u64 0, .int .u64 0, .int .u64 0, .int .u64 0, .int .u64 0, .int .u64 0, .int .u64 0, .int .u64 0, .int .u64 0, .int .u64 0, .int .u64 0, .int .u64 0, .int .u64 0, .int .u64 0, .int .u64 0, .int .u64 0, .int .u64 0, .int .u64 0, .int .u64 0, .int .u64 0, .int .u64 0, .int .u64 0, .int .u64 0, .int .u64 0, .int .u64 0, .int .u64 0, .int .u64 0, .int .u64 0, .int .u64 0, .int .u64 0, .int .u64 0, .int .u64 0, .int .u64 0, .int .u64 0, .int .u64 0, .int .u64 0, .int .u64 0, .int .u64 0, .int .u64 0, .int .u64 0, .int .u64 0, .int .u64 0, .int .u64 0, .int .u64 0, .int .u64 0, .int .u64 0, .int .u64 0, .int .u64 0, .int .u64 0, .int .u64 0, .int .u64 0, .int .u64 0, .int .u64 0, .int .u64 0, .int .u64 0, .int .u64 0, .int .u64 0, .int .u64 0, .int .u64 0, .int .u64 0, .int .u64 0] [], []⟩,
         ⟨some 61, some (57, false), .eqs true [.int, .int, .int, .int, .int, .int, .int, .int, .int, .int, .int, .int, .int, .int, .int, .int, .int, .int, .int, .int, .int, .int, .int, .int, .int, .int, .int, .int, .int, .int, .int, .int, .int, .int, .int, .int, .int, .int, .int, .int, .int, .int, .int, .int, .int, .int, .int, .int, .int, .int, .int, .int, .int, .int, .int, .int, .int, .int, .int, .int, .int, .int, .int, .int, .int, .int, .int, .int, .int, .int, .int, .int, .int, .int, .int, .int, .int, .int, .int, .int, .int, .int, .int, .int, .int, .int, .int, .int, .int, .int, .int, .int, .int, .int, .int, .int, .int, .int, .int, .int, .int, .int, .int, .int, .int, .int, .int, .int, .int, .int, .int, .int, .int, .int, .int, .int, .int, .int, .int, .int, .int, .int, .int, .int, .int, .int, .int, .int, .int, .int] (.t 59) (.t 60), []⟩,
         ⟨some 62, none, .pick (.t 57) (.c (.bool true)) (.t 61), []⟩,
         ⟨some 63, none, .mv (.t 62), []⟩,
         ⟨some 64, some (63, false), .mv (.t 6), []⟩,
         ⟨some 65, some (63, false), .call 11 [.t 64], []⟩,
         ⟨some 66, some (63, false), .bin .neq (.t 65) (.c (.int .i64 0)), []⟩,
         ⟨some 67, none, .pick (.t 63) (.c (.bool true)) (.t 66), []⟩])
       (.cond (.t 67)
        (.seq
         (.ops 11 [⟨some 0, none, .mv (.c (.bool false)), []⟩])
         .ret)
        .skip)))))
   (.ops 12 [⟨some 68, none, .bin .add (.t 29) (.c (.int .i64 1)), []⟩,
     ⟨some 29, none, .mv (.t 68), []⟩]))))
/-- ticketline/ticketlinelaw27.DescendNone: the round 1 -/
noncomputable def B3x1 : AC := (.seq
 (.ops 14 [⟨some 75, none, .bin .lss (.t 74) (.t 73), []⟩])
 (.seq
  (.cond (.t 75)
   .skip
   (.exit 2))
  (.seq
   (.block 3
    (.seq
     (.ops 15 [⟨some 76, none, .ixa none 1 (.t 72) (.t 74), []⟩,
       ⟨some 77, none, .ld 1 false (.t 76), []⟩,
       ⟨some 10, none, .mv (.t 77), []⟩])
     (.seq
      (.ops 16 [⟨some 79, none, .mv (.t 10), []⟩,
        ⟨some 80, none, .mv (.t 1), []⟩,
        ⟨some 81, none, .mki 22 (.t 80), []⟩,
        ⟨some 82, none, .call 12 [.t 79, .t 81], []⟩,
        ⟨some 78, none, .mv (.t 82), []⟩,
        ⟨some 83, none, .ext (.t 78) 0, []⟩,
        ⟨some 84, none, .ext (.t 78) 1, []⟩,
        ⟨some 11, none, .mv (.t 83), []⟩,
        ⟨some 12, none, .mv (.t 84), []⟩])
      (.seq
       (.ops 17 [⟨some 85, none, .mv (.t 12), []⟩,
         ⟨some 86, none, .bin .neq (.t 85) (.c (.int .i64 1)), []⟩,
         ⟨some 87, none, .mv (.t 86), []⟩,
         ⟨some 88, some (87, false), .mv (.t 10), []⟩,
         ⟨some 89, some (87, false), .call 13 [.t 88], []⟩,
         ⟨some 90, some (87, false), .un .not (.t 89), []⟩,
         ⟨some 91, none, .pick (.t 87) (.c (.bool true)) (.t 90), []⟩,
         ⟨some 92, none, .mv (.t 91), []⟩,
         ⟨some 93, some (92, false), .mv (.t 10), []⟩,
         ⟨some 94, some (92, false), .call 14 [.t 93], []⟩,
         ⟨some 95, some (92, false), .bin .neq (.t 94) (.c (.int .u64 0)), []⟩,
         ⟨some 96, none, .pick (.t 92) (.c (.bool true)) (.t 95), []⟩,
         ⟨some 97, none, .mv (.t 96), []⟩,
         ⟨some 98, some (97, false), .mv (.t 10), []⟩,
         ⟨some 99, some (97, false), .call 15 [.t 98], []⟩,
         ⟨some 100, some (97, false), .eqn .iface true (.t 99), []⟩,
         ⟨some 101, none, .pick (.t 97) (.c (.bool true)) (.t 100), []⟩,
         ⟨some 102, none, .mv (.t 101), []⟩,
         ⟨some 103, some (102, false), .mv (.t 10), []⟩,
         ⟨some 104, some (102, false), .call 16 [.t 103], []⟩,
         ⟨some 105, some (102, false), .len .slice (.t 104), []⟩,
         ⟨some 106, some (102, false), .bin .neq (.t 105) (.c (.int .i64 0)), []⟩,
         ⟨some 107, none, .pick (.t 102) (.c (.bool true)) (.t 106), []⟩,
         ⟨some 108, none, .mv (.t 107), []⟩,
         ⟨some 109, some (108, false), .mv (.t 10), []⟩,
         ⟨some 110, some (108, false), .call 17 [.t 109], []⟩,
         ⟨some 111, some (108, false), .bin .neq (.t 110) (.c (.int .i64 0)), []⟩,
         ⟨some 112, none, .pick (.t 108) (.c (.bool true)) (.t 111), []⟩])
       (.cond (.t 112)
        (.seq
         (.ops 18 [⟨some 0, none, .mv (.c (.bool false)), []⟩])
         .ret)
        .skip)))))
   (.ops 19 [⟨some 113, none, .bin .add (.t 74) (.c (.int .i64 1)), []⟩,
     ⟨some 74, none, .mv (.t 113), []⟩]))))
/-- ticketline/ticketlinelaw27.DescendNone -/
noncomputable def F3 : AFn := ⟨135, [.tmp 0], (.seq
 (.ops 0 [⟨some 0, none, .mv (.c (.bool false)), []⟩])
 (.seq
  (.ops 1 [⟨some 15, none, .call 5 [.c (.int .i64 9)], []⟩,
    ⟨some 14, none, .mv (.t 15), []⟩,
    ⟨some 16, none, .ext (.t 14) 0, []⟩,
    ⟨some 17, none, .ext (.t 14) 1, []⟩,
    ⟨some 1, none, .mv (.t 16), []⟩,
    ⟨some 2, none, .mv (.t 17), []⟩])
  (.seq
   (.seq
    (.ops 2 [⟨some 18, none, .mv (.t 1), []⟩,
      ⟨some 19, none, .eqn .ptr false (.t 18), []⟩,
      ⟨some 20, none, .mv (.t 19), []⟩,
      ⟨some 21, some (20, false), .mv (.t 2), []⟩,
      ⟨some 22, some (20, false), .bin .neq (.t 21) (.c (.int .i64 0)), []⟩,
      ⟨some 23, none, .pick (.t 20) (.c (.bool true)) (.t 22), []⟩])
    (.cond (.t 23)
     (.seq
      (.ops 3 [⟨some 0, none, .mv (.c (.bool false)), []⟩])
      .ret)
     .skip))
   (.seq
    (.ops 4 [⟨some 3, none, .mv (.c (.nilp)), []⟩])
    (.seq
     (.ops 5 [⟨some 4, none, .mv (.c (.nilp)), []⟩])
     (.seq
      (.seq
       (.ops 6 [⟨some 24, none, .mv (.t 3), []⟩,
         ⟨some 25, none, .build [.int .i64 0, .int .i64 0, .str [], .int .i64 0, .int .i64 0, .int .i64 0, .int .i64 0, .nilp, .int .i64 0, .int .u64 0, .int .u64 0, .int .u64 0, .int .u64 0, .int .u64 0, .int .u64 0, .int .u64 0, .int .u64 0, .int .u64 0, .int .u64 0, .int .u64 0, .int .u64 0, .int .u64 0, .int .u64 0, .int .u64 0, .int .u64 0, .int .u64 0, .int .u64 0, .int .u64 0, .int .u64 0, .int .u64 0, .int .u64 0, .int .u64 0, .int .u64 0, .int .u64 0, .int .u64 0, .int .u64 0, .int .u64 0, .int .u64 0, .int .u64 0, .int .u64 0, .int .u64 0, .int .u64 0, .int .u64 0, .int .u64 0, .int .u64 0, .int .u64 0, .int .u64 0, .int .u64 0, .int .u64 0, .int .u64 0, .int .u64 0, .int .u64 0, .int .u64 0, .int .u64 0, .int .u64 0, .int .u64 0, .int .u64 0, .int .u64 0, .int .u64 0, .int .u64 0, .int .u64 0, .int .u64 0, .int .u64 0, .int .u64 0, .int .u64 0, .int .u64 0, .int .u64 0, .int .u64 0, .int .u64 0, .int .u64 0, .int .u64 0, .int .u64 0, .int .u64 0, .int .u64 0, .int .u64 0, .int .u64 0, .int .u64 0, .int .u64 0, .int .u64 0, .int .u64 0, .int .u64 0, .int .u64 0, .int .u64 0, .int .u64 0, .int .u64 0, .int .u64 0, .int .u64 0, .int .u64 0, .int .u64 0, .int .u64 0, .int .u64 0, .int .u64 0, .int .u64 0, .int .u64 0, .int .u64 0, .int .u64 0, .int .u64 0, .int .u64 0, .int .u64 0, .int .u64 0, .int .u64 0, .int .u64 0, .int .u64 0, .int .u64 0, .int .u64 0, .int .u64 0, .int .u64 0, .int .u64 0, .int .u64 0, .int .u64 0, .int .u64 0, .int .u64 0, .int .u64 0, .int .u64 0, .int .u64 0, .int .u64 0, .int .u64 0, .int .u64 0, .int .u64 0, .int .u64 0, .int .u64 0, .int .u64 0, .int .u64 0, .int .u64 0, .int .u64 0, .int .u64 0, .int .u64 0, .int .u64 0, .int .u64 0, .int .u64 0, .int .u64 0, .int .u64 0, .int .u64 0, .int .u64 0, .int .u64 0, .int .u64 0, .int .u64 0, .int .u64 0, .bool false] [], []⟩,
         ⟨some 26, none, .box 139 (.t 25) false, []⟩,
         ⟨some 27, none, .bslice [.nilp] 1 2 [(0, (.t 24)), (1, (.t 26))] true false, []⟩,
         ⟨some 28, none, .len .slice (.t 27), []⟩,
         ⟨some 29, none, .mv (.c (.int .i64 0)), []⟩])
       (.block 0
        (.loop [] B3x0)))
      (.seq
       (.seq
        (.ops 13 [⟨some 69, none, .mv (.t 4), []⟩,
          ⟨some 70, none, .build [.int .i64 0, .int .i64 0, .str [], .str [], .int .i64 0, .int .i64 0, .int .i64 0, .nilp, .nilp, .int .i64 0, .str [], .nils, .int .i64 0, .nils, .int .i64 0, .bool false] [], []⟩,
          ⟨some 71, none, .box 16 (.t 70) false, []⟩,
          ⟨some 72, none, .bslice [.nilp] 1 2 [(0, (.t 69)), (1, (.t 71))] true false, []⟩,
          ⟨some 73, none, .len .slice (.t 72), []⟩,
          ⟨some 74, none, .mv (.c (.int .i64 0)), []⟩])
        (.block 2
         (.loop [] B3x1)))
       (.seq
        (.ops 20 [⟨some 115, none, .call 19 [], []⟩,
          ⟨some 116, none, .call 18 [.t 115, .c (.str [97]), .c (.int .i64 0)], []⟩,
          ⟨some 114, none, .mv (.t 116), []⟩,
          ⟨some 117, none, .ext (.t 114) 0, []⟩,
          ⟨some 118, none, .ext (.t 114) 1, []⟩,
          ⟨some 13, none, .mv (.t 117), []⟩,
          ⟨some 2, none, .mv (.t 118), []⟩])
        (.seq
         (.seq
          (.ops 21 [⟨some 119, none, .mv (.t 13), []⟩,
            ⟨some 120, none, .eqn .ptr false (.t 119), []⟩,
            ⟨some 121, none, .mv (.t 120), []⟩,
            ⟨some 122, some (121, false), .mv (.t 2), []⟩,
            ⟨some 123, some (121, false), .bin .neq (.t 122) (.c (.int .i64 0)), []⟩,
            ⟨some 124, none, .pick (.t 121) (.c (.bool true)) (.t 123), []⟩])
          (.cond (.t 124)
           (.seq
            (.ops 22 [⟨some 0, none, .mv (.c (.bool false)), []⟩])
            .ret)
           .skip))
         (.seq
          (.ops 23 [⟨some 126, none, .mv (.t 13), []⟩,
            ⟨some 127, none, .call 6 [.t 126, .c (.nili)], []⟩,
            ⟨some 125, none, .mv (.t 127), []⟩,
            ⟨some 128, none, .ext (.t 125) 0, []⟩,
            ⟨some 129, none, .ext (.t 125) 1, []⟩,
            ⟨some 2, none, .mv (.t 129), []⟩])
          (.seq
           (.ops 24 [⟨some 130, none, .mv (.t 2), []⟩,
             ⟨some 131, none, .bin .eql (.t 130) (.c (.int .i64 1)), []⟩,
             ⟨some 132, none, .mv (.t 131), []⟩,
             ⟨some 133, some (132, true), .call 20 [], []⟩,
             ⟨some 134, none, .pick (.t 132) (.t 133) (.c (.bool false)), []⟩,
             ⟨some 0, none, .mv (.t 134), []⟩])
           .ret)))))))))))⟩
theorem F3_code : cfgA.code 3 = some F3 := by kernel_rfl

/-- ticketline/ticketlinelaw30.ReclaimNone: the round 0 -/
noncomputable def B4x0 : AC := (.seq
 (.ops 10 [⟨some 44, none, .bin .lss (.t 43) (.t 42), []⟩])
 (.seq
  (.cond (.t 44)
   .skip
   (.exit 0))
  (.seq
   (.block 1
    (.seq
     (.ops 11 [⟨some 45, none, .ixa none 1 (.t 41) (.t 43), []⟩,
       ⟨some 46, none, .ld 1 false (.t 45), []⟩,
       ⟨some 9, none, .mv (.t 46), []⟩])
     (.seq
      (.ops 12 [⟨some 48, none, .mv (.t 9), []⟩,
        ⟨some 49, none, .mv (.t 1), []⟩,
        ⟨some 50, none, .mki 22 (.t 49), []⟩,
        ⟨some 51, none, .call 21 [.t 48, .t 50], []⟩,
        ⟨some 47, none, .mv (.t 51), []⟩,
        ⟨some 52, none, .ext (.t 47) 0, []⟩,
        ⟨some 53, none, .ext (.t 47) 1, []⟩,
        ⟨some 10, none, .mv (.t 52), []⟩,
        ⟨some 11, none, .mv (.t 53), []⟩])
      (.seq
       (.ops 13 [⟨some 54, none, .mv (.t 11), []⟩,
         ⟨some 55, none, .bin .neq (.t 54) (.c (.int .i64 1)), []⟩,
         ⟨some 56, none, .mv (.t 55), []⟩,
         ⟨some 57, some (56, false), .mv (.t 9), []⟩,
         ⟨some 58, some (56, false), .call 22 [.t 57], []⟩,
         ⟨some 59, some (56, false), .un .not (.t 58), []⟩,
         ⟨some 60, none, .pick (.t 56) (.c (.bool true)) (.t 59), []⟩,
         ⟨some 61, none, .mv (.t 60), []⟩,
         ⟨some 62, some (61, false), .mv (.t 9), []⟩,
         ⟨some 63, some (61, false), .call 23 [.t 62], []⟩,
         ⟨some 64, some (61, false), .bin .neq (.t 63) (.c (.int .u64 0)), []⟩,
         ⟨some 65, none, .pick (.t 61) (.c (.bool true)) (.t 64), []⟩,
         ⟨some 66, none, .mv (.t 65), []⟩,
         ⟨some 67, some (66, false), .mv (.t 9), []⟩,
         ⟨some 68, some (66, false), .call 24 [.t 67], []⟩,
         ⟨some 69, some (66, false), .eqn .iface true (.t 68), []⟩,
         ⟨some 70, none, .pick (.t 66) (.c (.bool true)) (.t 69), []⟩])
       (.cond (.t 70)
        (.seq
         (.ops 14 [⟨some 0, none, .mv (.c (.bool false)), []⟩])
         .ret)
        .skip)))))
   (.ops 15 [⟨some 71, none, .bin .add (.t 43) (.c (.int .i64 1)), []⟩,
     ⟨some 43, none, .mv (.t 71), []⟩]))))
/-- ticketline/ticketlinelaw30.ReclaimNone: the round 1 -/
noncomputable def B4x1 : AC := (.seq
 (.ops 17 [⟨some 78, none, .bin .lss (.t 77) (.t 76), []⟩])
 (.seq
  (.cond (.t 78)
   .skip
   (.exit 2))
  (.seq
   (.block 3
    (.seq
     (.ops 18 [⟨some 79, none, .ixa none 1 (.t 75) (.t 77), []⟩,
       ⟨some 80, none, .ld 1 false (.t 79), []⟩,
       ⟨some 13, none, .mv (.t 80), []⟩])
     (.seq
      (.ops 19 [⟨some 82, none, .mv (.t 13), []⟩,
        ⟨some 83, none, .call 25 [.t 82], []⟩,
        ⟨some 81, none, .mv (.t 83), []⟩,
        ⟨some 84, none, .ext (.t 81) 0, []⟩,
        ⟨some 85, none, .ext (.t 81) 1, []⟩,
        ⟨some 86, none, .ext (.t 81) 2, []⟩,
        ⟨some 14, none, .alloc [.int .i64 0, .int .u64 0, .int .u64 0, .int .u64 0, .int .u64 0, .int .u64 0, .int .u64 0, .int .u64 0, .int .u64 0, .int .u64 0, .int .u64 0, .int .u64 0, .int .u64 0, .int .u64 0, .int .u64 0, .int .u64 0, .int .u64 0, .int .u64 0, .int .u64 0, .int .u64 0, .int .u64 0, .int .u64 0, .int .u64 0, .int .u64 0, .int .u64 0, .int .u64 0, .int .u64 0, .int .u64 0, .int .u64 0, .int .u64 0, .int .u64 0, .int .u64 0, .int .u64 0, .int .u64 0, .int .u64 0, .int .u64 0, .int .u64 0, .int .u64 0, .int .u64 0, .int .u64 0, .int .u64 0, .int .u64 0, .int .u64 0, .int .u64 0, .int .u64 0, .int .u64 0, .int .u64 0, .int .u64 0, .int .u64 0, .int .u64 0, .int .u64 0, .int .u64 0, .int .u64 0, .int .u64 0, .int .u64 0, .int .u64 0, .int .u64 0, .int .u64 0, .int .u64 0, .int .u64 0, .int .u64 0, .int .u64 0, .int .u64 0, .int .u64 0, .int .u64 0, .int .u64 0, .int .u64 0, .int .u64 0, .int .u64 0, .int .u64 0, .int .u64 0, .int .u64 0, .int .u64 0, .int .u64 0, .int .u64 0, .int .u64 0, .int .u64 0, .int .u64 0, .int .u64 0, .int .u64 0, .int .u64 0, .int .u64 0, .int .u64 0, .int .u64 0, .int .u64 0, .int .u64 0, .int .u64 0, .int .u64 0, .int .u64 0, .int .u64 0, .int .u64 0, .int .u64 0, .int .u64 0, .int .u64 0, .int .u64 0, .int .u64 0, .int .u64 0, .int .u64 0, .int .u64 0, .int .u64 0, .int .u64 0, .int .u64 0, .int .u64 0, .int .u64 0, .int .u64 0, .int .u64 0, .int .u64 0, .int .u64 0, .int .u64 0, .int .u64 0, .int .u64 0, .int .u64 0, .int .u64 0, .int .u64 0, .int .u64 0, .int .u64 0, .int .u64 0, .int .u64 0, .int .u64 0, .int .u64 0, .int .u64 0, .int .u64 0, .int .u64 0, .int .u64 0, .int .u64 0, .int .u64 0, .int .u64 0, .int .u64 0, .int .u64 0, .int .u64 0] false, []⟩,
        ⟨some 15, none, .alloc [.int .i64 0, .int .u64 0, .int .u64 0, .int .u64 0, .int .u64 0, .int .u64 0, .int .u64 0, .int .u64 0, .int .u64 0, .int .u64 0, .int .u64 0, .int .u64 0, .int .u64 0, .int .u64 0, .int .u64 0, .int .u64 0, .int .u64 0, .int .u64 0, .int .u64 0, .int .u64 0, .int .u64 0, .int .u64 0, .int .u64 0, .int .u64 0, .int .u64 0, .int .u64 0, .int .u64 0, .int .u64 0, .int .u64 0, .int .u64 0, .int .u64 0, .int .u64 0, .int .u64 0, .int .u64 0, .int .u64 0, .int .u64 0, .int .u64 0, .int .u64 0, .int .u64 0, .int .u64 0, .int .u64 0, .int .u64 0, .int .u64 0, .int .u64 0, .int .u64 0, .int .u64 0, .int .u64 0, .int .u64 0, .int .u64 0, .int .u64 0, .int .u64 0, .int .u64 0, .int .u64 0, .int .u64 0, .int .u64 0, .int .u64 0, .int .u64 0, .int .u64 0, .int .u64 0, .int .u64 0, .int .u64 0, .int .u64 0, .int .u64 0, .int .u64 0, .int .u64 0, .int .u64 0, .int .u64 0, .int .u64 0, .int .u64 0, .int .u64 0, .int .u64 0, .int .u64 0, .int .u64 0, .int .u64 0, .int .u64 0, .int .u64 0, .int .u64 0, .int .u64 0, .int .u64 0, .int .u64 0, .int .u64 0, .int .u64 0, .int .u64 0, .int .u64 0, .int .u64 0, .int .u64 0, .int .u64 0, .int .u64 0, .int .u64 0, .int .u64 0, .int .u64 0, .int .u64 0, .int .u64 0, .int .u64 0, .int .u64 0, .int .u64 0, .int .u64 0, .int .u64 0, .int .u64 0, .int .u64 0, .int .u64 0, .int .u64 0, .int .u64 0, .int .u64 0, .int .u64 0, .int .u64 0, .int .u64 0, .int .u64 0, .int .u64 0, .int .u64 0, .int .u64 0, .int .u64 0, .int .u64 0, .int .u64 0, .int .u64 0, .int .u64 0, .int .u64 0, .int .u64 0, .int .u64 0, .int .u64 0, .int .u64 0, .int .u64 0, .int .u64 0, .int .u64 0, .int .u64 0, .int .u64 0, .int .u64 0, .int .u64 0, .int .u64 0, .int .u64 0] false, []⟩,
        ⟨some 16, none, .alloc [.int .i64 0, .int .u64 0, .int .u64 0, .int .u64 0, .int .u64 0, .int .u64 0, .int .u64 0, .int .u64 0, .int .u64 0, .int .u64 0, .int .u64 0, .int .u64 0, .int .u64 0, .int .u64 0, .int .u64 0, .int .u64 0, .int .u64 0, .int .u64 0, .int .u64 0, .int .u64 0, .int .u64 0, .int .u64 0, .int .u64 0, .int .u64 0, .int .u64 0, .int .u64 0, .int .u64 0, .int .u64 0, .int .u64 0, .int .u64 0, .int .u64 0, .int .u64 0, .int .u64 0, .int .u64 0, .int .u64 0, .int .u64 0, .int .u64 0, .int .u64 0, .int .u64 0, .int .u64 0, .int .u64 0, .int .u64 0, .int .u64 0, .int .u64 0, .int .u64 0, .int .u64 0, .int .u64 0, .int .u64 0, .int .u64 0, .int .u64 0, .int .u64 0, .int .u64 0, .int .u64 0, .int .u64 0, .int .u64 0, .int .u64 0, .int .u64 0, .int .u64 0, .int .u64 0, .int .u64 0, .int .u64 0, .int .u64 0, .int .u64 0, .int .u64 0, .int .u64 0, .int .u64 0, .int .u64 0, .int .u64 0, .int .u64 0, .int .u64 0, .int .u64 0, .int .u64 0, .int .u64 0, .int .u64 0, .int .u64 0, .int .u64 0, .int .u64 0, .int .u64 0, .int .u64 0, .int .u64 0, .int .u64 0, .int .u64 0, .int .u64 0, .int .u64 0, .int .u64 0, .int .u64 0, .int .u64 0, .int .u64 0, .int .u64 0, .int .u64 0, .int .u64 0, .int .u64 0, .int .u64 0, .int .u64 0, .int .u64 0, .int .u64 0, .int .u64 0, .int .u64 0, .int .u64 0, .int .u64 0, .int .u64 0, .int .u64 0, .int .u64 0, .int .u64 0, .int .u64 0, .int .u64 0, .int .u64 0, .int .u64 0, .int .u64 0, .int .u64 0, .int .u64 0, .int .u64 0, .int .u64 0, .int .u64 0, .int .u64 0, .int .u64 0, .int .u64 0, .int .u64 0, .int .u64 0, .int .u64 0, .int .u64 0, .int .u64 0, .int .u64 0, .int .u64 0, .int .u64 0, .int .u64 0, .int .u64 0, .int .u64 0, .int .u64 0, .int .u64 0] false, []⟩,
        ⟨none, none, .st 130 (.t 14) (.t 84), []⟩,
        ⟨none, none, .st 130 (.t 15) (.t 85), []⟩,
        ⟨none, none, .st 130 (.t 16) (.t 86), []⟩])
      (.seq
       (.ops 20 [⟨some 88, none, .mv (.t 13), []⟩,
         ⟨some 89, none, .mv (.t 1), []⟩,
         ⟨some 90, none, .mki 22 (.t 89), []⟩,
         ⟨some 91, none, .call 26 [.t 88, .t 90], []⟩,
         ⟨some 87, none, .mv (.t 91), []⟩,
         ⟨some 92, none, .ext (.t 87) 0, []⟩,
         ⟨some 93, none, .ext (.t 87) 1, []⟩,
         ⟨some 17, none, .mv (.t 92), []⟩,
         ⟨some 18, none, .mv (.t 93), []⟩])
       (.seq
        (.ops 21 [⟨some 94, none, .mv (.t 18), []⟩,
          ⟨some 95, none, .bin .neq (.t 94) (.c (.int .i64 1)), []⟩,
          ⟨some 96, none, .mv (.t 95), []⟩,
          ⟨some 97, some (96, false), .mv (.t 13), []⟩,
          ⟨some 98, some (96, false), .call 27 [.t 97], []⟩,
          ⟨some 99, some (96, false), .un .not (.t 98), []⟩,
          ⟨some 100, none, .pick (.t 96) (.c (.bool true)) (.t 99), []⟩,
          ⟨some 101, none, .mv (.t 100), []⟩,
          ⟨some 102, some (101, false), .mv (.t 13), []⟩,
          ⟨some 103, some (101, false), .call 28 [.t 102], []⟩,
          ⟨some 104, some (101, false), .bin .neq (.t 103) (.c (.int .u64 0)), []⟩,
          ⟨some 105, none, .pick (.t 101) (.c (.bool true)) (.t 104), []⟩,
          ⟨some 106, none, .mv (.t 105), []⟩,
          ⟨some 107, some (106, false), .mv (.t 13), []⟩,
          ⟨some 108, some (106, false), .call 29 [.t 107], []⟩,
          ⟨some 109, some (106, false), .eqn .iface true (.t 108), []⟩,
          ⟨some 110, none, .pick (.t 106) (.c (.bool true)) (.t 109), []⟩,
          ⟨some 111, none, .mv (.t 110), []⟩,
          ⟨some 112, some (111, false), .ld 130 true (.t 14), []⟩,
          ⟨some 113, some (111, false), .ld 130 true (.t 7), []⟩,
          ⟨some 114, some (111, false), .eqs true [.int, .int, .int, .int, .int, .int, .int, .int, .int, .int, .int, .int, .int, .int, .int, .int, .int, .int, .int, .int, .int, .int, .int, .int, .int, .int, .int, .int, .int, .int, .int, .int, .int, .int, .int, .int, .int, .int, .int, .int, .int, .int, .int, .int, .int, .int, .int, .int, .int, .int, .int, .int, .int, .int, .int, .int, .int, .int, .int, .int, .int, .int, .int, .int, .int, .int, .int, .int, .int, .int, .int, .int, .int, .int, .int, .int, .int, .int, .int, .int, .int, .int, .int, .int, .int, .int, .int, .int, .int, .int, .int, .int, .int, .int, .int, .int, .int, .int, .int, .int, .int, .int, .int, .int, .int, .int, .int, .int, .int, .int, .int, .int, .int, .int, .int, .int, .int, .int, .int, .int, .int, .int, .int, .int, .int, .int, .int, .int, .int, .int] (.t 112) (.t 113), []⟩,
          ⟨some 115, none, .pick (.t 111) (.c (.bool true)) (.t 114), []⟩,
          ⟨some 116, none, .mv (.t 115), []⟩,
          ⟨some 117, some (116, false), .ld 130 true (.t 15), []⟩,
          ⟨some 118, some (116, false), .ld 130 true (.t 7), []⟩,
          ⟨some 119, some (116, false), .eqs true [.int, .int, .int, .int, .int, .int, .int, .int, .int, .int, .int, .int, .int, .int, .int, .int, .int, .int, .int, .int, .int, .int, .int, .int, .int, .int, .int, .int, .int, .int, .int, .int, .int, .int, .int, .int, .int, .int, .int, .int, .int, .int, .int, .int, .int, .int, .int, .int, .int, .int, .int, .int, .int, .int, .int, .int, .int, .int, .int, .int, .int, .int, .int, .int, .int, .int, .int, .int, .int, .int, .int, .int, .int, .int, .int, .int, .int, .int, .int, .int, .int, .int, .int, .int, .int, .int, .int, .int, .int, .int, .int, .int, .int, .int, .int, .int, .int, .int, .int, .int, .int, .int, .int, .int, .int, .int, .int, .int, .int, .int, .int, .int, .int, .int, .int, .int, .int, .int, .int, .int, .int, .int, .int, .int, .int, .int, .int, .int, .int, .int] (.t 117) (.t 118), []⟩,
          ⟨some 120, none, .pick (.t 116) (.c (.bool true)) (.t 119), []⟩,
          ⟨some 121, none, .mv (.t 120), []⟩,
          ⟨some 122, some (121, false), .ld 130 true (.t 16), []⟩,
          ⟨some 123, some (121, false), .ld 130 true (.t 7), []⟩,
          ⟨some 124, some (121, false), .eqs true [.int, .int, .int, .int, .int, .int, .int, .int, .int, .int, .int, .int, .int, .int, .int, .int, .int, .int, .int, .int, .int, .int, .int, .int, .int, .int, .int, .int, .int, .int, .int, .int, .int, .int, .int, .int, .int, .int, .int, .int, .int, .int, .int, .int, .int, .int, .int, .int, .int, .int, .int, .int, .int, .int, .int, .int, .int, .int, .int, .int, .int, .int, .int, .int, .int, .int, .int, .int, .int, .int, .int, .int, .int, .int, .int, .int, .int, .int, .int, .int, .int, .int, .int, .int, .int, .int, .int, .int, .int, .int, .int, .int, .int, .int, .int, .int, .int, .int, .int, .int, .int, .int, .int, .int, .int, .int, .int, .int, .int, .int, .int, .int, .int, .int, .int, .int, .int, .int, .int, .int, .int, .int, .int, .int, .int, .int, .int, .int, .int, .int] (.t 122) (.t 123), []⟩,
          ⟨some 125, none, .pick (.t 121) (.c (.bool true)) (.t 124), []⟩])
        (.cond (.t 125)
         (.seq
          (.ops 22 [⟨some 0, none, .mv (.c (.bool false)), []⟩])
          .ret)
         .skip))))))
   (.ops 23 [⟨some 126, none, .bin .add (.t 77) (.c (.int .i64 1)), []⟩,
     ⟨some 77, none, .mv (.t 126), []⟩]))))
/-- ticketline/ticketlinelaw30.ReclaimNone: the round 2 -/
noncomputable def B4x2 : AC := (.seq
 (.ops 25 [⟨some 133, none, .bin .lss (.t 132) (.t 131), []⟩])
 (.seq
  (.cond (.t 133)
   .skip
   (.exit 4))
  (.seq
   (.block 5
    (.seq
     (.ops 26 [⟨some 134, none, .ixa none 1 (.t 130) (.t 132), []⟩,
       ⟨some 135, none, .ld 1 false (.t 134), []⟩,
       ⟨some 20, none, .mv (.t 135), []⟩])
     (.seq
      (.ops 27 [⟨some 137, none, .mv (.t 20), []⟩,
        ⟨some 138, none, .mv (.t 1), []⟩,
        ⟨some 139, none, .mki 22 (.t 138), []⟩,
        ⟨some 140, none, .call 30 [.t 137, .t 139], []⟩,
        ⟨some 136, none, .mv (.t 140), []⟩,
        ⟨some 141, none, .ext (.t 136) 0, []⟩,
        ⟨some 142, none, .ext (.t 136) 1, []⟩,
        ⟨some 21, none, .mv (.t 141), []⟩,
        ⟨some 22, none, .mv (.t 142), []⟩])
      (.seq
       (.ops 28 [⟨some 143, none, .mv (.t 22), []⟩,
         ⟨some 144, none, .bin .neq (.t 143) (.c (.int .i64 1)), []⟩,
         ⟨some 145, none, .mv (.t 144), []⟩,
         ⟨some 146, some (145, false), .mv (.t 20), []⟩,
         ⟨some 147, some (145, false), .call 31 [.t 146], []⟩,
         ⟨some 148, some (145, false), .un .not (.t 147), []⟩,
         ⟨some 149, none, .pick (.t 145) (.c (.bool true)) (.t 148), []⟩,
         ⟨some 150, none, .mv (.t 149), []⟩,
         ⟨some 151, some (150, false), .mv (.t 20), []⟩,
         ⟨some 152, some (150, false), .call 32 [.t 151], []⟩,
         ⟨some 153, some (150, false), .bin .neq (.t 152) (.c (.int .u64 0)), []⟩,
         ⟨some 154, none, .pick (.t 150) (.c (.bool true)) (.t 153), []⟩,
         ⟨some 155, none, .mv (.t 154), []⟩,
         ⟨some 156, some (155, false), .mv (.t 20), []⟩,
         ⟨some 157, some (155, false), .call 33 [.t 156], []⟩,
         ⟨some 158, some (155, false), .eqn .iface true (.t 157), []⟩,
         ⟨some 159, none, .pick (.t 155) (.c (.bool true)) (.t 158), []⟩])
       (.cond (.t 159)
        (.seq
         (.ops 29 [⟨some 0, none, .mv (.c (.bool false)), []⟩])
         .ret)
        .skip)))))
   (.ops 30 [⟨some 160, none, .bin .add (.t 132) (.c (.int .i64 1)), []⟩,
     ⟨some 132, none, .mv (.t 160), []⟩]))))
/-- ticketline/ticketlinelaw30.ReclaimNone: the round 3 -/
noncomputable def B4x3 : AC := (.seq
 (.ops 32 [⟨some 167, none, .bin .lss (.t 166) (.t 165), []⟩])
 (.seq
  (.cond (.t 167)
   .skip
   (.exit 6))
  (.seq
   (.block 7
    (.seq
     (.ops 33 [⟨some 168, none, .ixa none 1 (.t 164) (.t 166), []⟩,
       ⟨some 169, none, .ld 1 false (.t 168), []⟩,
       ⟨some 24, none, .mv (.t 169), []⟩])
     (.seq
      (.ops 34 [⟨some 171, none, .mv (.t 24), []⟩,
        ⟨some 172, none, .mv (.t 1), []⟩,
        ⟨some 173, none, .mki 22 (.t 172), []⟩,
        ⟨some 174, none, .call 34 [.t 171, .t 173], []⟩,
        ⟨some 170, none, .mv (.t 174), []⟩,
        ⟨some 175, none, .ext (.t 170) 0, []⟩,
        ⟨some 176, none, .ext (.t 170) 1, []⟩,
        ⟨some 25, none, .mv (.t 175), []⟩,
        ⟨some 26, none, .mv (.t 176), []⟩])
      (.seq
       (.ops 35 [⟨some 177, none, .mv (.t 26), []⟩,
         ⟨some 178, none, .bin .neq (.t 177) (.c (.int .i64 1)), []⟩,
         ⟨some 179, none, .mv (.t 178), []⟩,
         ⟨some 180, some (179, false), .mv (.t 24), []⟩,
         ⟨some 181, some (179, false), .call 35 [.t 180], []⟩,
         ⟨some 182, some (179, false), .un .not (.t 181), []⟩,
         ⟨some 183, none, .pick (.t 179) (.c (.bool true)) (.t 182), []⟩,
         ⟨some 184, none, .mv (.t 183), []⟩,
         ⟨some 185, some (184, false), .mv (.t 24), []⟩,
         ⟨some 186, some (184, false), .call 36 [.t 185], []⟩,
         ⟨some 187, some (184, false), .bin .neq (.t 186) (.c (.int .u64 0)), []⟩,
         ⟨some 188, none, .pick (.t 184) (.c (.bool true)) (.t 187), []⟩,
         ⟨some 189, none, .mv (.t 188), []⟩,
         ⟨some 190, some (189, false), .mv (.t 24), []⟩,
         ⟨some 191, some (189, false), .call 37 [.t 190], []⟩,
         ⟨some 192, some (189, false), .eqn .iface true (.t 191), []⟩,
         ⟨some 193, none, .pick (.t 189) (.c (.bool true)) (.t 192), []⟩])
       (.cond (.t 193)
        (.seq
         (.ops 36 [⟨some 0, none, .mv (.c (.bool false)), []⟩])
         .ret)
        .skip)))))
   (.ops 37 [⟨some 194, none, .bin .add (.t 166) (.c (.int .i64 1)), []⟩,
     ⟨some 166, none, .mv (.t 194), []⟩]))))
/-- ticketline/ticketlinelaw30.ReclaimNone -/
noncomputable def F4 : AFn := ⟨196, [.tmp 0], (.seq
 (.ops 0 [⟨some 0, none, .mv (.c (.bool false)), []⟩])
 (.seq
  (.ops 1 [⟨some 28, none, .call 5 [.c (.int .i64 9)], []⟩,
    ⟨some 27, none, .mv (.t 28), []⟩,
    ⟨some 29, none, .ext (.t 27) 0, []⟩,
    ⟨some 30, none, .ext (.t 27) 1, []⟩,
    ⟨some 1, none, .mv (.t 29), []⟩,
    ⟨some 2, none, .mv (.t 30), []⟩])
  (.seq
   (.seq
    (.ops 2 [⟨some 31, none, .mv (.t 1), []⟩,
      ⟨some 32, none, .eqn .ptr false (.t 31), []⟩,
      ⟨some 33, none, .mv (.t 32), []⟩,
      ⟨some 34, some (33, false), .mv (.t 2), []⟩,
      ⟨some 35, some (33, false), .bin .neq (.t 34) (.c (.int .i64 0)), []⟩,
      ⟨some 36, none, .pick (.t 33) (.c (.bool true)) (.t 35), []⟩])
    (.cond (.t 36)
     (.seq
      (.ops 3 [⟨some 0, none, .mv (.c (.bool false)), []⟩])
      .ret)
     .skip))
   (.seq
    (.ops 4 [⟨some 3, none, .mv (.c (.nilp)), []⟩])
    (.seq
     (.ops 5 [⟨some 4, none, .mv (.c (.nilp)), []⟩])
     (.seq
      (.ops 6 [⟨some 5, none, .mv (.c (.nilp)), []⟩])
      (.seq
       (.ops 7 [⟨some 6, none, .mv (.c (.nilp)), []⟩])
       (.seq
        (.ops 8 [⟨some 37, none, .build [.int .i64 0, .int .u64 0, .int .u64 0, .int .u64 0, .int .u64 0, .int .u64 0, .int .u64 0, .int .u64 0, .int .u64 0, .int .u64 0, .int .u64 0, .int .u64 0, .int .u64 0, .int .u64 0, .int .u64 0, .int .u64 0, .int .u64 0, .int .u64 0, .int .u64 0, .int .u64 0, .int .u64 0, .int .u64 0, .int .u64 0, .int .u64 0, .int .u64 0, .int .u64 0, .int .u64 0, .int .u64 0, .int .u64 0, .int .u64 0, .int .u64 0, .int .u64 0, .int .u64 0, .int .u64 0, .int .u64 0, .int .u64 0, .int .u64 0, .int .u64 0, .int .u64 0, .int .u64 0, .int .u64 0, .int .u64 0, .int .u64 0, .int .u64 0, .int .u64 0, .int .u64 0, .int .u64 0, .int .u64 0, .int .u64 0, .int .u64 0, .int .u64 0, .int .u64 0, .int .u64 0, .int .u64 0, .int .u64 0, .int .u64 0, .int .u64 0, .int .u64 0, .int .u64 0, .int .u64 0, .int .u64 0, .int .u64 0, .int .u64 0, .int .u64 0, .int .u64 0, .int .u64 0, .int .u64 0, .int .u64 0, .int .u64 0, .int .u64 0, .int .u64 0, .int .u64 0, .int .u64 0, .int .u64 0, .int .u64 0, .int .u64 0, .int .u64 0, .int .u64 0, .int .u64 0, .int .u64 0, .int .u64 0, .int .u64 0, .int .u64 0, .int .u64 0, .int .u64 0, .int .u64 0, .int .u64 0, .int .u64 0, .int .u64 0, .int .u64 0, .int .u64 0, .int .u64 0, .int .u64 0, .int .u64 0, .int .u64 0, .int .u64 0, .int .u64 0, .int .u64 0, .int .u64 0, .int .u64 0, .int .u64 0, .int .u64 0, .int .u64 0, .int .u64 0, .int .u64 0, .int .u64 0, .int .u64 0, .int .u64 0, .int .u64 0, .int .u64 0, .int .u64 0, .int .u64 0, .int .u64 0, .int .u64 0, .int .u64 0, .int .u64 0, .int .u64 0, .int .u64 0, .int .u64 0, .int .u64 0, .int .u64 0, .int .u64 0, .int .u64 0, .int .u64 0, .int .u64 0, .int .u64 0, .int .u64 0, .int .u64 0, .int .u64 0, .int .u64 0] [], []⟩,
          ⟨some 7, none, .alloc [.int .i64 0, .int .u64 0, .int .u64 0, .int .u64 0, .int .u64 0, .int .u64 0, .int .u64 0, .int .u64 0, .int .u64 0, .int .u64 0, .int .u64 0, .int .u64 0, .int .u64 0, .int .u64 0, .int .u64 0, .int .u64 0, .int .u64 0, .int .u64 0, .int .u64 0, .int .u64 0, .int .u64 0, .int .u64 0, .int .u64 0, .int .u64 0, .int .u64 0, .int .u64 0, .int .u64 0, .int .u64 0, .int .u64 0, .int .u64 0, .int .u64 0, .int .u64 0, .int .u64 0, .int .u64 0, .int .u64 0, .int .u64 0, .int .u64 0, .int .u64 0, .int .u64 0, .int .u64 0, .int .u64 0, .int .u64 0, .int .u64 0, .int .u64 0, .int .u64 0, .int .u64 0, .int .u64 0, .int .u64 0, .int .u64 0, .int .u64 0, .int .u64 0, .int .u64 0, .int .u64 0, .int .u64 0, .int .u64 0, .int .u64 0, .int .u64 0, .int .u64 0, .int .u64 0, .int .u64 0, .int .u64 0, .int .u64 0, .int .u64 0, .int .u64 0, .int .u64 0, .int .u64 0, .int .u64 0, .int .u64 0, .int .u64 0, .int .u64 0, .int .u64 0, .int .u64 0, .int .u64 0, .int .u64 0, .int .u64 0, .int .u64 0, .int .u64 0, .int .u64 0, .int .u64 0, .int .u64 0, .int .u64 0, .int .u64 0, .int .u64 0, .int .u64 0, .int .u64 0, .int .u64 0, .int .u64 0, .int .u64 0, .int .u64 0, .int .u64 0, .int .u64 0, .int .u64 0, .int .u64 0, .int .u64 0, .int .u64 0, .int .u64 0, .int .u64 0, .int .u64 0, .int .u64 0, .int .u64 0, .int .u64 0, .int .u64 0, .int .u64 0, .int .u64 0, .int .u64 0, .int .u64 0, .int .u64 0, .int .u64 0, .int .u64 0, .int .u64 0, .int .u64 0, .int .u64 0, .int .u64 0, .int .u64 0, .int .u64 0, .int .u64 0, .int .u64 0, .int .u64 0, .int .u64 0, .int .u64 0, .int .u64 0, .int .u64 0, .int .u64 0, .int .u64 0, .int .u64 0, .int .u64 0, .int .u64 0, .int .u64 0, .int .u64 0, .int .u64 0] false, []⟩,
          ⟨none, none, .st 130 (.t 7) (.t 37), []⟩])
        (.seq
         (.seq
          (.ops 9 [⟨some 38, none, .mv (.t 3), []⟩,
            ⟨some 39, none, .build [.int .i64 0, .int .i64 0, .int .i64 0, .int .u64 0, .int .i64 0, .nili, .int .u64 0, .int .u64 0] [], []⟩,
            ⟨some 40, none, .box 8 (.t 39) false, []⟩,
            ⟨some 41, none, .bslice [.nilp] 1 2 [(0, (.t 38)), (1, (.t 40))] true false, []⟩,
            ⟨some 42, none, .len .slice (.t 41), []⟩,
            ⟨some 43, none, .mv (.c (.int .i64 0)), []⟩])
          (.block 0
           (.loop [] B4x0)))
         (.seq
          (.seq
           (.ops 16 [⟨some 72, none, .mv (.t 4), []⟩,
             ⟨some 73, none, .build [.int .i64 0, .int .i64 0, .int .i64 0, .int .i64 0, .int .u64 0, .int .u64 0, .int .u64 0, .int .u64 0, .int .u64 0, .int .u64 0, .int .u64 0, .int .u64 0, .int .u64 0, .int .u64 0, .int .u64 0, .int .u64 0, .int .u64 0, .int .u64 0, .int .u64 0, .int .u64 0, .int .u64 0, .int .u64 0, .int .u64 0, .int .u64 0, .int .u64 0, .int .u64 0, .int .u64 0, .int .u64 0, .int .u64 0, .int .u64 0, .int .u64 0, .int .u64 0, .int .u64 0, .int .u64 0, .int .u64 0, .int .u64 0, .int .u64 0, .int .u64 0, .int .u64 0, .int .u64 0, .int .u64 0, .int .u64 0, .int .u64 0, .int .u64 0, .int .u64 0, .int .u64 0, .int .u64 0, .int .u64 0, .int .u64 0, .int .u64 0, .int .u64 0, .int .u64 0, .int .u64 0, .int .u64 0, .int .u64 0, .int .u64 0, .int .u64 0, .int .u64 0, .int .u64 0, .int .u64 0, .int .u64 0, .int .u64 0, .int .u64 0, .int .u64 0, .int .u64 0, .int .u64 0, .int .u64 0, .int .u64 0, .int .u64 0, .int .u64 0, .int .u64 0, .int .u64 0, .int .u64 0, .int .u64 0, .int .u64 0, .int .u64 0, .int .u64 0, .int .u64 0, .int .u64 0, .int .u64 0, .int .u64 0, .int .u64 0, .int .u64 0, .int .u64 0, .int .u64 0, .int .u64 0, .int .u64 0, .int .u64 0, .int .u64 0, .int .u64 0, .int .u64 0, .int .u64 0, .int .u64 0, .int .u64 0, .int .u64 0, .int .u64 0, .int .u64 0, .int .u64 0, .int .u64 0, .int .u64 0, .int .u64 0, .int .u64 0, .int .u64 0, .int .u64 0, .int .u64 0, .int .u64 0, .int .u64 0, .int .u64 0, .int .u64 0, .int .u64 0, .int .u64 0, .int .u64 0, .int .u64 0, .int .u64 0, .int .u64 0, .int .u64 0, .int .u64 0, .int .u64 0, .int .u64 0, .int .u64 0, .int .u64 0, .int .u64 0, .int .u64 0, .int .u64 0, .int .u64 0, .int .u64 0, .int .u64 0, .int .u64 0, .int .u64 0, .int .u64 0, .int .u64 0, .int .u64 0, .int .u64 0, .int .i64 0, .int .u64 0, .int .u64 0, .int .u64 0, .int .u64 0, .int .u64 0, .int .u64 0, .int .u64 0, .int .u64 0, .int .u64 0, .int .u64 0, .int .u64 0, .int .u64 0, .int .u64 0, .int .u64 0, .int .u64 0, .int .u64 0, .int .u64 0, .int .u64 0, .int .u64 0, .int .u64 0, .int .u64 0, .int .u64 0, .int .u64 0, .int .u64 0, .int .u64 0, .int .u64 0, .int .u64 0, .int .u64 0, .int .u64 0, .int .u64 0, .int .u64 0, .int .u64 0, .int .u64 0, .int .u64 0, .int .u64 0, .int .u64 0, .int .u64 0, .int .u64 0, .int .u64 0, .int .u64 0, .int .u64 0, .int .u64 0, .int .u64 0, .int .u64 0, .int .u64 0, .int .u64 0, .int .u64 0, .int .u64 0, .int .u64 0, .int .u64 0, .int .u64 0, .int .u64 0, .int .u64 0, .int .u64 0, .int .u64 0, .int .u64 0, .int .u64 0, .int .u64 0, .int .u64 0, .int .u64 0, .int .u64 0, .int .u64 0, .int .u64 0, .int .u64 0, .int .u64 0, .int .u64 0, .int .u64 0, .int .u64 0, .int .u64 0, .int .u64 0, .int .u64 0, .int .u64 0, .int .u64 0, .int .u64 0, .int .u64 0, .int .u64 0, .int .u64 0, .int .u64 0, .int .u64 0, .int .u64 0, .int .u64 0, .int .u64 0, .int .u64 0, .int .u64 0, .int .u64 0, .int .u64 0, .int .u64 0, .int .u64 0, .int .u64 0, .int .u64 0, .int .u64 0, .int .u64 0, .int .u64 0, .int .u64 0, .int .u64 0, .int .u64 0, .int .u64 0, .int .u64 0, .int .u64 0, .int .u64 0, .int .u64 0, .int .u64 0, .int .u64 0, .int .u64 0, .int .u64 0, .int .u64 0, .int .u64 0, .int .u64 0, .int .u64 0, .int .u64 0, .int .u64 0, .int .u64 0, .int .u64 0, .int .u64 0, .int .u64 0, .int .u64 0, .int .u64 0, .int .u64 0, .int .u64 0, .int .u64 0, .int .u64 0, .int .u64 0, .int .u64 0, .int .u64 0, .int .u64 0, .int .u64 0, .int .u64 0, .int .u64 0, .int .u64 0, .int .i64 0, .int .u64 0, .int .u64 0, .int .u64 0, .int .u64 0, .int .u64 0, .int .u64 0, .int .u64 0, .int .u64 0, .int .u64 0, .int .u64 0, .int .u64 0, .int .u64 0, .int .u64 0, .int .u64 0, .int .u64 0, .int .u64 0, .int .u64 0, .int .u64 0, .int .u64 0, .int .u64 0, .int .u64 0, .int .u64 0, .int .u64 0, .int .u64 0, .int .u64 0, .int .u64 0, .int .u64 0, .int .u64 0, .int .u64 0, .int .u64 0, .int .u64 0, .int .u64 0, .int .u64 0, .int .u64 0, .int .u64 0, .int .u64 0, .int .u64 0, .int .u64 0, .int .u64 0, .int .u64 0, .int .u64 0, .int .u64 0, .int .u64 0, .int .u64 0, .int .u64 0, .int .u64 0, .int .u64 0, .int .u64 0, .int .u64 0, .int .u64 0, .int .u64 0, .int .u64 0, .int .u64 0, .int .u64 0, .int .u64 0, .int .u64 0, .int .u64 0, .int .u64 0, .int .u64 0, .int .u64 0, .int .u64 0, .int .u64 0, .int .u64 0, .int .u64 0, .int .u64 0, .int .u64 0, .int .u64 0, .int .u64 0, .int .u64 0, .int .u64 0, .int .u64 0, .int .u64 0, .int .u64 0, .int .u64 0, .int .u64 0, .int .u64 0, .int .u64 0, .int .u64 0, .int .u64 0, .int .u64 0, .int .u64 0, .int .u64 0, .int .u64 0, .int .u64 0, .int .u64 0, .int .u64 0, .int .u64 0, .int .u64 0, .int .u64 0, .int .u64 0, .int .u64 0, .int .u64 0, .int .u64 0, .int .u64 0, .int .u64 0, .int .u64 0, .int .u64 0, .int .u64 0, .int .u64 0, .int .u64 0, .int .u64 0, .int .u64 0, .int .u64 0, .int .u64 0, .int .u64 0, .int .u64 0, .int .u64 0, .int .u64 0, .int .u64 0, .int .u64 0, .int .u64 0, .int .u64 0, .int .u64 0, .int .u64 0, .int .u64 0, .int .u64 0, .int .u64 0, .int .u64 0, .int .u64 0, .int .u64 0, .int .u64 0, .int .u64 0, .int .u64 0, .int .u64 0, .int .u64 0, .int .u64 0, .int .u64 0, .int .u64 0, .int .u64 0, .bool false, .bool false, .int .i64 0, .nili] [], []⟩,
             ⟨some 74, none, .box 397 (.t 73) false, []⟩,
             ⟨some 75, none, .bslice [.nilp] 1 2 [(0, (.t 72)), (1, (.t 74))] true false, []⟩,
             ⟨some 76, none, .len .slice (.t 75), []⟩,
             ⟨some 77, none, .mv (.c (.int .i64 0)), []⟩])
           (.block 2
            (.loop [] B4x1)))
          (.seq
           (.seq
            (.ops 24 [⟨some 127, none, .mv (.t 5), []⟩,
              ⟨some 128, none, .build [.int .i64 0, .int .i64 0, .int .i64 0, .int .i64 0, .int .i64 0, .int .i64 0, .nili] [], []⟩,
              ⟨some 129, none, .box 7 (.t 128) false, []⟩,
              ⟨some 130, none, .bslice [.nilp] 1 2 [(0, (.t 127)), (1, (.t 129))] true false, []⟩,
              ⟨some 131, none, .len .slice (.t 130), []⟩,
              ⟨some 132, none, .mv (.c (.int .i64 0)), []⟩])
            (.block 4
             (.loop [] B4x2)))
           (.seq
            (.seq
             (.ops 31 [⟨some 161, none, .mv (.t 6), []⟩,
               ⟨some 162, none, .build [.int .i64 0, .int .i64 0, .int .i64 0, .int .u64 0, .int .i64 0, .nili, .int .i64 0, .int .u64 0, .int .u64 0, .int .u64 0, .int .u64 0] [], []⟩,
               ⟨some 163, none, .box 11 (.t 162) false, []⟩,
               ⟨some 164, none, .bslice [.nilp] 1 2 [(0, (.t 161)), (1, (.t 163))] true false, []⟩,
               ⟨some 165, none, .len .slice (.t 164), []⟩,
               ⟨some 166, none, .mv (.c (.int .i64 0)), []⟩])
             (.block 6
              (.loop [] B4x3)))
            (.seq
             (.ops 38 [⟨some 195, none, .call 38 [], []⟩,
               ⟨some 0, none, .mv (.t 195), []⟩])
             .ret)))))))))))))⟩
theorem F4_code : cfgA.code 4 = some F4 := by kernel_rfl

/-- ticketline/mem.New -/
noncomputable def F5 : AFn := ⟨14, [.tmp 2, .tmp 3], (.seq
 (.ops 0 [⟨some 2, none, .mv (.c (.nilp)), []⟩,
   ⟨some 3, none, .mv (.c (.int .i64 0)), []⟩])
 (.seq
  (.seq
   (.ops 1 [⟨some 4, none, .mv (.t 0), []⟩,
     ⟨some 5, none, .bin .lss (.t 4) (.c (.int .i64 1)), []⟩,
     ⟨some 6, none, .mv (.t 5), []⟩,
     ⟨some 7, some (6, false), .mv (.t 0), []⟩,
     ⟨some 8, some (6, false), .bin .gtr (.t 7) (.c (.int .i64 65536)), []⟩,
     ⟨some 9, none, .pick (.t 6) (.c (.bool true)) (.t 8), []⟩])
   (.cond (.t 9)
    (.seq
     (.ops 2 [⟨some 2, none, .mv (.c (.nilp)), []⟩,
       ⟨some 3, none, .mv (.c (.int .i64 2)), []⟩])
     .ret)
    .skip))
  (.seq
   (.ops 3 [⟨some 10, none, .mv (.t 0), []⟩,
     ⟨some 11, none, .mks [.int .u64 0] 1 8 (.t 10) (.t 10) true, []⟩,
     ⟨some 12, none, .build [.nils] [(0, 1, (.t 11))], []⟩,
     ⟨some 13, none, .box 1 (.t 12) true, []⟩,
     ⟨some 2, none, .mv (.t 13), []⟩,
     ⟨some 3, none, .mv (.c (.int .i64 0)), []⟩])
   .ret)))⟩
theorem F5_code : cfgA.code 5 = some F5 := by kernel_rfl

/-- (*ticketline/descend.Find).Step -/
noncomputable def F6 : AFn := ⟨42, [.tmp 4, .tmp 5], (.seq
 (.ops 0 [⟨some 4, none, .mv (.c (.bool false)), []⟩,
   ⟨some 5, none, .mv (.c (.int .i64 0)), []⟩])
 (.seq
  (.block 0
   (.seq
    (.ops 1 [⟨some 9, none, .mv (.t 0), []⟩,
      ⟨some 10, none, .call 39 [.t 9], []⟩,
      ⟨some 11, none, .mv (.t 10), []⟩,
      ⟨some 12, some (11, false), .mv (.t 1), []⟩,
      ⟨some 13, some (11, false), .eqn .iface false (.t 12), []⟩,
      ⟨some 14, none, .pick (.t 11) (.c (.bool true)) (.t 13), []⟩,
      ⟨some 8, none, .mv (.t 14), []⟩])
    (.cond (.t 8)
     (.seq
      (.ops 2 [⟨some 4, none, .mv (.c (.bool false)), []⟩,
        ⟨some 5, none, .mv (.c (.int .i64 1)), []⟩])
      .ret)
     (.seq
      (.ops 3 [⟨some 16, none, .mv (.t 0), []⟩,
        ⟨some 17, none, .nilc (.t 16) (mok Tryz.prog), []⟩,
        ⟨some 18, none, .fld 138 (.t 17), []⟩,
        ⟨some 19, none, .ld 1 false (.t 18), []⟩,
        ⟨some 15, none, .mv (.t 19), []⟩])
      (.cond (.t 15)
       (.seq
        (.ops 4 [⟨some 4, none, .mv (.c (.bool false)), []⟩,
          ⟨some 5, none, .mv (.c (.int .i64 17)), []⟩])
        .ret)
       .skip)))))
  (.seq
   (.ops 5 [⟨some 21, none, .mv (.t 0), []⟩,
     ⟨some 22, none, .nilc (.t 21) (mok Tryz.prog), []⟩,
     ⟨some 23, none, .fld 7 (.t 22), []⟩,
     ⟨some 24, none, .ld 1 false (.t 23), []⟩,
     ⟨some 25, none, .mv (.t 1), []⟩,
     ⟨some 26, none, .call 40 [.t 24, .t 25], []⟩,
     ⟨some 20, none, .mv (.t 26), []⟩,
     ⟨some 27, none, .ext (.t 20) 0, []⟩,
     ⟨some 28, none, .ext (.t 20) 1, []⟩,
     ⟨some 6, none, .mv (.t 27), []⟩,
     ⟨some 7, none, .mv (.t 28), []⟩])
   (.seq
    (.seq
     (.ops 6 [⟨some 29, none, .mv (.t 7), []⟩,
       ⟨some 30, none, .bin .eql (.t 29) (.c (.int .i64 0)), []⟩,
       ⟨some 31, none, .mv (.t 30), []⟩,
       ⟨some 32, some (31, true), .mv (.t 0), []⟩,
       ⟨some 33, some (31, true), .nilc (.t 32) (mok Tryz.prog), []⟩,
       ⟨some 34, some (31, true), .fld 7 (.t 33), []⟩,
       ⟨some 35, some (31, true), .ld 1 false (.t 34), []⟩,
       ⟨some 36, some (31, true), .call 41 [.t 35], []⟩,
       ⟨some 37, none, .pick (.t 31) (.t 36) (.c (.bool false)), []⟩])
     (.cond (.t 37)
      (.ops 7 [⟨some 38, none, .mv (.t 0), []⟩,
        ⟨some 39, none, .call 42 [.t 38], []⟩])
      .skip))
    (.seq
     (.ops 8 [⟨some 40, none, .mv (.t 6), []⟩,
       ⟨some 41, none, .mv (.t 7), []⟩,
       ⟨some 4, none, .mv (.t 40), []⟩,
       ⟨some 5, none, .mv (.t 41), []⟩])
     .ret)))))⟩
theorem F6_code : cfgA.code 6 = some F6 := by kernel_rfl

/-- (*ticketline/descend.Find).Done -/
noncomputable def F7 : AFn := ⟨11, [.tmp 2], (.seq
 (.ops 0 [⟨some 2, none, .mv (.c (.bool false)), []⟩])
 (.seq
  (.ops 1 [⟨some 3, none, .mv (.t 0), []⟩,
    ⟨some 4, none, .call 39 [.t 3], []⟩,
    ⟨some 5, none, .mv (.t 4), []⟩,
    ⟨some 6, some (5, false), .mv (.t 0), []⟩,
    ⟨some 7, some (5, false), .nilc (.t 6) (mok Tryz.prog), []⟩,
    ⟨some 8, some (5, false), .fld 138 (.t 7), []⟩,
    ⟨some 9, some (5, false), .ld 1 false (.t 8), []⟩,
    ⟨some 10, none, .pick (.t 5) (.c (.bool true)) (.t 9), []⟩,
    ⟨some 2, none, .mv (.t 10), []⟩])
  .ret))⟩
theorem F7_code : cfgA.code 7 = some F7 := by kernel_rfl

/-- (*ticketline/descend.Find).Result -/
noncomputable def F8 : AFn := ⟨13, [.tmp 2], (.seq
 (.ops 0 [⟨some 2, none, .mv (.c (.int .u64 0)), []⟩])
 (.seq
  (.seq
   (.ops 1 [⟨some 3, none, .mv (.t 0), []⟩,
     ⟨some 4, none, .call 43 [.t 3], []⟩,
     ⟨some 5, none, .mv (.t 4), []⟩,
     ⟨some 6, some (5, true), .mv (.t 0), []⟩,
     ⟨some 7, some (5, true), .nilc (.t 6) (mok Tryz.prog), []⟩,
     ⟨some 8, some (5, true), .fld 8 (.t 7), []⟩,
     ⟨some 9, some (5, true), .fld 0 (.t 8), []⟩,
     ⟨some 10, some (5, true), .ld 1 false (.t 9), []⟩,
     ⟨some 11, some (5, true), .bin .gtr (.t 10) (.c (.int .i64 0)), []⟩,
     ⟨some 12, none, .pick (.t 5) (.t 11) (.c (.bool false)), []⟩])
   (.cond (.t 12)
    (.seq
     (.ops 2 [⟨some 2, none, .mv (.c (.int .u64 1)), []⟩])
     .ret)
    .skip))
  (.seq
   (.ops 3 [⟨some 2, none, .mv (.c (.int .u64 0)), []⟩])
   .ret)))⟩
theorem F8_code : cfgA.code 8 = some F8 := by kernel_rfl

/-- (*ticketline/descend.Find).Copy -/
noncomputable def F9 : AFn := ⟨8, [.tmp 2], (.seq
 (.ops 0 [⟨some 2, none, .mv (.c (.nili)), []⟩])
 (.seq
  (.seq
   (.ops 1 [⟨some 3, none, .mv (.t 0), []⟩,
     ⟨some 4, none, .call 39 [.t 3], []⟩])
   (.cond (.t 4)
    (.seq
     (.ops 2 [⟨some 2, none, .mv (.c (.nili)), []⟩])
     .ret)
    .skip))
  (.seq
   (.ops 3 [⟨some 5, none, .mv (.t 0), []⟩,
     ⟨some 6, none, .call 44 [.t 5], []⟩,
     ⟨some 7, none, .mki 26 (.t 6), []⟩,
     ⟨some 2, none, .mv (.t 7), []⟩])
   .ret)))⟩
theorem F9_code : cfgA.code 9 = some F9 := by kernel_rfl

/-- (*ticketline/descend.Find).Leaf -/
noncomputable def F10 : AFn := ⟨10, [.cell 2 130 true], (.seq
 (.ops 0 [⟨some 2, none, .alloc [.int .i64 0, .int .u64 0, .int .u64 0, .int .u64 0, .int .u64 0, .int .u64 0, .int .u64 0, .int .u64 0, .int .u64 0, .int .u64 0, .int .u64 0, .int .u64 0, .int .u64 0, .int .u64 0, .int .u64 0, .int .u64 0, .int .u64 0, .int .u64 0, .int .u64 0, .int .u64 0, .int .u64 0, .int .u64 0, .int .u64 0, .int .u64 0, .int .u64 0, .int .u64 0, .int .u64 0, .int .u64 0, .int .u64 0, .int .u64 0, .int .u64 0, .int .u64 0, .int .u64 0, .int .u64 0, .int .u64 0, .int .u64 0, .int .u64 0, .int .u64 0, .int .u64 0, .int .u64 0, .int .u64 0, .int .u64 0, .int .u64 0, .int .u64 0, .int .u64 0, .int .u64 0, .int .u64 0, .int .u64 0, .int .u64 0, .int .u64 0, .int .u64 0, .int .u64 0, .int .u64 0, .int .u64 0, .int .u64 0, .int .u64 0, .int .u64 0, .int .u64 0, .int .u64 0, .int .u64 0, .int .u64 0, .int .u64 0, .int .u64 0, .int .u64 0, .int .u64 0, .int .u64 0, .int .u64 0, .int .u64 0, .int .u64 0, .int .u64 0, .int .u64 0, .int .u64 0, .int .u64 0, .int .u64 0, .int .u64 0, .int .u64 0, .int .u64 0, .int .u64 0, .int .u64 0, .int .u64 0, .int .u64 0, .int .u64 0, .int .u64 0, .int .u64 0, .int .u64 0, .int .u64 0, .int .u64 0, .int .u64 0, .int .u64 0, .int .u64 0, .int .u64 0, .int .u64 0, .int .u64 0, .int .u64 0, .int .u64 0, .int .u64 0, .int .u64 0, .int .u64 0, .int .u64 0, .int .u64 0, .int .u64 0, .int .u64 0, .int .u64 0, .int .u64 0, .int .u64 0, .int .u64 0, .int .u64 0, .int .u64 0, .int .u64 0, .int .u64 0, .int .u64 0, .int .u64 0, .int .u64 0, .int .u64 0, .int .u64 0, .int .u64 0, .int .u64 0, .int .u64 0, .int .u64 0, .int .u64 0, .int .u64 0, .int .u64 0, .int .u64 0, .int .u64 0, .int .u64 0, .int .u64 0, .int .u64 0, .int .u64 0, .int .u64 0, .int .u64 0] false, []⟩])
 (.seq
  (.seq
   (.ops 1 [⟨some 3, none, .mv (.t 0), []⟩,
     ⟨some 4, none, .call 39 [.t 3], []⟩])
   (.cond (.t 4)
    (.seq
     (.ops 2 [⟨some 5, none, .build [.int .i64 0, .int .u64 0, .int .u64 0, .int .u64 0, .int .u64 0, .int .u64 0, .int .u64 0, .int .u64 0, .int .u64 0, .int .u64 0, .int .u64 0, .int .u64 0, .int .u64 0, .int .u64 0, .int .u64 0, .int .u64 0, .int .u64 0, .int .u64 0, .int .u64 0, .int .u64 0, .int .u64 0, .int .u64 0, .int .u64 0, .int .u64 0, .int .u64 0, .int .u64 0, .int .u64 0, .int .u64 0, .int .u64 0, .int .u64 0, .int .u64 0, .int .u64 0, .int .u64 0, .int .u64 0, .int .u64 0, .int .u64 0, .int .u64 0, .int .u64 0, .int .u64 0, .int .u64 0, .int .u64 0, .int .u64 0, .int .u64 0, .int .u64 0, .int .u64 0, .int .u64 0, .int .u64 0, .int .u64 0, .int .u64 0, .int .u64 0, .int .u64 0, .int .u64 0, .int .u64 0, .int .u64 0, .int .u64 0, .int .u64 0, .int .u64 0, .int .u64 0, .int .u64 0, .int .u64 0, .int .u64 0, .int .u64 0, .int .u64 0, .int .u64 0, .int .u64 0, .int .u64 0, .int .u64 0, .int .u64 0, .int .u64 0, .int .u64 0, .int .u64 0, .int .u64 0, .int .u64 0, .int .u64 0, .int .u64 0, .int .u64 0, .int .u64 0, .int .u64 0, .int .u64 0, .int .u64 0, .int .u64 0, .int .u64 0, .int .u64 0, .int .u64 0, .int .u64 0, .int .u64 0, .int .u64 0, .int .u64 0, .int .u64 0, .int .u64 0, .int .u64 0, .int .u64 0, .int .u64 0, .int .u64 0, .int .u64 0, .int .u64 0, .int .u64 0, .int .u64 0, .int .u64 0, .int .u64 0, .int .u64 0, .int .u64 0, .int .u64 0, .int .u64 0, .int .u64 0, .int .u64 0, .int .u64 0, .int .u64 0, .int .u64 0, .int .u64 0, .int .u64 0, .int .u64 0, .int .u64 0, .int .u64 0, .int .u64 0, .int .u64 0, .int .u64 0, .int .u64 0, .int .u64 0, .int .u64 0, .int .u64 0, .int .u64 0, .int .u64 0, .int .u64 0, .int .u64 0, .int .u64 0, .int .u64 0, .int .u64 0, .int .u64 0, .int .u64 0] [], []⟩,
       ⟨none, none, .st 130 (.t 2) (.t 5), []⟩])
     .ret)
    .skip))
  (.seq
   (.ops 3 [⟨some 6, none, .mv (.t 0), []⟩,
     ⟨some 7, none, .nilc (.t 6) (mok Tryz.prog), []⟩,
     ⟨some 8, none, .fld 8 (.t 7), []⟩,
     ⟨some 9, none, .ld 130 true (.t 8), []⟩,
     ⟨none, none, .st 130 (.t 2) (.t 9), []⟩])
   .ret)))⟩
theorem F10_code : cfgA.code 10 = some F10 := by kernel_rfl

/-- (*ticketline/descend.Find).Again -/
noncomputable def F11 : AFn := ⟨9, [.tmp 2], (.seq
 (.ops 0 [⟨some 2, none, .mv (.c (.int .i64 0)), []⟩])
 (.seq
  (.seq
   (.ops 1 [⟨some 3, none, .mv (.t 0), []⟩,
     ⟨some 4, none, .call 39 [.t 3], []⟩])
   (.cond (.t 4)
    (.seq
     (.ops 2 [⟨some 2, none, .mv (.c (.int .i64 0)), []⟩])
     .ret)
    .skip))
  (.seq
   (.ops 3 [⟨some 5, none, .mv (.t 0), []⟩,
     ⟨some 6, none, .nilc (.t 5) (mok Tryz.prog), []⟩,
     ⟨some 7, none, .fld 4 (.t 6), []⟩,
     ⟨some 8, none, .ld 1 false (.t 7), []⟩,
     ⟨some 2, none, .mv (.t 8), []⟩])
   .ret)))⟩
theorem F11_code : cfgA.code 11 = some F11 := by kernel_rfl

/-- (*ticketline/descend.Scan).Step -/
noncomputable def F12 : AFn := ⟨100, [.tmp 4, .tmp 5], (.seq
 (.ops 0 [⟨some 4, none, .mv (.c (.bool false)), []⟩,
   ⟨some 5, none, .mv (.c (.int .i64 0)), []⟩])
 (.seq
  (.block 0
   (.seq
    (.ops 1 [⟨some 8, none, .mv (.t 0), []⟩,
      ⟨some 9, none, .call 45 [.t 8], []⟩,
      ⟨some 10, none, .mv (.t 9), []⟩,
      ⟨some 11, some (10, false), .mv (.t 1), []⟩,
      ⟨some 12, some (10, false), .eqn .iface false (.t 11), []⟩,
      ⟨some 13, none, .pick (.t 10) (.c (.bool true)) (.t 12), []⟩,
      ⟨some 7, none, .mv (.t 13), []⟩])
    (.cond (.t 7)
     (.seq
      (.ops 2 [⟨some 4, none, .mv (.c (.bool false)), []⟩,
        ⟨some 5, none, .mv (.c (.int .i64 1)), []⟩])
      .ret)
     (.seq
      (.ops 3 [⟨some 15, none, .mv (.t 0), []⟩,
        ⟨some 16, none, .nilc (.t 15) (mok Tryz.prog), []⟩,
        ⟨some 17, none, .fld 14 (.t 16), []⟩,
        ⟨some 18, none, .ld 1 false (.t 17), []⟩,
        ⟨some 19, none, .bin .eql (.t 18) (.c (.int .i64 4)), []⟩,
        ⟨some 14, none, .mv (.t 19), []⟩])
      (.cond (.t 14)
       (.seq
        (.ops 4 [⟨some 4, none, .mv (.c (.bool false)), []⟩,
          ⟨some 5, none, .mv (.c (.int .i64 17)), []⟩])
        .ret)
       (.seq
        (.ops 5 [⟨some 21, none, .mv (.t 0), []⟩,
          ⟨some 22, none, .nilc (.t 21) (mok Tryz.prog), []⟩,
          ⟨some 23, none, .fld 14 (.t 22), []⟩,
          ⟨some 24, none, .ld 1 false (.t 23), []⟩,
          ⟨some 25, none, .bin .eql (.t 24) (.c (.int .i64 3)), []⟩,
          ⟨some 20, none, .mv (.t 25), []⟩])
        (.cond (.t 20)
         (.seq
          (.ops 6 [⟨some 26, none, .mv (.t 0), []⟩,
            ⟨some 27, none, .mv (.t 1), []⟩,
            ⟨some 28, none, .call 46 [.t 26, .t 27], []⟩,
            ⟨some 4, none, .mv (.c (.bool false)), []⟩,
            ⟨some 5, none, .mv (.t 28), []⟩])
          .ret)
         (.seq
          (.ops 7 [⟨some 30, none, .mv (.t 0), []⟩,
            ⟨some 31, none, .nilc (.t 30) (mok Tryz.prog), []⟩,
            ⟨some 32, none, .fld 14 (.t 31), []⟩,
            ⟨some 33, none, .ld 1 false (.t 32), []⟩,
            ⟨some 34, none, .bin .eql (.t 33) (.c (.int .i64 1)), []⟩,
            ⟨some 29, none, .mv (.t 34), []⟩])
          (.cond (.t 29)
           (.seq
            (.ops 8 [⟨some 36, none, .mv (.t 0), []⟩,
              ⟨some 37, none, .nilc (.t 36) (mok Tryz.prog), []⟩,
              ⟨some 38, none, .fld 7 (.t 37), []⟩,
              ⟨some 39, none, .ld 1 false (.t 38), []⟩,
              ⟨some 40, none, .mv (.t 1), []⟩,
              ⟨some 41, none, .call 6 [.t 39, .t 40], []⟩,
              ⟨some 35, none, .mv (.t 41), []⟩,
              ⟨some 42, none, .ext (.t 35) 0, []⟩,
              ⟨some 43, none, .ext (.t 35) 1, []⟩,
              ⟨some 4, none, .mv (.t 42), []⟩,
              ⟨some 5, none, .mv (.t 43), []⟩])
            (.seq
             (.seq
              (.ops 9 [⟨some 44, none, .mv (.t 5), []⟩,
                ⟨some 45, none, .bin .neq (.t 44) (.c (.int .i64 0)), []⟩,
                ⟨some 46, none, .mv (.t 45), []⟩,
                ⟨some 47, some (46, false), .mv (.t 0), []⟩,
                ⟨some 48, some (46, false), .nilc (.t 47) (mok Tryz.prog), []⟩,
                ⟨some 49, some (46, false), .fld 7 (.t 48), []⟩,
                ⟨some 50, some (46, false), .ld 1 false (.t 49), []⟩,
                ⟨some 51, some (46, false), .call 7 [.t 50], []⟩,
                ⟨some 52, some (46, false), .un .not (.t 51), []⟩,
                ⟨some 53, none, .pick (.t 46) (.c (.bool true)) (.t 52), []⟩])
              (.cond (.t 53)
               (.seq
                (.ops 10 [⟨some 54, none, .mv (.t 4), []⟩,
                  ⟨some 55, none, .mv (.t 5), []⟩,
                  ⟨some 4, none, .mv (.t 54), []⟩,
                  ⟨some 5, none, .mv (.t 55), []⟩])
                .ret)
               .skip))
             (.seq
              (.seq
               (.ops 11 [⟨some 56, none, .mv (.t 0), []⟩,
                 ⟨some 57, none, .nilc (.t 56) (mok Tryz.prog), []⟩,
                 ⟨some 58, none, .fld 7 (.t 57), []⟩,
                 ⟨some 59, none, .ld 1 false (.t 58), []⟩,
                 ⟨some 60, none, .call 8 [.t 59], []⟩,
                 ⟨some 61, none, .bin .eql (.t 60) (.c (.int .u64 0)), []⟩])
               (.cond (.t 61)
                (.ops 12 [⟨some 62, none, .mv (.t 0), []⟩,
                  ⟨some 63, none, .call 47 [.t 62], []⟩])
                (.seq
                 (.ops 13 [⟨some 64, none, .mv (.t 0), []⟩,
                   ⟨some 65, none, .nilc (.t 64) (mok Tryz.prog), []⟩,
                   ⟨some 66, none, .fld 7 (.t 65), []⟩,
                   ⟨some 67, none, .ld 1 false (.t 66), []⟩,
                   ⟨some 68, none, .call 10 [.t 67], []⟩,
                   ⟨some 6, none, .alloc [.int .i64 0, .int .u64 0, .int .u64 0, .int .u64 0, .int .u64 0, .int .u64 0, .int .u64 0, .int .u64 0, .int .u64 0, .int .u64 0, .int .u64 0, .int .u64 0, .int .u64 0, .int .u64 0, .int .u64 0, .int .u64 0, .int .u64 0, .int .u64 0, .int .u64 0, .int .u64 0, .int .u64 0, .int .u64 0, .int .u64 0, .int .u64 0, .int .u64 0, .int .u64 0, .int .u64 0, .int .u64 0, .int .u64 0, .int .u64 0, .int .u64 0, .int .u64 0, .int .u64 0, .int .u64 0, .int .u64 0, .int .u64 0, .int .u64 0, .int .u64 0, .int .u64 0, .int .u64 0, .int .u64 0, .int .u64 0, .int .u64 0, .int .u64 0, .int .u64 0, .int .u64 0, .int .u64 0, .int .u64 0, .int .u64 0, .int .u64 0, .int .u64 0, .int .u64 0, .int .u64 0, .int .u64 0, .int .u64 0, .int .u64 0, .int .u64 0, .int .u64 0, .int .u64 0, .int .u64 0, .int .u64 0, .int .u64 0, .int .u64 0, .int .u64 0, .int .u64 0, .int .u64 0, .int .u64 0, .int .u64 0, .int .u64 0, .int .u64 0, .int .u64 0, .int .u64 0, .int .u64 0, .int .u64 0, .int .u64 0, .int .u64 0, .int .u64 0, .int .u64 0, .int .u64 0, .int .u64 0, .int .u64 0, .int .u64 0, .int .u64 0, .int .u64 0, .int .u64 0, .int .u64 0, .int .u64 0, .int .u64 0, .int .u64 0, .int .u64 0, .int .u64 0, .int .u64 0, .int .u64 0, .int .u64 0, .int .u64 0, .int .u64 0, .int .u64 0, .int .u64 0, .int .u64 0, .int .u64 0, .int .u64 0, .int .u64 0, .int .u64 0, .int .u64 0, .int .u64 0, .int .u64 0, .int .u64 0, .int .u64 0, .int .u64 0, .int .u64 0, .int .u64 0, .int .u64 0, .int .u64 0, .int .u64 0, .int .u64 0, .int .u64 0, .int .u64 0, .int .u64 0, .int .u64 0, .int .u64 0, .int .u64 0, .int .u64 0, .int .u64 0, .int .u64 0, .int .u64 0, .int .u64 0, .int .u64 0, .int .u64 0, .int .u64 0, .int .u64 0] false, []⟩,
                   ⟨none, none, .st 130 (.t 6) (.t 68), []⟩])
                 (.ops 14 [⟨some 69, none, .mv (.t 0), []⟩,
                   ⟨some 70, none, .fld 1 (.t 6), []⟩,
                   ⟨some 71, none, .ld 128 true (.t 70), []⟩,
                   ⟨some 72, none, .fld 0 (.t 6), []⟩,
                   ⟨some 73, none, .ld 1 false (.t 72), []⟩,
                   ⟨some 74, none, .fld 129 (.t 6), []⟩,
                   ⟨some 75, none, .ld 1 false (.t 74), []⟩,
                   ⟨some 76, none, .call 48 [.t 69, .t 71, .t 73, .t 75], []⟩]))))
              (.seq
               (.ops 15 [⟨some 77, none, .mv (.t 4), []⟩,
                 ⟨some 4, none, .mv (.t 77), []⟩,
                 ⟨some 5, none, .mv (.c (.int .i64 0)), []⟩])
               .ret))))
           .skip)))))))))
  (.seq
   (.ops 16 [⟨some 79, none, .mv (.t 0), []⟩,
     ⟨some 80, none, .nilc (.t 79) (mok Tryz.prog), []⟩,
     ⟨some 81, none, .fld 8 (.t 80), []⟩,
     ⟨some 82, none, .ld 1 false (.t 81), []⟩,
     ⟨some 83, none, .mv (.t 1), []⟩,
     ⟨some 84, none, .call 40 [.t 82, .t 83], []⟩,
     ⟨some 78, none, .mv (.t 84), []⟩,
     ⟨some 85, none, .ext (.t 78) 0, []⟩,
     ⟨some 86, none, .ext (.t 78) 1, []⟩,
     ⟨some 4, none, .mv (.t 85), []⟩,
     ⟨some 5, none, .mv (.t 86), []⟩])
   (.seq
    (.seq
     (.ops 17 [⟨some 87, none, .mv (.t 5), []⟩,
       ⟨some 88, none, .bin .eql (.t 87) (.c (.int .i64 0)), []⟩,
       ⟨some 89, none, .mv (.t 88), []⟩,
       ⟨some 90, some (89, true), .mv (.t 0), []⟩,
       ⟨some 91, some (89, true), .nilc (.t 90) (mok Tryz.prog), []⟩,
       ⟨some 92, some (89, true), .fld 8 (.t 91), []⟩,
       ⟨some 93, some (89, true), .ld 1 false (.t 92), []⟩,
       ⟨some 94, some (89, true), .call 41 [.t 93], []⟩,
       ⟨some 95, none, .pick (.t 89) (.t 94) (.c (.bool false)), []⟩])
     (.cond (.t 95)
      (.ops 18 [⟨some 96, none, .mv (.t 0), []⟩,
        ⟨some 97, none, .call 49 [.t 96], []⟩])
      .skip))
    (.seq
     (.ops 19 [⟨some 98, none, .mv (.t 4), []⟩,
       ⟨some 99, none, .mv (.t 5), []⟩,
       ⟨some 4, none, .mv (.t 98), []⟩,
       ⟨some 5, none, .mv (.t 99), []⟩])
     .ret)))))⟩
theorem F12_code : cfgA.code 12 = some F12 := by kernel_rfl

/-- (*ticketline/descend.Scan).Done -/
noncomputable def F13 : AFn := ⟨12, [.tmp 2], (.seq
 (.ops 0 [⟨some 2, none, .mv (.c (.bool false)), []⟩])
 (.seq
  (.ops 1 [⟨some 3, none, .mv (.t 0), []⟩,
    ⟨some 4, none, .call 45 [.t 3], []⟩,
    ⟨some 5, none, .mv (.t 4), []⟩,
    ⟨some 6, some (5, false), .mv (.t 0), []⟩,
    ⟨some 7, some (5, false), .nilc (.t 6) (mok Tryz.prog), []⟩,
    ⟨some 8, some (5, false), .fld 14 (.t 7), []⟩,
    ⟨some 9, some (5, false), .ld 1 false (.t 8), []⟩,
    ⟨some 10, some (5, false), .bin .eql (.t 9) (.c (.int .i64 4)), []⟩,
    ⟨some 11, none, .pick (.t 5) (.c (.bool true)) (.t 10), []⟩,
    ⟨some 2, none, .mv (.t 11), []⟩])
  .ret))⟩
theorem F13_code : cfgA.code 13 = some F13 := by kernel_rfl

/-- (*ticketline/descend.Scan).Result -/
noncomputable def F14 : AFn := ⟨11, [.tmp 2], (.seq
 (.ops 0 [⟨some 2, none, .mv (.c (.int .u64 0)), []⟩])
 (.seq
  (.seq
   (.ops 1 [⟨some 3, none, .mv (.t 0), []⟩,
     ⟨some 4, none, .call 50 [.t 3], []⟩,
     ⟨some 5, none, .mv (.t 4), []⟩,
     ⟨some 6, some (5, true), .mv (.t 0), []⟩,
     ⟨some 7, some (5, true), .nilc (.t 6) (mok Tryz.prog), []⟩,
     ⟨some 8, some (5, true), .fld 15 (.t 7), []⟩,
     ⟨some 9, some (5, true), .ld 1 false (.t 8), []⟩,
     ⟨some 10, none, .pick (.t 5) (.t 9) (.c (.bool false)), []⟩])
   (.cond (.t 10)
    (.seq
     (.ops 2 [⟨some 2, none, .mv (.c (.int .u64 1)), []⟩])
     .ret)
    .skip))
  (.seq
   (.ops 3 [⟨some 2, none, .mv (.c (.int .u64 0)), []⟩])
   .ret)))⟩
theorem F14_code : cfgA.code 14 = some F14 := by kernel_rfl

/-- (*ticketline/descend.Scan).Copy -/
noncomputable def F15 : AFn := ⟨27, [.tmp 2], (.seq
 (.ops 0 [⟨some 2, none, .mv (.c (.nili)), []⟩])
 (.seq
  (.seq
   (.ops 1 [⟨some 4, none, .mv (.t 0), []⟩,
     ⟨some 5, none, .call 45 [.t 4], []⟩])
   (.cond (.t 5)
    (.seq
     (.ops 2 [⟨some 2, none, .mv (.c (.nili)), []⟩])
     .ret)
    .skip))
  (.seq
   (.ops 3 [⟨some 6, none, .mv (.t 0), []⟩,
     ⟨some 7, none, .nilc (.t 6) (mok Tryz.prog), []⟩,
     ⟨some 8, none, .ld 16 true (.t 7), []⟩,
     ⟨some 3, none, .alloc [.int .i64 0, .int .i64 0, .str [], .str [], .int .i64 0, .int .i64 0, .int .i64 0, .nilp, .nilp, .int .i64 0, .str [], .nils, .int .i64 0, .nils, .int .i64 0, .bool false] true, []⟩,
     ⟨none, none, .st 16 (.t 3) (.t 8), []⟩])
   (.seq
    (.ops 4 [⟨some 9, none, .mv (.t 0), []⟩,
      ⟨some 10, none, .nilc (.t 9) (mok Tryz.prog), []⟩,
      ⟨some 11, none, .fld 7 (.t 10), []⟩,
      ⟨some 12, none, .ld 1 false (.t 11), []⟩,
      ⟨some 13, none, .call 44 [.t 12], []⟩,
      ⟨some 14, none, .fld 7 (.t 3), []⟩,
      ⟨none, none, .st 1 (.t 14) (.t 13), []⟩])
    (.seq
     (.seq
      (.ops 5 [⟨some 15, none, .mv (.t 0), []⟩,
        ⟨some 16, none, .nilc (.t 15) (mok Tryz.prog), []⟩,
        ⟨some 17, none, .fld 8 (.t 16), []⟩,
        ⟨some 18, none, .ld 1 false (.t 17), []⟩,
        ⟨some 19, none, .eqn .ptr true (.t 18), []⟩])
      (.cond (.t 19)
       (.ops 6 [⟨some 20, none, .mv (.t 0), []⟩,
         ⟨some 21, none, .nilc (.t 20) (mok Tryz.prog), []⟩,
         ⟨some 22, none, .fld 8 (.t 21), []⟩,
         ⟨some 23, none, .ld 1 false (.t 22), []⟩,
         ⟨some 24, none, .call 51 [.t 23], []⟩,
         ⟨some 25, none, .fld 8 (.t 3), []⟩,
         ⟨none, none, .st 1 (.t 25) (.t 24), []⟩])
       .skip))
     (.seq
      (.ops 7 [⟨some 26, none, .mki 27 (.t 3), []⟩,
        ⟨some 2, none, .mv (.t 26), []⟩])
      .ret))))))⟩
theorem F15_code : cfgA.code 15 = some F15 := by kernel_rfl

/-- (*ticketline/descend.Scan).Pairs -/
noncomputable def F16 : AFn := ⟨11, [.tmp 2], (.seq
 (.ops 0 [⟨some 2, none, .mv (.c (.nils)), []⟩])
 (.seq
  (.seq
   (.ops 1 [⟨some 3, none, .mv (.t 0), []⟩,
     ⟨some 4, none, .call 14 [.t 3], []⟩,
     ⟨some 5, none, .bin .eql (.t 4) (.c (.int .u64 0)), []⟩])
   (.cond (.t 5)
    (.seq
     (.ops 2 [⟨some 2, none, .mv (.c (.nils)), []⟩])
     .ret)
    .skip))
  (.seq
   (.ops 3 [⟨some 6, none, .mv (.t 0), []⟩,
     ⟨some 7, none, .nilc (.t 6) (mok Tryz.prog), []⟩,
     ⟨some 8, none, .fld 13 (.t 7), []⟩,
     ⟨some 9, none, .ld 1 false (.t 8), []⟩,
     ⟨some 10, none, .call 52 [.t 9], []⟩,
     ⟨some 2, none, .mv (.t 10), []⟩])
   .ret)))⟩
theorem F16_code : cfgA.code 16 = some F16 := by kernel_rfl

/-- (*ticketline/descend.Scan).Again -/
noncomputable def F17 : AFn := ⟨9, [.tmp 2], (.seq
 (.ops 0 [⟨some 2, none, .mv (.c (.int .i64 0)), []⟩])
 (.seq
  (.seq
   (.ops 1 [⟨some 3, none, .mv (.t 0), []⟩,
     ⟨some 4, none, .call 45 [.t 3], []⟩])
   (.cond (.t 4)
    (.seq
     (.ops 2 [⟨some 2, none, .mv (.c (.int .i64 0)), []⟩])
     .ret)
    .skip))
  (.seq
   (.ops 3 [⟨some 5, none, .mv (.t 0), []⟩,
     ⟨some 6, none, .nilc (.t 5) (mok Tryz.prog), []⟩,
     ⟨some 7, none, .fld 6 (.t 6), []⟩,
     ⟨some 8, none, .ld 1 false (.t 7), []⟩,
     ⟨some 2, none, .mv (.t 8), []⟩])
   .ret)))⟩
theorem F17_code : cfgA.code 17 = some F17 := by kernel_rfl

/-- ticketline/descend.NewFind -/
noncomputable def F18 : AFn := ⟨30, [.tmp 6, .tmp 7], (.seq
 (.ops 0 [⟨some 3, none, .box 2 (.t 0) false, []⟩,
   ⟨some 6, none, .mv (.c (.nilp)), []⟩,
   ⟨some 7, none, .mv (.c (.int .i64 0)), []⟩])
 (.seq
  (.seq
   (.ops 1 [⟨some 8, none, .ld 2 true (.t 3), []⟩,
     ⟨some 9, none, .call 53 [.t 8], []⟩,
     ⟨some 10, none, .un .not (.t 9), []⟩,
     ⟨some 11, none, .mv (.t 10), []⟩,
     ⟨some 12, some (11, false), .mv (.t 1), []⟩,
     ⟨some 13, some (11, false), .call 54 [.t 12], []⟩,
     ⟨some 14, some (11, false), .un .not (.t 13), []⟩,
     ⟨some 15, none, .pick (.t 11) (.c (.bool true)) (.t 14), []⟩,
     ⟨some 16, none, .mv (.t 15), []⟩,
     ⟨some 17, some (16, false), .mv (.t 2), []⟩,
     ⟨some 18, some (16, false), .bin .lss (.t 17) (.c (.int .i64 0)), []⟩,
     ⟨some 19, none, .pick (.t 16) (.c (.bool true)) (.t 18), []⟩,
     ⟨some 20, none, .mv (.t 19), []⟩,
     ⟨some 21, some (20, false), .mv (.t 2), []⟩,
     ⟨some 22, some (20, false), .bin .gtr (.t 21) (.c (.int .i64 64)), []⟩,
     ⟨some 23, none, .pick (.t 20) (.c (.bool true)) (.t 22), []⟩])
   (.cond (.t 23)
    (.seq
     (.ops 2 [⟨some 6, none, .mv (.c (.nilp)), []⟩,
       ⟨some 7, none, .mv (.c (.int .i64 2)), []⟩])
     .ret)
    .skip))
  (.seq
   (.ops 3 [⟨some 24, none, .ld 2 true (.t 3), []⟩,
     ⟨some 25, none, .mv (.t 1), []⟩,
     ⟨some 26, none, .mv (.t 2), []⟩,
     ⟨some 27, none, .call 55 [], [(24, .ld 2 true (.t 3))]⟩,
     ⟨some 28, none, .build [.int .i64 0, .int .i64 0, .str [], .int .i64 0, .int .i64 0, .int .i64 0, .int .i64 0, .nilp, .int .i64 0, .int .u64 0, .int .u64 0, .int .u64 0, .int .u64 0, .int .u64 0, .int .u64 0, .int .u64 0, .int .u64 0, .int .u64 0, .int .u64 0, .int .u64 0, .int .u64 0, .int .u64 0, .int .u64 0, .int .u64 0, .int .u64 0, .int .u64 0, .int .u64 0, .int .u64 0, .int .u64 0, .int .u64 0, .int .u64 0, .int .u64 0, .int .u64 0, .int .u64 0, .int .u64 0, .int .u64 0, .int .u64 0, .int .u64 0, .int .u64 0, .int .u64 0, .int .u64 0, .int .u64 0, .int .u64 0, .int .u64 0, .int .u64 0, .int .u64 0, .int .u64 0, .int .u64 0, .int .u64 0, .int .u64 0, .int .u64 0, .int .u64 0, .int .u64 0, .int .u64 0, .int .u64 0, .int .u64 0, .int .u64 0, .int .u64 0, .int .u64 0, .int .u64 0, .int .u64 0, .int .u64 0, .int .u64 0, .int .u64 0, .int .u64 0, .int .u64 0, .int .u64 0, .int .u64 0, .int .u64 0, .int .u64 0, .int .u64 0, .int .u64 0, .int .u64 0, .int .u64 0, .int .u64 0, .int .u64 0, .int .u64 0, .int .u64 0, .int .u64 0, .int .u64 0, .int .u64 0, .int .u64 0, .int .u64 0, .int .u64 0, .int .u64 0, .int .u64 0, .int .u64 0, .int .u64 0, .int .u64 0, .int .u64 0, .int .u64 0, .int .u64 0, .int .u64 0, .int .u64 0, .int .u64 0, .int .u64 0, .int .u64 0, .int .u64 0, .int .u64 0, .int .u64 0, .int .u64 0, .int .u64 0, .int .u64 0, .int .u64 0, .int .u64 0, .int .u64 0, .int .u64 0, .int .u64 0, .int .u64 0, .int .u64 0, .int .u64 0, .int .u64 0, .int .u64 0, .int .u64 0, .int .u64 0, .int .u64 0, .int .u64 0, .int .u64 0, .int .u64 0, .int .u64 0, .int .u64 0, .int .u64 0, .int .u64 0, .int .u64 0, .int .u64 0, .int .u64 0, .int .u64 0, .int .u64 0, .int .u64 0, .int .u64 0, .int .u64 0, .int .u64 0, .int .u64 0, .int .u64 0, .int .u64 0, .int .u64 0, .int .u64 0, .int .u64 0, .bool false] [(0, 2, (.t 24)), (2, 1, (.t 25)), (3, 1, (.t 26)), (7, 1, (.t 27))], []⟩,
     ⟨some 29, none, .box 139 (.t 28) true, []⟩,
     ⟨some 6, none, .mv (.t 29), []⟩,
     ⟨some 7, none, .mv (.c (.int .i64 0)), []⟩])
   .ret)))⟩
theorem F18_code : cfgA.code 18 = some F18 := by kernel_rfl

/-- ticketline/ticketlinelaw27.given -/
noncomputable def F19 : AFn := ⟨2, [.cell 0 2 true], (.seq
 (.ops 0 [⟨some 0, none, .alloc [.int .i64 0, .int .i64 0] false, []⟩])
 (.seq
  (.ops 1 [⟨some 1, none, .build [.int .i64 0, .int .i64 0] [(0, 1, (.c (.int .i64 3))), (1, 1, (.c (.int .i64 2)))], []⟩,
    ⟨none, none, .st 2 (.t 0) (.t 1), []⟩])
  .ret))⟩
theorem F19_code : cfgA.code 19 = some F19 := by kernel_rfl

/-- ticketline/ticketlinelaw27.known -/
noncomputable def F20 : AFn := ⟨194, [.tmp 0], (.seq
 (.ops 0 [⟨some 0, none, .mv (.c (.bool false)), []⟩])
 (.seq
  (.ops 1 [⟨some 15, none, .call 19 [], []⟩,
    ⟨some 1, none, .alloc [.int .i64 0, .int .i64 0] false, []⟩,
    ⟨none, none, .st 2 (.t 1) (.t 15), []⟩])
  (.seq
   (.seq
    (.ops 2 [⟨some 16, none, .ld 2 true (.t 1), []⟩,
      ⟨some 17, none, .call 56 [.t 16, .c (.int .i64 412), .c (.int .i64 0)], []⟩,
      ⟨some 18, none, .un .not (.t 17), []⟩,
      ⟨some 19, none, .mv (.t 18), []⟩,
      ⟨some 20, some (19, false), .build [.int .i64 0, .int .i64 0] [(1, 1, (.c (.int .i64 1)))], []⟩,
      ⟨some 21, some (19, false), .call 56 [.t 20, .c (.int .i64 0), .c (.int .i64 2)], []⟩,
      ⟨some 22, some (19, false), .un .not (.t 21), []⟩,
      ⟨some 23, none, .pick (.t 19) (.c (.bool true)) (.t 22), []⟩,
      ⟨some 24, none, .mv (.t 23), []⟩,
      ⟨some 25, some (24, false), .ld 2 true (.t 1), []⟩,
      ⟨some 26, some (24, false), .call 57 [.t 25, .c (.int .i64 0), .c (.int .i64 8), .c (.int .i64 0)], []⟩,
      ⟨some 27, some (24, false), .un .not (.t 26), []⟩,
      ⟨some 28, none, .pick (.t 24) (.c (.bool true)) (.t 27), []⟩,
      ⟨some 29, none, .mv (.t 28), []⟩,
      ⟨some 30, some (29, false), .ld 2 true (.t 1), []⟩,
      ⟨some 31, some (29, false), .call 57 [.t 30, .c (.int .i64 2), .c (.int .i64 144), .c (.int .i64 0)], []⟩,
      ⟨some 32, some (29, false), .un .not (.t 31), []⟩,
      ⟨some 33, none, .pick (.t 29) (.c (.bool true)) (.t 32), []⟩,
      ⟨some 34, none, .mv (.t 33), []⟩,
      ⟨some 35, some (34, false), .ld 2 true (.t 1), []⟩,
      ⟨some 36, some (34, false), .call 57 [.t 35, .c (.int .i64 4), .c (.int .i64 0), .c (.int .i64 3)], []⟩,
      ⟨some 37, some (34, false), .un .not (.t 36), []⟩,
      ⟨some 38, none, .pick (.t 34) (.c (.bool true)) (.t 37), []⟩])
    (.cond (.t 38)
     (.seq
      (.ops 3 [⟨some 0, none, .mv (.c (.bool false)), []⟩])
      .ret)
     .skip))
   (.seq
    (.ops 4 [⟨some 40, none, .ld 2 true (.t 1), []⟩,
      ⟨some 41, none, .call 58 [.t 40], []⟩,
      ⟨some 39, none, .mv (.t 41), []⟩,
      ⟨some 42, none, .ext (.t 39) 0, []⟩,
      ⟨some 43, none, .ext (.t 39) 1, []⟩,
      ⟨some 2, none, .mv (.t 42), []⟩,
      ⟨some 3, none, .mv (.t 43), []⟩])
    (.seq
     (.ops 5 [⟨some 45, none, .ld 2 true (.t 1), []⟩,
       ⟨some 46, none, .call 18 [.t 45, .c (.str [97]), .c (.int .i64 0)], []⟩,
       ⟨some 44, none, .mv (.t 46), []⟩,
       ⟨some 47, none, .ext (.t 44) 0, []⟩,
       ⟨some 48, none, .ext (.t 44) 1, []⟩,
       ⟨some 4, none, .mv (.t 47), []⟩,
       ⟨some 5, none, .mv (.t 48), []⟩])
     (.seq
      (.ops 6 [⟨some 50, none, .ld 2 true (.t 1), []⟩,
        ⟨some 51, none, .call 59 [.t 50, .c (.str []), .c (.str []), .c (.int .i64 5), .c (.int .i64 0)], []⟩,
        ⟨some 49, none, .mv (.t 51), []⟩,
        ⟨some 52, none, .ext (.t 49) 0, []⟩,
        ⟨some 53, none, .ext (.t 49) 1, []⟩,
        ⟨some 6, none, .mv (.t 52), []⟩,
        ⟨some 7, none, .mv (.t 53), []⟩])
      (.seq
       (.seq
        (.ops 7 [⟨some 54, none, .mv (.t 2), []⟩,
          ⟨some 55, none, .eqn .ptr false (.t 54), []⟩,
          ⟨some 56, none, .mv (.t 55), []⟩,
          ⟨some 57, some (56, false), .mv (.t 4), []⟩,
          ⟨some 58, some (56, false), .eqn .ptr false (.t 57), []⟩,
          ⟨some 59, none, .pick (.t 56) (.c (.bool true)) (.t 58), []⟩,
          ⟨some 60, none, .mv (.t 59), []⟩,
          ⟨some 61, some (60, false), .mv (.t 6), []⟩,
          ⟨some 62, some (60, false), .eqn .ptr false (.t 61), []⟩,
          ⟨some 63, none, .pick (.t 60) (.c (.bool true)) (.t 62), []⟩,
          ⟨some 64, none, .mv (.t 63), []⟩,
          ⟨some 65, some (64, false), .mv (.t 3), []⟩,
          ⟨some 66, some (64, false), .bin .neq (.t 65) (.c (.int .i64 0)), []⟩,
          ⟨some 67, none, .pick (.t 64) (.c (.bool true)) (.t 66), []⟩,
          ⟨some 68, none, .mv (.t 67), []⟩,
          ⟨some 69, some (68, false), .mv (.t 5), []⟩,
          ⟨some 70, some (68, false), .bin .neq (.t 69) (.c (.int .i64 0)), []⟩,
          ⟨some 71, none, .pick (.t 68) (.c (.bool true)) (.t 70), []⟩,
          ⟨some 72, none, .mv (.t 71), []⟩,
          ⟨some 73, some (72, false), .mv (.t 7), []⟩,
          ⟨some 74, some (72, false), .bin .neq (.t 73) (.c (.int .i64 0)), []⟩,
          ⟨some 75, none, .pick (.t 72) (.c (.bool true)) (.t 74), []⟩])
        (.cond (.t 75)
         (.seq
          (.ops 8 [⟨some 0, none, .mv (.c (.bool false)), []⟩])
          .ret)
         .skip))
       (.seq
        (.ops 9 [⟨some 77, none, .mv (.t 4), []⟩,
          ⟨some 78, none, .mki 26 (.t 77), []⟩,
          ⟨some 79, none, .mv (.t 2), []⟩,
          ⟨some 80, none, .call 60 [.t 78, .t 79, .c (.int .i64 500)], []⟩,
          ⟨some 76, none, .mv (.t 80), []⟩,
          ⟨some 81, none, .ext (.t 76) 0, []⟩,
          ⟨some 82, none, .ext (.t 76) 1, []⟩,
          ⟨some 8, none, .mv (.t 81), []⟩,
          ⟨some 9, none, .mv (.t 82), []⟩])
        (.seq
         (.ops 10 [⟨some 84, none, .mv (.t 6), []⟩,
           ⟨some 85, none, .mki 27 (.t 84), []⟩,
           ⟨some 86, none, .mv (.t 2), []⟩,
           ⟨some 87, none, .call 60 [.t 85, .t 86, .c (.int .i64 500)], []⟩,
           ⟨some 83, none, .mv (.t 87), []⟩,
           ⟨some 88, none, .ext (.t 83) 0, []⟩,
           ⟨some 89, none, .ext (.t 83) 1, []⟩,
           ⟨some 10, none, .mv (.t 88), []⟩,
           ⟨some 11, none, .mv (.t 89), []⟩])
         (.seq
          (.seq
           (.ops 11 [⟨some 90, none, .mv (.t 8), []⟩,
             ⟨some 91, none, .un .not (.t 90), []⟩,
             ⟨some 92, none, .mv (.t 91), []⟩,
             ⟨some 93, some (92, false), .mv (.t 10), []⟩,
             ⟨some 94, some (92, false), .un .not (.t 93), []⟩,
             ⟨some 95, none, .pick (.t 92) (.c (.bool true)) (.t 94), []⟩,
             ⟨some 96, none, .mv (.t 95), []⟩,
             ⟨some 97, some (96, false), .mv (.t 9), []⟩,
             ⟨some 98, none, .pick (.t 96) (.c (.bool true)) (.t 97), []⟩,
             ⟨some 99, none, .mv (.t 98), []⟩,
             ⟨some 100, some (99, false), .mv (.t 11), []⟩,
             ⟨some 101, none, .pick (.t 99) (.c (.bool true)) (.t 100), []⟩,
             ⟨some 102, none, .mv (.t 101), []⟩,
             ⟨some 103, some (102, false), .mv (.t 4), []⟩,
             ⟨some 104, some (102, false), .call 8 [.t 103], []⟩,
             ⟨some 105, some (102, false), .bin .neq (.t 104) (.c (.int .u64 1)), []⟩,
             ⟨some 106, none, .pick (.t 102) (.c (.bool true)) (.t 105), []⟩,
             ⟨some 107, none, .mv (.t 106), []⟩,
             ⟨some 108, some (107, false), .mv (.t 4), []⟩,
             ⟨some 109, some (107, false), .call 10 [.t 108], []⟩,
             ⟨some 110, some (107, false), .fdv 0 1 false (.t 109), []⟩,
             ⟨some 111, some (107, false), .bin .neq (.t 110) (.c (.int .i64 1)), []⟩,
             ⟨some 112, none, .pick (.t 107) (.c (.bool true)) (.t 111), []⟩,
             ⟨some 113, none, .mv (.t 112), []⟩,
             ⟨some 114, some (113, false), .mv (.t 4), []⟩,
             ⟨some 115, some (113, false), .call 10 [.t 114], []⟩,
             ⟨some 116, some (113, false), .fdv 129 1 false (.t 115), []⟩,
             ⟨some 117, some (113, false), .bin .neq (.t 116) (.c (.int .u64 0)), []⟩,
             ⟨some 118, none, .pick (.t 113) (.c (.bool true)) (.t 117), []⟩,
             ⟨some 119, none, .mv (.t 118), []⟩,
             ⟨some 120, some (119, false), .mv (.t 4), []⟩,
             ⟨some 121, some (119, false), .call 10 [.t 120], []⟩,
             ⟨some 122, some (119, false), .fdv 1 128 true (.t 121), []⟩,
             ⟨some 123, some (119, false), .call 61 [.t 122], []⟩,
             ⟨some 124, some (119, false), .bin .neq (.t 123) (.c (.int .i64 0)), []⟩,
             ⟨some 125, none, .pick (.t 119) (.c (.bool true)) (.t 124), []⟩,
             ⟨some 126, none, .mv (.t 125), []⟩,
             ⟨some 127, some (126, false), .mv (.t 6), []⟩,
             ⟨some 128, some (126, false), .call 14 [.t 127], []⟩,
             ⟨some 129, some (126, false), .bin .neq (.t 128) (.c (.int .u64 1)), []⟩,
             ⟨some 130, none, .pick (.t 126) (.c (.bool true)) (.t 129), []⟩,
             ⟨some 131, none, .mv (.t 130), []⟩,
             ⟨some 132, some (131, false), .mv (.t 6), []⟩,
             ⟨some 133, some (131, false), .call 16 [.t 132], []⟩,
             ⟨some 134, some (131, false), .len .slice (.t 133), []⟩,
             ⟨some 135, some (131, false), .bin .neq (.t 134) (.c (.int .i64 0)), []⟩,
             ⟨some 136, none, .pick (.t 131) (.c (.bool true)) (.t 135), []⟩])
           (.cond (.t 136)
            (.seq
             (.ops 12 [⟨some 0, none, .mv (.c (.bool false)), []⟩])
             .ret)
            .skip))
          (.seq
           (.ops 13 [⟨some 138, none, .ld 2 true (.t 1), []⟩,
             ⟨some 139, none, .call 18 [.t 138, .c (.str []), .c (.int .i64 0)], []⟩,
             ⟨some 137, none, .mv (.t 139), []⟩,
             ⟨some 140, none, .ext (.t 137) 0, []⟩,
             ⟨some 141, none, .ext (.t 137) 1, []⟩,
             ⟨some 12, none, .mv (.t 140), []⟩,
             ⟨some 3, none, .mv (.t 141), []⟩])
           (.seq
            (.ops 14 [⟨some 143, none, .ld 2 true (.t 1), []⟩,
              ⟨some 144, none, .call 59 [.t 143, .c (.str [97]), .c (.str [98]), .c (.int .i64 33), .c (.int .i64 0)], []⟩,
              ⟨some 142, none, .mv (.t 144), []⟩,
              ⟨some 145, none, .ext (.t 142) 0, []⟩,
              ⟨some 146, none, .ext (.t 142) 1, []⟩,
              ⟨some 13, none, .mv (.t 145), []⟩,
              ⟨some 5, none, .mv (.t 146), []⟩])
            (.seq
             (.seq
              (.ops 15 [⟨some 147, none, .mv (.t 12), []⟩,
                ⟨some 148, none, .eqn .ptr true (.t 147), []⟩,
                ⟨some 149, none, .mv (.t 148), []⟩,
                ⟨some 150, some (149, false), .mv (.t 13), []⟩,
                ⟨some 151, some (149, false), .eqn .ptr true (.t 150), []⟩,
                ⟨some 152, none, .pick (.t 149) (.c (.bool true)) (.t 151), []⟩,
                ⟨some 153, none, .mv (.t 152), []⟩,
                ⟨some 154, some (153, false), .mv (.t 3), []⟩,
                ⟨some 155, some (153, false), .bin .neq (.t 154) (.c (.int .i64 2)), []⟩,
                ⟨some 156, none, .pick (.t 153) (.c (.bool true)) (.t 155), []⟩,
                ⟨some 157, none, .mv (.t 156), []⟩,
                ⟨some 158, some (157, false), .mv (.t 5), []⟩,
                ⟨some 159, some (157, false), .bin .neq (.t 158) (.c (.int .i64 2)), []⟩,
                ⟨some 160, none, .pick (.t 157) (.c (.bool true)) (.t 159), []⟩,
                ⟨some 161, none, .mv (.t 160), []⟩,
                ⟨some 162, some (161, false), .mv (.t 2), []⟩,
                ⟨some 163, some (161, false), .call 62 [.t 162, .c (.int .i64 19), .c (.int .u64 1)], []⟩,
                ⟨some 164, some (161, false), .bin .neq (.t 163) (.c (.int .i64 0)), []⟩,
                ⟨some 165, none, .pick (.t 161) (.c (.bool true)) (.t 164), []⟩])
              (.cond (.t 165)
               (.seq
                (.ops 16 [⟨some 0, none, .mv (.c (.bool false)), []⟩])
                .ret)
               .skip))
             (.seq
              (.ops 17 [⟨some 167, none, .ld 2 true (.t 1), []⟩,
                ⟨some 168, none, .call 18 [.t 167, .c (.str [97]), .c (.int .i64 0)], []⟩,
                ⟨some 166, none, .mv (.t 168), []⟩,
                ⟨some 169, none, .ext (.t 166) 0, []⟩,
                ⟨some 170, none, .ext (.t 166) 1, []⟩,
                ⟨some 14, none, .mv (.t 169), []⟩,
                ⟨some 3, none, .mv (.t 170), []⟩])
              (.seq
               (.seq
                (.ops 18 [⟨some 171, none, .mv (.t 14), []⟩,
                  ⟨some 172, none, .eqn .ptr false (.t 171), []⟩,
                  ⟨some 173, none, .mv (.t 172), []⟩,
                  ⟨some 174, some (173, false), .mv (.t 3), []⟩,
                  ⟨some 175, some (173, false), .bin .neq (.t 174) (.c (.int .i64 0)), []⟩,
                  ⟨some 176, none, .pick (.t 173) (.c (.bool true)) (.t 175), []⟩])
                (.cond (.t 176)
                 (.seq
                  (.ops 19 [⟨some 0, none, .mv (.c (.bool false)), []⟩])
                  .ret)
                 .skip))
               (.seq
                (.ops 20 [⟨some 178, none, .mv (.t 14), []⟩,
                  ⟨some 179, none, .mki 26 (.t 178), []⟩,
                  ⟨some 180, none, .mv (.t 2), []⟩,
                  ⟨some 181, none, .call 60 [.t 179, .t 180, .c (.int .i64 50)], []⟩,
                  ⟨some 177, none, .mv (.t 181), []⟩,
                  ⟨some 182, none, .ext (.t 177) 0, []⟩,
                  ⟨some 183, none, .ext (.t 177) 1, []⟩,
                  ⟨some 8, none, .mv (.t 182), []⟩,
                  ⟨some 9, none, .mv (.t 183), []⟩])
                (.seq
                 (.ops 21 [⟨some 184, none, .mv (.t 8), []⟩,
                   ⟨some 185, none, .un .not (.t 184), []⟩,
                   ⟨some 186, none, .mv (.t 185), []⟩,
                   ⟨some 187, some (186, true), .mv (.t 9), []⟩,
                   ⟨some 188, none, .pick (.t 186) (.t 187) (.c (.bool false)), []⟩,
                   ⟨some 189, none, .mv (.t 188), []⟩,
                   ⟨some 190, some (189, true), .mv (.t 2), []⟩,
                   ⟨some 191, some (189, true), .call 63 [.t 190], []⟩,
                   ⟨some 192, some (189, true), .bin .eql (.t 191) (.c (.int .i64 412)), []⟩,
                   ⟨some 193, none, .pick (.t 189) (.t 192) (.c (.bool false)), []⟩,
                   ⟨some 0, none, .mv (.t 193), []⟩])
                 .ret)))))))))))))))))⟩
theorem F20_code : cfgA.code 20 = some F20 := by kernel_rfl

/-- (*ticketline/reclaim.Give).Step -/
noncomputable def F21 : AFn := ⟨119, [.tmp 4, .tmp 5], (.seq
 (.ops 0 [⟨some 4, none, .mv (.c (.bool false)), []⟩,
   ⟨some 5, none, .mv (.c (.int .i64 0)), []⟩])
 (.seq
  (.seq
   (.ops 1 [⟨some 12, none, .mv (.t 0), []⟩,
     ⟨some 13, none, .call 64 [.t 12], []⟩,
     ⟨some 14, none, .mv (.t 13), []⟩,
     ⟨some 15, some (14, false), .mv (.t 1), []⟩,
     ⟨some 16, some (14, false), .eqn .iface false (.t 15), []⟩,
     ⟨some 17, none, .pick (.t 14) (.c (.bool true)) (.t 16), []⟩])
   (.cond (.t 17)
    (.seq
     (.ops 2 [⟨some 4, none, .mv (.c (.bool false)), []⟩,
       ⟨some 5, none, .mv (.c (.int .i64 1)), []⟩])
     .ret)
    .skip))
  (.seq
   (.seq
    (.ops 3 [⟨some 18, none, .mv (.t 0), []⟩,
      ⟨some 19, none, .nilc (.t 18) (mok Tryz.prog), []⟩,
      ⟨some 20, none, .fld 4 (.t 19), []⟩,
      ⟨some 21, none, .ld 1 false (.t 20), []⟩])
    (.block 0
     (.seq
      (.ops 4 [⟨some 23, none, .bin .eql (.t 21) (.c (.int .i64 2)), []⟩,
        ⟨some 22, none, .mv (.t 23), []⟩])
      (.cond (.t 22)
       (.seq
        (.ops 5 [⟨some 25, none, .mv (.t 1), []⟩,
          ⟨some 26, none, .invk (.t 25) "Load" [.c (.int .i64 2)], []⟩,
          ⟨some 24, none, .mv (.t 26), []⟩,
          ⟨some 27, none, .ext (.t 24) 0, []⟩,
          ⟨some 28, none, .ext (.t 24) 1, []⟩,
          ⟨some 6, none, .mv (.t 27), []⟩,
          ⟨some 7, none, .mv (.t 28), []⟩])
        (.seq
         (.seq
          (.ops 6 [⟨some 29, none, .mv (.t 7), []⟩,
            ⟨some 30, none, .bin .eql (.t 29) (.c (.int .i64 0)), []⟩])
          (.cond (.t 30)
           (.ops 7 [⟨some 31, none, .mv (.t 0), []⟩,
             ⟨some 32, none, .mv (.t 0), []⟩,
             ⟨some 33, none, .mv (.t 6), []⟩,
             ⟨some 34, none, .nilc (.t 31) (mok Tryz.prog), []⟩,
             ⟨some 35, none, .fld 6 (.t 34), []⟩,
             ⟨none, none, .st 1 (.t 35) (.t 33), []⟩,
             ⟨some 36, none, .nilc (.t 32) (mok Tryz.prog), []⟩,
             ⟨some 37, none, .fld 4 (.t 36), []⟩,
             ⟨none, none, .st 1 (.t 37) (.c (.int .i64 3)), []⟩])
           .skip))
         (.seq
          (.ops 8 [⟨some 38, none, .mv (.t 7), []⟩,
            ⟨some 4, none, .mv (.c (.bool false)), []⟩,
            ⟨some 5, none, .mv (.t 38), []⟩])
          .ret)))
       (.seq
        (.ops 9 [⟨some 40, none, .bin .eql (.t 21) (.c (.int .i64 3)), []⟩,
          ⟨some 39, none, .mv (.t 40), []⟩])
        (.cond (.t 39)
         (.seq
          (.ops 10 [⟨some 42, none, .mv (.t 1), []⟩,
            ⟨some 43, none, .invk (.t 42) "Load" [.c (.int .i64 4)], []⟩,
            ⟨some 41, none, .mv (.t 43), []⟩,
            ⟨some 44, none, .ext (.t 41) 0, []⟩,
            ⟨some 45, none, .ext (.t 41) 1, []⟩,
            ⟨some 8, none, .mv (.t 44), []⟩,
            ⟨some 9, none, .mv (.t 45), []⟩])
          (.seq
           (.seq
            (.ops 11 [⟨some 46, none, .mv (.t 9), []⟩,
              ⟨some 47, none, .bin .eql (.t 46) (.c (.int .i64 0)), []⟩])
            (.cond (.t 47)
             (.seq
              (.ops 12 [⟨some 48, none, .mv (.t 0), []⟩,
                ⟨some 49, none, .mv (.t 8), []⟩,
                ⟨some 50, none, .nilc (.t 48) (mok Tryz.prog), []⟩,
                ⟨some 51, none, .fld 7 (.t 50), []⟩,
                ⟨none, none, .st 1 (.t 51) (.t 49), []⟩])
              (.ops 13 [⟨some 52, none, .mv (.t 0), []⟩,
                ⟨some 53, none, .call 65 [.t 52], []⟩,
                ⟨some 9, none, .mv (.t 53), []⟩]))
             .skip))
           (.seq
            (.ops 14 [⟨some 54, none, .mv (.t 9), []⟩,
              ⟨some 4, none, .mv (.c (.bool false)), []⟩,
              ⟨some 5, none, .mv (.t 54), []⟩])
            .ret)))
         (.seq
          (.ops 15 [⟨some 56, none, .bin .eql (.t 21) (.c (.int .i64 5)), []⟩,
            ⟨some 55, none, .mv (.t 56), []⟩])
          (.cond (.t 55)
           (.seq
            (.ops 16 [⟨some 57, none, .mv (.t 0), []⟩,
              ⟨some 58, none, .mv (.t 1), []⟩,
              ⟨some 59, none, .mv (.t 0), []⟩,
              ⟨some 60, none, .nilc (.t 59) (mok Tryz.prog), []⟩,
              ⟨some 61, none, .fld 3 (.t 60), []⟩,
              ⟨some 62, none, .ld 1 false (.t 61), []⟩,
              ⟨some 63, none, .call 66 [.t 57, .t 58, .c (.int .i64 2), .t 62, .c (.int .i64 6)], []⟩,
              ⟨some 4, none, .mv (.c (.bool false)), []⟩,
              ⟨some 5, none, .mv (.t 63), []⟩])
            .ret)
           (.seq
            (.ops 17 [⟨some 65, none, .bin .eql (.t 21) (.c (.int .i64 6)), []⟩,
              ⟨some 64, none, .mv (.t 65), []⟩])
            (.cond (.t 64)
             (.seq
              (.ops 18 [⟨some 66, none, .mv (.t 0), []⟩,
                ⟨some 67, none, .mv (.t 1), []⟩,
                ⟨some 68, none, .mv (.t 0), []⟩,
                ⟨some 69, none, .nilc (.t 68) (mok Tryz.prog), []⟩,
                ⟨some 70, none, .fld 7 (.t 69), []⟩,
                ⟨some 71, none, .ld 1 false (.t 70), []⟩,
                ⟨some 72, none, .bin .add (.t 71) (.c (.int .u64 1)), []⟩,
                ⟨some 73, none, .call 66 [.t 66, .t 67, .c (.int .i64 4), .t 72, .c (.int .i64 15)], []⟩,
                ⟨some 4, none, .mv (.c (.bool false)), []⟩,
                ⟨some 5, none, .mv (.t 73), []⟩])
              .ret)
             (.seq
              (.ops 19 [⟨some 75, none, .bin .eql (.t 21) (.c (.int .i64 20)), []⟩,
                ⟨some 74, none, .mv (.t 75), []⟩])
              (.cond (.t 74)
               (.seq
                (.ops 20 [⟨some 4, none, .mv (.c (.bool false)), []⟩,
                  ⟨some 5, none, .mv (.c (.int .i64 17)), []⟩])
                .ret)
               .skip))))))))))))
   (.seq
    (.ops 21 [⟨some 77, none, .mv (.t 0), []⟩,
      ⟨some 78, none, .nilc (.t 77) (mok Tryz.prog), []⟩,
      ⟨some 79, none, .fld 5 (.t 78), []⟩,
      ⟨some 80, none, .ld 1 false (.t 79), []⟩,
      ⟨some 81, none, .mv (.t 1), []⟩,
      ⟨some 82, none, .invk (.t 80) "Step" [.t 81], []⟩,
      ⟨some 76, none, .mv (.t 82), []⟩,
      ⟨some 83, none, .ext (.t 76) 0, []⟩,
      ⟨some 84, none, .ext (.t 76) 1, []⟩,
      ⟨some 10, none, .mv (.t 83), []⟩,
      ⟨some 11, none, .mv (.t 84), []⟩])
    (.seq
     (.block 1
      (.seq
       (.ops 23 [⟨some 89, none, .mv (.t 11), []⟩,
         ⟨some 90, none, .bin .neq (.t 89) (.c (.int .i64 0)), []⟩,
         ⟨some 91, none, .mv (.t 90), []⟩,
         ⟨some 92, some (91, false), .mv (.t 0), []⟩,
         ⟨some 93, some (91, false), .nilc (.t 92) (mok Tryz.prog), []⟩,
         ⟨some 94, some (91, false), .fld 5 (.t 93), []⟩,
         ⟨some 95, some (91, false), .ld 1 false (.t 94), []⟩,
         ⟨some 96, some (91, false), .invk (.t 95) "Done" [], []⟩,
         ⟨some 97, some (91, false), .un .not (.t 96), []⟩,
         ⟨some 98, none, .pick (.t 91) (.c (.bool true)) (.t 97), []⟩,
         ⟨some 88, none, .mv (.t 98), []⟩])
       (.cond (.t 88)
        .skip
        (.seq
         (.ops 24 [⟨some 100, none, .mv (.t 0), []⟩,
           ⟨some 101, none, .nilc (.t 100) (mok Tryz.prog), []⟩,
           ⟨some 102, none, .fld 4 (.t 101), []⟩,
           ⟨some 103, none, .ld 1 false (.t 102), []⟩,
           ⟨some 104, none, .bin .eql (.t 103) (.c (.int .i64 1)), []⟩,
           ⟨some 99, none, .mv (.t 104), []⟩])
         (.cond (.t 99)
          (.ops 25 [⟨some 105, none, .mv (.t 0), []⟩,
            ⟨some 106, none, .nilc (.t 105) (mok Tryz.prog), []⟩,
            ⟨some 107, none, .fld 4 (.t 106), []⟩,
            ⟨none, none, .st 1 (.t 107) (.c (.int .i64 2)), []⟩])
          (.seq
           (.ops 26 [⟨some 109, none, .mv (.t 0), []⟩,
             ⟨some 110, none, .nilc (.t 109) (mok Tryz.prog), []⟩,
             ⟨some 111, none, .fld 4 (.t 110), []⟩,
             ⟨some 112, none, .ld 1 false (.t 111), []⟩,
             ⟨some 113, none, .bin .eql (.t 112) (.c (.int .i64 4)), []⟩,
             ⟨some 108, none, .mv (.t 113), []⟩])
           (.cond (.t 108)
            (.ops 27 [⟨some 114, none, .mv (.t 0), []⟩,
              ⟨some 115, none, .nilc (.t 114) (mok Tryz.prog), []⟩,
              ⟨some 116, none, .fld 4 (.t 115), []⟩,
              ⟨none, none, .st 1 (.t 116) (.c (.int .i64 5)), []⟩])
            (.ops 22 [⟨some 85, none, .mv (.t 0), []⟩,
              ⟨some 86, none, .nilc (.t 85) (mok Tryz.prog), []⟩,
              ⟨some 87, none, .fld 4 (.t 86), []⟩,
              ⟨none, none, .st 1 (.t 87) (.c (.int .i64 20)), []⟩]))))))))
     (.seq
      (.ops 28 [⟨some 117, none, .mv (.t 10), []⟩,
        ⟨some 118, none, .mv (.t 11), []⟩,
        ⟨some 4, none, .mv (.t 117), []⟩,
        ⟨some 5, none, .mv (.t 118), []⟩])
      .ret))))))⟩
theorem F21_code : cfgA.code 21 = some F21 := by kernel_rfl

/-- (*ticketline/reclaim.Give).Done -/
noncomputable def F22 : AFn := ⟨12, [.tmp 2], (.seq
 (.ops 0 [⟨some 2, none, .mv (.c (.bool false)), []⟩])
 (.seq
  (.ops 1 [⟨some 3, none, .mv (.t 0), []⟩,
    ⟨some 4, none, .call 64 [.t 3], []⟩,
    ⟨some 5, none, .mv (.t 4), []⟩,
    ⟨some 6, some (5, false), .mv (.t 0), []⟩,
    ⟨some 7, some (5, false), .nilc (.t 6) (mok Tryz.prog), []⟩,
    ⟨some 8, some (5, false), .fld 4 (.t 7), []⟩,
    ⟨some 9, some (5, false), .ld 1 false (.t 8), []⟩,
    ⟨some 10, some (5, false), .bin .eql (.t 9) (.c (.int .i64 20)), []⟩,
    ⟨some 11, none, .pick (.t 5) (.c (.bool true)) (.t 10), []⟩,
    ⟨some 2, none, .mv (.t 11), []⟩])
  .ret))⟩
theorem F22_code : cfgA.code 22 = some F22 := by kernel_rfl

/-- (*ticketline/reclaim.Give).Result -/
noncomputable def F23 : AFn := ⟨10, [.tmp 2], (.seq
 (.ops 0 [⟨some 2, none, .mv (.c (.int .u64 0)), []⟩])
 (.seq
  (.seq
   (.ops 1 [⟨some 3, none, .mv (.t 0), []⟩,
     ⟨some 4, none, .call 67 [.t 3], []⟩,
     ⟨some 5, none, .un .not (.t 4), []⟩])
   (.cond (.t 5)
    (.seq
     (.ops 2 [⟨some 2, none, .mv (.c (.int .u64 0)), []⟩])
     .ret)
    .skip))
  (.seq
   (.ops 3 [⟨some 6, none, .mv (.t 0), []⟩,
     ⟨some 7, none, .nilc (.t 6) (mok Tryz.prog), []⟩,
     ⟨some 8, none, .fld 7 (.t 7), []⟩,
     ⟨some 9, none, .ld 1 false (.t 8), []⟩,
     ⟨some 2, none, .mv (.t 9), []⟩])
   .ret)))⟩
theorem F23_code : cfgA.code 23 = some F23 := by kernel_rfl

/-- (*ticketline/reclaim.Give).Copy -/
noncomputable def F24 : AFn := ⟨16, [.tmp 2], (.seq
 (.ops 0 [⟨some 2, none, .mv (.c (.nili)), []⟩])
 (.seq
  (.seq
   (.ops 1 [⟨some 4, none, .mv (.t 0), []⟩,
     ⟨some 5, none, .call 64 [.t 4], []⟩])
   (.cond (.t 5)
    (.seq
     (.ops 2 [⟨some 2, none, .mv (.c (.nili)), []⟩])
     .ret)
    .skip))
  (.seq
   (.ops 3 [⟨some 6, none, .mv (.t 0), []⟩,
     ⟨some 7, none, .nilc (.t 6) (mok Tryz.prog), []⟩,
     ⟨some 8, none, .ld 8 true (.t 7), []⟩,
     ⟨some 3, none, .alloc [.int .i64 0, .int .i64 0, .int .i64 0, .int .u64 0, .int .i64 0, .nili, .int .u64 0, .int .u64 0] true, []⟩,
     ⟨none, none, .st 8 (.t 3) (.t 8), []⟩])
   (.seq
    (.ops 4 [⟨some 9, none, .mv (.t 0), []⟩,
      ⟨some 10, none, .nilc (.t 9) (mok Tryz.prog), []⟩,
      ⟨some 11, none, .fld 5 (.t 10), []⟩,
      ⟨some 12, none, .ld 1 false (.t 11), []⟩,
      ⟨some 13, none, .call 68 [.t 12], []⟩,
      ⟨some 14, none, .fld 5 (.t 3), []⟩,
      ⟨none, none, .st 1 (.t 14) (.t 13), []⟩])
    (.seq
     (.ops 5 [⟨some 15, none, .mki 58 (.t 3), []⟩,
       ⟨some 2, none, .mv (.t 15), []⟩])
     .ret)))))⟩
theorem F24_code : cfgA.code 24 = some F24 := by kernel_rfl

/-- (*ticketline/reclaim.Join).Pages -/
noncomputable def F25 : AFn := ⟨33, [.cell 2 130 true, .cell 3 130 true, .cell 4 130 true], (.seq
 (.ops 0 [⟨some 2, none, .alloc [.int .i64 0, .int .u64 0, .int .u64 0, .int .u64 0, .int .u64 0, .int .u64 0, .int .u64 0, .int .u64 0, .int .u64 0, .int .u64 0, .int .u64 0, .int .u64 0, .int .u64 0, .int .u64 0, .int .u64 0, .int .u64 0, .int .u64 0, .int .u64 0, .int .u64 0, .int .u64 0, .int .u64 0, .int .u64 0, .int .u64 0, .int .u64 0, .int .u64 0, .int .u64 0, .int .u64 0, .int .u64 0, .int .u64 0, .int .u64 0, .int .u64 0, .int .u64 0, .int .u64 0, .int .u64 0, .int .u64 0, .int .u64 0, .int .u64 0, .int .u64 0, .int .u64 0, .int .u64 0, .int .u64 0, .int .u64 0, .int .u64 0, .int .u64 0, .int .u64 0, .int .u64 0, .int .u64 0, .int .u64 0, .int .u64 0, .int .u64 0, .int .u64 0, .int .u64 0, .int .u64 0, .int .u64 0, .int .u64 0, .int .u64 0, .int .u64 0, .int .u64 0, .int .u64 0, .int .u64 0, .int .u64 0, .int .u64 0, .int .u64 0, .int .u64 0, .int .u64 0, .int .u64 0, .int .u64 0, .int .u64 0, .int .u64 0, .int .u64 0, .int .u64 0, .int .u64 0, .int .u64 0, .int .u64 0, .int .u64 0, .int .u64 0, .int .u64 0, .int .u64 0, .int .u64 0, .int .u64 0, .int .u64 0, .int .u64 0, .int .u64 0, .int .u64 0, .int .u64 0, .int .u64 0, .int .u64 0, .int .u64 0, .int .u64 0, .int .u64 0, .int .u64 0, .int .u64 0, .int .u64 0, .int .u64 0, .int .u64 0, .int .u64 0, .int .u64 0, .int .u64 0, .int .u64 0, .int .u64 0, .int .u64 0, .int .u64 0, .int .u64 0, .int .u64 0, .int .u64 0, .int .u64 0, .int .u64 0, .int .u64 0, .int .u64 0, .int .u64 0, .int .u64 0, .int .u64 0, .int .u64 0, .int .u64 0, .int .u64 0, .int .u64 0, .int .u64 0, .int .u64 0, .int .u64 0, .int .u64 0, .int .u64 0, .int .u64 0, .int .u64 0, .int .u64 0, .int .u64 0, .int .u64 0, .int .u64 0, .int .u64 0, .int .u64 0, .int .u64 0] false, []⟩,
   ⟨some 3, none, .alloc [.int .i64 0, .int .u64 0, .int .u64 0, .int .u64 0, .int .u64 0, .int .u64 0, .int .u64 0, .int .u64 0, .int .u64 0, .int .u64 0, .int .u64 0, .int .u64 0, .int .u64 0, .int .u64 0, .int .u64 0, .int .u64 0, .int .u64 0, .int .u64 0, .int .u64 0, .int .u64 0, .int .u64 0, .int .u64 0, .int .u64 0, .int .u64 0, .int .u64 0, .int .u64 0, .int .u64 0, .int .u64 0, .int .u64 0, .int .u64 0, .int .u64 0, .int .u64 0, .int .u64 0, .int .u64 0, .int .u64 0, .int .u64 0, .int .u64 0, .int .u64 0, .int .u64 0, .int .u64 0, .int .u64 0, .int .u64 0, .int .u64 0, .int .u64 0, .int .u64 0, .int .u64 0, .int .u64 0, .int .u64 0, .int .u64 0, .int .u64 0, .int .u64 0, .int .u64 0, .int .u64 0, .int .u64 0, .int .u64 0, .int .u64 0, .int .u64 0, .int .u64 0, .int .u64 0, .int .u64 0, .int .u64 0, .int .u64 0, .int .u64 0, .int .u64 0, .int .u64 0, .int .u64 0, .int .u64 0, .int .u64 0, .int .u64 0, .int .u64 0, .int .u64 0, .int .u64 0, .int .u64 0, .int .u64 0, .int .u64 0, .int .u64 0, .int .u64 0, .int .u64 0, .int .u64 0, .int .u64 0, .int .u64 0, .int .u64 0, .int .u64 0, .int .u64 0, .int .u64 0, .int .u64 0, .int .u64 0, .int .u64 0, .int .u64 0, .int .u64 0, .int .u64 0, .int .u64 0, .int .u64 0, .int .u64 0, .int .u64 0, .int .u64 0, .int .u64 0, .int .u64 0, .int .u64 0, .int .u64 0, .int .u64 0, .int .u64 0, .int .u64 0, .int .u64 0, .int .u64 0, .int .u64 0, .int .u64 0, .int .u64 0, .int .u64 0, .int .u64 0, .int .u64 0, .int .u64 0, .int .u64 0, .int .u64 0, .int .u64 0, .int .u64 0, .int .u64 0, .int .u64 0, .int .u64 0, .int .u64 0, .int .u64 0, .int .u64 0, .int .u64 0, .int .u64 0, .int .u64 0, .int .u64 0, .int .u64 0, .int .u64 0, .int .u64 0, .int .u64 0] false, []⟩,
   ⟨some 4, none, .alloc [.int .i64 0, .int .u64 0, .int .u64 0, .int .u64 0, .int .u64 0, .int .u64 0, .int .u64 0, .int .u64 0, .int .u64 0, .int .u64 0, .int .u64 0, .int .u64 0, .int .u64 0, .int .u64 0, .int .u64 0, .int .u64 0, .int .u64 0, .int .u64 0, .int .u64 0, .int .u64 0, .int .u64 0, .int .u64 0, .int .u64 0, .int .u64 0, .int .u64 0, .int .u64 0, .int .u64 0, .int .u64 0, .int .u64 0, .int .u64 0, .int .u64 0, .int .u64 0, .int .u64 0, .int .u64 0, .int .u64 0, .int .u64 0, .int .u64 0, .int .u64 0, .int .u64 0, .int .u64 0, .int .u64 0, .int .u64 0, .int .u64 0, .int .u64 0, .int .u64 0, .int .u64 0, .int .u64 0, .int .u64 0, .int .u64 0, .int .u64 0, .int .u64 0, .int .u64 0, .int .u64 0, .int .u64 0, .int .u64 0, .int .u64 0, .int .u64 0, .int .u64 0, .int .u64 0, .int .u64 0, .int .u64 0, .int .u64 0, .int .u64 0, .int .u64 0, .int .u64 0, .int .u64 0, .int .u64 0, .int .u64 0, .int .u64 0, .int .u64 0, .int .u64 0, .int .u64 0, .int .u64 0, .int .u64 0, .int .u64 0, .int .u64 0, .int .u64 0, .int .u64 0, .int .u64 0, .int .u64 0, .int .u64 0, .int .u64 0, .int .u64 0, .int .u64 0, .int .u64 0, .int .u64 0, .int .u64 0, .int .u64 0, .int .u64 0, .int .u64 0, .int .u64 0, .int .u64 0, .int .u64 0, .int .u64 0, .int .u64 0, .int .u64 0, .int .u64 0, .int .u64 0, .int .u64 0, .int .u64 0, .int .u64 0, .int .u64 0, .int .u64 0, .int .u64 0, .int .u64 0, .int .u64 0, .int .u64 0, .int .u64 0, .int .u64 0, .int .u64 0, .int .u64 0, .int .u64 0, .int .u64 0, .int .u64 0, .int .u64 0, .int .u64 0, .int .u64 0, .int .u64 0, .int .u64 0, .int .u64 0, .int .u64 0, .int .u64 0, .int .u64 0, .int .u64 0, .int .u64 0, .int .u64 0, .int .u64 0, .int .u64 0, .int .u64 0, .int .u64 0] false, []⟩])
 (.seq
  (.seq
   (.ops 1 [⟨some 5, none, .mv (.t 0), []⟩,
     ⟨some 6, none, .call 69 [.t 5], []⟩,
     ⟨some 7, none, .un .not (.t 6), []⟩])
   (.cond (.t 7)
    (.seq
     (.ops 2 [⟨some 8, none, .ld 130 true (.t 2), []⟩,
       ⟨some 9, none, .ld 130 true (.t 3), []⟩,
       ⟨some 10, none, .ld 130 true (.t 4), []⟩,
       ⟨none, none, .st 130 (.t 2) (.t 8), [(9, .ld 130 true (.t 3)), (10, .ld 130 true (.t 4))]⟩,
       ⟨none, none, .st 130 (.t 3) (.t 9), [(10, .ld 130 true (.t 4))]⟩,
       ⟨none, none, .st 130 (.t 4) (.t 10), []⟩])
     .ret)
    .skip))
  (.seq
   (.seq
    (.ops 3 [⟨some 11, none, .mv (.t 0), []⟩,
      ⟨some 12, none, .nilc (.t 11) (mok Tryz.prog), []⟩,
      ⟨some 13, none, .fld 3 (.t 12), []⟩,
      ⟨some 14, none, .fld 390 (.t 13), []⟩,
      ⟨some 15, none, .ld 1 false (.t 14), []⟩,
      ⟨some 16, none, .un .not (.t 15), []⟩])
    (.cond (.t 16)
     (.ops 4 [⟨some 17, none, .mv (.t 0), []⟩,
       ⟨some 18, none, .nilc (.t 17) (mok Tryz.prog), []⟩,
       ⟨some 19, none, .fld 3 (.t 18), []⟩,
       ⟨some 20, none, .fld 260 (.t 19), []⟩,
       ⟨some 21, none, .ld 130 true (.t 20), []⟩,
       ⟨none, none, .st 130 (.t 4) (.t 21), []⟩])
     .skip))
   (.seq
    (.ops 5 [⟨some 22, none, .mv (.t 0), []⟩,
      ⟨some 23, none, .nilc (.t 22) (mok Tryz.prog), []⟩,
      ⟨some 24, none, .fld 3 (.t 23), []⟩,
      ⟨some 25, none, .fld 0 (.t 24), []⟩,
      ⟨some 26, none, .ld 130 true (.t 25), []⟩,
      ⟨some 27, none, .mv (.t 0), []⟩,
      ⟨some 28, none, .nilc (.t 27) (mok Tryz.prog), []⟩,
      ⟨some 29, none, .fld 3 (.t 28), []⟩,
      ⟨some 30, none, .fld 130 (.t 29), []⟩,
      ⟨some 31, none, .ld 130 true (.t 30), []⟩,
      ⟨some 32, none, .ld 130 true (.t 4), []⟩,
      ⟨none, none, .st 130 (.t 2) (.t 26), [(31, .ld 130 true (.t 30)), (32, .ld 130 true (.t 4))]⟩,
      ⟨none, none, .st 130 (.t 3) (.t 31), [(32, .ld 130 true (.t 4))]⟩,
      ⟨none, none, .st 130 (.t 4) (.t 32), []⟩])
    .ret))))⟩
theorem F25_code : cfgA.code 25 = some F25 := by kernel_rfl

/-- (*ticketline/reclaim.Join).Step -/
noncomputable def F26 : AFn := ⟨43, [.tmp 4, .tmp 5], (.seq
 (.ops 0 [⟨some 4, none, .mv (.c (.bool false)), []⟩,
   ⟨some 5, none, .mv (.c (.int .i64 0)), []⟩])
 (.seq
  (.block 0
   (.seq
    (.ops 1 [⟨some 9, none, .mv (.t 0), []⟩,
      ⟨some 10, none, .call 70 [.t 9], []⟩,
      ⟨some 11, none, .mv (.t 10), []⟩,
      ⟨some 12, some (11, false), .mv (.t 1), []⟩,
      ⟨some 13, some (11, false), .eqn .iface false (.t 12), []⟩,
      ⟨some 14, none, .pick (.t 11) (.c (.bool true)) (.t 13), []⟩,
      ⟨some 8, none, .mv (.t 14), []⟩])
    (.cond (.t 8)
     (.seq
      (.ops 2 [⟨some 4, none, .mv (.c (.bool false)), []⟩,
        ⟨some 5, none, .mv (.c (.int .i64 1)), []⟩])
      .ret)
     (.seq
      (.ops 3 [⟨some 16, none, .mv (.t 0), []⟩,
        ⟨some 17, none, .nilc (.t 16) (mok Tryz.prog), []⟩,
        ⟨some 18, none, .fld 395 (.t 17), []⟩,
        ⟨some 19, none, .ld 1 false (.t 18), []⟩,
        ⟨some 20, none, .bin .eql (.t 19) (.c (.int .i64 20)), []⟩,
        ⟨some 15, none, .mv (.t 20), []⟩])
      (.cond (.t 15)
       (.seq
        (.ops 4 [⟨some 4, none, .mv (.c (.bool false)), []⟩,
          ⟨some 5, none, .mv (.c (.int .i64 17)), []⟩])
        .ret)
       .skip)))))
  (.seq
   (.ops 5 [⟨some 22, none, .mv (.t 0), []⟩,
     ⟨some 23, none, .nilc (.t 22) (mok Tryz.prog), []⟩,
     ⟨some 24, none, .fld 396 (.t 23), []⟩,
     ⟨some 25, none, .ld 1 false (.t 24), []⟩,
     ⟨some 26, none, .mv (.t 1), []⟩,
     ⟨some 27, none, .invk (.t 25) "Step" [.t 26], []⟩,
     ⟨some 21, none, .mv (.t 27), []⟩,
     ⟨some 28, none, .ext (.t 21) 0, []⟩,
     ⟨some 29, none, .ext (.t 21) 1, []⟩,
     ⟨some 6, none, .mv (.t 28), []⟩,
     ⟨some 7, none, .mv (.t 29), []⟩])
   (.seq
    (.seq
     (.ops 6 [⟨some 30, none, .mv (.t 7), []⟩,
       ⟨some 31, none, .bin .eql (.t 30) (.c (.int .i64 0)), []⟩,
       ⟨some 32, none, .mv (.t 31), []⟩,
       ⟨some 33, some (32, true), .mv (.t 0), []⟩,
       ⟨some 34, some (32, true), .nilc (.t 33) (mok Tryz.prog), []⟩,
       ⟨some 35, some (32, true), .fld 396 (.t 34), []⟩,
       ⟨some 36, some (32, true), .ld 1 false (.t 35), []⟩,
       ⟨some 37, some (32, true), .invk (.t 36) "Done" [], []⟩,
       ⟨some 38, none, .pick (.t 32) (.t 37) (.c (.bool false)), []⟩])
     (.cond (.t 38)
      (.ops 7 [⟨some 39, none, .mv (.t 0), []⟩,
        ⟨some 40, none, .call 71 [.t 39], []⟩,
        ⟨some 7, none, .mv (.t 40), []⟩])
      .skip))
    (.seq
     (.ops 8 [⟨some 41, none, .mv (.t 6), []⟩,
       ⟨some 42, none, .mv (.t 7), []⟩,
       ⟨some 4, none, .mv (.t 41), []⟩,
       ⟨some 5, none, .mv (.t 42), []⟩])
     .ret)))))⟩
theorem F26_code : cfgA.code 26 = some F26 := by kernel_rfl

/-- (*ticketline/reclaim.Join).Done -/
noncomputable def F27 : AFn := ⟨12, [.tmp 2], (.seq
 (.ops 0 [⟨some 2, none, .mv (.c (.bool false)), []⟩])
 (.seq
  (.ops 1 [⟨some 3, none, .mv (.t 0), []⟩,
    ⟨some 4, none, .call 70 [.t 3], []⟩,
    ⟨some 5, none, .mv (.t 4), []⟩,
    ⟨some 6, some (5, false), .mv (.t 0), []⟩,
    ⟨some 7, some (5, false), .nilc (.t 6) (mok Tryz.prog), []⟩,
    ⟨some 8, some (5, false), .fld 395 (.t 7), []⟩,
    ⟨some 9, some (5, false), .ld 1 false (.t 8), []⟩,
    ⟨some 10, some (5, false), .bin .eql (.t 9) (.c (.int .i64 20)), []⟩,
    ⟨some 11, none, .pick (.t 5) (.c (.bool true)) (.t 10), []⟩,
    ⟨some 2, none, .mv (.t 11), []⟩])
  .ret))⟩
theorem F27_code : cfgA.code 27 = some F27 := by kernel_rfl

/-- (*ticketline/reclaim.Join).Result -/
noncomputable def F28 : AFn := ⟨13, [.tmp 2], (.seq
 (.ops 0 [⟨some 2, none, .mv (.c (.int .u64 0)), []⟩])
 (.seq
  (.block 0
   (.seq
    (.ops 1 [⟨some 4, none, .mv (.t 0), []⟩,
      ⟨some 5, none, .call 69 [.t 4], []⟩,
      ⟨some 6, none, .un .not (.t 5), []⟩,
      ⟨some 3, none, .mv (.t 6), []⟩])
    (.cond (.t 3)
     (.seq
      (.ops 2 [⟨some 2, none, .mv (.c (.int .u64 0)), []⟩])
      .ret)
     (.seq
      (.ops 3 [⟨some 8, none, .mv (.t 0), []⟩,
        ⟨some 9, none, .nilc (.t 8) (mok Tryz.prog), []⟩,
        ⟨some 10, none, .fld 3 (.t 9), []⟩,
        ⟨some 11, none, .fld 390 (.t 10), []⟩,
        ⟨some 12, none, .ld 1 false (.t 11), []⟩,
        ⟨some 7, none, .mv (.t 12), []⟩])
      (.cond (.t 7)
       (.seq
        (.ops 4 [⟨some 2, none, .mv (.c (.int .u64 1)), []⟩])
        .ret)
       .skip)))))
  (.seq
   (.ops 5 [⟨some 2, none, .mv (.c (.int .u64 2)), []⟩])
   .ret)))⟩
theorem F28_code : cfgA.code 28 = some F28 := by kernel_rfl

/-- (*ticketline/reclaim.Join).Copy -/
noncomputable def F29 : AFn := ⟨16, [.tmp 2], (.seq
 (.ops 0 [⟨some 2, none, .mv (.c (.nili)), []⟩])
 (.seq
  (.seq
   (.ops 1 [⟨some 4, none, .mv (.t 0), []⟩,
     ⟨some 5, none, .call 70 [.t 4], []⟩])
   (.cond (.t 5)
    (.seq
     (.ops 2 [⟨some 2, none, .mv (.c (.nili)), []⟩])
     .ret)
    .skip))
  (.seq
   (.ops 3 [⟨some 6, none, .mv (.t 0), []⟩,
     ⟨some 7, none, .nilc (.t 6) (mok Tryz.prog), []⟩,
     ⟨some 8, none, .ld 397 true (.t 7), []⟩,
     ⟨some 3, none, .alloc [.int .i64 0, .int .i64 0, .int .i64 0, .int .i64 0, .int .u64 0, .int .u64 0, .int .u64 0, .int .u64 0, .int .u64 0, .int .u64 0, .int .u64 0, .int .u64 0, .int .u64 0, .int .u64 0, .int .u64 0, .int .u64 0, .int .u64 0, .int .u64 0, .int .u64 0, .int .u64 0, .int .u64 0, .int .u64 0, .int .u64 0, .int .u64 0, .int .u64 0, .int .u64 0, .int .u64 0, .int .u64 0, .int .u64 0, .int .u64 0, .int .u64 0, .int .u64 0, .int .u64 0, .int .u64 0, .int .u64 0, .int .u64 0, .int .u64 0, .int .u64 0, .int .u64 0, .int .u64 0, .int .u64 0, .int .u64 0, .int .u64 0, .int .u64 0, .int .u64 0, .int .u64 0, .int .u64 0, .int .u64 0, .int .u64 0, .int .u64 0, .int .u64 0, .int .u64 0, .int .u64 0, .int .u64 0, .int .u64 0, .int .u64 0, .int .u64 0, .int .u64 0, .int .u64 0, .int .u64 0, .int .u64 0, .int .u64 0, .int .u64 0, .int .u64 0, .int .u64 0, .int .u64 0, .int .u64 0, .int .u64 0, .int .u64 0, .int .u64 0, .int .u64 0, .int .u64 0, .int .u64 0, .int .u64 0, .int .u64 0, .int .u64 0, .int .u64 0, .int .u64 0, .int .u64 0, .int .u64 0, .int .u64 0, .int .u64 0, .int .u64 0, .int .u64 0, .int .u64 0, .int .u64 0, .int .u64 0, .int .u64 0, .int .u64 0, .int .u64 0, .int .u64 0, .int .u64 0, .int .u64 0, .int .u64 0, .int .u64 0, .int .u64 0, .int .u64 0, .int .u64 0, .int .u64 0, .int .u64 0, .int .u64 0, .int .u64 0, .int .u64 0, .int .u64 0, .int .u64 0, .int .u64 0, .int .u64 0, .int .u64 0, .int .u64 0, .int .u64 0, .int .u64 0, .int .u64 0, .int .u64 0, .int .u64 0, .int .u64 0, .int .u64 0, .int .u64 0, .int .u64 0, .int .u64 0, .int .u64 0, .int .u64 0, .int .u64 0, .int .u64 0, .int .u64 0, .int .u64 0, .int .u64 0, .int .u64 0, .int .u64 0, .int .u64 0, .int .u64 0, .int .u64 0, .int .u64 0, .int .u64 0, .int .i64 0, .int .u64 0, .int .u64 0, .int .u64 0, .int .u64 0, .int .u64 0, .int .u64 0, .int .u64 0, .int .u64 0, .int .u64 0, .int .u64 0, .int .u64 0, .int .u64 0, .int .u64 0, .int .u64 0, .int .u64 0, .int .u64 0, .int .u64 0, .int .u64 0, .int .u64 0, .int .u64 0, .int .u64 0, .int .u64 0, .int .u64 0, .int .u64 0, .int .u64 0, .int .u64 0, .int .u64 0, .int .u64 0, .int .u64 0, .int .u64 0, .int .u64 0, .int .u64 0, .int .u64 0, .int .u64 0, .int .u64 0, .int .u64 0, .int .u64 0, .int .u64 0, .int .u64 0, .int .u64 0, .int .u64 0, .int .u64 0, .int .u64 0, .int .u64 0, .int .u64 0, .int .u64 0, .int .u64 0, .int .u64 0, .int .u64 0, .int .u64 0, .int .u64 0, .int .u64 0, .int .u64 0, .int .u64 0, .int .u64 0, .int .u64 0, .int .u64 0, .int .u64 0, .int .u64 0, .int .u64 0, .int .u64 0, .int .u64 0, .int .u64 0, .int .u64 0, .int .u64 0, .int .u64 0, .int .u64 0, .int .u64 0, .int .u64 0, .int .u64 0, .int .u64 0, .int .u64 0, .int .u64 0, .int .u64 0, .int .u64 0, .int .u64 0, .int .u64 0, .int .u64 0, .int .u64 0, .int .u64 0, .int .u64 0, .int .u64 0, .int .u64 0, .int .u64 0, .int .u64 0, .int .u64 0, .int .u64 0, .int .u64 0, .int .u64 0, .int .u64 0, .int .u64 0, .int .u64 0, .int .u64 0, .int .u64 0, .int .u64 0, .int .u64 0, .int .u64 0, .int .u64 0, .int .u64 0, .int .u64 0, .int .u64 0, .int .u64 0, .int .u64 0, .int .u64 0, .int .u64 0, .int .u64 0, .int .u64 0, .int .u64 0, .int .u64 0, .int .u64 0, .int .u64 0, .int .u64 0, .int .u64 0, .int .u64 0, .int .u64 0, .int .u64 0, .int .u64 0, .int .u64 0, .int .u64 0, .int .u64 0, .int .u64 0, .int .u64 0, .int .u64 0, .int .u64 0, .int .u64 0, .int .u64 0, .int .u64 0, .int .u64 0, .int .u64 0, .int .i64 0, .int .u64 0, .int .u64 0, .int .u64 0, .int .u64 0, .int .u64 0, .int .u64 0, .int .u64 0, .int .u64 0, .int .u64 0, .int .u64 0, .int .u64 0, .int .u64 0, .int .u64 0, .int .u64 0, .int .u64 0, .int .u64 0, .int .u64 0, .int .u64 0, .int .u64 0, .int .u64 0, .int .u64 0, .int .u64 0, .int .u64 0, .int .u64 0, .int .u64 0, .int .u64 0, .int .u64 0, .int .u64 0, .int .u64 0, .int .u64 0, .int .u64 0, .int .u64 0, .int .u64 0, .int .u64 0, .int .u64 0, .int .u64 0, .int .u64 0, .int .u64 0, .int .u64 0, .int .u64 0, .int .u64 0, .int .u64 0, .int .u64 0, .int .u64 0, .int .u64 0, .int .u64 0, .int .u64 0, .int .u64 0, .int .u64 0, .int .u64 0, .int .u64 0, .int .u64 0, .int .u64 0, .int .u64 0, .int .u64 0, .int .u64 0, .int .u64 0, .int .u64 0, .int .u64 0, .int .u64 0, .int .u64 0, .int .u64 0, .int .u64 0, .int .u64 0, .int .u64 0, .int .u64 0, .int .u64 0, .int .u64 0, .int .u64 0, .int .u64 0, .int .u64 0, .int .u64 0, .int .u64 0, .int .u64 0, .int .u64 0, .int .u64 0, .int .u64 0, .int .u64 0, .int .u64 0, .int .u64 0, .int .u64 0, .int .u64 0, .int .u64 0, .int .u64 0, .int .u64 0, .int .u64 0, .int .u64 0, .int .u64 0, .int .u64 0, .int .u64 0, .int .u64 0, .int .u64 0, .int .u64 0, .int .u64 0, .int .u64 0, .int .u64 0, .int .u64 0, .int .u64 0, .int .u64 0, .int .u64 0, .int .u64 0, .int .u64 0, .int .u64 0, .int .u64 0, .int .u64 0, .int .u64 0, .int .u64 0, .int .u64 0, .int .u64 0, .int .u64 0, .int .u64 0, .int .u64 0, .int .u64 0, .int .u64 0, .int .u64 0, .int .u64 0, .int .u64 0, .int .u64 0, .int .u64 0, .int .u64 0, .int .u64 0, .int .u64 0, .int .u64 0, .int .u64 0, .int .u64 0, .int .u64 0, .int .u64 0, .int .u64 0, .int .u64 0, .bool false, .bool false, .int .i64 0, .nili] true, []⟩,
     ⟨none, none, .st 397 (.t 3) (.t 8), []⟩])
   (.seq
    (.ops 4 [⟨some 9, none, .mv (.t 0), []⟩,
      ⟨some 10, none, .nilc (.t 9) (mok Tryz.prog), []⟩,
      ⟨some 11, none, .fld 396 (.t 10), []⟩,
      ⟨some 12, none, .ld 1 false (.t 11), []⟩,
      ⟨some 13, none, .call 68 [.t 12], []⟩,
      ⟨some 14, none, .fld 396 (.t 3), []⟩,
      ⟨none, none, .st 1 (.t 14) (.t 13), []⟩])
    (.seq
     (.ops 5 [⟨some 15, none, .mki 59 (.t 3), []⟩,
       ⟨some 2, none, .mv (.t 15), []⟩])
     .ret)))))⟩
theorem F29_code : cfgA.code 29 = some F29 := by kernel_rfl

/-- (*ticketline/reclaim.Lower).Step -/
noncomputable def F30 : AFn := ⟨78, [.tmp 4, .tmp 5], (.seq
 (.ops 0 [⟨some 4, none, .mv (.c (.bool false)), []⟩,
   ⟨some 5, none, .mv (.c (.int .i64 0)), []⟩])
 (.seq
  (.block 0
   (.seq
    (.ops 1 [⟨some 10, none, .mv (.t 0), []⟩,
      ⟨some 11, none, .call 72 [.t 10], []⟩,
      ⟨some 12, none, .mv (.t 11), []⟩,
      ⟨some 13, some (12, false), .mv (.t 1), []⟩,
      ⟨some 14, some (12, false), .eqn .iface false (.t 13), []⟩,
      ⟨some 15, none, .pick (.t 12) (.c (.bool true)) (.t 14), []⟩,
      ⟨some 9, none, .mv (.t 15), []⟩])
    (.cond (.t 9)
     (.seq
      (.ops 2 [⟨some 4, none, .mv (.c (.bool false)), []⟩,
        ⟨some 5, none, .mv (.c (.int .i64 1)), []⟩])
      .ret)
     (.seq
      (.ops 3 [⟨some 17, none, .mv (.t 0), []⟩,
        ⟨some 18, none, .nilc (.t 17) (mok Tryz.prog), []⟩,
        ⟨some 19, none, .fld 5 (.t 18), []⟩,
        ⟨some 20, none, .ld 1 false (.t 19), []⟩,
        ⟨some 21, none, .bin .eql (.t 20) (.c (.int .i64 20)), []⟩,
        ⟨some 16, none, .mv (.t 21), []⟩])
      (.cond (.t 16)
       (.seq
        (.ops 4 [⟨some 4, none, .mv (.c (.bool false)), []⟩,
          ⟨some 5, none, .mv (.c (.int .i64 17)), []⟩])
        .ret)
       .skip)))))
  (.seq
   (.ops 5 [⟨some 23, none, .mv (.t 0), []⟩,
     ⟨some 24, none, .nilc (.t 23) (mok Tryz.prog), []⟩,
     ⟨some 25, none, .fld 6 (.t 24), []⟩,
     ⟨some 26, none, .ld 1 false (.t 25), []⟩,
     ⟨some 27, none, .mv (.t 1), []⟩,
     ⟨some 28, none, .invk (.t 26) "Step" [.t 27], []⟩,
     ⟨some 22, none, .mv (.t 28), []⟩,
     ⟨some 29, none, .ext (.t 22) 0, []⟩,
     ⟨some 30, none, .ext (.t 22) 1, []⟩,
     ⟨some 6, none, .mv (.t 29), []⟩,
     ⟨some 7, none, .mv (.t 30), []⟩])
   (.seq
    (.seq
     (.ops 6 [⟨some 31, none, .mv (.t 7), []⟩,
       ⟨some 32, none, .bin .neq (.t 31) (.c (.int .i64 0)), []⟩,
       ⟨some 33, none, .mv (.t 32), []⟩,
       ⟨some 34, some (33, false), .mv (.t 0), []⟩,
       ⟨some 35, some (33, false), .nilc (.t 34) (mok Tryz.prog), []⟩,
       ⟨some 36, some (33, false), .fld 6 (.t 35), []⟩,
       ⟨some 37, some (33, false), .ld 1 false (.t 36), []⟩,
       ⟨some 38, some (33, false), .invk (.t 37) "Done" [], []⟩,
       ⟨some 39, some (33, false), .un .not (.t 38), []⟩,
       ⟨some 40, none, .pick (.t 33) (.c (.bool true)) (.t 39), []⟩])
     (.cond (.t 40)
      (.seq
       (.ops 7 [⟨some 41, none, .mv (.t 6), []⟩,
         ⟨some 42, none, .mv (.t 7), []⟩,
         ⟨some 4, none, .mv (.t 41), []⟩,
         ⟨some 5, none, .mv (.t 42), []⟩])
       .ret)
      .skip))
    (.seq
     (.seq
      (.ops 8 [⟨some 43, none, .mv (.t 0), []⟩,
        ⟨some 44, none, .nilc (.t 43) (mok Tryz.prog), []⟩,
        ⟨some 45, none, .fld 5 (.t 44), []⟩,
        ⟨some 46, none, .ld 1 false (.t 45), []⟩,
        ⟨some 47, none, .bin .eql (.t 46) (.c (.int .i64 18)), []⟩])
      (.cond (.t 47)
       (.seq
        (.ops 9 [⟨some 48, none, .mv (.t 0), []⟩,
          ⟨some 49, none, .nilc (.t 48) (mok Tryz.prog), []⟩,
          ⟨some 50, none, .fld 5 (.t 49), []⟩,
          ⟨none, none, .st 1 (.t 50) (.c (.int .i64 20)), []⟩])
        (.seq
         (.ops 10 [⟨some 51, none, .mv (.t 6), []⟩,
           ⟨some 4, none, .mv (.t 51), []⟩,
           ⟨some 5, none, .mv (.c (.int .i64 0)), []⟩])
         .ret))
       .skip))
     (.seq
      (.ops 11 [⟨some 53, none, .mv (.t 0), []⟩,
        ⟨some 54, none, .nilc (.t 53) (mok Tryz.prog), []⟩,
        ⟨some 55, none, .fld 0 (.t 54), []⟩,
        ⟨some 56, none, .ld 2 true (.t 55), []⟩,
        ⟨some 57, none, .mv (.t 0), []⟩,
        ⟨some 58, none, .nilc (.t 57) (mok Tryz.prog), []⟩,
        ⟨some 59, none, .fld 2 (.t 58), []⟩,
        ⟨some 60, none, .ld 1 false (.t 59), []⟩,
        ⟨some 61, none, .mv (.t 0), []⟩,
        ⟨some 62, none, .nilc (.t 61) (mok Tryz.prog), []⟩,
        ⟨some 63, none, .fld 3 (.t 62), []⟩,
        ⟨some 64, none, .ld 1 false (.t 63), []⟩,
        ⟨some 65, none, .call 73 [.t 56, .t 60, .t 64], []⟩,
        ⟨some 52, none, .mv (.t 65), []⟩,
        ⟨some 66, none, .ext (.t 52) 0, []⟩,
        ⟨some 67, none, .ext (.t 52) 1, []⟩,
        ⟨some 8, none, .mv (.t 66), []⟩,
        ⟨some 7, none, .mv (.t 67), []⟩])
      (.seq
       (.ops 12 [⟨some 68, none, .mv (.t 0), []⟩,
         ⟨some 69, none, .mv (.t 0), []⟩,
         ⟨some 70, none, .mv (.t 8), []⟩,
         ⟨some 71, none, .mki 58 (.t 70), []⟩,
         ⟨some 72, none, .nilc (.t 68) (mok Tryz.prog), []⟩,
         ⟨some 73, none, .fld 6 (.t 72), []⟩,
         ⟨none, none, .st 1 (.t 73) (.t 71), []⟩,
         ⟨some 74, none, .nilc (.t 69) (mok Tryz.prog), []⟩,
         ⟨some 75, none, .fld 5 (.t 74), []⟩,
         ⟨none, none, .st 1 (.t 75) (.c (.int .i64 18)), []⟩])
       (.seq
        (.ops 13 [⟨some 76, none, .mv (.t 6), []⟩,
          ⟨some 77, none, .mv (.t 7), []⟩,
          ⟨some 4, none, .mv (.t 76), []⟩,
          ⟨some 5, none, .mv (.t 77), []⟩])
        .ret))))))))⟩
theorem F30_code : cfgA.code 30 = some F30 := by kernel_rfl

/-- (*ticketline/reclaim.Lower).Done -/
noncomputable def F31 : AFn := ⟨12, [.tmp 2], (.seq
 (.ops 0 [⟨some 2, none, .mv (.c (.bool false)), []⟩])
 (.seq
  (.ops 1 [⟨some 3, none, .mv (.t 0), []⟩,
    ⟨some 4, none, .call 72 [.t 3], []⟩,
    ⟨some 5, none, .mv (.t 4), []⟩,
    ⟨some 6, some (5, false), .mv (.t 0), []⟩,
    ⟨some 7, some (5, false), .nilc (.t 6) (mok Tryz.prog), []⟩,
    ⟨some 8, some (5, false), .fld 5 (.t 7), []⟩,
    ⟨some 9, some (5, false), .ld 1 false (.t 8), []⟩,
    ⟨some 10, some (5, false), .bin .eql (.t 9) (.c (.int .i64 20)), []⟩,
    ⟨some 11, none, .pick (.t 5) (.c (.bool true)) (.t 10), []⟩,
    ⟨some 2, none, .mv (.t 11), []⟩])
  .ret))⟩
theorem F31_code : cfgA.code 31 = some F31 := by kernel_rfl

/-- (*ticketline/reclaim.Lower).Result -/
noncomputable def F32 : AFn := ⟨11, [.tmp 2], (.seq
 (.ops 0 [⟨some 2, none, .mv (.c (.int .u64 0)), []⟩])
 (.seq
  (.seq
   (.ops 1 [⟨some 3, none, .mv (.t 0), []⟩,
     ⟨some 4, none, .call 74 [.t 3], []⟩,
     ⟨some 5, none, .un .not (.t 4), []⟩])
   (.cond (.t 5)
    (.seq
     (.ops 2 [⟨some 2, none, .mv (.c (.int .u64 0)), []⟩])
     .ret)
    .skip))
  (.seq
   (.ops 3 [⟨some 6, none, .mv (.t 0), []⟩,
     ⟨some 7, none, .nilc (.t 6) (mok Tryz.prog), []⟩,
     ⟨some 8, none, .fld 4 (.t 7), []⟩,
     ⟨some 9, none, .ld 1 false (.t 8), []⟩,
     ⟨some 10, none, .cvi .u64 (.t 9), []⟩,
     ⟨some 2, none, .mv (.t 10), []⟩])
   .ret)))⟩
theorem F32_code : cfgA.code 32 = some F32 := by kernel_rfl

/-- (*ticketline/reclaim.Lower).Copy -/
noncomputable def F33 : AFn := ⟨16, [.tmp 2], (.seq
 (.ops 0 [⟨some 2, none, .mv (.c (.nili)), []⟩])
 (.seq
  (.seq
   (.ops 1 [⟨some 4, none, .mv (.t 0), []⟩,
     ⟨some 5, none, .call 72 [.t 4], []⟩])
   (.cond (.t 5)
    (.seq
     (.ops 2 [⟨some 2, none, .mv (.c (.nili)), []⟩])
     .ret)
    .skip))
  (.seq
   (.ops 3 [⟨some 6, none, .mv (.t 0), []⟩,
     ⟨some 7, none, .nilc (.t 6) (mok Tryz.prog), []⟩,
     ⟨some 8, none, .ld 7 true (.t 7), []⟩,
     ⟨some 3, none, .alloc [.int .i64 0, .int .i64 0, .int .i64 0, .int .i64 0, .int .i64 0, .int .i64 0, .nili] true, []⟩,
     ⟨none, none, .st 7 (.t 3) (.t 8), []⟩])
   (.seq
    (.ops 4 [⟨some 9, none, .mv (.t 0), []⟩,
      ⟨some 10, none, .nilc (.t 9) (mok Tryz.prog), []⟩,
      ⟨some 11, none, .fld 6 (.t 10), []⟩,
      ⟨some 12, none, .ld 1 false (.t 11), []⟩,
      ⟨some 13, none, .call 68 [.t 12], []⟩,
      ⟨some 14, none, .fld 6 (.t 3), []⟩,
      ⟨none, none, .st 1 (.t 14) (.t 13), []⟩])
    (.seq
     (.ops 5 [⟨some 15, none, .mki 60 (.t 3), []⟩,
       ⟨some 2, none, .mv (.t 15), []⟩])
     .ret)))))⟩
theorem F33_code : cfgA.code 33 = some F33 := by kernel_rfl

/-- (*ticketline/reclaim.Sweep).Step -/
noncomputable def F34 : AFn := ⟨137, [.tmp 4, .tmp 5], (.seq
 (.ops 0 [⟨some 4, none, .mv (.c (.bool false)), []⟩,
   ⟨some 5, none, .mv (.c (.int .i64 0)), []⟩])
 (.seq
  (.seq
   (.ops 1 [⟨some 8, none, .mv (.t 0), []⟩,
     ⟨some 9, none, .call 75 [.t 8], []⟩,
     ⟨some 10, none, .mv (.t 9), []⟩,
     ⟨some 11, some (10, false), .mv (.t 1), []⟩,
     ⟨some 12, some (10, false), .eqn .iface false (.t 11), []⟩,
     ⟨some 13, none, .pick (.t 10) (.c (.bool true)) (.t 12), []⟩])
   (.cond (.t 13)
    (.seq
     (.ops 2 [⟨some 4, none, .mv (.c (.bool false)), []⟩,
       ⟨some 5, none, .mv (.c (.int .i64 1)), []⟩])
     .ret)
    .skip))
  (.seq
   (.seq
    (.ops 3 [⟨some 14, none, .mv (.t 0), []⟩,
      ⟨some 15, none, .nilc (.t 14) (mok Tryz.prog), []⟩,
      ⟨some 16, none, .fld 4 (.t 15), []⟩,
      ⟨some 17, none, .ld 1 false (.t 16), []⟩])
    (.block 0
     (.seq
      (.ops 4 [⟨some 19, none, .bin .eql (.t 17) (.c (.int .i64 2)), []⟩,
        ⟨some 18, none, .mv (.t 19), []⟩])
      (.cond (.t 18)
       (.seq
        (.ops 5 [⟨some 20, none, .mv (.t 0), []⟩,
          ⟨some 21, none, .mv (.t 1), []⟩,
          ⟨some 22, none, .call 76 [.t 20, .t 21, .c (.int .i64 2)], []⟩,
          ⟨some 4, none, .mv (.c (.bool false)), []⟩,
          ⟨some 5, none, .mv (.t 22), []⟩])
        .ret)
       (.seq
        (.ops 6 [⟨some 24, none, .bin .eql (.t 17) (.c (.int .i64 3)), []⟩,
          ⟨some 23, none, .mv (.t 24), []⟩])
        (.cond (.t 23)
         (.seq
          (.ops 7 [⟨some 25, none, .mv (.t 0), []⟩,
            ⟨some 26, none, .mv (.t 1), []⟩,
            ⟨some 27, none, .mv (.t 0), []⟩,
            ⟨some 28, none, .nilc (.t 27) (mok Tryz.prog), []⟩,
            ⟨some 29, none, .fld 7 (.t 28), []⟩,
            ⟨some 30, none, .ld 1 false (.t 29), []⟩,
            ⟨some 31, none, .call 77 [.t 30, .c (.int .i64 11)], []⟩,
            ⟨some 32, none, .call 76 [.t 25, .t 26, .t 31], []⟩,
            ⟨some 4, none, .mv (.c (.bool false)), []⟩,
            ⟨some 5, none, .mv (.t 32), []⟩])
          .ret)
         (.seq
          (.seq
           (.ops 8 [⟨some 34, none, .bin .eql (.t 17) (.c (.int .i64 7)), []⟩,
             ⟨some 33, none, .mv (.t 34), []⟩])
           (.cond (.t 33)
            .skip
            (.ops 9 [⟨some 35, none, .bin .eql (.t 17) (.c (.int .i64 8)), []⟩,
              ⟨some 33, none, .mv (.t 35), []⟩])))
          (.cond (.t 33)
           (.seq
            (.ops 10 [⟨some 36, none, .mv (.t 0), []⟩,
              ⟨some 37, none, .mv (.t 1), []⟩,
              ⟨some 38, none, .mv (.t 0), []⟩,
              ⟨some 39, none, .nilc (.t 38) (mok Tryz.prog), []⟩,
              ⟨some 40, none, .fld 7 (.t 39), []⟩,
              ⟨some 41, none, .ld 1 false (.t 40), []⟩,
              ⟨some 42, none, .call 77 [.t 41, .c (.int .i64 10)], []⟩,
              ⟨some 43, none, .call 76 [.t 36, .t 37, .t 42], []⟩,
              ⟨some 4, none, .mv (.c (.bool false)), []⟩,
              ⟨some 5, none, .mv (.t 43), []⟩])
            .ret)
           (.seq
            (.ops 11 [⟨some 45, none, .bin .eql (.t 17) (.c (.int .i64 9)), []⟩,
              ⟨some 44, none, .mv (.t 45), []⟩])
            (.cond (.t 44)
             (.seq
              (.ops 12 [⟨some 46, none, .mv (.t 0), []⟩,
                ⟨some 47, none, .mv (.t 1), []⟩,
                ⟨some 48, none, .mv (.t 0), []⟩,
                ⟨some 49, none, .nilc (.t 48) (mok Tryz.prog), []⟩,
                ⟨some 50, none, .fld 6 (.t 49), []⟩,
                ⟨some 51, none, .ld 1 false (.t 50), []⟩,
                ⟨some 52, none, .mv (.t 0), []⟩,
                ⟨some 53, none, .nilc (.t 52) (mok Tryz.prog), []⟩,
                ⟨some 54, none, .fld 8 (.t 53), []⟩,
                ⟨some 55, none, .ld 1 false (.t 54), []⟩,
                ⟨some 56, none, .call 78 [.t 46, .t 47, .t 51, .t 55, .c (.int .i64 10)], []⟩,
                ⟨some 4, none, .mv (.c (.bool false)), []⟩,
                ⟨some 5, none, .mv (.t 56), []⟩])
              .ret)
             (.seq
              (.ops 13 [⟨some 58, none, .bin .eql (.t 17) (.c (.int .i64 10)), []⟩,
                ⟨some 57, none, .mv (.t 58), []⟩])
              (.cond (.t 57)
               (.seq
                (.ops 14 [⟨some 59, none, .mv (.t 0), []⟩,
                  ⟨some 60, none, .mv (.t 1), []⟩,
                  ⟨some 61, none, .mv (.t 0), []⟩,
                  ⟨some 62, none, .nilc (.t 61) (mok Tryz.prog), []⟩,
                  ⟨some 63, none, .fld 7 (.t 62), []⟩,
                  ⟨some 64, none, .ld 1 false (.t 63), []⟩,
                  ⟨some 65, none, .call 77 [.t 64, .c (.int .i64 8)], []⟩,
                  ⟨some 66, none, .call 78 [.t 59, .t 60, .t 65, .c (.int .u64 0), .c (.int .i64 11)], []⟩,
                  ⟨some 4, none, .mv (.c (.bool false)), []⟩,
                  ⟨some 5, none, .mv (.t 66), []⟩])
                .ret)
               (.seq
                (.ops 15 [⟨some 68, none, .bin .eql (.t 17) (.c (.int .i64 11)), []⟩,
                  ⟨some 67, none, .mv (.t 68), []⟩])
                (.cond (.t 67)
                 (.seq
                  (.ops 16 [⟨some 69, none, .mv (.t 0), []⟩,
                    ⟨some 70, none, .mv (.t 1), []⟩,
                    ⟨some 71, none, .mv (.t 0), []⟩,
                    ⟨some 72, none, .nilc (.t 71) (mok Tryz.prog), []⟩,
                    ⟨some 73, none, .fld 7 (.t 72), []⟩,
                    ⟨some 74, none, .ld 1 false (.t 73), []⟩,
                    ⟨some 75, none, .call 77 [.t 74, .c (.int .i64 11)], []⟩,
                    ⟨some 76, none, .call 78 [.t 69, .t 70, .t 75, .c (.int .u64 0), .c (.int .i64 12)], []⟩,
                    ⟨some 4, none, .mv (.c (.bool false)), []⟩,
                    ⟨some 5, none, .mv (.t 76), []⟩])
                  .ret)
                 (.seq
                  (.ops 17 [⟨some 78, none, .bin .eql (.t 17) (.c (.int .i64 12)), []⟩,
                    ⟨some 77, none, .mv (.t 78), []⟩])
                  (.cond (.t 77)
                   (.seq
                    (.ops 18 [⟨some 79, none, .mv (.t 0), []⟩,
                      ⟨some 80, none, .mv (.t 1), []⟩,
                      ⟨some 81, none, .call 76 [.t 79, .t 80, .c (.int .i64 1)], []⟩,
                      ⟨some 4, none, .mv (.c (.bool false)), []⟩,
                      ⟨some 5, none, .mv (.t 81), []⟩])
                    .ret)
                   (.seq
                    (.ops 19 [⟨some 83, none, .bin .eql (.t 17) (.c (.int .i64 13)), []⟩,
                      ⟨some 82, none, .mv (.t 83), []⟩])
                    (.cond (.t 82)
                     (.seq
                      (.ops 20 [⟨some 84, none, .mv (.t 0), []⟩,
                        ⟨some 85, none, .mv (.t 1), []⟩,
                        ⟨some 86, none, .mv (.t 0), []⟩,
                        ⟨some 87, none, .nilc (.t 86) (mok Tryz.prog), []⟩,
                        ⟨some 88, none, .fld 7 (.t 87), []⟩,
                        ⟨some 89, none, .ld 1 false (.t 88), []⟩,
                        ⟨some 91, none, .mv (.t 0), []⟩,
                        ⟨some 92, none, .nilc (.t 91) (mok Tryz.prog), []⟩,
                        ⟨some 93, none, .fld 9 (.t 92), []⟩,
                        ⟨some 94, none, .ld 1 false (.t 93), []⟩,
                        ⟨some 90, none, .call 77 [.t 89, .c (.int .i64 10)], [(94, .ld 1 false (.t 93))]⟩,
                        ⟨some 95, none, .call 78 [.t 84, .t 85, .t 90, .t 94, .c (.int .i64 14)], []⟩,
                        ⟨some 4, none, .mv (.c (.bool false)), []⟩,
                        ⟨some 5, none, .mv (.t 95), []⟩])
                      .ret)
                     (.seq
                      (.ops 21 [⟨some 97, none, .bin .eql (.t 17) (.c (.int .i64 14)), []⟩,
                        ⟨some 96, none, .mv (.t 97), []⟩])
                      (.cond (.t 96)
                       (.seq
                        (.ops 22 [⟨some 98, none, .mv (.t 0), []⟩,
                          ⟨some 99, none, .mv (.t 1), []⟩,
                          ⟨some 100, none, .call 79 [.t 98, .t 99], []⟩,
                          ⟨some 4, none, .mv (.c (.bool false)), []⟩,
                          ⟨some 5, none, .mv (.t 100), []⟩])
                        .ret)
                       (.seq
                        (.ops 23 [⟨some 102, none, .bin .eql (.t 17) (.c (.int .i64 20)), []⟩,
                          ⟨some 101, none, .mv (.t 102), []⟩])
                        (.cond (.t 101)
                         (.seq
                          (.ops 24 [⟨some 4, none, .mv (.c (.bool false)), []⟩,
                            ⟨some 5, none, .mv (.c (.int .i64 17)), []⟩])
                          .ret)
                         .skip))))))))))))))))))))))
   (.seq
    (.ops 25 [⟨some 104, none, .mv (.t 0), []⟩,
      ⟨some 105, none, .nilc (.t 104) (mok Tryz.prog), []⟩,
      ⟨some 106, none, .fld 5 (.t 105), []⟩,
      ⟨some 107, none, .ld 1 false (.t 106), []⟩,
      ⟨some 108, none, .mv (.t 1), []⟩,
      ⟨some 109, none, .invk (.t 107) "Step" [.t 108], []⟩,
      ⟨some 103, none, .mv (.t 109), []⟩,
      ⟨some 110, none, .ext (.t 103) 0, []⟩,
      ⟨some 111, none, .ext (.t 103) 1, []⟩,
      ⟨some 6, none, .mv (.t 110), []⟩,
      ⟨some 7, none, .mv (.t 111), []⟩])
    (.seq
     (.block 1
      (.seq
       (.ops 27 [⟨some 116, none, .mv (.t 7), []⟩,
         ⟨some 117, none, .bin .neq (.t 116) (.c (.int .i64 0)), []⟩,
         ⟨some 118, none, .mv (.t 117), []⟩,
         ⟨some 119, some (118, false), .mv (.t 0), []⟩,
         ⟨some 120, some (118, false), .nilc (.t 119) (mok Tryz.prog), []⟩,
         ⟨some 121, some (118, false), .fld 5 (.t 120), []⟩,
         ⟨some 122, some (118, false), .ld 1 false (.t 121), []⟩,
         ⟨some 123, some (118, false), .invk (.t 122) "Done" [], []⟩,
         ⟨some 124, some (118, false), .un .not (.t 123), []⟩,
         ⟨some 125, none, .pick (.t 118) (.c (.bool true)) (.t 124), []⟩,
         ⟨some 115, none, .mv (.t 125), []⟩])
       (.cond (.t 115)
        .skip
        (.seq
         (.ops 28 [⟨some 127, none, .mv (.t 0), []⟩,
           ⟨some 128, none, .nilc (.t 127) (mok Tryz.prog), []⟩,
           ⟨some 129, none, .fld 4 (.t 128), []⟩,
           ⟨some 130, none, .ld 1 false (.t 129), []⟩,
           ⟨some 131, none, .bin .eql (.t 130) (.c (.int .i64 1)), []⟩,
           ⟨some 126, none, .mv (.t 131), []⟩])
         (.cond (.t 126)
          (.ops 29 [⟨some 132, none, .mv (.t 0), []⟩,
            ⟨some 133, none, .nilc (.t 132) (mok Tryz.prog), []⟩,
            ⟨some 134, none, .fld 4 (.t 133), []⟩,
            ⟨none, none, .st 1 (.t 134) (.c (.int .i64 2)), []⟩])
          (.ops 26 [⟨some 112, none, .mv (.t 0), []⟩,
            ⟨some 113, none, .nilc (.t 112) (mok Tryz.prog), []⟩,
            ⟨some 114, none, .fld 4 (.t 113), []⟩,
            ⟨none, none, .st 1 (.t 114) (.c (.int .i64 20)), []⟩]))))))
     (.seq
      (.ops 30 [⟨some 135, none, .mv (.t 6), []⟩,
        ⟨some 136, none, .mv (.t 7), []⟩,
        ⟨some 4, none, .mv (.t 135), []⟩,
        ⟨some 5, none, .mv (.t 136), []⟩])
      .ret))))))⟩
theorem F34_code : cfgA.code 34 = some F34 := by kernel_rfl

/-- (*ticketline/reclaim.Sweep).Done -/
noncomputable def F35 : AFn := ⟨12, [.tmp 2], (.seq
 (.ops 0 [⟨some 2, none, .mv (.c (.bool false)), []⟩])
 (.seq
  (.ops 1 [⟨some 3, none, .mv (.t 0), []⟩,
    ⟨some 4, none, .call 75 [.t 3], []⟩,
    ⟨some 5, none, .mv (.t 4), []⟩,
    ⟨some 6, some (5, false), .mv (.t 0), []⟩,
    ⟨some 7, some (5, false), .nilc (.t 6) (mok Tryz.prog), []⟩,
    ⟨some 8, some (5, false), .fld 4 (.t 7), []⟩,
    ⟨some 9, some (5, false), .ld 1 false (.t 8), []⟩,
    ⟨some 10, some (5, false), .bin .eql (.t 9) (.c (.int .i64 20)), []⟩,
    ⟨some 11, none, .pick (.t 5) (.c (.bool true)) (.t 10), []⟩,
    ⟨some 2, none, .mv (.t 11), []⟩])
  .ret))⟩
theorem F35_code : cfgA.code 35 = some F35 := by kernel_rfl

/-- (*ticketline/reclaim.Sweep).Result -/
noncomputable def F36 : AFn := ⟨10, [.tmp 2], (.seq
 (.ops 0 [⟨some 2, none, .mv (.c (.int .u64 0)), []⟩])
 (.seq
  (.seq
   (.ops 1 [⟨some 3, none, .mv (.t 0), []⟩,
     ⟨some 4, none, .call 80 [.t 3], []⟩,
     ⟨some 5, none, .un .not (.t 4), []⟩])
   (.cond (.t 5)
    (.seq
     (.ops 2 [⟨some 2, none, .mv (.c (.int .u64 0)), []⟩])
     .ret)
    .skip))
  (.seq
   (.ops 3 [⟨some 6, none, .mv (.t 0), []⟩,
     ⟨some 7, none, .nilc (.t 6) (mok Tryz.prog), []⟩,
     ⟨some 8, none, .fld 10 (.t 7), []⟩,
     ⟨some 9, none, .ld 1 false (.t 8), []⟩,
     ⟨some 2, none, .mv (.t 9), []⟩])
   .ret)))⟩
theorem F36_code : cfgA.code 36 = some F36 := by kernel_rfl

/-- (*ticketline/reclaim.Sweep).Copy -/
noncomputable def F37 : AFn := ⟨16, [.tmp 2], (.seq
 (.ops 0 [⟨some 2, none, .mv (.c (.nili)), []⟩])
 (.seq
  (.seq
   (.ops 1 [⟨some 4, none, .mv (.t 0), []⟩,
     ⟨some 5, none, .call 75 [.t 4], []⟩])
   (.cond (.t 5)
    (.seq
     (.ops 2 [⟨some 2, none, .mv (.c (.nili)), []⟩])
     .ret)
    .skip))
  (.seq
   (.ops 3 [⟨some 6, none, .mv (.t 0), []⟩,
     ⟨some 7, none, .nilc (.t 6) (mok Tryz.prog), []⟩,
     ⟨some 8, none, .ld 11 true (.t 7), []⟩,
     ⟨some 3, none, .alloc [.int .i64 0, .int .i64 0, .int .i64 0, .int .u64 0, .int .i64 0, .nili, .int .i64 0, .int .u64 0, .int .u64 0, .int .u64 0, .int .u64 0] true, []⟩,
     ⟨none, none, .st 11 (.t 3) (.t 8), []⟩])
   (.seq
    (.ops 4 [⟨some 9, none, .mv (.t 0), []⟩,
      ⟨some 10, none, .nilc (.t 9) (mok Tryz.prog), []⟩,
      ⟨some 11, none, .fld 5 (.t 10), []⟩,
      ⟨some 12, none, .ld 1 false (.t 11), []⟩,
      ⟨some 13, none, .call 68 [.t 12], []⟩,
      ⟨some 14, none, .fld 5 (.t 3), []⟩,
      ⟨none, none, .st 1 (.t 14) (.t 13), []⟩])
    (.seq
     (.ops 5 [⟨some 15, none, .mki 61 (.t 3), []⟩,
       ⟨some 2, none, .mv (.t 15), []⟩])
     .ret)))))⟩
theorem F37_code : cfgA.code 37 = some F37 := by kernel_rfl

/-- ticketline/ticketlinelaw30.known -/
noncomputable def F38 : AFn := ⟨131, [.tmp 0], (.seq
 (.ops 0 [⟨some 0, none, .mv (.c (.bool false)), []⟩])
 (.seq
  (.ops 1 [⟨some 11, none, .call 81 [], []⟩,
    ⟨some 1, none, .alloc [.int .i64 0, .int .i64 0] false, []⟩,
    ⟨none, none, .st 2 (.t 1) (.t 11), []⟩])
  (.seq
   (.ops 2 [⟨some 13, none, .ld 2 true (.t 1), []⟩,
     ⟨some 14, none, .call 58 [.t 13], []⟩,
     ⟨some 12, none, .mv (.t 14), []⟩,
     ⟨some 15, none, .ext (.t 12) 0, []⟩,
     ⟨some 16, none, .ext (.t 12) 1, []⟩,
     ⟨some 2, none, .mv (.t 15), []⟩,
     ⟨some 3, none, .mv (.t 16), []⟩])
   (.seq
    (.seq
     (.ops 3 [⟨some 17, none, .mv (.t 2), []⟩,
       ⟨some 18, none, .eqn .ptr false (.t 17), []⟩,
       ⟨some 19, none, .mv (.t 18), []⟩,
       ⟨some 20, some (19, false), .mv (.t 3), []⟩,
       ⟨some 21, some (19, false), .bin .neq (.t 20) (.c (.int .i64 0)), []⟩,
       ⟨some 22, none, .pick (.t 19) (.c (.bool true)) (.t 21), []⟩,
       ⟨some 23, none, .mv (.t 22), []⟩,
       ⟨some 24, some (23, false), .ld 2 true (.t 1), []⟩,
       ⟨some 25, some (23, false), .mv (.t 2), []⟩,
       ⟨some 26, some (23, false), .call 82 [.t 24, .t 25, .c (.int .i64 0)], []⟩,
       ⟨some 27, some (23, false), .bin .neq (.t 26) (.c (.int .i64 2)), []⟩,
       ⟨some 28, none, .pick (.t 23) (.c (.bool true)) (.t 27), []⟩,
       ⟨some 29, none, .mv (.t 28), []⟩,
       ⟨some 30, some (29, false), .ld 2 true (.t 1), []⟩,
       ⟨some 31, some (29, false), .mv (.t 2), []⟩,
       ⟨some 32, some (29, false), .call 82 [.t 30, .t 31, .c (.int .i64 0)], []⟩,
       ⟨some 33, some (29, false), .bin .neq (.t 32) (.c (.int .i64 3)), []⟩,
       ⟨some 34, none, .pick (.t 29) (.c (.bool true)) (.t 33), []⟩,
       ⟨some 35, none, .mv (.t 34), []⟩,
       ⟨some 36, some (35, false), .ld 2 true (.t 1), []⟩,
       ⟨some 37, some (35, false), .mv (.t 2), []⟩,
       ⟨some 38, some (35, false), .bslice [.int .i64 0] 1 2 [(0, (.c (.int .i64 2))), (1, (.c (.int .i64 3)))] false false, []⟩,
       ⟨some 39, some (35, false), .call 83 [.t 36, .t 37, .c (.int .i64 0), .t 38], []⟩,
       ⟨some 40, some (35, false), .un .not (.t 39), []⟩,
       ⟨some 41, none, .pick (.t 35) (.c (.bool true)) (.t 40), []⟩])
     (.cond (.t 41)
      (.seq
       (.ops 4 [⟨some 0, none, .mv (.c (.bool false)), []⟩])
       .ret)
      .skip))
    (.seq
     (.seq
      (.ops 5 [⟨some 42, none, .ld 2 true (.t 1), []⟩,
        ⟨some 43, none, .mv (.t 2), []⟩,
        ⟨some 44, none, .call 84 [.t 42, .t 43, .c (.int .i64 0), .c (.int .i64 2), .c (.int .i64 1)], []⟩,
        ⟨some 45, none, .un .not (.t 44), []⟩,
        ⟨some 46, none, .mv (.t 45), []⟩,
        ⟨some 47, some (46, false), .ld 2 true (.t 1), []⟩,
        ⟨some 48, some (46, false), .mv (.t 2), []⟩,
        ⟨some 49, some (46, false), .call 84 [.t 47, .t 48, .c (.int .i64 0), .c (.int .i64 3), .c (.int .i64 2)], []⟩,
        ⟨some 50, some (46, false), .un .not (.t 49), []⟩,
        ⟨some 51, none, .pick (.t 46) (.c (.bool true)) (.t 50), []⟩,
        ⟨some 52, none, .mv (.t 51), []⟩,
        ⟨some 53, some (52, false), .mv (.t 2), []⟩,
        ⟨some 54, some (52, false), .call 85 [.t 53, .c (.int .i64 2), .c (.int .u64 3), .c (.int .i64 4), .c (.int .u64 3)], []⟩,
        ⟨some 55, some (52, false), .un .not (.t 54), []⟩,
        ⟨some 56, none, .pick (.t 52) (.c (.bool true)) (.t 55), []⟩,
        ⟨some 57, none, .mv (.t 56), []⟩,
        ⟨some 58, some (57, false), .ld 2 true (.t 1), []⟩,
        ⟨some 59, some (57, false), .mv (.t 2), []⟩,
        ⟨some 60, some (57, false), .call 86 [.t 58, .t 59, .c (.int .i64 1), .c (.int .i64 2), .c (.int .i64 1)], []⟩,
        ⟨some 61, some (57, false), .un .not (.t 60), []⟩,
        ⟨some 62, none, .pick (.t 57) (.c (.bool true)) (.t 61), []⟩,
        ⟨some 63, none, .mv (.t 62), []⟩,
        ⟨some 64, some (63, false), .mv (.t 2), []⟩,
        ⟨some 65, some (63, false), .call 85 [.t 64, .c (.int .i64 1), .c (.int .u64 2), .c (.int .i64 2), .c (.int .u64 3)], []⟩,
        ⟨some 66, some (63, false), .un .not (.t 65), []⟩,
        ⟨some 67, none, .pick (.t 63) (.c (.bool true)) (.t 66), []⟩,
        ⟨some 68, none, .mv (.t 67), []⟩,
        ⟨some 69, some (68, false), .ld 2 true (.t 1), []⟩,
        ⟨some 70, some (68, false), .mv (.t 2), []⟩,
        ⟨some 71, some (68, false), .call 86 [.t 69, .t 70, .c (.int .i64 1), .c (.int .i64 3), .c (.int .i64 1)], []⟩,
        ⟨some 72, some (68, false), .un .not (.t 71), []⟩,
        ⟨some 73, none, .pick (.t 68) (.c (.bool true)) (.t 72), []⟩,
        ⟨some 74, none, .mv (.t 73), []⟩,
        ⟨some 75, some (74, false), .mv (.t 2), []⟩,
        ⟨some 76, some (74, false), .call 85 [.t 75, .c (.int .i64 1), .c (.int .u64 3), .c (.int .i64 2), .c (.int .u64 0)], []⟩,
        ⟨some 77, some (74, false), .un .not (.t 76), []⟩,
        ⟨some 78, none, .pick (.t 74) (.c (.bool true)) (.t 77), []⟩])
      (.cond (.t 78)
       (.seq
        (.ops 6 [⟨some 0, none, .mv (.c (.bool false)), []⟩])
        .ret)
       .skip))
     (.seq
      (.ops 7 [⟨some 80, none, .ld 2 true (.t 1), []⟩,
        ⟨some 81, none, .call 73 [.t 80, .c (.int .i64 0), .c (.int .i64 0)], []⟩,
        ⟨some 79, none, .mv (.t 81), []⟩,
        ⟨some 82, none, .ext (.t 79) 0, []⟩,
        ⟨some 83, none, .ext (.t 79) 1, []⟩,
        ⟨some 4, none, .mv (.t 82), []⟩,
        ⟨some 3, none, .mv (.t 83), []⟩])
      (.seq
       (.ops 8 [⟨some 85, none, .ld 2 true (.t 1), []⟩,
         ⟨some 86, none, .call 73 [.t 85, .c (.int .i64 2), .c (.int .i64 1)], []⟩,
         ⟨some 84, none, .mv (.t 86), []⟩,
         ⟨some 87, none, .ext (.t 84) 0, []⟩,
         ⟨some 88, none, .ext (.t 84) 1, []⟩,
         ⟨some 5, none, .mv (.t 87), []⟩,
         ⟨some 6, none, .mv (.t 88), []⟩])
       (.seq
        (.ops 9 [⟨some 90, none, .ld 2 true (.t 1), []⟩,
          ⟨some 91, none, .call 87 [.t 90, .c (.int .i64 0), .c (.int .i64 (-1))], []⟩,
          ⟨some 89, none, .mv (.t 91), []⟩,
          ⟨some 92, none, .ext (.t 89) 0, []⟩,
          ⟨some 93, none, .ext (.t 89) 1, []⟩,
          ⟨some 7, none, .mv (.t 92), []⟩,
          ⟨some 8, none, .mv (.t 93), []⟩])
        (.seq
         (.ops 10 [⟨some 95, none, .ld 2 true (.t 1), []⟩,
           ⟨some 96, none, .mv (.t 2), []⟩,
           ⟨some 97, none, .call 89 [.t 96, .c (.int .i64 1)], [(95, .ld 2 true (.t 1))]⟩,
           ⟨some 98, none, .call 88 [.t 95, .c (.int .i64 0), .t 97], []⟩,
           ⟨some 94, none, .mv (.t 98), []⟩,
           ⟨some 99, none, .ext (.t 94) 0, []⟩,
           ⟨some 100, none, .ext (.t 94) 1, []⟩,
           ⟨some 9, none, .mv (.t 99), []⟩,
           ⟨some 10, none, .mv (.t 100), []⟩])
         (.seq
          (.ops 11 [⟨some 101, none, .mv (.t 4), []⟩,
            ⟨some 102, none, .eqn .ptr false (.t 101), []⟩,
            ⟨some 103, none, .mv (.t 102), []⟩,
            ⟨some 104, some (103, true), .mv (.t 5), []⟩,
            ⟨some 105, some (103, true), .eqn .ptr false (.t 104), []⟩,
            ⟨some 106, none, .pick (.t 103) (.t 105) (.c (.bool false)), []⟩,
            ⟨some 107, none, .mv (.t 106), []⟩,
            ⟨some 108, some (107, true), .mv (.t 7), []⟩,
            ⟨some 109, some (107, true), .eqn .ptr false (.t 108), []⟩,
            ⟨some 110, none, .pick (.t 107) (.t 109) (.c (.bool false)), []⟩,
            ⟨some 111, none, .mv (.t 110), []⟩,
            ⟨some 112, some (111, true), .mv (.t 9), []⟩,
            ⟨some 113, some (111, true), .eqn .ptr false (.t 112), []⟩,
            ⟨some 114, none, .pick (.t 111) (.t 113) (.c (.bool false)), []⟩,
            ⟨some 115, none, .mv (.t 114), []⟩,
            ⟨some 116, some (115, true), .mv (.t 3), []⟩,
            ⟨some 117, some (115, true), .bin .eql (.t 116) (.c (.int .i64 2)), []⟩,
            ⟨some 118, none, .pick (.t 115) (.t 117) (.c (.bool false)), []⟩,
            ⟨some 119, none, .mv (.t 118), []⟩,
            ⟨some 120, some (119, true), .mv (.t 6), []⟩,
            ⟨some 121, some (119, true), .bin .eql (.t 120) (.c (.int .i64 2)), []⟩,
            ⟨some 122, none, .pick (.t 119) (.t 121) (.c (.bool false)), []⟩,
            ⟨some 123, none, .mv (.t 122), []⟩,
            ⟨some 124, some (123, true), .mv (.t 8), []⟩,
            ⟨some 125, some (123, true), .bin .eql (.t 124) (.c (.int .i64 2)), []⟩,
            ⟨some 126, none, .pick (.t 123) (.t 125) (.c (.bool false)), []⟩,
            ⟨some 127, none, .mv (.t 126), []⟩,
            ⟨some 128, some (127, true), .mv (.t 10), []⟩,
            ⟨some 129, some (127, true), .bin .eql (.t 128) (.c (.int .i64 2)), []⟩,
            ⟨some 130, none, .pick (.t 127) (.t 129) (.c (.bool false)), []⟩,
            ⟨some 0, none, .mv (.t 130), []⟩])
          .ret))))))))))⟩
theorem F38_code : cfgA.code 38 = some F38 := by kernel_rfl

/-- (*ticketline/descend.Find).zero -/
noncomputable def F39 : AFn := ⟨12, [.tmp 2], (.seq
 (.ops 0 [⟨some 2, none, .mv (.c (.bool false)), []⟩])
 (.seq
  (.ops 1 [⟨some 3, none, .mv (.t 0), []⟩,
    ⟨some 4, none, .eqn .ptr false (.t 3), []⟩,
    ⟨some 5, none, .mv (.t 4), []⟩,
    ⟨some 6, some (5, false), .mv (.t 0), []⟩,
    ⟨some 7, some (5, false), .nilc (.t 6) (mok Tryz.prog), []⟩,
    ⟨some 8, some (5, false), .fld 2 (.t 7), []⟩,
    ⟨some 9, some (5, false), .ld 1 false (.t 8), []⟩,
    ⟨some 10, some (5, false), .bin .eql (.t 9) (.c (.str [])), []⟩,
    ⟨some 11, none, .pick (.t 5) (.c (.bool true)) (.t 10), []⟩,
    ⟨some 2, none, .mv (.t 11), []⟩])
  .ret))⟩
theorem F39_code : cfgA.code 39 = some F39 := by kernel_rfl

/-- (*ticketline/version.Read).Step -/
noncomputable def F40 : AFn := ⟨147, [.tmp 4, .tmp 5], (.seq
 (.ops 0 [⟨some 4, none, .mv (.c (.bool false)), []⟩,
   ⟨some 5, none, .mv (.c (.int .i64 0)), []⟩])
 (.seq
  (.block 0
   (.seq
    (.ops 1 [⟨some 10, none, .mv (.t 0), []⟩,
      ⟨some 11, none, .eqn .ptr false (.t 10), []⟩,
      ⟨some 12, none, .mv (.t 11), []⟩,
      ⟨some 13, some (12, false), .mv (.t 0), []⟩,
      ⟨some 14, some (12, false), .nilc (.t 13) (mok Tryz.prog), []⟩,
      ⟨some 15, some (12, false), .fld 0 (.t 14), []⟩,
      ⟨some 16, some (12, false), .ld 1 false (.t 15), []⟩,
      ⟨some 17, some (12, false), .un .not (.t 16), []⟩,
      ⟨some 18, none, .pick (.t 12) (.c (.bool true)) (.t 17), []⟩,
      ⟨some 19, none, .mv (.t 18), []⟩,
      ⟨some 20, some (19, false), .mv (.t 1), []⟩,
      ⟨some 21, some (19, false), .eqn .iface false (.t 20), []⟩,
      ⟨some 22, none, .pick (.t 19) (.c (.bool true)) (.t 21), []⟩,
      ⟨some 9, none, .mv (.t 22), []⟩])
    (.cond (.t 9)
     (.seq
      (.ops 2 [⟨some 4, none, .mv (.c (.bool false)), []⟩,
        ⟨some 5, none, .mv (.c (.int .i64 1)), []⟩])
      .ret)
     (.seq
      (.ops 3 [⟨some 24, none, .mv (.t 0), []⟩,
        ⟨some 25, none, .nilc (.t 24) (mok Tryz.prog), []⟩,
        ⟨some 26, none, .fld 9 (.t 25), []⟩,
        ⟨some 27, none, .ld 1 false (.t 26), []⟩,
        ⟨some 23, none, .mv (.t 27), []⟩])
      (.cond (.t 23)
       (.seq
        (.ops 4 [⟨some 4, none, .mv (.c (.bool false)), []⟩,
          ⟨some 5, none, .mv (.c (.int .i64 17)), []⟩])
        .ret)
       .skip)))))
  (.seq
   (.ops 5 [⟨some 28, none, .mv (.t 0), []⟩,
     ⟨some 29, none, .nilc (.t 28) (mok Tryz.prog), []⟩,
     ⟨some 30, none, .fld 1 (.t 29), []⟩,
     ⟨some 31, none, .ld 1 false (.t 30), []⟩,
     ⟨some 6, none, .mv (.t 31), []⟩])
   (.seq
    (.seq
     (.ops 6 [⟨some 32, none, .mv (.t 0), []⟩,
       ⟨some 33, none, .nilc (.t 32) (mok Tryz.prog), []⟩,
       ⟨some 34, none, .fld 5 (.t 33), []⟩,
       ⟨some 35, none, .ld 1 false (.t 34), []⟩,
       ⟨some 36, none, .mv (.t 35), []⟩,
       ⟨some 37, some (36, true), .mv (.t 0), []⟩,
       ⟨some 38, some (36, true), .nilc (.t 37) (mok Tryz.prog), []⟩,
       ⟨some 39, some (36, true), .fld 7 (.t 38), []⟩,
       ⟨some 40, some (36, true), .ld 1 false (.t 39), []⟩,
       ⟨some 41, some (36, true), .len .slice (.t 40), []⟩,
       ⟨some 42, some (36, true), .mv (.t 0), []⟩,
       ⟨some 43, some (36, true), .nilc (.t 42) (mok Tryz.prog), []⟩,
       ⟨some 44, some (36, true), .fld 3 (.t 43), []⟩,
       ⟨some 45, some (36, true), .ld 1 false (.t 44), []⟩,
       ⟨some 46, some (36, true), .bin .lss (.t 41) (.t 45), []⟩,
       ⟨some 47, none, .pick (.t 36) (.t 46) (.c (.bool false)), []⟩])
     (.cond (.t 47)
      (.ops 7 [⟨some 48, none, .mv (.t 0), []⟩,
        ⟨some 49, none, .nilc (.t 48) (mok Tryz.prog), []⟩,
        ⟨some 50, none, .fld 2 (.t 49), []⟩,
        ⟨some 51, none, .ld 1 false (.t 50), []⟩,
        ⟨some 52, none, .mv (.t 0), []⟩,
        ⟨some 53, none, .nilc (.t 52) (mok Tryz.prog), []⟩,
        ⟨some 54, none, .fld 7 (.t 53), []⟩,
        ⟨some 55, none, .ld 1 false (.t 54), []⟩,
        ⟨some 56, none, .len .slice (.t 55), []⟩,
        ⟨some 57, none, .bin .add (.t 51) (.t 56), []⟩,
        ⟨some 6, none, .mv (.t 57), []⟩])
      .skip))
    (.seq
     (.ops 8 [⟨some 59, none, .mv (.t 1), []⟩,
       ⟨some 60, none, .mv (.t 6), []⟩,
       ⟨some 61, none, .invk (.t 59) "Load" [.t 60], []⟩,
       ⟨some 58, none, .mv (.t 61), []⟩,
       ⟨some 62, none, .ext (.t 58) 0, []⟩,
       ⟨some 63, none, .ext (.t 58) 1, []⟩,
       ⟨some 7, none, .mv (.t 62), []⟩,
       ⟨some 8, none, .mv (.t 63), []⟩])
     (.seq
      (.block 1
       (.seq
        (.ops 11 [⟨some 86, none, .mv (.t 8), []⟩,
          ⟨some 87, none, .bin .neq (.t 86) (.c (.int .i64 0)), []⟩,
          ⟨some 85, none, .mv (.t 87), []⟩])
        (.cond (.t 85)
         (.seq
          (.ops 12 [⟨some 88, none, .mv (.t 8), []⟩,
            ⟨some 4, none, .mv (.c (.bool false)), []⟩,
            ⟨some 5, none, .mv (.t 88), []⟩])
          .ret)
         (.seq
          (.ops 13 [⟨some 90, none, .mv (.t 0), []⟩,
            ⟨some 91, none, .nilc (.t 90) (mok Tryz.prog), []⟩,
            ⟨some 92, none, .fld 5 (.t 91), []⟩,
            ⟨some 93, none, .ld 1 false (.t 92), []⟩,
            ⟨some 94, none, .un .not (.t 93), []⟩,
            ⟨some 95, none, .mv (.t 94), []⟩,
            ⟨some 96, some (95, true), .mv (.t 7), []⟩,
            ⟨some 97, some (95, true), .call 90 [.t 96], []⟩,
            ⟨some 98, some (95, true), .un .not (.t 97), []⟩,
            ⟨some 99, none, .pick (.t 95) (.t 98) (.c (.bool false)), []⟩,
            ⟨some 89, none, .mv (.t 99), []⟩])
          (.cond (.t 89)
           (.seq
            (.ops 14 [⟨some 4, none, .mv (.c (.bool true)), []⟩,
              ⟨some 5, none, .mv (.c (.int .i64 0)), []⟩])
            .ret)
           (.seq
            (.ops 15 [⟨some 101, none, .mv (.t 0), []⟩,
              ⟨some 102, none, .nilc (.t 101) (mok Tryz.prog), []⟩,
              ⟨some 103, none, .fld 5 (.t 102), []⟩,
              ⟨some 104, none, .ld 1 false (.t 103), []⟩,
              ⟨some 105, none, .un .not (.t 104), []⟩,
              ⟨some 100, none, .mv (.t 105), []⟩])
            (.cond (.t 100)
             (.ops 16 [⟨some 106, none, .mv (.t 0), []⟩,
               ⟨some 107, none, .mv (.t 0), []⟩,
               ⟨some 108, none, .mv (.t 7), []⟩,
               ⟨some 109, none, .nilc (.t 106) (mok Tryz.prog), []⟩,
               ⟨some 110, none, .fld 5 (.t 109), []⟩,
               ⟨none, none, .st 1 (.t 110) (.c (.bool true)), []⟩,
               ⟨some 111, none, .nilc (.t 107) (mok Tryz.prog), []⟩,
               ⟨some 112, none, .fld 6 (.t 111), []⟩,
               ⟨none, none, .st 1 (.t 112) (.t 108), []⟩])
             (.seq
              (.ops 17 [⟨some 114, none, .mv (.t 0), []⟩,
                ⟨some 115, none, .nilc (.t 114) (mok Tryz.prog), []⟩,
                ⟨some 116, none, .fld 7 (.t 115), []⟩,
                ⟨some 117, none, .ld 1 false (.t 116), []⟩,
                ⟨some 118, none, .len .slice (.t 117), []⟩,
                ⟨some 119, none, .mv (.t 0), []⟩,
                ⟨some 120, none, .nilc (.t 119) (mok Tryz.prog), []⟩,
                ⟨some 121, none, .fld 3 (.t 120), []⟩,
                ⟨some 122, none, .ld 1 false (.t 121), []⟩,
                ⟨some 123, none, .bin .lss (.t 118) (.t 122), []⟩,
                ⟨some 113, none, .mv (.t 123), []⟩])
              (.cond (.t 113)
               (.ops 18 [⟨some 124, none, .mv (.t 0), []⟩,
                 ⟨some 125, none, .mv (.t 0), []⟩,
                 ⟨some 126, none, .nilc (.t 125) (mok Tryz.prog), []⟩,
                 ⟨some 127, none, .fld 7 (.t 126), []⟩,
                 ⟨some 128, none, .ld 1 false (.t 127), []⟩,
                 ⟨some 129, none, .mv (.t 7), []⟩,
                 ⟨some 130, none, .bslice [.int .u64 0] 1 1 [(0, (.t 129))] false false, []⟩,
                 ⟨some 131, none, .app 1 8 (.t 128) (.t 130) true, []⟩,
                 ⟨some 132, none, .nilc (.t 124) (mok Tryz.prog), []⟩,
                 ⟨some 133, none, .fld 7 (.t 132), []⟩,
                 ⟨none, none, .st 1 (.t 133) (.t 131), []⟩])
               (.seq
                (.ops 19 [⟨some 135, none, .mv (.t 7), []⟩,
                  ⟨some 136, none, .mv (.t 0), []⟩,
                  ⟨some 137, none, .nilc (.t 136) (mok Tryz.prog), []⟩,
                  ⟨some 138, none, .fld 6 (.t 137), []⟩,
                  ⟨some 139, none, .ld 1 false (.t 138), []⟩,
                  ⟨some 140, none, .bin .eql (.t 135) (.t 139), []⟩,
                  ⟨some 134, none, .mv (.t 140), []⟩])
                (.cond (.t 134)
                 (.ops 20 [⟨some 141, none, .mv (.t 0), []⟩,
                   ⟨some 142, none, .mv (.t 0), []⟩,
                   ⟨some 143, none, .nilc (.t 141) (mok Tryz.prog), []⟩,
                   ⟨some 144, none, .fld 8 (.t 143), []⟩,
                   ⟨none, none, .st 1 (.t 144) (.c (.int .u64 1)), []⟩,
                   ⟨some 145, none, .nilc (.t 142) (mok Tryz.prog), []⟩,
                   ⟨some 146, none, .fld 9 (.t 145), []⟩,
                   ⟨none, none, .st 1 (.t 146) (.c (.bool true)), []⟩])
                 (.seq
                  (.ops 9 [⟨some 64, none, .mv (.t 0), []⟩,
                    ⟨some 65, none, .nilc (.t 64) (mok Tryz.prog), []⟩,
                    ⟨some 66, none, .fld 4 (.t 65), []⟩,
                    ⟨some 67, none, .ld 1 false (.t 66), []⟩,
                    ⟨some 68, none, .bin .sub (.t 67) (.c (.int .i64 1)), []⟩,
                    ⟨some 69, none, .nilc (.t 64) (mok Tryz.prog), []⟩,
                    ⟨some 70, none, .fld 4 (.t 69), []⟩,
                    ⟨none, none, .st 1 (.t 70) (.t 68), []⟩])
                  (.ops 10 [⟨some 71, none, .mv (.t 0), []⟩,
                    ⟨some 72, none, .mv (.t 0), []⟩,
                    ⟨some 73, none, .mv (.t 0), []⟩,
                    ⟨some 74, none, .mv (.t 0), []⟩,
                    ⟨some 75, none, .nilc (.t 74) (mok Tryz.prog), []⟩,
                    ⟨some 76, none, .fld 4 (.t 75), []⟩,
                    ⟨some 77, none, .ld 1 false (.t 76), []⟩,
                    ⟨some 78, none, .bin .eql (.t 77) (.c (.int .i64 0)), []⟩,
                    ⟨some 79, none, .nilc (.t 71) (mok Tryz.prog), []⟩,
                    ⟨some 80, none, .fld 5 (.t 79), []⟩,
                    ⟨none, none, .st 1 (.t 80) (.c (.bool false)), []⟩,
                    ⟨some 81, none, .nilc (.t 72) (mok Tryz.prog), []⟩,
                    ⟨some 82, none, .fld 7 (.t 81), []⟩,
                    ⟨none, none, .st 1 (.t 82) (.c (.nils)), []⟩,
                    ⟨some 83, none, .nilc (.t 73) (mok Tryz.prog), []⟩,
                    ⟨some 84, none, .fld 9 (.t 83), []⟩,
                    ⟨none, none, .st 1 (.t 84) (.t 78), []⟩])))))))))))))
      (.seq
       (.ops 21 [⟨some 4, none, .mv (.c (.bool false)), []⟩,
         ⟨some 5, none, .mv (.c (.int .i64 0)), []⟩])
       .ret)))))))⟩
theorem F40_code : cfgA.code 40 = some F40 := by kernel_rfl

/-- (*ticketline/version.Read).Done -/
noncomputable def F41 : AFn := ⟨18, [.tmp 2], (.seq
 (.ops 0 [⟨some 2, none, .mv (.c (.bool false)), []⟩])
 (.seq
  (.ops 1 [⟨some 3, none, .mv (.t 0), []⟩,
    ⟨some 4, none, .eqn .ptr false (.t 3), []⟩,
    ⟨some 5, none, .mv (.t 4), []⟩,
    ⟨some 6, some (5, false), .mv (.t 0), []⟩,
    ⟨some 7, some (5, false), .nilc (.t 6) (mok Tryz.prog), []⟩,
    ⟨some 8, some (5, false), .fld 0 (.t 7), []⟩,
    ⟨some 9, some (5, false), .ld 1 false (.t 8), []⟩,
    ⟨some 10, some (5, false), .un .not (.t 9), []⟩,
    ⟨some 11, none, .pick (.t 5) (.c (.bool true)) (.t 10), []⟩,
    ⟨some 12, none, .mv (.t 11), []⟩,
    ⟨some 13, some (12, false), .mv (.t 0), []⟩,
    ⟨some 14, some (12, false), .nilc (.t 13) (mok Tryz.prog), []⟩,
    ⟨some 15, some (12, false), .fld 9 (.t 14), []⟩,
    ⟨some 16, some (12, false), .ld 1 false (.t 15), []⟩,
    ⟨some 17, none, .pick (.t 12) (.c (.bool true)) (.t 16), []⟩,
    ⟨some 2, none, .mv (.t 17), []⟩])
  .ret))⟩
theorem F41_code : cfgA.code 41 = some F41 := by kernel_rfl

/-- (*ticketline/descend.Find).advance -/
noncomputable def F42 : AFn := ⟨102, [], (.seq
 (.ops 0 [⟨some 9, none, .mv (.t 0), []⟩,
   ⟨some 10, none, .nilc (.t 9) (mok Tryz.prog), []⟩,
   ⟨some 11, none, .fld 7 (.t 10), []⟩,
   ⟨some 12, none, .ld 1 false (.t 11), []⟩,
   ⟨some 13, none, .call 91 [.t 12], []⟩,
   ⟨some 2, none, .mv (.t 13), []⟩])
 (.seq
  (.seq
   (.ops 1 [⟨some 14, none, .mv (.t 0), []⟩,
     ⟨some 15, none, .nilc (.t 14) (mok Tryz.prog), []⟩,
     ⟨some 16, none, .fld 7 (.t 15), []⟩,
     ⟨some 17, none, .ld 1 false (.t 16), []⟩,
     ⟨some 18, none, .call 92 [.t 17], []⟩,
     ⟨some 19, none, .bin .eql (.t 18) (.c (.int .u64 0)), []⟩,
     ⟨some 20, none, .mv (.t 19), []⟩,
     ⟨some 21, some (20, false), .mv (.t 2), []⟩,
     ⟨some 22, some (20, false), .len .slice (.t 21), []⟩,
     ⟨some 23, some (20, false), .bin .eql (.t 22) (.c (.int .i64 0)), []⟩,
     ⟨some 24, none, .pick (.t 20) (.c (.bool true)) (.t 23), []⟩])
   (.cond (.t 24)
    (.seq
     (.ops 2 [⟨some 25, none, .mv (.t 0), []⟩,
       ⟨some 26, none, .call 93 [.t 25], []⟩])
     .ret)
    .skip))
  (.seq
   (.seq
    (.ops 3 [⟨some 27, none, .mv (.t 0), []⟩,
      ⟨some 28, none, .nilc (.t 27) (mok Tryz.prog), []⟩,
      ⟨some 29, none, .fld 6 (.t 28), []⟩,
      ⟨some 30, none, .ld 1 false (.t 29), []⟩,
      ⟨some 31, none, .bin .eql (.t 30) (.c (.int .i64 0)), []⟩])
    (.cond (.t 31)
     (.seq
      (.ops 4 [⟨some 32, none, .mv (.t 0), []⟩,
        ⟨some 33, none, .mv (.t 2), []⟩,
        ⟨some 34, none, .ixa none 1 (.t 33) (.c (.int .i64 0)), []⟩,
        ⟨some 35, none, .ld 1 false (.t 34), []⟩,
        ⟨some 36, none, .mx false (.t 35) [.c (.int .u64 511)], []⟩,
        ⟨some 37, none, .cvi .i64 (.t 36), []⟩,
        ⟨some 38, none, .call 94 [.t 32, .t 37], []⟩])
      .ret)
     .skip))
   (.seq
    (.ops 5 [⟨some 39, none, .mv (.t 2), []⟩,
      ⟨some 40, none, .call 95 [.t 39], []⟩,
      ⟨some 3, none, .alloc (List.replicate 128 (.int .u64 0)) false, []⟩,
      ⟨none, none, .st 128 (.t 3) (.t 40), []⟩])
    (.seq
     (.ops 6 [⟨some 42, none, .ld 128 true (.t 3), []⟩,
       ⟨some 43, none, .mv (.t 0), []⟩,
       ⟨some 44, none, .nilc (.t 43) (mok Tryz.prog), []⟩,
       ⟨some 45, none, .fld 2 (.t 44), []⟩,
       ⟨some 46, none, .ld 1 false (.t 45), []⟩,
       ⟨some 47, none, .call 96 [.t 42, .t 46], []⟩,
       ⟨some 41, none, .mv (.t 47), []⟩,
       ⟨some 48, none, .ext (.t 41) 0, []⟩,
       ⟨some 49, none, .ext (.t 41) 1, []⟩,
       ⟨some 4, none, .mv (.t 48), []⟩,
       ⟨some 5, none, .mv (.t 49), []⟩])
     (.block 0
      (.seq
       (.ops 11 [⟨some 66, none, .mv (.t 5), []⟩,
         ⟨some 67, none, .bin .neq (.t 66) (.c (.int .i64 0)), []⟩,
         ⟨some 68, none, .mv (.t 67), []⟩,
         ⟨some 69, some (68, false), .mv (.t 4), []⟩,
         ⟨some 70, some (68, false), .bin .eql (.t 69) (.c (.int .i64 (-1))), []⟩,
         ⟨some 71, none, .pick (.t 68) (.c (.bool true)) (.t 70), []⟩,
         ⟨some 65, none, .mv (.t 71), []⟩])
       (.cond (.t 65)
        (.ops 12 [⟨some 72, none, .mv (.t 0), []⟩,
          ⟨some 73, none, .call 93 [.t 72], []⟩])
        (.seq
         (.ops 13 [⟨some 75, none, .mv (.t 4), []⟩,
           ⟨some 76, none, .bin .eql (.t 75) (.c (.int .i64 1)), []⟩,
           ⟨some 74, none, .mv (.t 76), []⟩])
         (.cond (.t 74)
          (.ops 14 [⟨some 77, none, .mv (.t 0), []⟩,
            ⟨some 78, none, .ld 128 true (.t 3), []⟩,
            ⟨some 79, none, .call 97 [.t 78], []⟩,
            ⟨some 80, none, .call 94 [.t 77, .t 79], []⟩])
          (.seq
           (.ops 15 [⟨some 82, none, .ld 128 true (.t 3), []⟩,
             ⟨some 83, none, .call 98 [.t 82], []⟩,
             ⟨some 84, none, .bin .eql (.t 83) (.c (.int .i64 0)), []⟩,
             ⟨some 81, none, .mv (.t 84), []⟩])
           (.cond (.t 81)
            (.seq
             (.ops 16 [⟨some 85, none, .mv (.t 0), []⟩,
               ⟨some 86, none, .mv (.t 0), []⟩,
               ⟨some 87, none, .nilc (.t 86) (mok Tryz.prog), []⟩,
               ⟨some 88, none, .fld 6 (.t 87), []⟩,
               ⟨some 89, none, .ld 1 false (.t 88), []⟩,
               ⟨some 90, none, .ld 128 true (.t 3), []⟩,
               ⟨some 91, none, .mv (.t 0), []⟩,
               ⟨some 92, none, .nilc (.t 91) (mok Tryz.prog), []⟩,
               ⟨some 93, none, .fld 7 (.t 92), []⟩,
               ⟨some 94, none, .ld 1 false (.t 93), []⟩,
               ⟨some 95, none, .call 99 [.t 94], [(89, .ld 1 false (.t 88)), (90, .ld 128 true (.t 3))]⟩,
               ⟨some 96, none, .build [.int .i64 0, .int .u64 0, .int .u64 0, .int .u64 0, .int .u64 0, .int .u64 0, .int .u64 0, .int .u64 0, .int .u64 0, .int .u64 0, .int .u64 0, .int .u64 0, .int .u64 0, .int .u64 0, .int .u64 0, .int .u64 0, .int .u64 0, .int .u64 0, .int .u64 0, .int .u64 0, .int .u64 0, .int .u64 0, .int .u64 0, .int .u64 0, .int .u64 0, .int .u64 0, .int .u64 0, .int .u64 0, .int .u64 0, .int .u64 0, .int .u64 0, .int .u64 0, .int .u64 0, .int .u64 0, .int .u64 0, .int .u64 0, .int .u64 0, .int .u64 0, .int .u64 0, .int .u64 0, .int .u64 0, .int .u64 0, .int .u64 0, .int .u64 0, .int .u64 0, .int .u64 0, .int .u64 0, .int .u64 0, .int .u64 0, .int .u64 0, .int .u64 0, .int .u64 0, .int .u64 0, .int .u64 0, .int .u64 0, .int .u64 0, .int .u64 0, .int .u64 0, .int .u64 0, .int .u64 0, .int .u64 0, .int .u64 0, .int .u64 0, .int .u64 0, .int .u64 0, .int .u64 0, .int .u64 0, .int .u64 0, .int .u64 0, .int .u64 0, .int .u64 0, .int .u64 0, .int .u64 0, .int .u64 0, .int .u64 0, .int .u64 0, .int .u64 0, .int .u64 0, .int .u64 0, .int .u64 0, .int .u64 0, .int .u64 0, .int .u64 0, .int .u64 0, .int .u64 0, .int .u64 0, .int .u64 0, .int .u64 0, .int .u64 0, .int .u64 0, .int .u64 0, .int .u64 0, .int .u64 0, .int .u64 0, .int .u64 0, .int .u64 0, .int .u64 0, .int .u64 0, .int .u64 0, .int .u64 0, .int .u64 0, .int .u64 0, .int .u64 0, .int .u64 0, .int .u64 0, .int .u64 0, .int .u64 0, .int .u64 0, .int .u64 0, .int .u64 0, .int .u64 0, .int .u64 0, .int .u64 0, .int .u64 0, .int .u64 0, .int .u64 0, .int .u64 0, .int .u64 0, .int .u64 0, .int .u64 0, .int .u64 0, .int .u64 0, .int .u64 0, .int .u64 0, .int .u64 0, .int .u64 0, .int .u64 0, .int .u64 0, .int .u64 0, .int .u64 0] [(0, 1, (.t 89)), (1, 128, (.t 90)), (129, 1, (.t 95))], []⟩,
               ⟨some 97, none, .nilc (.t 85) (mok Tryz.prog), []⟩,
               ⟨some 98, none, .fld 8 (.t 97), []⟩,
               ⟨none, none, .st 130 (.t 98) (.t 96), []⟩])
             (.ops 17 [⟨some 99, none, .mv (.t 0), []⟩,
               ⟨some 100, none, .nilc (.t 99) (mok Tryz.prog), []⟩,
               ⟨some 101, none, .fld 138 (.t 100), []⟩,
               ⟨none, none, .st 1 (.t 101) (.c (.bool true)), []⟩]))
            (.seq
             (.ops 7 [⟨some 51, none, .ld 128 true (.t 3), []⟩,
               ⟨some 52, none, .mv (.t 0), []⟩,
               ⟨some 53, none, .nilc (.t 52) (mok Tryz.prog), []⟩,
               ⟨some 54, none, .fld 2 (.t 53), []⟩,
               ⟨some 55, none, .ld 1 false (.t 54), []⟩,
               ⟨some 56, none, .call 100 [.t 51, .t 55], []⟩,
               ⟨some 50, none, .mv (.t 56), []⟩,
               ⟨some 57, none, .ext (.t 50) 0, []⟩,
               ⟨some 58, none, .ext (.t 50) 1, []⟩,
               ⟨some 59, none, .ext (.t 50) 2, []⟩,
               ⟨some 6, none, .mv (.t 57), []⟩,
               ⟨some 7, none, .mv (.t 58), []⟩,
               ⟨some 8, none, .mv (.t 59), []⟩])
             (.seq
              (.seq
               (.ops 8 [⟨some 60, none, .mv (.t 8), []⟩,
                 ⟨some 61, none, .bin .neq (.t 60) (.c (.int .i64 0)), []⟩])
               (.cond (.t 61)
                (.ops 9 [⟨some 7, none, .mv (.c (.int .i64 0)), []⟩])
                .skip))
              (.ops 10 [⟨some 62, none, .mv (.t 0), []⟩,
                ⟨some 63, none, .mv (.t 7), []⟩,
                ⟨some 64, none, .call 94 [.t 62, .t 63], []⟩])))))))))))))))⟩
theorem F42_code : cfgA.code 42 = some F42 := by kernel_rfl

/-- (*ticketline/descend.Find).over -/
noncomputable def F43 : AFn := ⟨12, [.tmp 2], (.seq
 (.ops 0 [⟨some 2, none, .mv (.c (.bool false)), []⟩])
 (.seq
  (.ops 1 [⟨some 3, none, .mv (.t 0), []⟩,
    ⟨some 4, none, .call 39 [.t 3], []⟩,
    ⟨some 5, none, .un .not (.t 4), []⟩,
    ⟨some 6, none, .mv (.t 5), []⟩,
    ⟨some 7, some (6, true), .mv (.t 0), []⟩,
    ⟨some 8, some (6, true), .nilc (.t 7) (mok Tryz.prog), []⟩,
    ⟨some 9, some (6, true), .fld 138 (.t 8), []⟩,
    ⟨some 10, some (6, true), .ld 1 false (.t 9), []⟩,
    ⟨some 11, none, .pick (.t 6) (.t 10) (.c (.bool false)), []⟩,
    ⟨some 2, none, .mv (.t 11), []⟩])
  .ret))⟩
theorem F43_code : cfgA.code 43 = some F43 := by kernel_rfl

/-- (*ticketline/descend.Scan).zero -/
noncomputable def F45 : AFn := ⟨12, [.tmp 2], (.seq
 (.ops 0 [⟨some 2, none, .mv (.c (.bool false)), []⟩])
 (.seq
  (.ops 1 [⟨some 3, none, .mv (.t 0), []⟩,
    ⟨some 4, none, .eqn .ptr false (.t 3), []⟩,
    ⟨some 5, none, .mv (.t 4), []⟩,
    ⟨some 6, some (5, false), .mv (.t 0), []⟩,
    ⟨some 7, some (5, false), .nilc (.t 6) (mok Tryz.prog), []⟩,
    ⟨some 8, some (5, false), .fld 14 (.t 7), []⟩,
    ⟨some 9, some (5, false), .ld 1 false (.t 8), []⟩,
    ⟨some 10, some (5, false), .bin .eql (.t 9) (.c (.int .i64 0)), []⟩,
    ⟨some 11, none, .pick (.t 5) (.c (.bool true)) (.t 10), []⟩,
    ⟨some 2, none, .mv (.t 11), []⟩])
  .ret))⟩
theorem F45_code : cfgA.code 45 = some F45 := by kernel_rfl

/-- (*ticketline/descend.Scan).take: the round 0 -/
noncomputable def B48x0 : AC := (.seq
 (.ops 8 [⟨some 59, none, .bin .lss (.t 58) (.t 57), []⟩])
 (.seq
  (.cond (.t 59)
   .skip
   (.exit 0))
  (.seq
   (.block 1
    (.seq
     (.ops 9 [⟨some 60, none, .ixa none 2 (.t 56) (.t 58), []⟩,
       ⟨some 61, none, .ld 2 true (.t 60), []⟩,
       ⟨some 14, none, .alloc [.str [], .str []] false, []⟩,
       ⟨none, none, .st 2 (.t 14) (.t 61), []⟩])
     (.seq
      (.ops 10 [⟨some 62, none, .mv (.t 0), []⟩,
        ⟨some 63, none, .nilc (.t 62) (mok Tryz.prog), []⟩,
        ⟨some 64, none, .fld 13 (.t 63), []⟩,
        ⟨some 65, none, .ld 1 false (.t 64), []⟩,
        ⟨some 66, none, .len .slice (.t 65), []⟩,
        ⟨some 67, none, .mv (.t 0), []⟩,
        ⟨some 68, none, .nilc (.t 67) (mok Tryz.prog), []⟩,
        ⟨some 69, none, .fld 4 (.t 68), []⟩,
        ⟨some 70, none, .ld 1 false (.t 69), []⟩,
        ⟨some 71, none, .bin .lss (.t 66) (.t 70), []⟩,
        ⟨some 72, none, .mv (.t 71), []⟩,
        ⟨some 73, some (72, true), .fld 0 (.t 14), []⟩,
        ⟨some 74, some (72, true), .ld 1 false (.t 73), []⟩,
        ⟨some 75, some (72, true), .mv (.t 0), []⟩,
        ⟨some 76, some (72, true), .nilc (.t 75) (mok Tryz.prog), []⟩,
        ⟨some 77, some (72, true), .fld 2 (.t 76), []⟩,
        ⟨some 78, some (72, true), .ld 1 false (.t 77), []⟩,
        ⟨some 79, some (72, true), .bin .geq (.t 74) (.t 78), []⟩,
        ⟨some 80, none, .pick (.t 72) (.t 79) (.c (.bool false)), []⟩,
        ⟨some 81, none, .mv (.t 80), []⟩,
        ⟨some 82, some (81, true), .mv (.t 0), []⟩,
        ⟨some 83, some (81, true), .nilc (.t 82) (mok Tryz.prog), []⟩,
        ⟨some 84, some (81, true), .fld 3 (.t 83), []⟩,
        ⟨some 85, some (81, true), .ld 1 false (.t 84), []⟩,
        ⟨some 86, some (81, true), .bin .eql (.t 85) (.c (.str [])), []⟩,
        ⟨some 87, some (81, true), .mv (.t 86), []⟩,
        ⟨some 88, some (87, false), .fld 0 (.t 14), []⟩,
        ⟨some 89, some (87, false), .ld 1 false (.t 88), []⟩,
        ⟨some 90, some (87, false), .mv (.t 0), []⟩,
        ⟨some 91, some (87, false), .nilc (.t 90) (mok Tryz.prog), []⟩,
        ⟨some 92, some (87, false), .fld 3 (.t 91), []⟩,
        ⟨some 93, some (87, false), .ld 1 false (.t 92), []⟩,
        ⟨some 94, some (87, false), .bin .lss (.t 89) (.t 93), []⟩,
        ⟨some 95, some (81, true), .pick (.t 87) (.c (.bool true)) (.t 94), []⟩,
        ⟨some 96, none, .pick (.t 81) (.t 95) (.c (.bool false)), []⟩])
      (.cond (.t 96)
       (.ops 11 [⟨some 97, none, .mv (.t 0), []⟩,
         ⟨some 98, none, .mv (.t 0), []⟩,
         ⟨some 99, none, .nilc (.t 98) (mok Tryz.prog), []⟩,
         ⟨some 100, none, .fld 13 (.t 99), []⟩,
         ⟨some 101, none, .ld 1 false (.t 100), []⟩,
         ⟨some 102, none, .ld 2 true (.t 14), []⟩,
         ⟨some 103, none, .bslice [.str [], .str []] 2 1 [(0, (.t 102))] false false, []⟩,
         ⟨some 104, none, .app 2 32 (.t 101) (.t 103) true, []⟩,
         ⟨some 105, none, .nilc (.t 97) (mok Tryz.prog), []⟩,
         ⟨some 106, none, .fld 13 (.t 105), []⟩,
         ⟨none, none, .st 1 (.t 106) (.t 104), []⟩])
       .skip))))
   (.ops 12 [⟨some 107, none, .bin .add (.t 58) (.c (.int .i64 1)), []⟩,
     ⟨some 58, none, .mv (.t 107), []⟩]))))
/-- (*ticketline/descend.Scan).take -/
noncomputable def F48 : AFn := ⟨172, [], (.seq
 (.ops 0 [⟨some 5, none, .box 128 (.t 1) false, []⟩])
 (.seq
  (.ops 1 [⟨some 17, none, .ld 128 true (.t 5), []⟩,
    ⟨some 18, none, .call 103 [.t 17], []⟩,
    ⟨some 16, none, .mv (.t 18), []⟩,
    ⟨some 19, none, .ext (.t 16) 0, []⟩,
    ⟨some 20, none, .ext (.t 16) 1, []⟩,
    ⟨some 8, none, .mv (.t 19), []⟩,
    ⟨some 9, none, .mv (.t 20), []⟩])
  (.seq
   (.ops 2 [⟨some 22, none, .ld 128 true (.t 5), []⟩,
     ⟨some 23, none, .call 104 [.t 22], []⟩,
     ⟨some 21, none, .mv (.t 23), []⟩,
     ⟨some 24, none, .ext (.t 21) 0, []⟩,
     ⟨some 25, none, .ext (.t 21) 1, []⟩,
     ⟨some 26, none, .ext (.t 21) 2, []⟩,
     ⟨some 10, none, .mv (.t 24), []⟩,
     ⟨some 11, none, .mv (.t 25), []⟩,
     ⟨some 12, none, .mv (.t 26), []⟩])
   (.seq
    (.seq
     (.ops 3 [⟨some 27, none, .mv (.t 9), []⟩,
       ⟨some 28, none, .bin .neq (.t 27) (.c (.int .i64 0)), []⟩,
       ⟨some 29, none, .mv (.t 28), []⟩,
       ⟨some 30, some (29, false), .mv (.t 12), []⟩,
       ⟨some 31, some (29, false), .bin .neq (.t 30) (.c (.int .i64 0)), []⟩,
       ⟨some 32, none, .pick (.t 29) (.c (.bool true)) (.t 31), []⟩])
     (.cond (.t 32)
      (.seq
       (.ops 4 [⟨some 33, none, .mv (.t 0), []⟩,
         ⟨some 34, none, .call 47 [.t 33], []⟩])
       .ret)
      .skip))
    (.seq
     (.ops 5 [⟨some 35, none, .mv (.t 0), []⟩,
       ⟨some 36, none, .mv (.t 0), []⟩,
       ⟨some 37, none, .nilc (.t 36) (mok Tryz.prog), []⟩,
       ⟨some 38, none, .fld 11 (.t 37), []⟩,
       ⟨some 39, none, .ld 1 false (.t 38), []⟩,
       ⟨some 40, none, .call 105 [.t 39], []⟩,
       ⟨some 41, none, .mv (.t 2), []⟩,
       ⟨some 42, none, .mv (.t 3), []⟩,
       ⟨some 43, none, .build [.int .i64 0, .int .u64 0] [(0, 1, (.t 41)), (1, 1, (.t 42))], []⟩,
       ⟨some 44, none, .bslice [.int .i64 0, .int .u64 0] 2 1 [(0, (.t 43))] false false, []⟩,
       ⟨some 45, none, .app 2 16 (.t 40) (.t 44) true, []⟩,
       ⟨some 46, none, .nilc (.t 35) (mok Tryz.prog), []⟩,
       ⟨some 47, none, .fld 11 (.t 46), []⟩,
       ⟨none, none, .st 1 (.t 47) (.t 45), []⟩])
     (.seq
      (.ops 6 [⟨some 48, none, .mv (.t 0), []⟩,
        ⟨some 49, none, .mv (.t 0), []⟩,
        ⟨some 50, none, .nilc (.t 49) (mok Tryz.prog), []⟩,
        ⟨some 51, none, .fld 13 (.t 50), []⟩,
        ⟨some 52, none, .ld 1 false (.t 51), []⟩,
        ⟨some 53, none, .call 52 [.t 52], []⟩,
        ⟨some 54, none, .nilc (.t 48) (mok Tryz.prog), []⟩,
        ⟨some 55, none, .fld 13 (.t 54), []⟩,
        ⟨none, none, .st 1 (.t 55) (.t 53), []⟩])
      (.seq
       (.seq
        (.ops 7 [⟨some 56, none, .mv (.t 8), []⟩,
          ⟨some 57, none, .len .slice (.t 56), []⟩,
          ⟨some 58, none, .mv (.c (.int .i64 0)), []⟩])
        (.block 0
         (.loop [] B48x0)))
       (.seq
        (.ops 13 [⟨some 108, none, .ld 128 true (.t 5), []⟩,
          ⟨some 109, none, .call 97 [.t 108], []⟩,
          ⟨some 15, none, .mv (.t 109), []⟩])
        (.seq
         (.seq
          (.ops 14 [⟨some 110, none, .mv (.t 0), []⟩,
            ⟨some 111, none, .nilc (.t 110) (mok Tryz.prog), []⟩,
            ⟨some 112, none, .fld 13 (.t 111), []⟩,
            ⟨some 113, none, .ld 1 false (.t 112), []⟩,
            ⟨some 114, none, .len .slice (.t 113), []⟩,
            ⟨some 115, none, .mv (.t 0), []⟩,
            ⟨some 116, none, .nilc (.t 115) (mok Tryz.prog), []⟩,
            ⟨some 117, none, .fld 4 (.t 116), []⟩,
            ⟨some 118, none, .ld 1 false (.t 117), []⟩,
            ⟨some 119, none, .bin .eql (.t 114) (.t 118), []⟩,
            ⟨some 120, none, .mv (.t 119), []⟩,
            ⟨some 121, some (120, false), .mv (.t 15), []⟩,
            ⟨some 122, some (120, false), .bin .eql (.t 121) (.c (.int .i64 0)), []⟩,
            ⟨some 123, none, .pick (.t 120) (.c (.bool true)) (.t 122), []⟩,
            ⟨some 124, none, .mv (.t 123), []⟩,
            ⟨some 125, some (124, false), .mv (.t 11), []⟩,
            ⟨some 126, some (124, false), .bin .eql (.t 125) (.c (.str [])), []⟩,
            ⟨some 127, none, .pick (.t 124) (.c (.bool true)) (.t 126), []⟩,
            ⟨some 128, none, .mv (.t 127), []⟩,
            ⟨some 129, some (128, false), .mv (.t 0), []⟩,
            ⟨some 130, some (128, false), .nilc (.t 129) (mok Tryz.prog), []⟩,
            ⟨some 131, some (128, false), .fld 3 (.t 130), []⟩,
            ⟨some 132, some (128, false), .ld 1 false (.t 131), []⟩,
            ⟨some 133, some (128, false), .bin .neq (.t 132) (.c (.str [])), []⟩,
            ⟨some 134, some (128, false), .mv (.t 133), []⟩,
            ⟨some 135, some (134, true), .mv (.t 11), []⟩,
            ⟨some 136, some (134, true), .mv (.t 0), []⟩,
            ⟨some 137, some (134, true), .nilc (.t 136) (mok Tryz.prog), []⟩,
            ⟨some 138, some (134, true), .fld 3 (.t 137), []⟩,
            ⟨some 139, some (134, true), .ld 1 false (.t 138), []⟩,
            ⟨some 140, some (134, true), .bin .geq (.t 135) (.t 139), []⟩,
            ⟨some 141, some (128, false), .pick (.t 134) (.t 140) (.c (.bool false)), []⟩,
            ⟨some 142, none, .pick (.t 128) (.c (.bool true)) (.t 141), []⟩])
          (.cond (.t 142)
           (.seq
            (.ops 15 [⟨some 143, none, .mv (.t 0), []⟩,
              ⟨some 144, none, .call 106 [.t 143], []⟩])
            .ret)
           .skip))
         (.seq
          (.ops 16 [⟨some 145, none, .mv (.t 0), []⟩,
            ⟨some 146, none, .mv (.t 0), []⟩,
            ⟨some 147, none, .mv (.t 0), []⟩,
            ⟨some 148, none, .mv (.t 0), []⟩,
            ⟨some 149, none, .mv (.t 11), []⟩,
            ⟨some 150, none, .mv (.t 15), []⟩,
            ⟨some 151, none, .mv (.t 0), []⟩,
            ⟨some 152, none, .nilc (.t 151) (mok Tryz.prog), []⟩,
            ⟨some 153, none, .fld 0 (.t 152), []⟩,
            ⟨some 154, none, .ld 2 true (.t 153), []⟩,
            ⟨some 155, none, .mv (.t 15), []⟩,
            ⟨some 156, none, .call 107 [.t 154, .t 155], []⟩,
            ⟨some 157, none, .nilc (.t 145) (mok Tryz.prog), []⟩,
            ⟨some 158, none, .fld 10 (.t 157), []⟩,
            ⟨none, none, .st 1 (.t 158) (.t 149), []⟩,
            ⟨some 159, none, .nilc (.t 146) (mok Tryz.prog), []⟩,
            ⟨some 160, none, .fld 9 (.t 159), []⟩,
            ⟨none, none, .st 1 (.t 160) (.t 150), []⟩,
            ⟨some 161, none, .nilc (.t 147) (mok Tryz.prog), []⟩,
            ⟨some 162, none, .fld 8 (.t 161), []⟩,
            ⟨none, none, .st 1 (.t 162) (.t 156), []⟩,
            ⟨some 163, none, .nilc (.t 148) (mok Tryz.prog), []⟩,
            ⟨some 164, none, .fld 14 (.t 163), []⟩,
            ⟨none, none, .st 1 (.t 164) (.c (.int .i64 2)), []⟩])
          (.seq
           (.ops 17 [⟨some 165, none, .mv (.t 0), []⟩,
             ⟨some 166, none, .nilc (.t 165) (mok Tryz.prog), []⟩,
             ⟨some 167, none, .fld 8 (.t 166), []⟩,
             ⟨some 168, none, .ld 1 false (.t 167), []⟩,
             ⟨some 169, none, .eqn .ptr false (.t 168), []⟩])
           (.cond (.t 169)
            (.ops 18 [⟨some 170, none, .mv (.t 0), []⟩,
              ⟨some 171, none, .call 47 [.t 170], []⟩])
            .skip))))))))))))⟩
theorem F48_code : cfgA.code 48 = some F48 := by kernel_rfl

/-- (*ticketline/descend.Scan).over -/
noncomputable def F50 : AFn := ⟨13, [.tmp 2], (.seq
 (.ops 0 [⟨some 2, none, .mv (.c (.bool false)), []⟩])
 (.seq
  (.ops 1 [⟨some 3, none, .mv (.t 0), []⟩,
    ⟨some 4, none, .call 45 [.t 3], []⟩,
    ⟨some 5, none, .un .not (.t 4), []⟩,
    ⟨some 6, none, .mv (.t 5), []⟩,
    ⟨some 7, some (6, true), .mv (.t 0), []⟩,
    ⟨some 8, some (6, true), .nilc (.t 7) (mok Tryz.prog), []⟩,
    ⟨some 9, some (6, true), .fld 14 (.t 8), []⟩,
    ⟨some 10, some (6, true), .ld 1 false (.t 9), []⟩,
    ⟨some 11, some (6, true), .bin .eql (.t 10) (.c (.int .i64 4)), []⟩,
    ⟨some 12, none, .pick (.t 6) (.t 11) (.c (.bool false)), []⟩,
    ⟨some 2, none, .mv (.t 12), []⟩])
  .ret))⟩
theorem F50_code : cfgA.code 50 = some F50 := by kernel_rfl

/-- slices.Clone[[]ticketline/api.Pair,ticketline/api.Pair] -/
noncomputable def F52 : AFn := ⟨8, [.tmp 2], (.seq
 (.ops 0 [⟨some 2, none, .mv (.c (.nils)), []⟩])
 (.seq
  (.seq
   (.ops 1 [⟨some 3, none, .mv (.t 0), []⟩,
     ⟨some 4, none, .eqn .slice false (.t 3), []⟩])
   (.cond (.t 4)
    (.seq
     (.ops 2 [⟨some 2, none, .mv (.c (.nils)), []⟩])
     .ret)
    .skip))
  (.seq
   (.ops 3 [⟨some 5, none, .bslice [.str [], .str []] 2 0 [] false false, []⟩,
     ⟨some 6, none, .mv (.t 0), []⟩,
     ⟨some 7, none, .app 2 32 (.t 5) (.t 6) true, []⟩,
     ⟨some 2, none, .mv (.t 7), []⟩])
   .ret)))⟩
theorem F52_code : cfgA.code 52 = some F52 := by kernel_rfl

/-- ticketline/descend.valid -/
noncomputable def F53 : AFn := ⟨21, [.tmp 2], (.seq
 (.ops 0 [⟨some 1, none, .box 2 (.t 0) false, []⟩,
   ⟨some 2, none, .mv (.c (.bool false)), []⟩])
 (.seq
  (.ops 1 [⟨some 3, none, .fld 0 (.t 1), []⟩,
    ⟨some 4, none, .ld 1 false (.t 3), []⟩,
    ⟨some 5, none, .bin .geq (.t 4) (.c (.int .i64 1)), []⟩,
    ⟨some 6, none, .mv (.t 5), []⟩,
    ⟨some 7, some (6, true), .fld 0 (.t 1), []⟩,
    ⟨some 8, some (6, true), .ld 1 false (.t 7), []⟩,
    ⟨some 9, some (6, true), .bin .leq (.t 8) (.c (.int .i64 511)), []⟩,
    ⟨some 10, none, .pick (.t 6) (.t 9) (.c (.bool false)), []⟩,
    ⟨some 11, none, .mv (.t 10), []⟩,
    ⟨some 12, some (11, true), .fld 1 (.t 1), []⟩,
    ⟨some 13, some (11, true), .ld 1 false (.t 12), []⟩,
    ⟨some 14, some (11, true), .bin .geq (.t 13) (.c (.int .i64 1)), []⟩,
    ⟨some 15, none, .pick (.t 11) (.t 14) (.c (.bool false)), []⟩,
    ⟨some 16, none, .mv (.t 15), []⟩,
    ⟨some 17, some (16, true), .fld 1 (.t 1), []⟩,
    ⟨some 18, some (16, true), .ld 1 false (.t 17), []⟩,
    ⟨some 19, some (16, true), .bin .leq (.t 18) (.c (.int .i64 17)), []⟩,
    ⟨some 20, none, .pick (.t 16) (.t 19) (.c (.bool false)), []⟩,
    ⟨some 2, none, .mv (.t 20), []⟩])
  .ret))⟩
theorem F53_code : cfgA.code 53 = some F53 := by kernel_rfl

/-- ticketline/keys.ValidKey -/
noncomputable def F54 : AFn := ⟨11, [.tmp 2], (.seq
 (.ops 0 [⟨some 2, none, .mv (.c (.bool false)), []⟩])
 (.seq
  (.ops 1 [⟨some 3, none, .mv (.t 0), []⟩,
    ⟨some 4, none, .len .string (.t 3), []⟩,
    ⟨some 5, none, .bin .geq (.t 4) (.c (.int .i64 1)), []⟩,
    ⟨some 6, none, .mv (.t 5), []⟩,
    ⟨some 7, some (6, true), .mv (.t 0), []⟩,
    ⟨some 8, some (6, true), .len .string (.t 7), []⟩,
    ⟨some 9, some (6, true), .bin .leq (.t 8) (.c (.int .i64 24)), []⟩,
    ⟨some 10, none, .pick (.t 6) (.t 9) (.c (.bool false)), []⟩,
    ⟨some 2, none, .mv (.t 10), []⟩])
  .ret))⟩
theorem F54_code : cfgA.code 54 = some F54 := by kernel_rfl

/-- ticketline/descend.readRoot -/
noncomputable def F55 : AFn := ⟨8, [.tmp 0], (.seq
 (.ops 0 [⟨some 0, none, .mv (.c (.nilp)), []⟩])
 (.seq
  (.ops 1 [⟨some 4, none, .call 109 [.c (.int .i64 11), .c (.int .i64 3), .c (.int .i64 1), .c (.int .i64 2)], []⟩,
    ⟨some 3, none, .mv (.t 4), []⟩,
    ⟨some 5, none, .ext (.t 3) 0, []⟩,
    ⟨some 6, none, .ext (.t 3) 1, []⟩,
    ⟨some 1, none, .mv (.t 5), []⟩,
    ⟨some 2, none, .mv (.t 6), []⟩])
  (.seq
   (.ops 2 [⟨some 7, none, .mv (.t 1), []⟩,
     ⟨some 0, none, .mv (.t 7), []⟩])
   .ret)))⟩
theorem F55_code : cfgA.code 55 = some F55 := by kernel_rfl

/-- ticketline/ticketlinelaw27.word -/
noncomputable def F56 : AFn := ⟨22, [.tmp 6], (.seq
 (.ops 0 [⟨some 3, none, .box 2 (.t 0) false, []⟩,
   ⟨some 6, none, .mv (.c (.bool false)), []⟩])
 (.seq
  (.ops 1 [⟨some 10, none, .ld 2 true (.t 3), []⟩,
    ⟨some 11, none, .call 110 [.t 10], []⟩,
    ⟨some 9, none, .mv (.t 11), []⟩,
    ⟨some 12, none, .ext (.t 9) 0, []⟩,
    ⟨some 13, none, .ext (.t 9) 1, []⟩,
    ⟨some 7, none, .mv (.t 12), []⟩,
    ⟨some 8, none, .mv (.t 13), []⟩])
  (.seq
   (.ops 2 [⟨some 14, none, .mv (.t 7), []⟩,
     ⟨some 15, none, .mv (.t 1), []⟩,
     ⟨some 16, none, .bin .eql (.t 14) (.t 15), []⟩,
     ⟨some 17, none, .mv (.t 16), []⟩,
     ⟨some 18, some (17, true), .mv (.t 8), []⟩,
     ⟨some 19, some (17, true), .mv (.t 2), []⟩,
     ⟨some 20, some (17, true), .bin .eql (.t 18) (.t 19), []⟩,
     ⟨some 21, none, .pick (.t 17) (.t 20) (.c (.bool false)), []⟩,
     ⟨some 6, none, .mv (.t 21), []⟩])
   .ret)))⟩
theorem F56_code : cfgA.code 56 = some F56 := by kernel_rfl

/-- ticketline/ticketlinelaw27.at -/
noncomputable def F57 : AFn := ⟨60, [.tmp 8], (.seq
 (.ops 0 [⟨some 4, none, .box 2 (.t 0) false, []⟩,
   ⟨some 8, none, .mv (.c (.bool false)), []⟩])
 (.seq
  (.ops 1 [⟨some 14, none, .ld 2 true (.t 4), []⟩,
    ⟨some 15, none, .mv (.t 1), []⟩,
    ⟨some 16, none, .call 111 [.t 14, .t 15], []⟩,
    ⟨some 13, none, .mv (.t 16), []⟩,
    ⟨some 17, none, .ext (.t 13) 0, []⟩,
    ⟨some 18, none, .ext (.t 13) 1, []⟩,
    ⟨some 9, none, .mv (.t 17), []⟩,
    ⟨some 10, none, .mv (.t 18), []⟩])
  (.seq
   (.ops 2 [⟨some 20, none, .ld 2 true (.t 4), []⟩,
     ⟨some 21, none, .mv (.t 1), []⟩,
     ⟨some 22, none, .call 101 [.t 20, .t 21], []⟩,
     ⟨some 19, none, .mv (.t 22), []⟩,
     ⟨some 23, none, .ext (.t 19) 0, []⟩,
     ⟨some 24, none, .ext (.t 19) 1, []⟩,
     ⟨some 11, none, .mv (.t 23), []⟩,
     ⟨some 12, none, .mv (.t 24), []⟩])
   (.seq
    (.seq
     (.ops 3 [⟨some 25, none, .mv (.t 3), []⟩,
       ⟨some 26, none, .bin .neq (.t 25) (.c (.int .i64 0)), []⟩])
     (.cond (.t 26)
      (.seq
       (.ops 4 [⟨some 27, none, .mv (.t 9), []⟩,
         ⟨some 28, none, .bin .eql (.t 27) (.c (.int .i64 0)), []⟩,
         ⟨some 29, none, .mv (.t 28), []⟩,
         ⟨some 30, some (29, true), .mv (.t 11), []⟩,
         ⟨some 31, some (29, true), .bin .eql (.t 30) (.c (.int .i64 0)), []⟩,
         ⟨some 32, none, .pick (.t 29) (.t 31) (.c (.bool false)), []⟩,
         ⟨some 33, none, .mv (.t 32), []⟩,
         ⟨some 34, some (33, true), .mv (.t 10), []⟩,
         ⟨some 35, some (33, true), .mv (.t 3), []⟩,
         ⟨some 36, some (33, true), .bin .eql (.t 34) (.t 35), []⟩,
         ⟨some 37, none, .pick (.t 33) (.t 36) (.c (.bool false)), []⟩,
         ⟨some 38, none, .mv (.t 37), []⟩,
         ⟨some 39, some (38, true), .mv (.t 12), []⟩,
         ⟨some 40, some (38, true), .mv (.t 3), []⟩,
         ⟨some 41, some (38, true), .bin .eql (.t 39) (.t 40), []⟩,
         ⟨some 42, none, .pick (.t 38) (.t 41) (.c (.bool false)), []⟩,
         ⟨some 8, none, .mv (.t 42), []⟩])
       .ret)
      .skip))
    (.seq
     (.ops 5 [⟨some 43, none, .mv (.t 9), []⟩,
       ⟨some 44, none, .mv (.t 2), []⟩,
       ⟨some 45, none, .bin .eql (.t 43) (.t 44), []⟩,
       ⟨some 46, none, .mv (.t 45), []⟩,
       ⟨some 47, some (46, true), .mv (.t 11), []⟩,
       ⟨some 48, some (46, true), .mv (.t 2), []⟩,
       ⟨some 49, some (46, true), .bin .add (.t 48) (.c (.int .i64 3)), []⟩,
       ⟨some 50, some (46, true), .bin .eql (.t 47) (.t 49), []⟩,
       ⟨some 51, none, .pick (.t 46) (.t 50) (.c (.bool false)), []⟩,
       ⟨some 52, none, .mv (.t 51), []⟩,
       ⟨some 53, some (52, true), .mv (.t 10), []⟩,
       ⟨some 54, some (52, true), .bin .eql (.t 53) (.c (.int .i64 0)), []⟩,
       ⟨some 55, none, .pick (.t 52) (.t 54) (.c (.bool false)), []⟩,
       ⟨some 56, none, .mv (.t 55), []⟩,
       ⟨some 57, some (56, true), .mv (.t 12), []⟩,
       ⟨some 58, some (56, true), .bin .eql (.t 57) (.c (.int .i64 0)), []⟩,
       ⟨some 59, none, .pick (.t 56) (.t 58) (.c (.bool false)), []⟩,
       ⟨some 8, none, .mv (.t 59), []⟩])
     .ret)))))⟩
theorem F57_code : cfgA.code 57 = some F57 := by kernel_rfl

/-- ticketline/descend.Format -/
noncomputable def F58 : AFn := ⟨61, [.tmp 2, .tmp 3], (.seq
 (.ops 0 [⟨some 1, none, .box 2 (.t 0) false, []⟩,
   ⟨some 2, none, .mv (.c (.nilp)), []⟩,
   ⟨some 3, none, .mv (.c (.int .i64 0)), []⟩])
 (.seq
  (.ops 1 [⟨some 12, none, .ld 2 true (.t 1), []⟩,
    ⟨some 13, none, .call 110 [.t 12], []⟩,
    ⟨some 11, none, .mv (.t 13), []⟩,
    ⟨some 14, none, .ext (.t 11) 0, []⟩,
    ⟨some 15, none, .ext (.t 11) 1, []⟩,
    ⟨some 4, none, .mv (.t 14), []⟩,
    ⟨some 5, none, .mv (.t 15), []⟩])
  (.seq
   (.seq
    (.ops 2 [⟨some 16, none, .mv (.t 5), []⟩,
      ⟨some 17, none, .bin .neq (.t 16) (.c (.int .i64 0)), []⟩])
    (.cond (.t 17)
     (.seq
      (.ops 3 [⟨some 18, none, .mv (.t 5), []⟩,
        ⟨some 2, none, .mv (.c (.nilp)), []⟩,
        ⟨some 3, none, .mv (.t 18), []⟩])
      .ret)
     .skip))
   (.seq
    (.ops 4 [⟨some 20, none, .mv (.t 4), []⟩,
      ⟨some 21, none, .call 5 [.t 20], []⟩,
      ⟨some 19, none, .mv (.t 21), []⟩,
      ⟨some 22, none, .ext (.t 19) 0, []⟩,
      ⟨some 23, none, .ext (.t 19) 1, []⟩,
      ⟨some 6, none, .mv (.t 22), []⟩,
      ⟨some 5, none, .mv (.t 23), []⟩])
    (.seq
     (.seq
      (.ops 5 [⟨some 24, none, .mv (.t 5), []⟩,
        ⟨some 25, none, .bin .neq (.t 24) (.c (.int .i64 0)), []⟩])
      (.cond (.t 25)
       (.seq
        (.ops 6 [⟨some 26, none, .mv (.t 5), []⟩,
          ⟨some 2, none, .mv (.c (.nilp)), []⟩,
          ⟨some 3, none, .mv (.t 26), []⟩])
        .ret)
       .skip))
     (.seq
      (.ops 7 [⟨some 28, none, .mv (.t 6), []⟩,
        ⟨some 29, none, .fld 0 (.t 1), []⟩,
        ⟨some 30, none, .ld 1 false (.t 29), []⟩,
        ⟨some 31, none, .call 112 [.t 28, .t 30], []⟩,
        ⟨some 27, none, .mv (.t 31), []⟩,
        ⟨some 32, none, .ext (.t 27) 0, []⟩,
        ⟨some 33, none, .ext (.t 27) 1, []⟩,
        ⟨some 7, none, .mv (.t 32), []⟩,
        ⟨some 5, none, .mv (.t 33), []⟩])
      (.seq
       (.seq
        (.ops 8 [⟨some 34, none, .mv (.t 5), []⟩,
          ⟨some 35, none, .bin .neq (.t 34) (.c (.int .i64 0)), []⟩])
        (.cond (.t 35)
         (.seq
          (.ops 9 [⟨some 36, none, .mv (.t 5), []⟩,
            ⟨some 2, none, .mv (.c (.nilp)), []⟩,
            ⟨some 3, none, .mv (.t 36), []⟩])
          .ret)
         .skip))
       (.seq
        (.ops 10 [⟨some 38, none, .call 113 [.c (.int .i64 0), .c (.str []), .c (.str [])], []⟩,
          ⟨some 37, none, .mv (.t 38), []⟩,
          ⟨some 39, none, .ext (.t 37) 0, []⟩,
          ⟨some 40, none, .ext (.t 37) 1, []⟩,
          ⟨some 8, none, .alloc (List.replicate 128 (.int .u64 0)) false, []⟩,
          ⟨none, none, .st 128 (.t 8) (.t 39), []⟩,
          ⟨some 5, none, .mv (.t 40), []⟩])
        (.seq
         (.seq
          (.ops 11 [⟨some 41, none, .mv (.t 5), []⟩,
            ⟨some 42, none, .bin .neq (.t 41) (.c (.int .i64 0)), []⟩])
          (.cond (.t 42)
           (.seq
            (.ops 12 [⟨some 43, none, .mv (.t 5), []⟩,
              ⟨some 2, none, .mv (.c (.nilp)), []⟩,
              ⟨some 3, none, .mv (.t 43), []⟩])
            .ret)
           .skip))
         (.seq
          (.ops 13 [⟨some 45, none, .mv (.t 7), []⟩,
            ⟨some 46, none, .ld 128 true (.t 8), []⟩,
            ⟨some 47, none, .call 114 [.t 45, .t 46], []⟩,
            ⟨some 44, none, .mv (.t 47), []⟩,
            ⟨some 48, none, .ext (.t 44) 0, []⟩,
            ⟨some 49, none, .ext (.t 44) 1, []⟩,
            ⟨some 9, none, .mv (.t 48), []⟩,
            ⟨some 5, none, .mv (.t 49), []⟩])
          (.seq
           (.seq
            (.ops 14 [⟨some 50, none, .mv (.t 5), []⟩,
              ⟨some 51, none, .bin .neq (.t 50) (.c (.int .i64 0)), []⟩])
            (.cond (.t 51)
             (.seq
              (.ops 15 [⟨some 52, none, .mv (.t 5), []⟩,
                ⟨some 2, none, .mv (.c (.nilp)), []⟩,
                ⟨some 3, none, .mv (.t 52), []⟩])
              .ret)
             .skip))
           (.seq
            (.seq
             (.ops 16 [⟨some 53, none, .mv (.t 7), []⟩,
               ⟨some 54, none, .mv (.t 9), []⟩,
               ⟨some 55, none, .call 115 [.t 53, .t 54], []⟩,
               ⟨some 10, none, .mv (.t 55), []⟩])
             (.seq
              (.ops 17 [⟨some 56, none, .mv (.t 10), []⟩,
                ⟨some 57, none, .bin .neq (.t 56) (.c (.int .i64 0)), []⟩])
              (.cond (.t 57)
               (.seq
                (.ops 18 [⟨some 58, none, .mv (.t 10), []⟩,
                  ⟨some 2, none, .mv (.c (.nilp)), []⟩,
                  ⟨some 3, none, .mv (.t 58), []⟩])
                .ret)
               .skip)))
            (.seq
             (.ops 19 [⟨some 59, none, .mv (.t 7), []⟩,
               ⟨some 60, none, .call 116 [.t 59], []⟩,
               ⟨some 2, none, .mv (.t 60), []⟩,
               ⟨some 3, none, .mv (.c (.int .i64 0)), []⟩])
             .ret)))))))))))))⟩
theorem F58_code : cfgA.code 58 = some F58 := by kernel_rfl

/-- ticketline/descend.NewScan -/
noncomputable def F59 : AFn := ⟨52, [.tmp 10, .tmp 11], (.seq
 (.ops 0 [⟨some 5, none, .box 2 (.t 0) false, []⟩,
   ⟨some 10, none, .mv (.c (.nilp)), []⟩,
   ⟨some 11, none, .mv (.c (.int .i64 0)), []⟩])
 (.seq
  (.seq
   (.ops 1 [⟨some 13, none, .ld 2 true (.t 5), []⟩,
     ⟨some 14, none, .call 53 [.t 13], []⟩,
     ⟨some 15, none, .un .not (.t 14), []⟩,
     ⟨some 16, none, .mv (.t 15), []⟩,
     ⟨some 17, some (16, false), .mv (.t 1), []⟩,
     ⟨some 18, some (16, false), .len .string (.t 17), []⟩,
     ⟨some 19, some (16, false), .bin .gtr (.t 18) (.c (.int .i64 24)), []⟩,
     ⟨some 20, none, .pick (.t 16) (.c (.bool true)) (.t 19), []⟩,
     ⟨some 21, none, .mv (.t 20), []⟩,
     ⟨some 22, some (21, false), .mv (.t 2), []⟩,
     ⟨some 23, some (21, false), .len .string (.t 22), []⟩,
     ⟨some 24, some (21, false), .bin .gtr (.t 23) (.c (.int .i64 24)), []⟩,
     ⟨some 25, none, .pick (.t 21) (.c (.bool true)) (.t 24), []⟩,
     ⟨some 26, none, .mv (.t 25), []⟩,
     ⟨some 27, some (26, false), .mv (.t 3), []⟩,
     ⟨some 28, some (26, false), .bin .lss (.t 27) (.c (.int .i64 1)), []⟩,
     ⟨some 29, none, .pick (.t 26) (.c (.bool true)) (.t 28), []⟩,
     ⟨some 30, none, .mv (.t 29), []⟩,
     ⟨some 31, some (30, false), .mv (.t 3), []⟩,
     ⟨some 32, some (30, false), .bin .gtr (.t 31) (.c (.int .i64 32)), []⟩,
     ⟨some 33, none, .pick (.t 30) (.c (.bool true)) (.t 32), []⟩,
     ⟨some 34, none, .mv (.t 33), []⟩,
     ⟨some 35, some (34, false), .mv (.t 4), []⟩,
     ⟨some 36, some (34, false), .bin .lss (.t 35) (.c (.int .i64 0)), []⟩,
     ⟨some 37, none, .pick (.t 34) (.c (.bool true)) (.t 36), []⟩,
     ⟨some 38, none, .mv (.t 37), []⟩,
     ⟨some 39, some (38, false), .mv (.t 4), []⟩,
     ⟨some 40, some (38, false), .bin .gtr (.t 39) (.c (.int .i64 64)), []⟩,
     ⟨some 41, none, .pick (.t 38) (.c (.bool true)) (.t 40), []⟩])
   (.cond (.t 41)
    (.seq
     (.ops 2 [⟨some 10, none, .mv (.c (.nilp)), []⟩,
       ⟨some 11, none, .mv (.c (.int .i64 2)), []⟩])
     .ret)
    .skip))
  (.seq
   (.ops 3 [⟨some 42, none, .ld 2 true (.t 5), []⟩,
     ⟨some 43, none, .mv (.t 1), []⟩,
     ⟨some 44, none, .mv (.t 2), []⟩,
     ⟨some 45, none, .mv (.t 3), []⟩,
     ⟨some 46, none, .mv (.t 4), []⟩,
     ⟨some 47, none, .build [.int .i64 0, .int .i64 0, .str [], .str [], .int .i64 0, .int .i64 0, .int .i64 0, .nilp, .nilp, .int .i64 0, .str [], .nils, .int .i64 0, .nils, .int .i64 0, .bool false] [(0, 2, (.t 42)), (2, 1, (.t 43)), (3, 1, (.t 44)), (4, 1, (.t 45)), (5, 1, (.t 46))], []⟩,
     ⟨some 48, none, .box 16 (.t 47) true, []⟩,
     ⟨some 12, none, .mv (.t 48), []⟩])
   (.seq
    (.ops 4 [⟨some 49, none, .mv (.t 12), []⟩,
      ⟨some 50, none, .call 102 [.t 49], []⟩])
    (.seq
     (.ops 5 [⟨some 51, none, .mv (.t 12), []⟩,
       ⟨some 10, none, .mv (.t 51), []⟩,
       ⟨some 11, none, .mv (.c (.int .i64 0)), []⟩])
     .ret)))))⟩
theorem F59_code : cfgA.code 59 = some F59 := by kernel_rfl

/-- ticketline/ticketlinelaw27.steps: the round 0 -/
noncomputable def B60x0 : AC := (.seq
 (.seq
  (.ops 2 [⟨some 13, none, .mv (.t 8), []⟩,
    ⟨some 14, none, .mv (.t 2), []⟩,
    ⟨some 15, none, .bin .lss (.t 13) (.t 14), []⟩,
    ⟨some 16, none, .mv (.t 15), []⟩,
    ⟨some 17, some (16, true), .mv (.t 0), []⟩,
    ⟨some 18, some (16, true), .invk (.t 17) "Done" [], []⟩,
    ⟨some 19, some (16, true), .un .not (.t 18), []⟩,
    ⟨some 20, none, .pick (.t 16) (.t 19) (.c (.bool false)), []⟩])
  (.cond (.t 20)
   .skip
   (.exit 0)))
 (.seq
  (.block 1
   (.seq
    (.ops 4 [⟨some 24, none, .mv (.t 1), []⟩,
      ⟨some 25, none, .call 117 [.t 24], []⟩,
      ⟨some 23, none, .mv (.t 25), []⟩,
      ⟨some 26, none, .ext (.t 23) 0, []⟩,
      ⟨some 27, none, .ext (.t 23) 1, []⟩,
      ⟨some 9, none, .mv (.t 26), []⟩,
      ⟨some 10, none, .mv (.t 27), []⟩])
    (.seq
     (.seq
      (.ops 5 [⟨some 28, none, .mv (.t 10), []⟩,
        ⟨some 29, none, .bin .neq (.t 28) (.c (.int .i64 0)), []⟩])
      (.cond (.t 29)
       (.seq
        (.ops 6 [⟨some 30, none, .mv (.t 7), []⟩,
          ⟨some 6, none, .mv (.c (.bool false)), []⟩,
          ⟨some 7, none, .mv (.t 30), []⟩])
        .ret)
       .skip))
     (.seq
      (.ops 7 [⟨some 32, none, .mv (.t 0), []⟩,
        ⟨some 33, none, .mv (.t 9), []⟩,
        ⟨some 34, none, .mki 154 (.t 33), []⟩,
        ⟨some 35, none, .invk (.t 32) "Step" [.t 34], []⟩,
        ⟨some 31, none, .mv (.t 35), []⟩,
        ⟨some 36, none, .ext (.t 31) 0, []⟩,
        ⟨some 37, none, .ext (.t 31) 1, []⟩,
        ⟨some 11, none, .mv (.t 36), []⟩,
        ⟨some 10, none, .mv (.t 37), []⟩])
      (.seq
       (.seq
        (.ops 8 [⟨some 38, none, .mv (.t 9), []⟩,
          ⟨some 39, none, .call 118 [.t 38], []⟩,
          ⟨some 40, none, .fdv 0 1 false (.t 39), []⟩,
          ⟨some 12, none, .mv (.t 40), []⟩])
        (.seq
         (.ops 9 [⟨some 41, none, .mv (.t 10), []⟩,
           ⟨some 42, none, .bin .neq (.t 41) (.c (.int .i64 0)), []⟩,
           ⟨some 43, none, .mv (.t 42), []⟩,
           ⟨some 44, some (43, false), .mv (.t 12), []⟩,
           ⟨some 45, some (43, false), .bin .neq (.t 44) (.c (.int .i64 1)), []⟩,
           ⟨some 46, some (43, false), .mv (.t 45), []⟩,
           ⟨some 47, some (46, true), .mv (.t 12), []⟩,
           ⟨some 48, some (46, true), .bin .neq (.t 47) (.c (.int .i64 0)), []⟩,
           ⟨some 49, some (43, false), .pick (.t 46) (.t 48) (.c (.bool false)), []⟩,
           ⟨some 50, none, .pick (.t 43) (.c (.bool true)) (.t 49), []⟩])
         (.cond (.t 50)
          (.seq
           (.ops 10 [⟨some 51, none, .mv (.t 7), []⟩,
             ⟨some 6, none, .mv (.c (.bool false)), []⟩,
             ⟨some 7, none, .mv (.t 51), []⟩])
           .ret)
          .skip)))
       (.ops 11 [⟨some 52, none, .mv (.t 7), []⟩,
         ⟨some 53, none, .mv (.t 52), []⟩,
         ⟨some 54, some (53, false), .mv (.t 11), []⟩,
         ⟨some 55, none, .pick (.t 53) (.c (.bool true)) (.t 54), []⟩,
         ⟨some 7, none, .mv (.t 55), []⟩]))))))
  (.ops 3 [⟨some 21, none, .mv (.t 8), []⟩,
    ⟨some 22, none, .bin .add (.t 21) (.c (.int .i64 1)), []⟩,
    ⟨some 8, none, .mv (.t 22), []⟩])))
/-- ticketline/ticketlinelaw27.steps -/
noncomputable def F60 : AFn := ⟨59, [.tmp 6, .tmp 7], (.seq
 (.ops 0 [⟨some 6, none, .mv (.c (.bool false)), []⟩,
   ⟨some 7, none, .mv (.c (.bool false)), []⟩])
 (.seq
  (.seq
   (.ops 1 [⟨some 8, none, .mv (.c (.int .i64 0)), []⟩])
   (.block 0
    (.loop [] B60x0)))
  (.seq
   (.ops 12 [⟨some 56, none, .mv (.t 0), []⟩,
     ⟨some 57, none, .invk (.t 56) "Done" [], []⟩,
     ⟨some 58, none, .mv (.t 7), []⟩,
     ⟨some 6, none, .mv (.t 57), []⟩,
     ⟨some 7, none, .mv (.t 58), []⟩])
   .ret)))⟩
theorem F60_code : cfgA.code 60 = some F60 := by kernel_rfl

/-- ticketline/slot.Len -/
noncomputable def F61 : AFn := ⟨11, [.tmp 2], (.seq
 (.ops 0 [⟨some 1, none, .box 128 (.t 0) false, []⟩,
   ⟨some 2, none, .mv (.c (.int .i64 0)), []⟩])
 (.seq
  (.ops 1 [⟨some 6, none, .call 119 [.t 1], []⟩,
    ⟨some 5, none, .mv (.t 6), []⟩,
    ⟨some 7, none, .ext (.t 5) 0, []⟩,
    ⟨some 8, none, .ext (.t 5) 1, []⟩,
    ⟨some 3, none, .mv (.t 7), []⟩,
    ⟨some 4, none, .mv (.t 8), []⟩])
  (.seq
   (.ops 2 [⟨some 9, none, .mv (.t 3), []⟩,
     ⟨some 10, none, .len .slice (.t 9), []⟩,
     ⟨some 2, none, .mv (.t 10), []⟩])
   .ret)))⟩
theorem F61_code : cfgA.code 61 = some F61 := by kernel_rfl

/-- (*ticketline/mem.Mem).Store -/
noncomputable def F62 : AFn := ⟨18, [.tmp 6], (.seq
 (.ops 0 [⟨some 6, none, .mv (.c (.int .i64 0)), []⟩])
 (.seq
  (.ops 1 [⟨some 10, none, .mv (.t 0), []⟩,
    ⟨some 11, none, .mv (.t 1), []⟩,
    ⟨some 12, none, .mv (.t 2), []⟩,
    ⟨some 13, none, .build [.int .i64 0, .int .i64 0, .int .u64 0, .int .u64 0] [(0, 1, (.c (.int .i64 2))), (1, 1, (.t 11)), (3, 1, (.t 12))], []⟩,
    ⟨some 14, none, .call 120 [.t 10, .t 13], []⟩,
    ⟨some 9, none, .mv (.t 14), []⟩,
    ⟨some 15, none, .ext (.t 9) 0, []⟩,
    ⟨some 16, none, .ext (.t 9) 1, []⟩,
    ⟨some 7, none, .alloc [.int .i64 0, .int .i64 0, .int .u64 0, .int .u64 0] false, []⟩,
    ⟨none, none, .st 4 (.t 7) (.t 15), []⟩,
    ⟨some 8, none, .mv (.t 16), []⟩])
  (.seq
   (.ops 2 [⟨some 17, none, .mv (.t 8), []⟩,
     ⟨some 6, none, .mv (.t 17), []⟩])
   .ret)))⟩
theorem F62_code : cfgA.code 62 = some F62 := by kernel_rfl

/-- (*ticketline/mem.Mem).Len -/
noncomputable def F63 : AFn := ⟨10, [.tmp 2], (.seq
 (.ops 0 [⟨some 2, none, .mv (.c (.int .i64 0)), []⟩])
 (.seq
  (.seq
   (.ops 1 [⟨some 3, none, .mv (.t 0), []⟩,
     ⟨some 4, none, .call 121 [.t 3], []⟩])
   (.cond (.t 4)
    (.seq
     (.ops 2 [⟨some 2, none, .mv (.c (.int .i64 0)), []⟩])
     .ret)
    .skip))
  (.seq
   (.ops 3 [⟨some 5, none, .mv (.t 0), []⟩,
     ⟨some 6, none, .nilc (.t 5) (mok Tryz.prog), []⟩,
     ⟨some 7, none, .fld 0 (.t 6), []⟩,
     ⟨some 8, none, .ld 1 false (.t 7), []⟩,
     ⟨some 9, none, .len .slice (.t 8), []⟩,
     ⟨some 2, none, .mv (.t 9), []⟩])
   .ret)))⟩
theorem F63_code : cfgA.code 63 = some F63 := by kernel_rfl

/-- (*ticketline/reclaim.Give).zero -/
noncomputable def F64 : AFn := ⟨12, [.tmp 2], (.seq
 (.ops 0 [⟨some 2, none, .mv (.c (.bool false)), []⟩])
 (.seq
  (.ops 1 [⟨some 3, none, .mv (.t 0), []⟩,
    ⟨some 4, none, .eqn .ptr false (.t 3), []⟩,
    ⟨some 5, none, .mv (.t 4), []⟩,
    ⟨some 6, some (5, false), .mv (.t 0), []⟩,
    ⟨some 7, some (5, false), .nilc (.t 6) (mok Tryz.prog), []⟩,
    ⟨some 8, some (5, false), .fld 4 (.t 7), []⟩,
    ⟨some 9, some (5, false), .ld 1 false (.t 8), []⟩,
    ⟨some 10, some (5, false), .bin .eql (.t 9) (.c (.int .i64 0)), []⟩,
    ⟨some 11, none, .pick (.t 5) (.c (.bool true)) (.t 10), []⟩,
    ⟨some 2, none, .mv (.t 11), []⟩])
  .ret))⟩
theorem F64_code : cfgA.code 64 = some F64 := by kernel_rfl

end Den
