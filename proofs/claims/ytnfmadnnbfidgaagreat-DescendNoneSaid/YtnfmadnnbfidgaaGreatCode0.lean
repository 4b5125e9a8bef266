/- Functions of the program, as den reads them. -/
import Derived.Test.YtnfmadnnbfidgaaGreatA
namespace Den
open Go Go.Proofs
set_option maxRecDepth 1000000

/-- ticketline/ticketlinelaw27.DescendNone: the round 0 -/
noncomputable def B3x0 : AC := (.seq
 (.ops 7 [⟨some 30, none, .bin .lss (.t 29) (.t 28), []⟩])
 (.seq
  (.cond (.t 30)
   .skip
   (.exit 0))
  (.seq
   (.block 1
    (.seq
     (.ops 8 [⟨some 31, none, .ixa none 1 (.t 27) (.t 29), []⟩,
       ⟨some 32, none, .ld 1 false (.t 31), []⟩,
       ⟨some 6, none, .mv (.t 32), []⟩])
     (.seq
      (.ops 9 [⟨some 34, none, .mv (.t 6), []⟩,
        ⟨some 35, none, .mv (.t 1), []⟩,
        ⟨some 36, none, .mki 22 (.t 35), []⟩,
        ⟨some 37, none, .call 6 [.t 34, .t 36], []⟩,
        ⟨some 33, none, .mv (.t 37), []⟩,
        ⟨some 38, none, .ext (.t 33) 0, []⟩,
        ⟨some 39, none, .ext (.t 33) 1, []⟩,
        ⟨some 7, none, .mv (.t 38), []⟩,
        ⟨some 8, none, .mv (.t 39), []⟩])
      (.seq
       (.ops 10 [⟨some 40, none, .mv (.t 8), []⟩,
         ⟨some 41, none, .bin .neq (.t 40) (.c (.int .i64 1)), []⟩,
         ⟨some 42, none, .mv (.t 41), []⟩,
         ⟨some 43, some (42, false), .mv (.t 6), []⟩,
         ⟨some 44, some (42, false), .call 7 [.t 43], []⟩,
         ⟨some 45, some (42, false), .un .not (.t 44), []⟩,
         ⟨some 46, none, .pick (.t 42) (.c (.bool true)) (.t 45), []⟩,
         ⟨some 47, none, .mv (.t 46), []⟩,
         ⟨some 48, some (47, false), .mv (.t 6), []⟩,
         ⟨some 49, some (47, false), .call 8 [.t 48], []⟩,
         ⟨some 50, some (47, false), .bin .neq (.t 49) (.c (.int .u64 0)), []⟩,
         ⟨some 51, none, .pick (.t 47) (.c (.bool true)) (.t 50), []⟩,
         ⟨some 52, none, .mv (.t 51), []⟩,
         ⟨some 53, some (52, false), .mv (.t 6), []⟩,
         ⟨some 54, some (52, false), .call 9 [.t 53], []⟩,
         ⟨some 55, some (52, false), .eqn .iface true (.t 54), []⟩,
         ⟨some 56, none, .pick (.t 52) (.c (.bool true)) (.t 55), []⟩,
         ⟨some 57, none, .mv (.t 56), []⟩,
         ⟨some 58, some (57, false), .mv (.t 6), []⟩,
         ⟨some 59, some (57, false), .call 10 [.t 58], []⟩,
         ⟨some 60, some (57, false), .build [.int .i64 0, .int .u64 0, .int .u64 0, .int .u64 0, .int .u64 0, .int .u64 0, .int .u64 0, .int .u64 0, .int .u64 0, .int .u64 0, .int .u64 0, .int .u64 0, .int .u64 0, .int .u64 0, .int .u64 0, .int .u64 0, .int .u64 0, .int .u64 0, .int .u64 0, .int .u64 0, .int .u64 0, .int .u64 0, .int .u64 0, .int .u64 0, .int .u64 0, .int .u64 0, .int .u64 0, .int .u64 0, .int .u64 0, .int .u64 0, .int .u64 0, .int .u64 0, .int .u64 0, .int .u64 0, .int .u64 0, .int .u64 0, .int .u64 0, .int .u64 0, .int .u64 0, .int .u64 0, .int .u64 0, .int .u64 0, .int .u64 0, .int .u64 0, .int .u64 0, .int .u64 0, .int .u64 0, .int .u64 0, .int .u64 0, .int .u64 0, .int .u64 0, .int .u64 0, .int .u64 0, .int .u64 0, .int .u64 0, .int .u64 0, .int .u64 0, .int .u64 0, .int .u64 0, .int .u64 0, .int .u64 0, .int .u64 0, .int .u64 0, .int .u64 0, .int .u64 0, .int .u64 0, .int .u64 0, .int .u64 0, .int .u64 0, .int .u64 0, .int .u64 0, .int .u64 0, .int .u64 0, .int .u64 0, .int .u64 0, .int .u64 0, .int .u64 0, .int .u64 0, .int .u64 0, .int .u64 0, .int .u64 0, .int .u64 0, .int .u64 0, .int .u64 0, .int .u64 0, .int .u64 0, .int .u64 0, .int .u64 0, .int .u64 0, .int .u64 0, .int .u64 0, .int .u64 0, .int .u64 0, .int .u64 0, .int .u64 0, .int .u64 0, .int .u64 0, .int .u64 0, .int .u64 0, .int .u64 0, .int .u64 0, .int .u64 0, .int .u64 0, .int .u64 0, .int .u64 0, .int .u64 0, .int .u64 0, .int .u64 0, .int .u64 0, .int .u64 0, .int .u64 0, .int .u64 0, .int .u64 0, .int .u64 0, .int .u64 0, .int .u64 0, .int .u64 0, .int .u64 0, .int .u64 0, .int .u64 0, .int .u64 0, .int .u64 0, .int .u64 0, .int .u64 0, .int .u64 0, .int .u64 0, .int .u64 0, .int .u64 0, .int .u64 0, .int .u64 0] [], []⟩,
         ⟨some 61, some (57, false), .eqs true [.int, .int, .int, .int, .int, .int, .int, .int, .int, .int, .int, .int, .int, .int, .int, .int, .int, .int, .int, .int, .int, .int, .int, .int, .int, .int, .int, .int, .int, .int, .int, .int, .int, .int, .int, .int, .int, .int, .int, .int, .int, .int, .int, .int, .int, .int, .int, .int, .int, .int, .int, .int, .int, .int, .int, .int, .int, .int, .int, .int, .int, .int, .int, .int, .int, .int, .int, .int, .int, .int, .int, .int, .int, .int, .int, .int, .int, .int, .int, .int, .int, .int, .int, .int, .int, .int, .int, .int, .int, .int, .int, .int, .int, .int, .int, .int, .int, .int, .int, .int, .int, .int, .int, .int, .int, .int, .int, .int, .int, .int, .int, .int, .int, .int, .int, .int, .int, .int, .int, .int, .int, .int, .int, .int, .int, .int, .int, .int, .int, .int] (.t 59) (.t 60), []⟩,
         ⟨some 62, none, .pick (.t 57) (.c (.bool true)) (.t 61), []⟩,
         ⟨some 63, none, .mv (.t 62), []⟩,
         ⟨some 64, some (63, false), .mv (.t 6), []⟩,
         ⟨some 65, some (63, false), .call 11 [.t 64], []⟩,
         ⟨some 66, some (63, false), .bin .neq (.t 65) (.c (.int .i64 0)), []⟩,
         ⟨some 67, none, .pick (.t 63) (.c (.bool true)) (.t 66), []⟩])
       (.cond (.t 67)
        (.seq
         (.ops 11 [⟨some 0, none, .mv (.c (.bool false)), []⟩])
         .ret)
        .skip)))))
   (.ops 12 [⟨some 68, none, .bin .add (.t 29) (.c (.int .i64 1)), []⟩,
     ⟨some 29, none, .mv (.t 68), []⟩]))))
/-- ticketline/ticketlinelaw27.DescendNone: the round 1 -/
noncomputable def B3x1 : AC := (.seq
 (.ops 14 [⟨some 75, none, .bin .lss (.t 74) (.t 73), []⟩])
 (.seq
  (.cond (.t 75)
   .skip
   (.exit 2))
  (.seq
   (.block 3
    (.seq
     (.ops 15 [⟨some 76, none, .ixa none 1 (.t 72) (.t 74), []⟩,
       ⟨some 77, none, .ld 1 false (.t 76), []⟩,
       ⟨some 10, none, .mv (.t 77), []⟩])
     (.seq
      (.ops 16 [⟨some 79, none, .mv (.t 10), []⟩,
        ⟨some 80, none, .mv (.t 1), []⟩,
        ⟨some 81, none, .mki 22 (.t 80), []⟩,
        ⟨some 82, none, .call 12 [.t 79, .t 81], []⟩,
        ⟨some 78, none, .mv (.t 82), []⟩,
        ⟨some 83, none, .ext (.t 78) 0, []⟩,
        ⟨some 84, none, .ext (.t 78) 1, []⟩,
        ⟨some 11, none, .mv (.t 83), []⟩,
        ⟨some 12, none, .mv (.t 84), []⟩])
      (.seq
       (.ops 17 [⟨some 85, none, .mv (.t 12), []⟩,
         ⟨some 86, none, .bin .neq (.t 85) (.c (.int .i64 1)), []⟩,
         ⟨some 87, none, .mv (.t 86), []⟩,
         ⟨some 88, some (87, false), .mv (.t 10), []⟩,
         ⟨some 89, some (87, false), .call 13 [.t 88], []⟩,
         ⟨some 90, some (87, false), .un .not (.t 89), []⟩,
         ⟨some 91, none, .pick (.t 87) (.c (.bool true)) (.t 90), []⟩,
         ⟨some 92, none, .mv (.t 91), []⟩,
         ⟨some 93, some (92, false), .mv (.t 10), []⟩,
         ⟨some 94, some (92, false), .call 14 [.t 93], []⟩,
         ⟨some 95, some (92, false), .bin .neq (.t 94) (.c (.int .u64 0)), []⟩,
         ⟨some 96, none, .pick (.t 92) (.c (.bool true)) (.t 95), []⟩,
         ⟨some 97, none, .mv (.t 96), []⟩,
         ⟨some 98, some (97, false), .mv (.t 10), []⟩,
         ⟨some 99, some (97, false), .call 15 [.t 98], []⟩,
         ⟨some 100, some (97, false), .eqn .iface true (.t 99), []⟩,
         ⟨some 101, none, .pick (.t 97) (.c (.bool true)) (.t 100), []⟩,
         ⟨some 102, none, .mv (.t 101), []⟩,
         ⟨some 103, some (102, false), .mv (.t 10), []⟩,
         ⟨some 104, some (102, false), .call 16 [.t 103], []⟩,
         ⟨some 105, some (102, false), .len .slice (.t 104), []⟩,
         ⟨some 106, some (102, false), .bin .neq (.t 105) (.c (.int .i64 0)), []⟩,
         ⟨some 107, none, .pick (.t 102) (.c (.bool true)) (.t 106), []⟩,
         ⟨some 108, none, .mv (.t 107), []⟩,
         ⟨some 109, some (108, false), .mv (.t 10), []⟩,
         ⟨some 110, some (108, false), .call 17 [.t 109], []⟩,
         ⟨some 111, some (108, false), .bin .neq (.t 110) (.c (.int .i64 0)), []⟩,
         ⟨some 112, none, .pick (.t 108) (.c (.bool true)) (.t 111), []⟩])
       (.cond (.t 112)
        (.seq
         (.ops 18 [⟨some 0, none, .mv (.c (.bool false)), []⟩])
         .ret)
        .skip)))))
   (.ops 19 [⟨some 113, none, .bin .add (.t 74) (.c (.int .i64 1)), []⟩,
     ⟨some 74, none, .mv (.t 113), []⟩]))))
/-- ticketline/ticketlinelaw27.DescendNone -/
noncomputable def F3 : AFn := ⟨135, [.tmp 0], (.seq
 (.ops 0 [⟨some 0, none, .mv (.c (.bool false)), []⟩])
 (.seq
  (.ops 1 [⟨some 15, none, .call 5 [.c (.int .i64 9)], []⟩,
    ⟨some 14, none, .mv (.t 15), []⟩,
    ⟨some 16, none, .ext (.t 14) 0, []⟩,
    ⟨some 17, none, .ext (.t 14) 1, []⟩,
    ⟨some 1, none, .mv (.t 16), []⟩,
    ⟨some 2, none, .mv (.t 17), []⟩])
  (.seq
   (.seq
    (.ops 2 [⟨some 18, none, .mv (.t 1), []⟩,
      ⟨some 19, none, .eqn .ptr false (.t 18), []⟩,
      ⟨some 20, none, .mv (.t 19), []⟩,
      ⟨some 21, some (20, false), .mv (.t 2), []⟩,
      ⟨some 22, some (20, false), .bin .neq (.t 21) (.c (.int .i64 0)), []⟩,
      ⟨some 23, none, .pick (.t 20) (.c (.bool true)) (.t 22), []⟩])
    (.cond (.t 23)
     (.seq
      (.ops 3 [⟨some 0, none, .mv (.c (.bool false)), []⟩])
      .ret)
     .skip))
   (.seq
    (.ops 4 [⟨some 3, none, .mv (.c (.nilp)), []⟩])
    (.seq
     (.ops 5 [⟨some 4, none, .mv (.c (.nilp)), []⟩])
     (.seq
      (.seq
       (.ops 6 [⟨some 24, none, .mv (.t 3), []⟩,
         ⟨some 25, none, .build [.int .i64 0, .int .i64 0, .str [], .int .i64 0, .int .i64 0, .int .i64 0, .int .i64 0, .nilp, .int .i64 0, .int .u64 0, .int .u64 0, .int .u64 0, .int .u64 0, .int .u64 0, .int .u64 0, .int .u64 0, .int .u64 0, .int .u64 0, .int .u64 0, .int .u64 0, .int .u64 0, .int .u64 0, .int .u64 0, .int .u64 0, .int .u64 0, .int .u64 0, .int .u64 0, .int .u64 0, .int .u64 0, .int .u64 0, .int .u64 0, .int .u64 0, .int .u64 0, .int .u64 0, .int .u64 0, .int .u64 0, .int .u64 0, .int .u64 0, .int .u64 0, .int .u64 0, .int .u64 0, .int .u64 0, .int .u64 0, .int .u64 0, .int .u64 0, .int .u64 0, .int .u64 0, .int .u64 0, .int .u64 0, .int .u64 0, .int .u64 0, .int .u64 0, .int .u64 0, .int .u64 0, .int .u64 0, .int .u64 0, .int .u64 0, .int .u64 0, .int .u64 0, .int .u64 0, .int .u64 0, .int .u64 0, .int .u64 0, .int .u64 0, .int .u64 0, .int .u64 0, .int .u64 0, .int .u64 0, .int .u64 0, .int .u64 0, .int .u64 0, .int .u64 0, .int .u64 0, .int .u64 0, .int .u64 0, .int .u64 0, .int .u64 0, .int .u64 0, .int .u64 0, .int .u64 0, .int .u64 0, .int .u64 0, .int .u64 0, .int .u64 0, .int .u64 0, .int .u64 0, .int .u64 0, .int .u64 0, .int .u64 0, .int .u64 0, .int .u64 0, .int .u64 0, .int .u64 0, .int .u64 0, .int .u64 0, .int .u64 0, .int .u64 0, .int .u64 0, .int .u64 0, .int .u64 0, .int .u64 0, .int .u64 0, .int .u64 0, .int .u64 0, .int .u64 0, .int .u64 0, .int .u64 0, .int .u64 0, .int .u64 0, .int .u64 0, .int .u64 0, .int .u64 0, .int .u64 0, .int .u64 0, .int .u64 0, .int .u64 0, .int .u64 0, .int .u64 0, .int .u64 0, .int .u64 0, .int .u64 0, .int .u64 0, .int .u64 0, .int .u64 0, .int .u64 0, .int .u64 0, .int .u64 0, .int .u64 0, .int .u64 0, .int .u64 0, .int .u64 0, .int .u64 0, .int .u64 0, .int .u64 0, .int .u64 0, .int .u64 0, .int .u64 0, .int .u64 0, .bool false] [], []⟩,
         ⟨some 26, none, .box 139 (.t 25) false, []⟩,
         ⟨some 27, none, .bslice [.nilp] 1 2 [(0, (.t 24)), (1, (.t 26))] true false, []⟩,
         ⟨some 28, none, .len .slice (.t 27), []⟩,
         ⟨some 29, none, .mv (.c (.int .i64 0)), []⟩])
       (.block 0
        (.loop [] B3x0)))
      (.seq
       (.seq
        (.ops 13 [⟨some 69, none, .mv (.t 4), []⟩,
          ⟨some 70, none, .build [.int .i64 0, .int .i64 0, .str [], .str [], .int .i64 0, .int .i64 0, .int .i64 0, .nilp, .nilp, .int .i64 0, .str [], .nils, .int .i64 0, .nils, .int .i64 0, .bool false] [], []⟩,
          ⟨some 71, none, .box 16 (.t 70) false, []⟩,
          ⟨some 72, none, .bslice [.nilp] 1 2 [(0, (.t 69)), (1, (.t 71))] true false, []⟩,
          ⟨some 73, none, .len .slice (.t 72), []⟩,
          ⟨some 74, none, .mv (.c (.int .i64 0)), []⟩])
        (.block 2
         (.loop [] B3x1)))
       (.seq
        (.ops 20 [⟨some 115, none, .call 19 [], []⟩,
          ⟨some 116, none, .call 18 [.t 115, .c (.str [97]), .c (.int .i64 0)], []⟩,
          ⟨some 114, none, .mv (.t 116), []⟩,
          ⟨some 117, none, .ext (.t 114) 0, []⟩,
          ⟨some 118, none, .ext (.t 114) 1, []⟩,
          ⟨some 13, none, .mv (.t 117), []⟩,
          ⟨some 2, none, .mv (.t 118), []⟩])
        (.seq
         (.seq
          (.ops 21 [⟨some 119, none, .mv (.t 13), []⟩,
            ⟨some 120, none, .eqn .ptr false (.t 119), []⟩,
            ⟨some 121, none, .mv (.t 120), []⟩,
            ⟨some 122, some (121, false), .mv (.t 2), []⟩,
            ⟨some 123, some (121, false), .bin .neq (.t 122) (.c (.int .i64 0)), []⟩,
            ⟨some 124, none, .pick (.t 121) (.c (.bool true)) (.t 123), []⟩])
          (.cond (.t 124)
           (.seq
            (.ops 22 [⟨some 0, none, .mv (.c (.bool false)), []⟩])
            .ret)
           .skip))
         (.seq
          (.ops 23 [⟨some 126, none, .mv (.t 13), []⟩,
            ⟨some 127, none, .call 6 [.t 126, .c (.nili)], []⟩,
            ⟨some 125, none, .mv (.t 127), []⟩,
            ⟨some 128, none, .ext (.t 125) 0, []⟩,
            ⟨some 129, none, .ext (.t 125) 1, []⟩,
            ⟨some 2, none, .mv (.t 129), []⟩])
          (.seq
           (.ops 24 [⟨some 130, none, .mv (.t 2), []⟩,
             ⟨some 131, none, .bin .eql (.t 130) (.c (.int .i64 1)), []⟩,
             ⟨some 132, none, .mv (.t 131), []⟩,
             ⟨some 133, some (132, true), .call 20 [], []⟩,
             ⟨some 134, none, .pick (.t 132) (.t 133) (.c (.bool false)), []⟩,
             ⟨some 0, none, .mv (.t 134), []⟩])
           .ret)))))))))))⟩
theorem F3_code : cfgA.code 3 = some F3 := by kernel_rfl

/-- ticketline/mem.New -/
noncomputable def F5 : AFn := ⟨14, [.tmp 2, .tmp 3], (.seq
 (.ops 0 [⟨some 2, none, .mv (.c (.nilp)), []⟩,
   ⟨some 3, none, .mv (.c (.int .i64 0)), []⟩])
 (.seq
  (.seq
   (.ops 1 [⟨some 4, none, .mv (.t 0), []⟩,
     ⟨some 5, none, .bin .lss (.t 4) (.c (.int .i64 1)), []⟩,
     ⟨some 6, none, .mv (.t 5), []⟩,
     ⟨some 7, some (6, false), .mv (.t 0), []⟩,
     ⟨some 8, some (6, false), .bin .gtr (.t 7) (.c (.int .i64 65536)), []⟩,
     ⟨some 9, none, .pick (.t 6) (.c (.bool true)) (.t 8), []⟩])
   (.cond (.t 9)
    (.seq
     (.ops 2 [⟨some 2, none, .mv (.c (.nilp)), []⟩,
       ⟨some 3, none, .mv (.c (.int .i64 2)), []⟩])
     .ret)
    .skip))
  (.seq
   (.ops 3 [⟨some 10, none, .mv (.t 0), []⟩,
     ⟨some 11, none, .mks [.int .u64 0] 1 8 (.t 10) (.t 10) true, []⟩,
     ⟨some 12, none, .build [.nils] [(0, 1, (.t 11))], []⟩,
     ⟨some 13, none, .box 1 (.t 12) true, []⟩,
     ⟨some 2, none, .mv (.t 13), []⟩,
     ⟨some 3, none, .mv (.c (.int .i64 0)), []⟩])
   .ret)))⟩
theorem F5_code : cfgA.code 5 = some F5 := by kernel_rfl

/-- (*ticketline/descend.Find).Step -/
noncomputable def F6 : AFn := ⟨42, [.tmp 4, .tmp 5], (.seq
 (.ops 0 [⟨some 4, none, .mv (.c (.bool false)), []⟩,
   ⟨some 5, none, .mv (.c (.int .i64 0)), []⟩])
 (.seq
  (.block 0
   (.seq
    (.ops 1 [⟨some 9, none, .mv (.t 0), []⟩,
      ⟨some 10, none, .call 39 [.t 9], []⟩,
      ⟨some 11, none, .mv (.t 10), []⟩,
      ⟨some 12, some (11, false), .mv (.t 1), []⟩,
      ⟨some 13, some (11, false), .eqn .iface false (.t 12), []⟩,
      ⟨some 14, none, .pick (.t 11) (.c (.bool true)) (.t 13), []⟩,
      ⟨some 8, none, .mv (.t 14), []⟩])
    (.cond (.t 8)
     (.seq
      (.ops 2 [⟨some 4, none, .mv (.c (.bool false)), []⟩,
        ⟨some 5, none, .mv (.c (.int .i64 1)), []⟩])
      .ret)
     (.seq
      (.ops 3 [⟨some 16, none, .mv (.t 0), []⟩,
        ⟨some 17, none, .nilc (.t 16) (mok Tryz.prog), []⟩,
        ⟨some 18, none, .fld 138 (.t 17), []⟩,
        ⟨some 19, none, .ld 1 false (.t 18), []⟩,
        ⟨some 15, none, .mv (.t 19), []⟩])
      (.cond (.t 15)
       (.seq
        (.ops 4 [⟨some 4, none, .mv (.c (.bool false)), []⟩,
          ⟨some 5, none, .mv (.c (.int .i64 17)), []⟩])
        .ret)
       .skip)))))
  (.seq
   (.ops 5 [⟨some 21, none, .mv (.t 0), []⟩,
     ⟨some 22, none, .nilc (.t 21) (mok Tryz.prog), []⟩,
     ⟨some 23, none, .fld 7 (.t 22), []⟩,
     ⟨some 24, none, .ld 1 false (.t 23), []⟩,
     ⟨some 25, none, .mv (.t 1), []⟩,
     ⟨some 26, none, .call 40 [.t 24, .t 25], []⟩,
     ⟨some 20, none, .mv (.t 26), []⟩,
     ⟨some 27, none, .ext (.t 20) 0, []⟩,
     ⟨some 28, none, .ext (.t 20) 1, []⟩,
     ⟨some 6, none, .mv (.t 27), []⟩,
     ⟨some 7, none, .mv (.t 28), []⟩])
   (.seq
    (.seq
     (.ops 6 [⟨some 29, none, .mv (.t 7), []⟩,
       ⟨some 30, none, .bin .eql (.t 29) (.c (.int .i64 0)), []⟩,
       ⟨some 31, none, .mv (.t 30), []⟩,
       ⟨some 32, some (31, true), .mv (.t 0), []⟩,
       ⟨some 33, some (31, true), .nilc (.t 32) (mok Tryz.prog), []⟩,
       ⟨some 34, some (31, true), .fld 7 (.t 33), []⟩,
       ⟨some 35, some (31, true), .ld 1 false (.t 34), []⟩,
       ⟨some 36, some (31, true), .call 41 [.t 35], []⟩,
       ⟨some 37, none, .pick (.t 31) (.t 36) (.c (.bool false)), []⟩])
     (.cond (.t 37)
      (.ops 7 [⟨some 38, none, .mv (.t 0), []⟩,
        ⟨some 39, none, .call 42 [.t 38], []⟩])
      .skip))
    (.seq
     (.ops 8 [⟨some 40, none, .mv (.t 6), []⟩,
       ⟨some 41, none, .mv (.t 7), []⟩,
       ⟨some 4, none, .mv (.t 40), []⟩,
       ⟨some 5, none, .mv (.t 41), []⟩])
     .ret)))))⟩
theorem F6_code : cfgA.code 6 = some F6 := by kernel_rfl

/-- (*ticketline/descend.Find).Done -/
noncomputable def F7 : AFn := ⟨11, [.tmp 2], (.seq
 (.ops 0 [⟨some 2, none, .mv (.c (.bool false)), []⟩])
 (.seq
  (.ops 1 [⟨some 3, none, .mv (.t 0), []⟩,
    ⟨some 4, none, .call 39 [.t 3], []⟩,
    ⟨some 5, none, .mv (.t 4), []⟩,
    ⟨some 6, some (5, false), .mv (.t 0), []⟩,
    ⟨some 7, some (5, false), .nilc (.t 6) (mok Tryz.prog), []⟩,
    ⟨some 8, some (5, false), .fld 138 (.t 7), []⟩,
    ⟨some 9, some (5, false), .ld 1 false (.t 8), []⟩,
    ⟨some 10, none, .pick (.t 5) (.c (.bool true)) (.t 9), []⟩,
    ⟨some 2, none, .mv (.t 10), []⟩])
  .ret))⟩
theorem F7_code : cfgA.code 7 = some F7 := by kernel_rfl

/-- (*ticketline/descend.Find).Result -/
noncomputable def F8 : AFn := ⟨13, [.tmp 2], (.seq
 (.ops 0 [⟨some 2, none, .mv (.c (.int .u64 0)), []⟩])
 (.seq
  (.seq
   (.ops 1 [⟨some 3, none, .mv (.t 0), []⟩,
     ⟨some 4, none, .call 43 [.t 3], []⟩,
     ⟨some 5, none, .mv (.t 4), []⟩,
     ⟨some 6, some (5, true), .mv (.t 0), []⟩,
     ⟨some 7, some (5, true), .nilc (.t 6) (mok Tryz.prog), []⟩,
     ⟨some 8, some (5, true), .fld 8 (.t 7), []⟩,
     ⟨some 9, some (5, true), .fld 0 (.t 8), []⟩,
     ⟨some 10, some (5, true), .ld 1 false (.t 9), []⟩,
     ⟨some 11, some (5, true), .bin .gtr (.t 10) (.c (.int .i64 0)), []⟩,
     ⟨some 12, none, .pick (.t 5) (.t 11) (.c (.bool false)), []⟩])
   (.cond (.t 12)
    (.seq
     (.ops 2 [⟨some 2, none, .mv (.c (.int .u64 1)), []⟩])
     .ret)
    .skip))
  (.seq
   (.ops 3 [⟨some 2, none, .mv (.c (.int .u64 0)), []⟩])
   .ret)))⟩
theorem F8_code : cfgA.code 8 = some F8 := by kernel_rfl

/-- (*ticketline/descend.Find).Copy -/
noncomputable def F9 : AFn := ⟨8, [.tmp 2], (.seq
 (.ops 0 [⟨some 2, none, .mv (.c (.nili)), []⟩])
 (.seq
  (.seq
   (.ops 1 [⟨some 3, none, .mv (.t 0), []⟩,
     ⟨some 4, none, .call 39 [.t 3], []⟩])
   (.cond (.t 4)
    (.seq
     (.ops 2 [⟨some 2, none, .mv (.c (.nili)), []⟩])
     .ret)
    .skip))
  (.seq
   (.ops 3 [⟨some 5, none, .mv (.t 0), []⟩,
     ⟨some 6, none, .call 44 [.t 5], []⟩,
     ⟨some 7, none, .mki 26 (.t 6), []⟩,
     ⟨some 2, none, .mv (.t 7), []⟩])
   .ret)))⟩
theorem F9_code : cfgA.code 9 = some F9 := by kernel_rfl

/-- (*ticketline/descend.Find).Leaf -/
noncomputable def F10 : AFn := ⟨10, [.cell 2 130 true], (.seq
 (.ops 0 [⟨some 2, none, .alloc [.int .i64 0, .int .u64 0, .int .u64 0, .int .u64 0, .int .u64 0, .int .u64 0, .int .u64 0, .int .u64 0, .int .u64 0, .int .u64 0, .int .u64 0, .int .u64 0, .int .u64 0, .int .u64 0, .int .u64 0, .int .u64 0, .int .u64 0, .int .u64 0, .int .u64 0, .int .u64 0, .int .u64 0, .int .u64 0, .int .u64 0, .int .u64 0, .int .u64 0, .int .u64 0, .int .u64 0, .int .u64 0, .int .u64 0, .int .u64 0, .int .u64 0, .int .u64 0, .int .u64 0, .int .u64 0, .int .u64 0, .int .u64 0, .int .u64 0, .int .u64 0, .int .u64 0, .int .u64 0, .int .u64 0, .int .u64 0, .int .u64 0, .int .u64 0, .int .u64 0, .int .u64 0, .int .u64 0, .int .u64 0, .int .u64 0, .int .u64 0, .int .u64 0, .int .u64 0, .int .u64 0, .int .u64 0, .int .u64 0, .int .u64 0, .int .u64 0, .int .u64 0, .int .u64 0, .int .u64 0, .int .u64 0, .int .u64 0, .int .u64 0, .int .u64 0, .int .u64 0, .int .u64 0, .int .u64 0, .int .u64 0, .int .u64 0, .int .u64 0, .int .u64 0, .int .u64 0, .int .u64 0, .int .u64 0, .int .u64 0, .int .u64 0, .int .u64 0, .int .u64 0, .int .u64 0, .int .u64 0, .int .u64 0, .int .u64 0, .int .u64 0, .int .u64 0, .int .u64 0, .int .u64 0, .int .u64 0, .int .u64 0, .int .u64 0, .int .u64 0, .int .u64 0, .int .u64 0, .int .u64 0, .int .u64 0, .int .u64 0, .int .u64 0, .int .u64 0, .int .u64 0, .int .u64 0, .int .u64 0, .int .u64 0, .int .u64 0, .int .u64 0, .int .u64 0, .int .u64 0, .int .u64 0, .int .u64 0, .int .u64 0, .int .u64 0, .int .u64 0, .int .u64 0, .int .u64 0, .int .u64 0, .int .u64 0, .int .u64 0, .int .u64 0, .int .u64 0, .int .u64 0, .int .u64 0, .int .u64 0, .int .u64 0, .int .u64 0, .int .u64 0, .int .u64 0, .int .u64 0, .int .u64 0, .int .u64 0, .int .u64 0, .int .u64 0, .int .u64 0] false, []⟩])
 (.seq
  (.seq
   (.ops 1 [⟨some 3, none, .mv (.t 0), []⟩,
     ⟨some 4, none, .call 39 [.t 3], []⟩])
   (.cond (.t 4)
    (.seq
     (.ops 2 [⟨some 5, none, .build [.int .i64 0, .int .u64 0, .int .u64 0, .int .u64 0, .int .u64 0, .int .u64 0, .int .u64 0, .int .u64 0, .int .u64 0, .int .u64 0, .int .u64 0, .int .u64 0, .int .u64 0, .int .u64 0, .int .u64 0, .int .u64 0, .int .u64 0, .int .u64 0, .int .u64 0, .int .u64 0, .int .u64 0, .int .u64 0, .int .u64 0, .int .u64 0, .int .u64 0, .int .u64 0, .int .u64 0, .int .u64 0, .int .u64 0, .int .u64 0, .int .u64 0, .int .u64 0, .int .u64 0, .int .u64 0, .int .u64 0, .int .u64 0, .int .u64 0, .int .u64 0, .int .u64 0, .int .u64 0, .int .u64 0, .int .u64 0, .int .u64 0, .int .u64 0, .int .u64 0, .int .u64 0, .int .u64 0, .int .u64 0, .int .u64 0, .int .u64 0, .int .u64 0, .int .u64 0, .int .u64 0, .int .u64 0, .int .u64 0, .int .u64 0, .int .u64 0, .int .u64 0, .int .u64 0, .int .u64 0, .int .u64 0, .int .u64 0, .int .u64 0, .int .u64 0, .int .u64 0, .int .u64 0, .int .u64 0, .int .u64 0, .int .u64 0, .int .u64 0, .int .u64 0, .int .u64 0, .int .u64 0, .int .u64 0, .int .u64 0, .int .u64 0, .int .u64 0, .int .u64 0, .int .u64 0, .int .u64 0, .int .u64 0, .int .u64 0, .int .u64 0, .int .u64 0, .int .u64 0, .int .u64 0, .int .u64 0, .int .u64 0, .int .u64 0, .int .u64 0, .int .u64 0, .int .u64 0, .int .u64 0, .int .u64 0, .int .u64 0, .int .u64 0, .int .u64 0, .int .u64 0, .int .u64 0, .int .u64 0, .int .u64 0, .int .u64 0, .int .u64 0, .int .u64 0, .int .u64 0, .int .u64 0, .int .u64 0, .int .u64 0, .int .u64 0, .int .u64 0, .int .u64 0, .int .u64 0, .int .u64 0, .int .u64 0, .int .u64 0, .int .u64 0, .int .u64 0, .int .u64 0, .int .u64 0, .int .u64 0, .int .u64 0, .int .u64 0, .int .u64 0, .int .u64 0, .int .u64 0, .int .u64 0, .int .u64 0, .int .u64 0, .int .u64 0, .int .u64 0] [], []⟩,
       ⟨none, none, .st 130 (.t 2) (.t 5), []⟩])
     .ret)
    .skip))
  (.seq
   (.ops 3 [⟨some 6, none, .mv (.t 0), []⟩,
     ⟨some 7, none, .nilc (.t 6) (mok Tryz.prog), []⟩,
     ⟨some 8, none, .fld 8 (.t 7), []⟩,
     ⟨some 9, none, .ld 130 true (.t 8), []⟩,
     ⟨none, none, .st 130 (.t 2) (.t 9), []⟩])
   .ret)))⟩
theorem F10_code : cfgA.code 10 = some F10 := by kernel_rfl

/-- (*ticketline/descend.Find).Again -/
noncomputable def F11 : AFn := ⟨9, [.tmp 2], (.seq
 (.ops 0 [⟨some 2, none, .mv (.c (.int .i64 0)), []⟩])
 (.seq
  (.seq
   (.ops 1 [⟨some 3, none, .mv (.t 0), []⟩,
     ⟨some 4, none, .call 39 [.t 3], []⟩])
   (.cond (.t 4)
    (.seq
     (.ops 2 [⟨some 2, none, .mv (.c (.int .i64 0)), []⟩])
     .ret)
    .skip))
  (.seq
   (.ops 3 [⟨some 5, none, .mv (.t 0), []⟩,
     ⟨some 6, none, .nilc (.t 5) (mok Tryz.prog), []⟩,
     ⟨some 7, none, .fld 4 (.t 6), []⟩,
     ⟨some 8, none, .ld 1 false (.t 7), []⟩,
     ⟨some 2, none, .mv (.t 8), []⟩])
   .ret)))⟩
theorem F11_code : cfgA.code 11 = some F11 := by kernel_rfl

/-- (*ticketline/descend.Scan).Step -/
noncomputable def F12 : AFn := ⟨100, [.tmp 4, .tmp 5], (.seq
 (.ops 0 [⟨some 4, none, .mv (.c (.bool false)), []⟩,
   ⟨some 5, none, .mv (.c (.int .i64 0)), []⟩])
 (.seq
  (.block 0
   (.seq
    (.ops 1 [⟨some 8, none, .mv (.t 0), []⟩,
      ⟨some 9, none, .call 45 [.t 8], []⟩,
      ⟨some 10, none, .mv (.t 9), []⟩,
      ⟨some 11, some (10, false), .mv (.t 1), []⟩,
      ⟨some 12, some (10, false), .eqn .iface false (.t 11), []⟩,
      ⟨some 13, none, .pick (.t 10) (.c (.bool true)) (.t 12), []⟩,
      ⟨some 7, none, .mv (.t 13), []⟩])
    (.cond (.t 7)
     (.seq
      (.ops 2 [⟨some 4, none, .mv (.c (.bool false)), []⟩,
        ⟨some 5, none, .mv (.c (.int .i64 1)), []⟩])
      .ret)
     (.seq
      (.ops 3 [⟨some 15, none, .mv (.t 0), []⟩,
        ⟨some 16, none, .nilc (.t 15) (mok Tryz.prog), []⟩,
        ⟨some 17, none, .fld 14 (.t 16), []⟩,
        ⟨some 18, none, .ld 1 false (.t 17), []⟩,
        ⟨some 19, none, .bin .eql (.t 18) (.c (.int .i64 4)), []⟩,
        ⟨some 14, none, .mv (.t 19), []⟩])
      (.cond (.t 14)
       (.seq
        (.ops 4 [⟨some 4, none, .mv (.c (.bool false)), []⟩,
          ⟨some 5, none, .mv (.c (.int .i64 17)), []⟩])
        .ret)
       (.seq
        (.ops 5 [⟨some 21, none, .mv (.t 0), []⟩,
          ⟨some 22, none, .nilc (.t 21) (mok Tryz.prog), []⟩,
          ⟨some 23, none, .fld 14 (.t 22), []⟩,
          ⟨some 24, none, .ld 1 false (.t 23), []⟩,
          ⟨some 25, none, .bin .eql (.t 24) (.c (.int .i64 3)), []⟩,
          ⟨some 20, none, .mv (.t 25), []⟩])
        (.cond (.t 20)
         (.seq
          (.ops 6 [⟨some 26, none, .mv (.t 0), []⟩,
            ⟨some 27, none, .mv (.t 1), []⟩,
            ⟨some 28, none, .call 46 [.t 26, .t 27], []⟩,
            ⟨some 4, none, .mv (.c (.bool false)), []⟩,
            ⟨some 5, none, .mv (.t 28), []⟩])
          .ret)
         (.seq
          (.ops 7 [⟨some 30, none, .mv (.t 0), []⟩,
            ⟨some 31, none, .nilc (.t 30) (mok Tryz.prog), []⟩,
            ⟨some 32, none, .fld 14 (.t 31), []⟩,
            ⟨some 33, none, .ld 1 false (.t 32), []⟩,
            ⟨some 34, none, .bin .eql (.t 33) (.c (.int .i64 1)), []⟩,
            ⟨some 29, none, .mv (.t 34), []⟩])
          (.cond (.t 29)
           (.seq
            (.ops 8 [⟨some 36, none, .mv (.t 0), []⟩,
              ⟨some 37, none, .nilc (.t 36) (mok Tryz.prog), []⟩,
              ⟨some 38, none, .fld 7 (.t 37), []⟩,
              ⟨some 39, none, .ld 1 false (.t 38), []⟩,
              ⟨some 40, none, .mv (.t 1), []⟩,
              ⟨some 41, none, .call 6 [.t 39, .t 40], []⟩,
              ⟨some 35, none, .mv (.t 41), []⟩,
              ⟨some 42, none, .ext (.t 35) 0, []⟩,
              ⟨some 43, none, .ext (.t 35) 1, []⟩,
              ⟨some 4, none, .mv (.t 42), []⟩,
              ⟨some 5, none, .mv (.t 43), []⟩])
            (.seq
             (.seq
              (.ops 9 [⟨some 44, none, .mv (.t 5), []⟩,
                ⟨some 45, none, .bin .neq (.t 44) (.c (.int .i64 0)), []⟩,
                ⟨some 46, none, .mv (.t 45), []⟩,
                ⟨some 47, some (46, false), .mv (.t 0), []⟩,
                ⟨some 48, some (46, false), .nilc (.t 47) (mok Tryz.prog), []⟩,
                ⟨some 49, some (46, false), .fld 7 (.t 48), []⟩,
                ⟨some 50, some (46, false), .ld 1 false (.t 49), []⟩,
                ⟨some 51, some (46, false), .call 7 [.t 50], []⟩,
                ⟨some 52, some (46, false), .un .not (.t 51), []⟩,
                ⟨some 53, none, .pick (.t 46) (.c (.bool true)) (.t 52), []⟩])
              (.cond (.t 53)
               (.seq
                (.ops 10 [⟨some 54, none, .mv (.t 4), []⟩,
                  ⟨some 55, none, .mv (.t 5), []⟩,
                  ⟨some 4, none, .mv (.t 54), []⟩,
                  ⟨some 5, none, .mv (.t 55), []⟩])
                .ret)
               .skip))
             (.seq
              (.seq
               (.ops 11 [⟨some 56, none, .mv (.t 0), []⟩,
                 ⟨some 57, none, .nilc (.t 56) (mok Tryz.prog), []⟩,
                 ⟨some 58, none, .fld 7 (.t 57), []⟩,
                 ⟨some 59, none, .ld 1 false (.t 58), []⟩,
                 ⟨some 60, none, .call 8 [.t 59], []⟩,
                 ⟨some 61, none, .bin .eql (.t 60) (.c (.int .u64 0)), []⟩])
               (.cond (.t 61)
                (.ops 12 [⟨some 62, none, .mv (.t 0), []⟩,
                  ⟨some 63, none, .call 47 [.t 62], []⟩])
                (.seq
                 (.ops 13 [⟨some 64, none, .mv (.t 0), []⟩,
                   ⟨some 65, none, .nilc (.t 64) (mok Tryz.prog), []⟩,
                   ⟨some 66, none, .fld 7 (.t 65), []⟩,
                   ⟨some 67, none, .ld 1 false (.t 66), []⟩,
                   ⟨some 68, none, .call 10 [.t 67], []⟩,
                   ⟨some 6, none, .alloc [.int .i64 0, .int .u64 0, .int .u64 0, .int .u64 0, .int .u64 0, .int .u64 0, .int .u64 0, .int .u64 0, .int .u64 0, .int .u64 0, .int .u64 0, .int .u64 0, .int .u64 0, .int .u64 0, .int .u64 0, .int .u64 0, .int .u64 0, .int .u64 0, .int .u64 0, .int .u64 0, .int .u64 0, .int .u64 0, .int .u64 0, .int .u64 0, .int .u64 0, .int .u64 0, .int .u64 0, .int .u64 0, .int .u64 0, .int .u64 0, .int .u64 0, .int .u64 0, .int .u64 0, .int .u64 0, .int .u64 0, .int .u64 0, .int .u64 0, .int .u64 0, .int .u64 0, .int .u64 0, .int .u64 0, .int .u64 0, .int .u64 0, .int .u64 0, .int .u64 0, .int .u64 0, .int .u64 0, .int .u64 0, .int .u64 0, .int .u64 0, .int .u64 0, .int .u64 0, .int .u64 0, .int .u64 0, .int .u64 0, .int .u64 0, .int .u64 0, .int .u64 0, .int .u64 0, .int .u64 0, .int .u64 0, .int .u64 0, .int .u64 0, .int .u64 0, .int .u64 0, .int .u64 0, .int .u64 0, .int .u64 0, .int .u64 0, .int .u64 0, .int .u64 0, .int .u64 0, .int .u64 0, .int .u64 0, .int .u64 0, .int .u64 0, .int .u64 0, .int .u64 0, .int .u64 0, .int .u64 0, .int .u64 0, .int .u64 0, .int .u64 0, .int .u64 0, .int .u64 0, .int .u64 0, .int .u64 0, .int .u64 0, .int .u64 0, .int .u64 0, .int .u64 0, .int .u64 0, .int .u64 0, .int .u64 0, .int .u64 0, .int .u64 0, .int .u64 0, .int .u64 0, .int .u64 0, .int .u64 0, .int .u64 0, .int .u64 0, .int .u64 0, .int .u64 0, .int .u64 0, .int .u64 0, .int .u64 0, .int .u64 0, .int .u64 0, .int .u64 0, .int .u64 0, .int .u64 0, .int .u64 0, .int .u64 0, .int .u64 0, .int .u64 0, .int .u64 0, .int .u64 0, .int .u64 0, .int .u64 0, .int .u64 0, .int .u64 0, .int .u64 0, .int .u64 0, .int .u64 0, .int .u64 0, .int .u64 0, .int .u64 0, .int .u64 0, .int .u64 0] false, []⟩,
                   ⟨none, none, .st 130 (.t 6) (.t 68), []⟩])
                 (.ops 14 [⟨some 69, none, .mv (.t 0), []⟩,
                   ⟨some 70, none, .fld 1 (.t 6), []⟩,
                   ⟨some 71, none, .ld 128 true (.t 70), []⟩,
                   ⟨some 72, none, .fld 0 (.t 6), []⟩,
                   ⟨some 73, none, .ld 1 false (.t 72), []⟩,
                   ⟨some 74, none, .fld 129 (.t 6), []⟩,
                   ⟨some 75, none, .ld 1 false (.t 74), []⟩,
                   ⟨some 76, none, .call 48 [.t 69, .t 71, .t 73, .t 75], []⟩]))))
              (.seq
               (.ops 15 [⟨some 77, none, .mv (.t 4), []⟩,
                 ⟨some 4, none, .mv (.t 77), []⟩,
                 ⟨some 5, none, .mv (.c (.int .i64 0)), []⟩])
               .ret))))
           .skip)))))))))
  (.seq
   (.ops 16 [⟨some 79, none, .mv (.t 0), []⟩,
     ⟨some 80, none, .nilc (.t 79) (mok Tryz.prog), []⟩,
     ⟨some 81, none, .fld 8 (.t 80), []⟩,
     ⟨some 82, none, .ld 1 false (.t 81), []⟩,
     ⟨some 83, none, .mv (.t 1), []⟩,
     ⟨some 84, none, .call 40 [.t 82, .t 83], []⟩,
     ⟨some 78, none, .mv (.t 84), []⟩,
     ⟨some 85, none, .ext (.t 78) 0, []⟩,
     ⟨some 86, none, .ext (.t 78) 1, []⟩,
     ⟨some 4, none, .mv (.t 85), []⟩,
     ⟨some 5, none, .mv (.t 86), []⟩])
   (.seq
    (.seq
     (.ops 17 [⟨some 87, none, .mv (.t 5), []⟩,
       ⟨some 88, none, .bin .eql (.t 87) (.c (.int .i64 0)), []⟩,
       ⟨some 89, none, .mv (.t 88), []⟩,
       ⟨some 90, some (89, true), .mv (.t 0), []⟩,
       ⟨some 91, some (89, true), .nilc (.t 90) (mok Tryz.prog), []⟩,
       ⟨some 92, some (89, true), .fld 8 (.t 91), []⟩,
       ⟨some 93, some (89, true), .ld 1 false (.t 92), []⟩,
       ⟨some 94, some (89, true), .call 41 [.t 93], []⟩,
       ⟨some 95, none, .pick (.t 89) (.t 94) (.c (.bool false)), []⟩])
     (.cond (.t 95)
      (.ops 18 [⟨some 96, none, .mv (.t 0), []⟩,
        ⟨some 97, none, .call 49 [.t 96], []⟩])
      .skip))
    (.seq
     (.ops 19 [⟨some 98, none, .mv (.t 4), []⟩,
       ⟨some 99, none, .mv (.t 5), []⟩,
       ⟨some 4, none, .mv (.t 98), []⟩,
       ⟨some 5, none, .mv (.t 99), []⟩])
     .ret)))))⟩
theorem F12_code : cfgA.code 12 = some F12 := by kernel_rfl

/-- (*ticketline/descend.Scan).Done -/
noncomputable def F13 : AFn := ⟨12, [.tmp 2], (.seq
 (.ops 0 [⟨some 2, none, .mv (.c (.bool false)), []⟩])
 (.seq
  (.ops 1 [⟨some 3, none, .mv (.t 0), []⟩,
    ⟨some 4, none, .call 45 [.t 3], []⟩,
    ⟨some 5, none, .mv (.t 4), []⟩,
    ⟨some 6, some (5, false), .mv (.t 0), []⟩,
    ⟨some 7, some (5, false), .nilc (.t 6) (mok Tryz.prog), []⟩,
    ⟨some 8, some (5, false), .fld 14 (.t 7), []⟩,
    ⟨some 9, some (5, false), .ld 1 false (.t 8), []⟩,
    ⟨some 10, some (5, false), .bin .eql (.t 9) (.c (.int .i64 4)), []⟩,
    ⟨some 11, none, .pick (.t 5) (.c (.bool true)) (.t 10), []⟩,
    ⟨some 2, none, .mv (.t 11), []⟩])
  .ret))⟩
theorem F13_code : cfgA.code 13 = some F13 := by kernel_rfl

/-- (*ticketline/descend.Scan).Result -/
noncomputable def F14 : AFn := ⟨11, [.tmp 2], (.seq
 (.ops 0 [⟨some 2, none, .mv (.c (.int .u64 0)), []⟩])
 (.seq
  (.seq
   (.ops 1 [⟨some 3, none, .mv (.t 0), []⟩,
     ⟨some 4, none, .call 50 [.t 3], []⟩,
     ⟨some 5, none, .mv (.t 4), []⟩,
     ⟨some 6, some (5, true), .mv (.t 0), []⟩,
     ⟨some 7, some (5, true), .nilc (.t 6) (mok Tryz.prog), []⟩,
     ⟨some 8, some (5, true), .fld 15 (.t 7), []⟩,
     ⟨some 9, some (5, true), .ld 1 false (.t 8), []⟩,
     ⟨some 10, none, .pick (.t 5) (.t 9) (.c (.bool false)), []⟩])
   (.cond (.t 10)
    (.seq
     (.ops 2 [⟨some 2, none, .mv (.c (.int .u64 1)), []⟩])
     .ret)
    .skip))
  (.seq
   (.ops 3 [⟨some 2, none, .mv (.c (.int .u64 0)), []⟩])
   .ret)))⟩
theorem F14_code : cfgA.code 14 = some F14 := by kernel_rfl

/-- (*ticketline/descend.Scan).Copy -/
noncomputable def F15 : AFn := ⟨27, [.tmp 2], (.seq
 (.ops 0 [⟨some 2, none, .mv (.c (.nili)), []⟩])
 (.seq
  (.seq
   (.ops 1 [⟨some 4, none, .mv (.t 0), []⟩,
     ⟨some 5, none, .call 45 [.t 4], []⟩])
   (.cond (.t 5)
    (.seq
     (.ops 2 [⟨some 2, none, .mv (.c (.nili)), []⟩])
     .ret)
    .skip))
  (.seq
   (.ops 3 [⟨some 6, none, .mv (.t 0), []⟩,
     ⟨some 7, none, .nilc (.t 6) (mok Tryz.prog), []⟩,
     ⟨some 8, none, .ld 16 true (.t 7), []⟩,
     ⟨some 3, none, .alloc [.int .i64 0, .int .i64 0, .str [], .str [], .int .i64 0, .int .i64 0, .int .i64 0, .nilp, .nilp, .int .i64 0, .str [], .nils, .int .i64 0, .nils, .int .i64 0, .bool false] true, []⟩,
     ⟨none, none, .st 16 (.t 3) (.t 8), []⟩])
   (.seq
    (.ops 4 [⟨some 9, none, .mv (.t 0), []⟩,
      ⟨some 10, none, .nilc (.t 9) (mok Tryz.prog), []⟩,
      ⟨some 11, none, .fld 7 (.t 10), []⟩,
      ⟨some 12, none, .ld 1 false (.t 11), []⟩,
      ⟨some 13, none, .call 44 [.t 12], []⟩,
      ⟨some 14, none, .fld 7 (.t 3), []⟩,
      ⟨none, none, .st 1 (.t 14) (.t 13), []⟩])
    (.seq
     (.seq
      (.ops 5 [⟨some 15, none, .mv (.t 0), []⟩,
        ⟨some 16, none, .nilc (.t 15) (mok Tryz.prog), []⟩,
        ⟨some 17, none, .fld 8 (.t 16), []⟩,
        ⟨some 18, none, .ld 1 false (.t 17), []⟩,
        ⟨some 19, none, .eqn .ptr true (.t 18), []⟩])
      (.cond (.t 19)
       (.ops 6 [⟨some 20, none, .mv (.t 0), []⟩,
         ⟨some 21, none, .nilc (.t 20) (mok Tryz.prog), []⟩,
         ⟨some 22, none, .fld 8 (.t 21), []⟩,
         ⟨some 23, none, .ld 1 false (.t 22), []⟩,
         ⟨some 24, none, .call 51 [.t 23], []⟩,
         ⟨some 25, none, .fld 8 (.t 3), []⟩,
         ⟨none, none, .st 1 (.t 25) (.t 24), []⟩])
       .skip))
     (.seq
      (.ops 7 [⟨some 26, none, .mki 27 (.t 3), []⟩,
        ⟨some 2, none, .mv (.t 26), []⟩])
      .ret))))))⟩
theorem F15_code : cfgA.code 15 = some F15 := by kernel_rfl

/-- (*ticketline/descend.Scan).Pairs -/
noncomputable def F16 : AFn := ⟨11, [.tmp 2], (.seq
 (.ops 0 [⟨some 2, none, .mv (.c (.nils)), []⟩])
 (.seq
  (.seq
   (.ops 1 [⟨some 3, none, .mv (.t 0), []⟩,
     ⟨some 4, none, .call 14 [.t 3], []⟩,
     ⟨some 5, none, .bin .eql (.t 4) (.c (.int .u64 0)), []⟩])
   (.cond (.t 5)
    (.seq
     (.ops 2 [⟨some 2, none, .mv (.c (.nils)), []⟩])
     .ret)
    .skip))
  (.seq
   (.ops 3 [⟨some 6, none, .mv (.t 0), []⟩,
     ⟨some 7, none, .nilc (.t 6) (mok Tryz.prog), []⟩,
     ⟨some 8, none, .fld 13 (.t 7), []⟩,
     ⟨some 9, none, .ld 1 false (.t 8), []⟩,
     ⟨some 10, none, .call 52 [.t 9], []⟩,
     ⟨some 2, none, .mv (.t 10), []⟩])
   .ret)))⟩
theorem F16_code : cfgA.code 16 = some F16 := by kernel_rfl

/-- (*ticketline/descend.Scan).Again -/
noncomputable def F17 : AFn := ⟨9, [.tmp 2], (.seq
 (.ops 0 [⟨some 2, none, .mv (.c (.int .i64 0)), []⟩])
 (.seq
  (.seq
   (.ops 1 [⟨some 3, none, .mv (.t 0), []⟩,
     ⟨some 4, none, .call 45 [.t 3], []⟩])
   (.cond (.t 4)
    (.seq
     (.ops 2 [⟨some 2, none, .mv (.c (.int .i64 0)), []⟩])
     .ret)
    .skip))
  (.seq
   (.ops 3 [⟨some 5, none, .mv (.t 0), []⟩,
     ⟨some 6, none, .nilc (.t 5) (mok Tryz.prog), []⟩,
     ⟨some 7, none, .fld 6 (.t 6), []⟩,
     ⟨some 8, none, .ld 1 false (.t 7), []⟩,
     ⟨some 2, none, .mv (.t 8), []⟩])
   .ret)))⟩
theorem F17_code : cfgA.code 17 = some F17 := by kernel_rfl

/-- ticketline/descend.NewFind -/
noncomputable def F18 : AFn := ⟨30, [.tmp 6, .tmp 7], (.seq
 (.ops 0 [⟨some 3, none, .box 2 (.t 0) false, []⟩,
   ⟨some 6, none, .mv (.c (.nilp)), []⟩,
   ⟨some 7, none, .mv (.c (.int .i64 0)), []⟩])
 (.seq
  (.seq
   (.ops 1 [⟨some 8, none, .ld 2 true (.t 3), []⟩,
     ⟨some 9, none, .call 53 [.t 8], []⟩,
     ⟨some 10, none, .un .not (.t 9), []⟩,
     ⟨some 11, none, .mv (.t 10), []⟩,
     ⟨some 12, some (11, false), .mv (.t 1), []⟩,
     ⟨some 13, some (11, false), .call 54 [.t 12], []⟩,
     ⟨some 14, some (11, false), .un .not (.t 13), []⟩,
     ⟨some 15, none, .pick (.t 11) (.c (.bool true)) (.t 14), []⟩,
     ⟨some 16, none, .mv (.t 15), []⟩,
     ⟨some 17, some (16, false), .mv (.t 2), []⟩,
     ⟨some 18, some (16, false), .bin .lss (.t 17) (.c (.int .i64 0)), []⟩,
     ⟨some 19, none, .pick (.t 16) (.c (.bool true)) (.t 18), []⟩,
     ⟨some 20, none, .mv (.t 19), []⟩,
     ⟨some 21, some (20, false), .mv (.t 2), []⟩,
     ⟨some 22, some (20, false), .bin .gtr (.t 21) (.c (.int .i64 64)), []⟩,
     ⟨some 23, none, .pick (.t 20) (.c (.bool true)) (.t 22), []⟩])
   (.cond (.t 23)
    (.seq
     (.ops 2 [⟨some 6, none, .mv (.c (.nilp)), []⟩,
       ⟨some 7, none, .mv (.c (.int .i64 2)), []⟩])
     .ret)
    .skip))
  (.seq
   (.ops 3 [⟨some 24, none, .ld 2 true (.t 3), []⟩,
     ⟨some 25, none, .mv (.t 1), []⟩,
     ⟨some 26, none, .mv (.t 2), []⟩,
     ⟨some 27, none, .call 55 [], [(24, .ld 2 true (.t 3))]⟩,
     ⟨some 28, none, .build [.int .i64 0, .int .i64 0, .str [], .int .i64 0, .int .i64 0, .int .i64 0, .int .i64 0, .nilp, .int .i64 0, .int .u64 0, .int .u64 0, .int .u64 0, .int .u64 0, .int .u64 0, .int .u64 0, .int .u64 0, .int .u64 0, .int .u64 0, .int .u64 0, .int .u64 0, .int .u64 0, .int .u64 0, .int .u64 0, .int .u64 0, .int .u64 0, .int .u64 0, .int .u64 0, .int .u64 0, .int .u64 0, .int .u64 0, .int .u64 0, .int .u64 0, .int .u64 0, .int .u64 0, .int .u64 0, .int .u64 0, .int .u64 0, .int .u64 0, .int .u64 0, .int .u64 0, .int .u64 0, .int .u64 0, .int .u64 0, .int .u64 0, .int .u64 0, .int .u64 0, .int .u64 0, .int .u64 0, .int .u64 0, .int .u64 0, .int .u64 0, .int .u64 0, .int .u64 0, .int .u64 0, .int .u64 0, .int .u64 0, .int .u64 0, .int .u64 0, .int .u64 0, .int .u64 0, .int .u64 0, .int .u64 0, .int .u64 0, .int .u64 0, .int .u64 0, .int .u64 0, .int .u64 0, .int .u64 0, .int .u64 0, .int .u64 0, .int .u64 0, .int .u64 0, .int .u64 0, .int .u64 0, .int .u64 0, .int .u64 0, .int .u64 0, .int .u64 0, .int .u64 0, .int .u64 0, .int .u64 0, .int .u64 0, .int .u64 0, .int .u64 0, .int .u64 0, .int .u64 0, .int .u64 0, .int .u64 0, .int .u64 0, .int .u64 0, .int .u64 0, .int .u64 0, .int .u64 0, .int .u64 0, .int .u64 0, .int .u64 0, .int .u64 0, .int .u64 0, .int .u64 0, .int .u64 0, .int .u64 0, .int .u64 0, .int .u64 0, .int .u64 0, .int .u64 0, .int .u64 0, .int .u64 0, .int .u64 0, .int .u64 0, .int .u64 0, .int .u64 0, .int .u64 0, .int .u64 0, .int .u64 0, .int .u64 0, .int .u64 0, .int .u64 0, .int .u64 0, .int .u64 0, .int .u64 0, .int .u64 0, .int .u64 0, .int .u64 0, .int .u64 0, .int .u64 0, .int .u64 0, .int .u64 0, .int .u64 0, .int .u64 0, .int .u64 0, .int .u64 0, .int .u64 0, .int .u64 0, .int .u64 0, .int .u64 0, .int .u64 0, .int .u64 0, .int .u64 0, .bool false] [(0, 2, (.t 24)), (2, 1, (.t 25)), (3, 1, (.t 26)), (7, 1, (.t 27))], []⟩,
     ⟨some 29, none, .box 139 (.t 28) true, []⟩,
     ⟨some 6, none, .mv (.t 29), []⟩,
     ⟨some 7, none, .mv (.c (.int .i64 0)), []⟩])
   .ret)))⟩
theorem F18_code : cfgA.code 18 = some F18 := by kernel_rfl

/-- ticketline/ticketlinelaw27.given -/
noncomputable def F19 : AFn := ⟨2, [.cell 0 2 true], (.seq
 (.ops 0 [⟨some 0, none, .alloc [.int .i64 0, .int .i64 0] false, []⟩])
 (.seq
  (.ops 1 [⟨some 1, none, .build [.int .i64 0, .int .i64 0] [(0, 1, (.c (.int .i64 3))), (1, 1, (.c (.int .i64 2)))], []⟩,
    ⟨none, none, .st 2 (.t 0) (.t 1), []⟩])
  .ret))⟩
theorem F19_code : cfgA.code 19 = some F19 := by kernel_rfl

/-- ticketline/ticketlinelaw27.known -/
noncomputable def F20 : AFn := ⟨194, [.tmp 0], (.seq
 (.ops 0 [⟨some 0, none, .mv (.c (.bool false)), []⟩])
 (.seq
  (.ops 1 [⟨some 15, none, .call 19 [], []⟩,
    ⟨some 1, none, .alloc [.int .i64 0, .int .i64 0] false, []⟩,
    ⟨none, none, .st 2 (.t 1) (.t 15), []⟩])
  (.seq
   (.seq
    (.ops 2 [⟨some 16, none, .ld 2 true (.t 1), []⟩,
      ⟨some 17, none, .call 56 [.t 16, .c (.int .i64 412), .c (.int .i64 0)], []⟩,
      ⟨some 18, none, .un .not (.t 17), []⟩,
      ⟨some 19, none, .mv (.t 18), []⟩,
      ⟨some 20, some (19, false), .build [.int .i64 0, .int .i64 0] [(1, 1, (.c (.int .i64 1)))], []⟩,
      ⟨some 21, some (19, false), .call 56 [.t 20, .c (.int .i64 0), .c (.int .i64 2)], []⟩,
      ⟨some 22, some (19, false), .un .not (.t 21), []⟩,
      ⟨some 23, none, .pick (.t 19) (.c (.bool true)) (.t 22), []⟩,
      ⟨some 24, none, .mv (.t 23), []⟩,
      ⟨some 25, some (24, false), .ld 2 true (.t 1), []⟩,
      ⟨some 26, some (24, false), .call 57 [.t 25, .c (.int .i64 0), .c (.int .i64 8), .c (.int .i64 0)], []⟩,
      ⟨some 27, some (24, false), .un .not (.t 26), []⟩,
      ⟨some 28, none, .pick (.t 24) (.c (.bool true)) (.t 27), []⟩,
      ⟨some 29, none, .mv (.t 28), []⟩,
      ⟨some 30, some (29, false), .ld 2 true (.t 1), []⟩,
      ⟨some 31, some (29, false), .call 57 [.t 30, .c (.int .i64 2), .c (.int .i64 144), .c (.int .i64 0)], []⟩,
      ⟨some 32, some (29, false), .un .not (.t 31), []⟩,
      ⟨some 33, none, .pick (.t 29) (.c (.bool true)) (.t 32), []⟩,
      ⟨some 34, none, .mv (.t 33), []⟩,
      ⟨some 35, some (34, false), .ld 2 true (.t 1), []⟩,
      ⟨some 36, some (34, false), .call 57 [.t 35, .c (.int .i64 4), .c (.int .i64 0), .c (.int .i64 3)], []⟩,
      ⟨some 37, some (34, false), .un .not (.t 36), []⟩,
      ⟨some 38, none, .pick (.t 34) (.c (.bool true)) (.t 37), []⟩])
    (.cond (.t 38)
     (.seq
      (.ops 3 [⟨some 0, none, .mv (.c (.bool false)), []⟩])
      .ret)
     .skip))
   (.seq
    (.ops 4 [⟨some 40, none, .ld 2 true (.t 1), []⟩,
      ⟨some 41, none, .call 58 [.t 40], []⟩,
      ⟨some 39, none, .mv (.t 41), []⟩,
      ⟨some 42, none, .ext (.t 39) 0, []⟩,
      ⟨some 43, none, .ext (.t 39) 1, []⟩,
      ⟨some 2, none, .mv (.t 42), []⟩,
      ⟨some 3, none, .mv (.t 43), []⟩])
    (.seq
     (.ops 5 [⟨some 45, none, .ld 2 true (.t 1), []⟩,
       ⟨some 46, none, .call 18 [.t 45, .c (.str [97]), .c (.int .i64 0)], []⟩,
       ⟨some 44, none, .mv (.t 46), []⟩,
       ⟨some 47, none, .ext (.t 44) 0, []⟩,
       ⟨some 48, none, .ext (.t 44) 1, []⟩,
       ⟨some 4, none, .mv (.t 47), []⟩,
       ⟨some 5, none, .mv (.t 48), []⟩])
     (.seq
      (.ops 6 [⟨some 50, none, .ld 2 true (.t 1), []⟩,
        ⟨some 51, none, .call 59 [.t 50, .c (.str []), .c (.str []), .c (.int .i64 5), .c (.int .i64 0)], []⟩,
        ⟨some 49, none, .mv (.t 51), []⟩,
        ⟨some 52, none, .ext (.t 49) 0, []⟩,
        ⟨some 53, none, .ext (.t 49) 1, []⟩,
        ⟨some 6, none, .mv (.t 52), []⟩,
        ⟨some 7, none, .mv (.t 53), []⟩])
      (.seq
       (.seq
        (.ops 7 [⟨some 54, none, .mv (.t 2), []⟩,
          ⟨some 55, none, .eqn .ptr false (.t 54), []⟩,
          ⟨some 56, none, .mv (.t 55), []⟩,
          ⟨some 57, some (56, false), .mv (.t 4), []⟩,
          ⟨some 58, some (56, false), .eqn .ptr false (.t 57), []⟩,
          ⟨some 59, none, .pick (.t 56) (.c (.bool true)) (.t 58), []⟩,
          ⟨some 60, none, .mv (.t 59), []⟩,
          ⟨some 61, some (60, false), .mv (.t 6), []⟩,
          ⟨some 62, some (60, false), .eqn .ptr false (.t 61), []⟩,
          ⟨some 63, none, .pick (.t 60) (.c (.bool true)) (.t 62), []⟩,
          ⟨some 64, none, .mv (.t 63), []⟩,
          ⟨some 65, some (64, false), .mv (.t 3), []⟩,
          ⟨some 66, some (64, false), .bin .neq (.t 65) (.c (.int .i64 0)), []⟩,
          ⟨some 67, none, .pick (.t 64) (.c (.bool true)) (.t 66), []⟩,
          ⟨some 68, none, .mv (.t 67), []⟩,
          ⟨some 69, some (68, false), .mv (.t 5), []⟩,
          ⟨some 70, some (68, false), .bin .neq (.t 69) (.c (.int .i64 0)), []⟩,
          ⟨some 71, none, .pick (.t 68) (.c (.bool true)) (.t 70), []⟩,
          ⟨some 72, none, .mv (.t 71), []⟩,
          ⟨some 73, some (72, false), .mv (.t 7), []⟩,
          ⟨some 74, some (72, false), .bin .neq (.t 73) (.c (.int .i64 0)), []⟩,
          ⟨some 75, none, .pick (.t 72) (.c (.bool true)) (.t 74), []⟩])
        (.cond (.t 75)
         (.seq
          (.ops 8 [⟨some 0, none, .mv (.c (.bool false)), []⟩])
          .ret)
         .skip))
       (.seq
        (.ops 9 [⟨some 77, none, .mv (.t 4), []⟩,
          ⟨some 78, none, .mki 26 (.t 77), []⟩,
          ⟨some 79, none, .mv (.t 2), []⟩,
          ⟨some 80, none, .call 60 [.t 78, .t 79, .c (.int .i64 500)], []⟩,
          ⟨some 76, none, .mv (.t 80), []⟩,
          ⟨some 81, none, .ext (.t 76) 0, []⟩,
          ⟨some 82, none, .ext (.t 76) 1, []⟩,
          ⟨some 8, none, .mv (.t 81), []⟩,
          ⟨some 9, none, .mv (.t 82), []⟩])
        (.seq
         (.ops 10 [⟨some 84, none, .mv (.t 6), []⟩,
           ⟨some 85, none, .mki 27 (.t 84), []⟩,
           ⟨some 86, none, .mv (.t 2), []⟩,
           ⟨some 87, none, .call 60 [.t 85, .t 86, .c (.int .i64 500)], []⟩,
           ⟨some 83, none, .mv (.t 87), []⟩,
           ⟨some 88, none, .ext (.t 83) 0, []⟩,
           ⟨some 89, none, .ext (.t 83) 1, []⟩,
           ⟨some 10, none, .mv (.t 88), []⟩,
           ⟨some 11, none, .mv (.t 89), []⟩])
         (.seq
          (.seq
           (.ops 11 [⟨some 90, none, .mv (.t 8), []⟩,
             ⟨some 91, none, .un .not (.t 90), []⟩,
             ⟨some 92, none, .mv (.t 91), []⟩,
             ⟨some 93, some (92, false), .mv (.t 10), []⟩,
             ⟨some 94, some (92, false), .un .not (.t 93), []⟩,
             ⟨some 95, none, .pick (.t 92) (.c (.bool true)) (.t 94), []⟩,
             ⟨some 96, none, .mv (.t 95), []⟩,
             ⟨some 97, some (96, false), .mv (.t 9), []⟩,
             ⟨some 98, none, .pick (.t 96) (.c (.bool true)) (.t 97), []⟩,
             ⟨some 99, none, .mv (.t 98), []⟩,
             ⟨some 100, some (99, false), .mv (.t 11), []⟩,
             ⟨some 101, none, .pick (.t 99) (.c (.bool true)) (.t 100), []⟩,
             ⟨some 102, none, .mv (.t 101), []⟩,
             ⟨some 103, some (102, false), .mv (.t 4), []⟩,
             ⟨some 104, some (102, false), .call 8 [.t 103], []⟩,
             ⟨some 105, some (102, false), .bin .neq (.t 104) (.c (.int .u64 1)), []⟩,
             ⟨some 106, none, .pick (.t 102) (.c (.bool true)) (.t 105), []⟩,
             ⟨some 107, none, .mv (.t 106), []⟩,
             ⟨some 108, some (107, false), .mv (.t 4), []⟩,
             ⟨some 109, some (107, false), .call 10 [.t 108], []⟩,
             ⟨some 110, some (107, false), .fdv 0 1 false (.t 109), []⟩,
             ⟨some 111, some (107, false), .bin .neq (.t 110) (.c (.int .i64 1)), []⟩,
             ⟨some 112, none, .pick (.t 107) (.c (.bool true)) (.t 111), []⟩,
             ⟨some 113, none, .mv (.t 112), []⟩,
             ⟨some 114, some (113, false), .mv (.t 4), []⟩,
             ⟨some 115, some (113, false), .call 10 [.t 114], []⟩,
             ⟨some 116, some (113, false), .fdv 129 1 false (.t 115), []⟩,
             ⟨some 117, some (113, false), .bin .neq (.t 116) (.c (.int .u64 0)), []⟩,
             ⟨some 118, none, .pick (.t 113) (.c (.bool true)) (.t 117), []⟩,
             ⟨some 119, none, .mv (.t 118), []⟩,
             ⟨some 120, some (119, false), .mv (.t 4), []⟩,
             ⟨some 121, some (119, false), .call 10 [.t 120], []⟩,
             ⟨some 122, some (119, false), .fdv 1 128 true (.t 121), []⟩,
             ⟨some 123, some (119, false), .call 61 [.t 122], []⟩,
             ⟨some 124, some (119, false), .bin .neq (.t 123) (.c (.int .i64 0)), []⟩,
             ⟨some 125, none, .pick (.t 119) (.c (.bool true)) (.t 124), []⟩,
             ⟨some 126, none, .mv (.t 125), []⟩,
             ⟨some 127, some (126, false), .mv (.t 6), []⟩,
             ⟨some 128, some (126, false), .call 14 [.t 127], []⟩,
             ⟨some 129, some (126, false), .bin .neq (.t 128) (.c (.int .u64 1)), []⟩,
             ⟨some 130, none, .pick (.t 126) (.c (.bool true)) (.t 129), []⟩,
             ⟨some 131, none, .mv (.t 130), []⟩,
             ⟨some 132, some (131, false), .mv (.t 6), []⟩,
             ⟨some 133, some (131, false), .call 16 [.t 132], []⟩,
             ⟨some 134, some (131, false), .len .slice (.t 133), []⟩,
             ⟨some 135, some (131, false), .bin .neq (.t 134) (.c (.int .i64 0)), []⟩,
             ⟨some 136, none, .pick (.t 131) (.c (.bool true)) (.t 135), []⟩])
           (.cond (.t 136)
            (.seq
             (.ops 12 [⟨some 0, none, .mv (.c (.bool false)), []⟩])
             .ret)
            .skip))
          (.seq
           (.ops 13 [⟨some 138, none, .ld 2 true (.t 1), []⟩,
             ⟨some 139, none, .call 18 [.t 138, .c (.str []), .c (.int .i64 0)], []⟩,
             ⟨some 137, none, .mv (.t 139), []⟩,
             ⟨some 140, none, .ext (.t 137) 0, []⟩,
             ⟨some 141, none, .ext (.t 137) 1, []⟩,
             ⟨some 12, none, .mv (.t 140), []⟩,
             ⟨some 3, none, .mv (.t 141), []⟩])
           (.seq
            (.ops 14 [⟨some 143, none, .ld 2 true (.t 1), []⟩,
              ⟨some 144, none, .call 59 [.t 143, .c (.str [97]), .c (.str [98]), .c (.int .i64 33), .c (.int .i64 0)], []⟩,
              ⟨some 142, none, .mv (.t 144), []⟩,
              ⟨some 145, none, .ext (.t 142) 0, []⟩,
              ⟨some 146, none, .ext (.t 142) 1, []⟩,
              ⟨some 13, none, .mv (.t 145), []⟩,
              ⟨some 5, none, .mv (.t 146), []⟩])
            (.seq
             (.seq
              (.ops 15 [⟨some 147, none, .mv (.t 12), []⟩,
                ⟨some 148, none, .eqn .ptr true (.t 147), []⟩,
                ⟨some 149, none, .mv (.t 148), []⟩,
                ⟨some 150, some (149, false), .mv (.t 13), []⟩,
                ⟨some 151, some (149, false), .eqn .ptr true (.t 150), []⟩,
                ⟨some 152, none, .pick (.t 149) (.c (.bool true)) (.t 151), []⟩,
                ⟨some 153, none, .mv (.t 152), []⟩,
                ⟨some 154, some (153, false), .mv (.t 3), []⟩,
                ⟨some 155, some (153, false), .bin .neq (.t 154) (.c (.int .i64 2)), []⟩,
                ⟨some 156, none, .pick (.t 153) (.c (.bool true)) (.t 155), []⟩,
                ⟨some 157, none, .mv (.t 156), []⟩,
                ⟨some 158, some (157, false), .mv (.t 5), []⟩,
                ⟨some 159, some (157, false), .bin .neq (.t 158) (.c (.int .i64 2)), []⟩,
                ⟨some 160, none, .pick (.t 157) (.c (.bool true)) (.t 159), []⟩,
                ⟨some 161, none, .mv (.t 160), []⟩,
                ⟨some 162, some (161, false), .mv (.t 2), []⟩,
                ⟨some 163, some (161, false), .call 62 [.t 162, .c (.int .i64 19), .c (.int .u64 1)], []⟩,
                ⟨some 164, some (161, false), .bin .neq (.t 163) (.c (.int .i64 0)), []⟩,
                ⟨some 165, none, .pick (.t 161) (.c (.bool true)) (.t 164), []⟩])
              (.cond (.t 165)
               (.seq
                (.ops 16 [⟨some 0, none, .mv (.c (.bool false)), []⟩])
                .ret)
               .skip))
             (.seq
              (.ops 17 [⟨some 167, none, .ld 2 true (.t 1), []⟩,
                ⟨some 168, none, .call 18 [.t 167, .c (.str [97]), .c (.int .i64 0)], []⟩,
                ⟨some 166, none, .mv (.t 168), []⟩,
                ⟨some 169, none, .ext (.t 166) 0, []⟩,
                ⟨some 170, none, .ext (.t 166) 1, []⟩,
                ⟨some 14, none, .mv (.t 169), []⟩,
                ⟨some 3, none, .mv (.t 170), []⟩])
              (.seq
               (.seq
                (.ops 18 [⟨some 171, none, .mv (.t 14), []⟩,
                  ⟨some 172, none, .eqn .ptr false (.t 171), []⟩,
                  ⟨some 173, none, .mv (.t 172), []⟩,
                  ⟨some 174, some (173, false), .mv (.t 3), []⟩,
                  ⟨some 175, some (173, false), .bin .neq (.t 174) (.c (.int .i64 0)), []⟩,
                  ⟨some 176, none, .pick (.t 173) (.c (.bool true)) (.t 175), []⟩])
                (.cond (.t 176)
                 (.seq
                  (.ops 19 [⟨some 0, none, .mv (.c (.bool false)), []⟩])
                  .ret)
                 .skip))
               (.seq
                (.ops 20 [⟨some 178, none, .mv (.t 14), []⟩,
                  ⟨some 179, none, .mki 26 (.t 178), []⟩,
                  ⟨some 180, none, .mv (.t 2), []⟩,
                  ⟨some 181, none, .call 60 [.t 179, .t 180, .c (.int .i64 50)], []⟩,
                  ⟨some 177, none, .mv (.t 181), []⟩,
                  ⟨some 182, none, .ext (.t 177) 0, []⟩,
                  ⟨some 183, none, .ext (.t 177) 1, []⟩,
                  ⟨some 8, none, .mv (.t 182), []⟩,
                  ⟨some 9, none, .mv (.t 183), []⟩])
                (.seq
                 (.ops 21 [⟨some 184, none, .mv (.t 8), []⟩,
                   ⟨some 185, none, .un .not (.t 184), []⟩,
                   ⟨some 186, none, .mv (.t 185), []⟩,
                   ⟨some 187, some (186, true), .mv (.t 9), []⟩,
                   ⟨some 188, none, .pick (.t 186) (.t 187) (.c (.bool false)), []⟩,
                   ⟨some 189, none, .mv (.t 188), []⟩,
                   ⟨some 190, some (189, true), .mv (.t 2), []⟩,
                   ⟨some 191, some (189, true), .call 63 [.t 190], []⟩,
                   ⟨some 192, some (189, true), .bin .eql (.t 191) (.c (.int .i64 412)), []⟩,
                   ⟨some 193, none, .pick (.t 189) (.t 192) (.c (.bool false)), []⟩,
                   ⟨some 0, none, .mv (.t 193), []⟩])
                 .ret)))))))))))))))))⟩
theorem F20_code : cfgA.code 20 = some F20 := by kernel_rfl

/-- (*ticketline/descend.Find).zero -/
noncomputable def F39 : AFn := ⟨12, [.tmp 2], (.seq
 (.ops 0 [⟨some 2, none, .mv (.c (.bool false)), []⟩])
 (.seq
  (.ops 1 [⟨some 3, none, .mv (.t 0), []⟩,
    ⟨some 4, none, .eqn .ptr false (.t 3), []⟩,
    ⟨some 5, none, .mv (.t 4), []⟩,
    ⟨some 6, some (5, false), .mv (.t 0), []⟩,
    ⟨some 7, some (5, false), .nilc (.t 6) (mok Tryz.prog), []⟩,
    ⟨some 8, some (5, false), .fld 2 (.t 7), []⟩,
    ⟨some 9, some (5, false), .ld 1 false (.t 8), []⟩,
    ⟨some 10, some (5, false), .bin .eql (.t 9) (.c (.str [])), []⟩,
    ⟨some 11, none, .pick (.t 5) (.c (.bool true)) (.t 10), []⟩,
    ⟨some 2, none, .mv (.t 11), []⟩])
  .ret))⟩
theorem F39_code : cfgA.code 39 = some F39 := by kernel_rfl

/-- (*ticketline/version.Read).Step -/
noncomputable def F40 : AFn := ⟨147, [.tmp 4, .tmp 5], (.seq
 (.ops 0 [⟨some 4, none, .mv (.c (.bool false)), []⟩,
   ⟨some 5, none, .mv (.c (.int .i64 0)), []⟩])
 (.seq
  (.block 0
   (.seq
    (.ops 1 [⟨some 10, none, .mv (.t 0), []⟩,
      ⟨some 11, none, .eqn .ptr false (.t 10), []⟩,
      ⟨some 12, none, .mv (.t 11), []⟩,
      ⟨some 13, some (12, false), .mv (.t 0), []⟩,
      ⟨some 14, some (12, false), .nilc (.t 13) (mok Tryz.prog), []⟩,
      ⟨some 15, some (12, false), .fld 0 (.t 14), []⟩,
      ⟨some 16, some (12, false), .ld 1 false (.t 15), []⟩,
      ⟨some 17, some (12, false), .un .not (.t 16), []⟩,
      ⟨some 18, none, .pick (.t 12) (.c (.bool true)) (.t 17), []⟩,
      ⟨some 19, none, .mv (.t 18), []⟩,
      ⟨some 20, some (19, false), .mv (.t 1), []⟩,
      ⟨some 21, some (19, false), .eqn .iface false (.t 20), []⟩,
      ⟨some 22, none, .pick (.t 19) (.c (.bool true)) (.t 21), []⟩,
      ⟨some 9, none, .mv (.t 22), []⟩])
    (.cond (.t 9)
     (.seq
      (.ops 2 [⟨some 4, none, .mv (.c (.bool false)), []⟩,
        ⟨some 5, none, .mv (.c (.int .i64 1)), []⟩])
      .ret)
     (.seq
      (.ops 3 [⟨some 24, none, .mv (.t 0), []⟩,
        ⟨some 25, none, .nilc (.t 24) (mok Tryz.prog), []⟩,
        ⟨some 26, none, .fld 9 (.t 25), []⟩,
        ⟨some 27, none, .ld 1 false (.t 26), []⟩,
        ⟨some 23, none, .mv (.t 27), []⟩])
      (.cond (.t 23)
       (.seq
        (.ops 4 [⟨some 4, none, .mv (.c (.bool false)), []⟩,
          ⟨some 5, none, .mv (.c (.int .i64 17)), []⟩])
        .ret)
       .skip)))))
  (.seq
   (.ops 5 [⟨some 28, none, .mv (.t 0), []⟩,
     ⟨some 29, none, .nilc (.t 28) (mok Tryz.prog), []⟩,
     ⟨some 30, none, .fld 1 (.t 29), []⟩,
     ⟨some 31, none, .ld 1 false (.t 30), []⟩,
     ⟨some 6, none, .mv (.t 31), []⟩])
   (.seq
    (.seq
     (.ops 6 [⟨some 32, none, .mv (.t 0), []⟩,
       ⟨some 33, none, .nilc (.t 32) (mok Tryz.prog), []⟩,
       ⟨some 34, none, .fld 5 (.t 33), []⟩,
       ⟨some 35, none, .ld 1 false (.t 34), []⟩,
       ⟨some 36, none, .mv (.t 35), []⟩,
       ⟨some 37, some (36, true), .mv (.t 0), []⟩,
       ⟨some 38, some (36, true), .nilc (.t 37) (mok Tryz.prog), []⟩,
       ⟨some 39, some (36, true), .fld 7 (.t 38), []⟩,
       ⟨some 40, some (36, true), .ld 1 false (.t 39), []⟩,
       ⟨some 41, some (36, true), .len .slice (.t 40), []⟩,
       ⟨some 42, some (36, true), .mv (.t 0), []⟩,
       ⟨some 43, some (36, true), .nilc (.t 42) (mok Tryz.prog), []⟩,
       ⟨some 44, some (36, true), .fld 3 (.t 43), []⟩,
       ⟨some 45, some (36, true), .ld 1 false (.t 44), []⟩,
       ⟨some 46, some (36, true), .bin .lss (.t 41) (.t 45), []⟩,
       ⟨some 47, none, .pick (.t 36) (.t 46) (.c (.bool false)), []⟩])
     (.cond (.t 47)
      (.ops 7 [⟨some 48, none, .mv (.t 0), []⟩,
        ⟨some 49, none, .nilc (.t 48) (mok Tryz.prog), []⟩,
        ⟨some 50, none, .fld 2 (.t 49), []⟩,
        ⟨some 51, none, .ld 1 false (.t 50), []⟩,
        ⟨some 52, none, .mv (.t 0), []⟩,
        ⟨some 53, none, .nilc (.t 52) (mok Tryz.prog), []⟩,
        ⟨some 54, none, .fld 7 (.t 53), []⟩,
        ⟨some 55, none, .ld 1 false (.t 54), []⟩,
        ⟨some 56, none, .len .slice (.t 55), []⟩,
        ⟨some 57, none, .bin .add (.t 51) (.t 56), []⟩,
        ⟨some 6, none, .mv (.t 57), []⟩])
      .skip))
    (.seq
     (.ops 8 [⟨some 59, none, .mv (.t 1), []⟩,
       ⟨some 60, none, .mv (.t 6), []⟩,
       ⟨some 61, none, .invk (.t 59) "Load" [.t 60], []⟩,
       ⟨some 58, none, .mv (.t 61), []⟩,
       ⟨some 62, none, .ext (.t 58) 0, []⟩,
       ⟨some 63, none, .ext (.t 58) 1, []⟩,
       ⟨some 7, none, .mv (.t 62), []⟩,
       ⟨some 8, none, .mv (.t 63), []⟩])
     (.seq
      (.block 1
       (.seq
        (.ops 11 [⟨some 86, none, .mv (.t 8), []⟩,
          ⟨some 87, none, .bin .neq (.t 86) (.c (.int .i64 0)), []⟩,
          ⟨some 85, none, .mv (.t 87), []⟩])
        (.cond (.t 85)
         (.seq
          (.ops 12 [⟨some 88, none, .mv (.t 8), []⟩,
            ⟨some 4, none, .mv (.c (.bool false)), []⟩,
            ⟨some 5, none, .mv (.t 88), []⟩])
          .ret)
         (.seq
          (.ops 13 [⟨some 90, none, .mv (.t 0), []⟩,
            ⟨some 91, none, .nilc (.t 90) (mok Tryz.prog), []⟩,
            ⟨some 92, none, .fld 5 (.t 91), []⟩,
            ⟨some 93, none, .ld 1 false (.t 92), []⟩,
            ⟨some 94, none, .un .not (.t 93), []⟩,
            ⟨some 95, none, .mv (.t 94), []⟩,
            ⟨some 96, some (95, true), .mv (.t 7), []⟩,
            ⟨some 97, some (95, true), .call 90 [.t 96], []⟩,
            ⟨some 98, some (95, true), .un .not (.t 97), []⟩,
            ⟨some 99, none, .pick (.t 95) (.t 98) (.c (.bool false)), []⟩,
            ⟨some 89, none, .mv (.t 99), []⟩])
          (.cond (.t 89)
           (.seq
            (.ops 14 [⟨some 4, none, .mv (.c (.bool true)), []⟩,
              ⟨some 5, none, .mv (.c (.int .i64 0)), []⟩])
            .ret)
           (.seq
            (.ops 15 [⟨some 101, none, .mv (.t 0), []⟩,
              ⟨some 102, none, .nilc (.t 101) (mok Tryz.prog), []⟩,
              ⟨some 103, none, .fld 5 (.t 102), []⟩,
              ⟨some 104, none, .ld 1 false (.t 103), []⟩,
              ⟨some 105, none, .un .not (.t 104), []⟩,
              ⟨some 100, none, .mv (.t 105), []⟩])
            (.cond (.t 100)
             (.ops 16 [⟨some 106, none, .mv (.t 0), []⟩,
               ⟨some 107, none, .mv (.t 0), []⟩,
               ⟨some 108, none, .mv (.t 7), []⟩,
               ⟨some 109, none, .nilc (.t 106) (mok Tryz.prog), []⟩,
               ⟨some 110, none, .fld 5 (.t 109), []⟩,
               ⟨none, none, .st 1 (.t 110) (.c (.bool true)), []⟩,
               ⟨some 111, none, .nilc (.t 107) (mok Tryz.prog), []⟩,
               ⟨some 112, none, .fld 6 (.t 111), []⟩,
               ⟨none, none, .st 1 (.t 112) (.t 108), []⟩])
             (.seq
              (.ops 17 [⟨some 114, none, .mv (.t 0), []⟩,
                ⟨some 115, none, .nilc (.t 114) (mok Tryz.prog), []⟩,
                ⟨some 116, none, .fld 7 (.t 115), []⟩,
                ⟨some 117, none, .ld 1 false (.t 116), []⟩,
                ⟨some 118, none, .len .slice (.t 117), []⟩,
                ⟨some 119, none, .mv (.t 0), []⟩,
                ⟨some 120, none, .nilc (.t 119) (mok Tryz.prog), []⟩,
                ⟨some 121, none, .fld 3 (.t 120), []⟩,
                ⟨some 122, none, .ld 1 false (.t 121), []⟩,
                ⟨some 123, none, .bin .lss (.t 118) (.t 122), []⟩,
                ⟨some 113, none, .mv (.t 123), []⟩])
              (.cond (.t 113)
               (.ops 18 [⟨some 124, none, .mv (.t 0), []⟩,
                 ⟨some 125, none, .mv (.t 0), []⟩,
                 ⟨some 126, none, .nilc (.t 125) (mok Tryz.prog), []⟩,
                 ⟨some 127, none, .fld 7 (.t 126), []⟩,
                 ⟨some 128, none, .ld 1 false (.t 127), []⟩,
                 ⟨some 129, none, .mv (.t 7), []⟩,
                 ⟨some 130, none, .bslice [.int .u64 0] 1 1 [(0, (.t 129))] false false, []⟩,
                 ⟨some 131, none, .app 1 8 (.t 128) (.t 130) true, []⟩,
                 ⟨some 132, none, .nilc (.t 124) (mok Tryz.prog), []⟩,
                 ⟨some 133, none, .fld 7 (.t 132), []⟩,
                 ⟨none, none, .st 1 (.t 133) (.t 131), []⟩])
               (.seq
                (.ops 19 [⟨some 135, none, .mv (.t 7), []⟩,
                  ⟨some 136, none, .mv (.t 0), []⟩,
                  ⟨some 137, none, .nilc (.t 136) (mok Tryz.prog), []⟩,
                  ⟨some 138, none, .fld 6 (.t 137), []⟩,
                  ⟨some 139, none, .ld 1 false (.t 138), []⟩,
                  ⟨some 140, none, .bin .eql (.t 135) (.t 139), []⟩,
                  ⟨some 134, none, .mv (.t 140), []⟩])
                (.cond (.t 134)
                 (.ops 20 [⟨some 141, none, .mv (.t 0), []⟩,
                   ⟨some 142, none, .mv (.t 0), []⟩,
                   ⟨some 143, none, .nilc (.t 141) (mok Tryz.prog), []⟩,
                   ⟨some 144, none, .fld 8 (.t 143), []⟩,
                   ⟨none, none, .st 1 (.t 144) (.c (.int .u64 1)), []⟩,
                   ⟨some 145, none, .nilc (.t 142) (mok Tryz.prog), []⟩,
                   ⟨some 146, none, .fld 9 (.t 145), []⟩,
                   ⟨none, none, .st 1 (.t 146) (.c (.bool true)), []⟩])
                 (.seq
                  (.ops 9 [⟨some 64, none, .mv (.t 0), []⟩,
                    ⟨some 65, none, .nilc (.t 64) (mok Tryz.prog), []⟩,
                    ⟨some 66, none, .fld 4 (.t 65), []⟩,
                    ⟨some 67, none, .ld 1 false (.t 66), []⟩,
                    ⟨some 68, none, .bin .sub (.t 67) (.c (.int .i64 1)), []⟩,
                    ⟨some 69, none, .nilc (.t 64) (mok Tryz.prog), []⟩,
                    ⟨some 70, none, .fld 4 (.t 69), []⟩,
                    ⟨none, none, .st 1 (.t 70) (.t 68), []⟩])
                  (.ops 10 [⟨some 71, none, .mv (.t 0), []⟩,
                    ⟨some 72, none, .mv (.t 0), []⟩,
                    ⟨some 73, none, .mv (.t 0), []⟩,
                    ⟨some 74, none, .mv (.t 0), []⟩,
                    ⟨some 75, none, .nilc (.t 74) (mok Tryz.prog), []⟩,
                    ⟨some 76, none, .fld 4 (.t 75), []⟩,
                    ⟨some 77, none, .ld 1 false (.t 76), []⟩,
                    ⟨some 78, none, .bin .eql (.t 77) (.c (.int .i64 0)), []⟩,
                    ⟨some 79, none, .nilc (.t 71) (mok Tryz.prog), []⟩,
                    ⟨some 80, none, .fld 5 (.t 79), []⟩,
                    ⟨none, none, .st 1 (.t 80) (.c (.bool false)), []⟩,
                    ⟨some 81, none, .nilc (.t 72) (mok Tryz.prog), []⟩,
                    ⟨some 82, none, .fld 7 (.t 81), []⟩,
                    ⟨none, none, .st 1 (.t 82) (.c (.nils)), []⟩,
                    ⟨some 83, none, .nilc (.t 73) (mok Tryz.prog), []⟩,
                    ⟨some 84, none, .fld 9 (.t 83), []⟩,
                    ⟨none, none, .st 1 (.t 84) (.t 78), []⟩])))))))))))))
      (.seq
       (.ops 21 [⟨some 4, none, .mv (.c (.bool false)), []⟩,
         ⟨some 5, none, .mv (.c (.int .i64 0)), []⟩])
       .ret)))))))⟩
theorem F40_code : cfgA.code 40 = some F40 := by kernel_rfl

/-- (*ticketline/version.Read).Done -/
noncomputable def F41 : AFn := ⟨18, [.tmp 2], (.seq
 (.ops 0 [⟨some 2, none, .mv (.c (.bool false)), []⟩])
 (.seq
  (.ops 1 [⟨some 3, none, .mv (.t 0), []⟩,
    ⟨some 4, none, .eqn .ptr false (.t 3), []⟩,
    ⟨some 5, none, .mv (.t 4), []⟩,
    ⟨some 6, some (5, false), .mv (.t 0), []⟩,
    ⟨some 7, some (5, false), .nilc (.t 6) (mok Tryz.prog), []⟩,
    ⟨some 8, some (5, false), .fld 0 (.t 7), []⟩,
    ⟨some 9, some (5, false), .ld 1 false (.t 8), []⟩,
    ⟨some 10, some (5, false), .un .not (.t 9), []⟩,
    ⟨some 11, none, .pick (.t 5) (.c (.bool true)) (.t 10), []⟩,
    ⟨some 12, none, .mv (.t 11), []⟩,
    ⟨some 13, some (12, false), .mv (.t 0), []⟩,
    ⟨some 14, some (12, false), .nilc (.t 13) (mok Tryz.prog), []⟩,
    ⟨some 15, some (12, false), .fld 9 (.t 14), []⟩,
    ⟨some 16, some (12, false), .ld 1 false (.t 15), []⟩,
    ⟨some 17, none, .pick (.t 12) (.c (.bool true)) (.t 16), []⟩,
    ⟨some 2, none, .mv (.t 17), []⟩])
  .ret))⟩
theorem F41_code : cfgA.code 41 = some F41 := by kernel_rfl

/-- (*ticketline/descend.Find).advance -/
noncomputable def F42 : AFn := ⟨102, [], (.seq
 (.ops 0 [⟨some 9, none, .mv (.t 0), []⟩,
   ⟨some 10, none, .nilc (.t 9) (mok Tryz.prog), []⟩,
   ⟨some 11, none, .fld 7 (.t 10), []⟩,
   ⟨some 12, none, .ld 1 false (.t 11), []⟩,
   ⟨some 13, none, .call 91 [.t 12], []⟩,
   ⟨some 2, none, .mv (.t 13), []⟩])
 (.seq
  (.seq
   (.ops 1 [⟨some 14, none, .mv (.t 0), []⟩,
     ⟨some 15, none, .nilc (.t 14) (mok Tryz.prog), []⟩,
     ⟨some 16, none, .fld 7 (.t 15), []⟩,
     ⟨some 17, none, .ld 1 false (.t 16), []⟩,
     ⟨some 18, none, .call 92 [.t 17], []⟩,
     ⟨some 19, none, .bin .eql (.t 18) (.c (.int .u64 0)), []⟩,
     ⟨some 20, none, .mv (.t 19), []⟩,
     ⟨some 21, some (20, false), .mv (.t 2), []⟩,
     ⟨some 22, some (20, false), .len .slice (.t 21), []⟩,
     ⟨some 23, some (20, false), .bin .eql (.t 22) (.c (.int .i64 0)), []⟩,
     ⟨some 24, none, .pick (.t 20) (.c (.bool true)) (.t 23), []⟩])
   (.cond (.t 24)
    (.seq
     (.ops 2 [⟨some 25, none, .mv (.t 0), []⟩,
       ⟨some 26, none, .call 93 [.t 25], []⟩])
     .ret)
    .skip))
  (.seq
   (.seq
    (.ops 3 [⟨some 27, none, .mv (.t 0), []⟩,
      ⟨some 28, none, .nilc (.t 27) (mok Tryz.prog), []⟩,
      ⟨some 29, none, .fld 6 (.t 28), []⟩,
      ⟨some 30, none, .ld 1 false (.t 29), []⟩,
      ⟨some 31, none, .bin .eql (.t 30) (.c (.int .i64 0)), []⟩])
    (.cond (.t 31)
     (.seq
      (.ops 4 [⟨some 32, none, .mv (.t 0), []⟩,
        ⟨some 33, none, .mv (.t 2), []⟩,
        ⟨some 34, none, .ixa none 1 (.t 33) (.c (.int .i64 0)), []⟩,
        ⟨some 35, none, .ld 1 false (.t 34), []⟩,
        ⟨some 36, none, .mx false (.t 35) [.c (.int .u64 511)], []⟩,
        ⟨some 37, none, .cvi .i64 (.t 36), []⟩,
        ⟨some 38, none, .call 94 [.t 32, .t 37], []⟩])
      .ret)
     .skip))
   (.seq
    (.ops 5 [⟨some 39, none, .mv (.t 2), []⟩,
      ⟨some 40, none, .call 95 [.t 39], []⟩,
      ⟨some 3, none, .alloc (List.replicate 128 (.int .u64 0)) false, []⟩,
      ⟨none, none, .st 128 (.t 3) (.t 40), []⟩])
    (.seq
     (.ops 6 [⟨some 42, none, .ld 128 true (.t 3), []⟩,
       ⟨some 43, none, .mv (.t 0), []⟩,
       ⟨some 44, none, .nilc (.t 43) (mok Tryz.prog), []⟩,
       ⟨some 45, none, .fld 2 (.t 44), []⟩,
       ⟨some 46, none, .ld 1 false (.t 45), []⟩,
       ⟨some 47, none, .call 96 [.t 42, .t 46], []⟩,
       ⟨some 41, none, .mv (.t 47), []⟩,
       ⟨some 48, none, .ext (.t 41) 0, []⟩,
       ⟨some 49, none, .ext (.t 41) 1, []⟩,
       ⟨some 4, none, .mv (.t 48), []⟩,
       ⟨some 5, none, .mv (.t 49), []⟩])
     (.block 0
      (.seq
       (.ops 11 [⟨some 66, none, .mv (.t 5), []⟩,
         ⟨some 67, none, .bin .neq (.t 66) (.c (.int .i64 0)), []⟩,
         ⟨some 68, none, .mv (.t 67), []⟩,
         ⟨some 69, some (68, false), .mv (.t 4), []⟩,
         ⟨some 70, some (68, false), .bin .eql (.t 69) (.c (.int .i64 (-1))), []⟩,
         ⟨some 71, none, .pick (.t 68) (.c (.bool true)) (.t 70), []⟩,
         ⟨some 65, none, .mv (.t 71), []⟩])
       (.cond (.t 65)
        (.ops 12 [⟨some 72, none, .mv (.t 0), []⟩,
          ⟨some 73, none, .call 93 [.t 72], []⟩])
        (.seq
         (.ops 13 [⟨some 75, none, .mv (.t 4), []⟩,
           ⟨some 76, none, .bin .eql (.t 75) (.c (.int .i64 1)), []⟩,
           ⟨some 74, none, .mv (.t 76), []⟩])
         (.cond (.t 74)
          (.ops 14 [⟨some 77, none, .mv (.t 0), []⟩,
            ⟨some 78, none, .ld 128 true (.t 3), []⟩,
            ⟨some 79, none, .call 97 [.t 78], []⟩,
            ⟨some 80, none, .call 94 [.t 77, .t 79], []⟩])
          (.seq
           (.ops 15 [⟨some 82, none, .ld 128 true (.t 3), []⟩,
             ⟨some 83, none, .call 98 [.t 82], []⟩,
             ⟨some 84, none, .bin .eql (.t 83) (.c (.int .i64 0)), []⟩,
             ⟨some 81, none, .mv (.t 84), []⟩])
           (.cond (.t 81)
            (.seq
             (.ops 16 [⟨some 85, none, .mv (.t 0), []⟩,
               ⟨some 86, none, .mv (.t 0), []⟩,
               ⟨some 87, none, .nilc (.t 86) (mok Tryz.prog), []⟩,
               ⟨some 88, none, .fld 6 (.t 87), []⟩,
               ⟨some 89, none, .ld 1 false (.t 88), []⟩,
               ⟨some 90, none, .ld 128 true (.t 3), []⟩,
               ⟨some 91, none, .mv (.t 0), []⟩,
               ⟨some 92, none, .nilc (.t 91) (mok Tryz.prog), []⟩,
               ⟨some 93, none, .fld 7 (.t 92), []⟩,
               ⟨some 94, none, .ld 1 false (.t 93), []⟩,
               ⟨some 95, none, .call 99 [.t 94], [(89, .ld 1 false (.t 88)), (90, .ld 128 true (.t 3))]⟩,
               ⟨some 96, none, .build [.int .i64 0, .int .u64 0, .int .u64 0, .int .u64 0, .int .u64 0, .int .u64 0, .int .u64 0, .int .u64 0, .int .u64 0, .int .u64 0, .int .u64 0, .int .u64 0, .int .u64 0, .int .u64 0, .int .u64 0, .int .u64 0, .int .u64 0, .int .u64 0, .int .u64 0, .int .u64 0, .int .u64 0, .int .u64 0, .int .u64 0, .int .u64 0, .int .u64 0, .int .u64 0, .int .u64 0, .int .u64 0, .int .u64 0, .int .u64 0, .int .u64 0, .int .u64 0, .int .u64 0, .int .u64 0, .int .u64 0, .int .u64 0, .int .u64 0, .int .u64 0, .int .u64 0, .int .u64 0, .int .u64 0, .int .u64 0, .int .u64 0, .int .u64 0, .int .u64 0, .int .u64 0, .int .u64 0, .int .u64 0, .int .u64 0, .int .u64 0, .int .u64 0, .int .u64 0, .int .u64 0, .int .u64 0, .int .u64 0, .int .u64 0, .int .u64 0, .int .u64 0, .int .u64 0, .int .u64 0, .int .u64 0, .int .u64 0, .int .u64 0, .int .u64 0, .int .u64 0, .int .u64 0, .int .u64 0, .int .u64 0, .int .u64 0, .int .u64 0, .int .u64 0, .int .u64 0, .int .u64 0, .int .u64 0, .int .u64 0, .int .u64 0, .int .u64 0, .int .u64 0, .int .u64 0, .int .u64 0, .int .u64 0, .int .u64 0, .int .u64 0, .int .u64 0, .int .u64 0, .int .u64 0, .int .u64 0, .int .u64 0, .int .u64 0, .int .u64 0, .int .u64 0, .int .u64 0, .int .u64 0, .int .u64 0, .int .u64 0, .int .u64 0, .int .u64 0, .int .u64 0, .int .u64 0, .int .u64 0, .int .u64 0, .int .u64 0, .int .u64 0, .int .u64 0, .int .u64 0, .int .u64 0, .int .u64 0, .int .u64 0, .int .u64 0, .int .u64 0, .int .u64 0, .int .u64 0, .int .u64 0, .int .u64 0, .int .u64 0, .int .u64 0, .int .u64 0, .int .u64 0, .int .u64 0, .int .u64 0, .int .u64 0, .int .u64 0, .int .u64 0, .int .u64 0, .int .u64 0, .int .u64 0, .int .u64 0, .int .u64 0, .int .u64 0, .int .u64 0] [(0, 1, (.t 89)), (1, 128, (.t 90)), (129, 1, (.t 95))], []⟩,
               ⟨some 97, none, .nilc (.t 85) (mok Tryz.prog), []⟩,
               ⟨some 98, none, .fld 8 (.t 97), []⟩,
               ⟨none, none, .st 130 (.t 98) (.t 96), []⟩])
             (.ops 17 [⟨some 99, none, .mv (.t 0), []⟩,
               ⟨some 100, none, .nilc (.t 99) (mok Tryz.prog), []⟩,
               ⟨some 101, none, .fld 138 (.t 100), []⟩,
               ⟨none, none, .st 1 (.t 101) (.c (.bool true)), []⟩]))
            (.seq
             (.ops 7 [⟨some 51, none, .ld 128 true (.t 3), []⟩,
               ⟨some 52, none, .mv (.t 0), []⟩,
               ⟨some 53, none, .nilc (.t 52) (mok Tryz.prog), []⟩,
               ⟨some 54, none, .fld 2 (.t 53), []⟩,
               ⟨some 55, none, .ld 1 false (.t 54), []⟩,
               ⟨some 56, none, .call 100 [.t 51, .t 55], []⟩,
               ⟨some 50, none, .mv (.t 56), []⟩,
               ⟨some 57, none, .ext (.t 50) 0, []⟩,
               ⟨some 58, none, .ext (.t 50) 1, []⟩,
               ⟨some 59, none, .ext (.t 50) 2, []⟩,
               ⟨some 6, none, .mv (.t 57), []⟩,
               ⟨some 7, none, .mv (.t 58), []⟩,
               ⟨some 8, none, .mv (.t 59), []⟩])
             (.seq
              (.seq
               (.ops 8 [⟨some 60, none, .mv (.t 8), []⟩,
                 ⟨some 61, none, .bin .neq (.t 60) (.c (.int .i64 0)), []⟩])
               (.cond (.t 61)
                (.ops 9 [⟨some 7, none, .mv (.c (.int .i64 0)), []⟩])
                .skip))
              (.ops 10 [⟨some 62, none, .mv (.t 0), []⟩,
                ⟨some 63, none, .mv (.t 7), []⟩,
                ⟨some 64, none, .call 94 [.t 62, .t 63], []⟩])))))))))))))))⟩
theorem F42_code : cfgA.code 42 = some F42 := by kernel_rfl

/-- (*ticketline/descend.Find).over -/
noncomputable def F43 : AFn := ⟨12, [.tmp 2], (.seq
 (.ops 0 [⟨some 2, none, .mv (.c (.bool false)), []⟩])
 (.seq
  (.ops 1 [⟨some 3, none, .mv (.t 0), []⟩,
    ⟨some 4, none, .call 39 [.t 3], []⟩,
    ⟨some 5, none, .un .not (.t 4), []⟩,
    ⟨some 6, none, .mv (.t 5), []⟩,
    ⟨some 7, some (6, true), .mv (.t 0), []⟩,
    ⟨some 8, some (6, true), .nilc (.t 7) (mok Tryz.prog), []⟩,
    ⟨some 9, some (6, true), .fld 138 (.t 8), []⟩,
    ⟨some 10, some (6, true), .ld 1 false (.t 9), []⟩,
    ⟨some 11, none, .pick (.t 6) (.t 10) (.c (.bool false)), []⟩,
    ⟨some 2, none, .mv (.t 11), []⟩])
  .ret))⟩
theorem F43_code : cfgA.code 43 = some F43 := by kernel_rfl

/-- (*ticketline/descend.Scan).zero -/
noncomputable def F45 : AFn := ⟨12, [.tmp 2], (.seq
 (.ops 0 [⟨some 2, none, .mv (.c (.bool false)), []⟩])
 (.seq
  (.ops 1 [⟨some 3, none, .mv (.t 0), []⟩,
    ⟨some 4, none, .eqn .ptr false (.t 3), []⟩,
    ⟨some 5, none, .mv (.t 4), []⟩,
    ⟨some 6, some (5, false), .mv (.t 0), []⟩,
    ⟨some 7, some (5, false), .nilc (.t 6) (mok Tryz.prog), []⟩,
    ⟨some 8, some (5, false), .fld 14 (.t 7), []⟩,
    ⟨some 9, some (5, false), .ld 1 false (.t 8), []⟩,
    ⟨some 10, some (5, false), .bin .eql (.t 9) (.c (.int .i64 0)), []⟩,
    ⟨some 11, none, .pick (.t 5) (.c (.bool true)) (.t 10), []⟩,
    ⟨some 2, none, .mv (.t 11), []⟩])
  .ret))⟩
theorem F45_code : cfgA.code 45 = some F45 := by kernel_rfl

/-- (*ticketline/descend.Scan).take: the round 0 -/
noncomputable def B48x0 : AC := (.seq
 (.ops 8 [⟨some 59, none, .bin .lss (.t 58) (.t 57), []⟩])
 (.seq
  (.cond (.t 59)
   .skip
   (.exit 0))
  (.seq
   (.block 1
    (.seq
     (.ops 9 [⟨some 60, none, .ixa none 2 (.t 56) (.t 58), []⟩,
       ⟨some 61, none, .ld 2 true (.t 60), []⟩,
       ⟨some 14, none, .alloc [.str [], .str []] false, []⟩,
       ⟨none, none, .st 2 (.t 14) (.t 61), []⟩])
     (.seq
      (.ops 10 [⟨some 62, none, .mv (.t 0), []⟩,
        ⟨some 63, none, .nilc (.t 62) (mok Tryz.prog), []⟩,
        ⟨some 64, none, .fld 13 (.t 63), []⟩,
        ⟨some 65, none, .ld 1 false (.t 64), []⟩,
        ⟨some 66, none, .len .slice (.t 65), []⟩,
        ⟨some 67, none, .mv (.t 0), []⟩,
        ⟨some 68, none, .nilc (.t 67) (mok Tryz.prog), []⟩,
        ⟨some 69, none, .fld 4 (.t 68), []⟩,
        ⟨some 70, none, .ld 1 false (.t 69), []⟩,
        ⟨some 71, none, .bin .lss (.t 66) (.t 70), []⟩,
        ⟨some 72, none, .mv (.t 71), []⟩,
        ⟨some 73, some (72, true), .fld 0 (.t 14), []⟩,
        ⟨some 74, some (72, true), .ld 1 false (.t 73), []⟩,
        ⟨some 75, some (72, true), .mv (.t 0), []⟩,
        ⟨some 76, some (72, true), .nilc (.t 75) (mok Tryz.prog), []⟩,
        ⟨some 77, some (72, true), .fld 2 (.t 76), []⟩,
        ⟨some 78, some (72, true), .ld 1 false (.t 77), []⟩,
        ⟨some 79, some (72, true), .bin .geq (.t 74) (.t 78), []⟩,
        ⟨some 80, none, .pick (.t 72) (.t 79) (.c (.bool false)), []⟩,
        ⟨some 81, none, .mv (.t 80), []⟩,
        ⟨some 82, some (81, true), .mv (.t 0), []⟩,
        ⟨some 83, some (81, true), .nilc (.t 82) (mok Tryz.prog), []⟩,
        ⟨some 84, some (81, true), .fld 3 (.t 83), []⟩,
        ⟨some 85, some (81, true), .ld 1 false (.t 84), []⟩,
        ⟨some 86, some (81, true), .bin .eql (.t 85) (.c (.str [])), []⟩,
        ⟨some 87, some (81, true), .mv (.t 86), []⟩,
        ⟨some 88, some (87, false), .fld 0 (.t 14), []⟩,
        ⟨some 89, some (87, false), .ld 1 false (.t 88), []⟩,
        ⟨some 90, some (87, false), .mv (.t 0), []⟩,
        ⟨some 91, some (87, false), .nilc (.t 90) (mok Tryz.prog), []⟩,
        ⟨some 92, some (87, false), .fld 3 (.t 91), []⟩,
        ⟨some 93, some (87, false), .ld 1 false (.t 92), []⟩,
        ⟨some 94, some (87, false), .bin .lss (.t 89) (.t 93), []⟩,
        ⟨some 95, some (81, true), .pick (.t 87) (.c (.bool true)) (.t 94), []⟩,
        ⟨some 96, none, .pick (.t 81) (.t 95) (.c (.bool false)), []⟩])
      (.cond (.t 96)
       (.ops 11 [⟨some 97, none, .mv (.t 0), []⟩,
         ⟨some 98, none, .mv (.t 0), []⟩,
         ⟨some 99, none, .nilc (.t 98) (mok Tryz.prog), []⟩,
         ⟨some 100, none, .fld 13 (.t 99), []⟩,
         ⟨some 101, none, .ld 1 false (.t 100), []⟩,
         ⟨some 102, none, .ld 2 true (.t 14), []⟩,
         ⟨some 103, none, .bslice [.str [], .str []] 2 1 [(0, (.t 102))] false false, []⟩,
         ⟨some 104, none, .app 2 32 (.t 101) (.t 103) true, []⟩,
         ⟨some 105, none, .nilc (.t 97) (mok Tryz.prog), []⟩,
         ⟨some 106, none, .fld 13 (.t 105), []⟩,
         ⟨none, none, .st 1 (.t 106) (.t 104), []⟩])
       .skip))))
   (.ops 12 [⟨some 107, none, .bin .add (.t 58) (.c (.int .i64 1)), []⟩,
     ⟨some 58, none, .mv (.t 107), []⟩]))))
/-- (*ticketline/descend.Scan).take -/
noncomputable def F48 : AFn := ⟨172, [], (.seq
 (.ops 0 [⟨some 5, none, .box 128 (.t 1) false, []⟩])
 (.seq
  (.ops 1 [⟨some 17, none, .ld 128 true (.t 5), []⟩,
    ⟨some 18, none, .call 103 [.t 17], []⟩,
    ⟨some 16, none, .mv (.t 18), []⟩,
    ⟨some 19, none, .ext (.t 16) 0, []⟩,
    ⟨some 20, none, .ext (.t 16) 1, []⟩,
    ⟨some 8, none, .mv (.t 19), []⟩,
    ⟨some 9, none, .mv (.t 20), []⟩])
  (.seq
   (.ops 2 [⟨some 22, none, .ld 128 true (.t 5), []⟩,
     ⟨some 23, none, .call 104 [.t 22], []⟩,
     ⟨some 21, none, .mv (.t 23), []⟩,
     ⟨some 24, none, .ext (.t 21) 0, []⟩,
     ⟨some 25, none, .ext (.t 21) 1, []⟩,
     ⟨some 26, none, .ext (.t 21) 2, []⟩,
     ⟨some 10, none, .mv (.t 24), []⟩,
     ⟨some 11, none, .mv (.t 25), []⟩,
     ⟨some 12, none, .mv (.t 26), []⟩])
   (.seq
    (.seq
     (.ops 3 [⟨some 27, none, .mv (.t 9), []⟩,
       ⟨some 28, none, .bin .neq (.t 27) (.c (.int .i64 0)), []⟩,
       ⟨some 29, none, .mv (.t 28), []⟩,
       ⟨some 30, some (29, false), .mv (.t 12), []⟩,
       ⟨some 31, some (29, false), .bin .neq (.t 30) (.c (.int .i64 0)), []⟩,
       ⟨some 32, none, .pick (.t 29) (.c (.bool true)) (.t 31), []⟩])
     (.cond (.t 32)
      (.seq
       (.ops 4 [⟨some 33, none, .mv (.t 0), []⟩,
         ⟨some 34, none, .call 47 [.t 33], []⟩])
       .ret)
      .skip))
    (.seq
     (.ops 5 [⟨some 35, none, .mv (.t 0), []⟩,
       ⟨some 36, none, .mv (.t 0), []⟩,
       ⟨some 37, none, .nilc (.t 36) (mok Tryz.prog), []⟩,
       ⟨some 38, none, .fld 11 (.t 37), []⟩,
       ⟨some 39, none, .ld 1 false (.t 38), []⟩,
       ⟨some 40, none, .call 105 [.t 39], []⟩,
       ⟨some 41, none, .mv (.t 2), []⟩,
       ⟨some 42, none, .mv (.t 3), []⟩,
       ⟨some 43, none, .build [.int .i64 0, .int .u64 0] [(0, 1, (.t 41)), (1, 1, (.t 42))], []⟩,
       ⟨some 44, none, .bslice [.int .i64 0, .int .u64 0] 2 1 [(0, (.t 43))] false false, []⟩,
       ⟨some 45, none, .app 2 16 (.t 40) (.t 44) true, []⟩,
       ⟨some 46, none, .nilc (.t 35) (mok Tryz.prog), []⟩,
       ⟨some 47, none, .fld 11 (.t 46), []⟩,
       ⟨none, none, .st 1 (.t 47) (.t 45), []⟩])
     (.seq
      (.ops 6 [⟨some 48, none, .mv (.t 0), []⟩,
        ⟨some 49, none, .mv (.t 0), []⟩,
        ⟨some 50, none, .nilc (.t 49) (mok Tryz.prog), []⟩,
        ⟨some 51, none, .fld 13 (.t 50), []⟩,
        ⟨some 52, none, .ld 1 false (.t 51), []⟩,
        ⟨some 53, none, .call 52 [.t 52], []⟩,
        ⟨some 54, none, .nilc (.t 48) (mok Tryz.prog), []⟩,
        ⟨some 55, none, .fld 13 (.t 54), []⟩,
        ⟨none, none, .st 1 (.t 55) (.t 53), []⟩])
      (.seq
       (.seq
        (.ops 7 [⟨some 56, none, .mv (.t 8), []⟩,
          ⟨some 57, none, .len .slice (.t 56), []⟩,
          ⟨some 58, none, .mv (.c (.int .i64 0)), []⟩])
        (.block 0
         (.loop [] B48x0)))
       (.seq
        (.ops 13 [⟨some 108, none, .ld 128 true (.t 5), []⟩,
          ⟨some 109, none, .call 97 [.t 108], []⟩,
          ⟨some 15, none, .mv (.t 109), []⟩])
        (.seq
         (.seq
          (.ops 14 [⟨some 110, none, .mv (.t 0), []⟩,
            ⟨some 111, none, .nilc (.t 110) (mok Tryz.prog), []⟩,
            ⟨some 112, none, .fld 13 (.t 111), []⟩,
            ⟨some 113, none, .ld 1 false (.t 112), []⟩,
            ⟨some 114, none, .len .slice (.t 113), []⟩,
            ⟨some 115, none, .mv (.t 0), []⟩,
            ⟨some 116, none, .nilc (.t 115) (mok Tryz.prog), []⟩,
            ⟨some 117, none, .fld 4 (.t 116), []⟩,
            ⟨some 118, none, .ld 1 false (.t 117), []⟩,
            ⟨some 119, none, .bin .eql (.t 114) (.t 118), []⟩,
            ⟨some 120, none, .mv (.t 119), []⟩,
            ⟨some 121, some (120, false), .mv (.t 15), []⟩,
            ⟨some 122, some (120, false), .bin .eql (.t 121) (.c (.int .i64 0)), []⟩,
            ⟨some 123, none, .pick (.t 120) (.c (.bool true)) (.t 122), []⟩,
            ⟨some 124, none, .mv (.t 123), []⟩,
            ⟨some 125, some (124, false), .mv (.t 11), []⟩,
            ⟨some 126, some (124, false), .bin .eql (.t 125) (.c (.str [])), []⟩,
            ⟨some 127, none, .pick (.t 124) (.c (.bool true)) (.t 126), []⟩,
            ⟨some 128, none, .mv (.t 127), []⟩,
            ⟨some 129, some (128, false), .mv (.t 0), []⟩,
            ⟨some 130, some (128, false), .nilc (.t 129) (mok Tryz.prog), []⟩,
            ⟨some 131, some (128, false), .fld 3 (.t 130), []⟩,
            ⟨some 132, some (128, false), .ld 1 false (.t 131), []⟩,
            ⟨some 133, some (128, false), .bin .neq (.t 132) (.c (.str [])), []⟩,
            ⟨some 134, some (128, false), .mv (.t 133), []⟩,
            ⟨some 135, some (134, true), .mv (.t 11), []⟩,
            ⟨some 136, some (134, true), .mv (.t 0), []⟩,
            ⟨some 137, some (134, true), .nilc (.t 136) (mok Tryz.prog), []⟩,
            ⟨some 138, some (134, true), .fld 3 (.t 137), []⟩,
            ⟨some 139, some (134, true), .ld 1 false (.t 138), []⟩,
            ⟨some 140, some (134, true), .bin .geq (.t 135) (.t 139), []⟩,
            ⟨some 141, some (128, false), .pick (.t 134) (.t 140) (.c (.bool false)), []⟩,
            ⟨some 142, none, .pick (.t 128) (.c (.bool true)) (.t 141), []⟩])
          (.cond (.t 142)
           (.seq
            (.ops 15 [⟨some 143, none, .mv (.t 0), []⟩,
              ⟨some 144, none, .call 106 [.t 143], []⟩])
            .ret)
           .skip))
         (.seq
          (.ops 16 [⟨some 145, none, .mv (.t 0), []⟩,
            ⟨some 146, none, .mv (.t 0), []⟩,
            ⟨some 147, none, .mv (.t 0), []⟩,
            ⟨some 148, none, .mv (.t 0), []⟩,
            ⟨some 149, none, .mv (.t 11), []⟩,
            ⟨some 150, none, .mv (.t 15), []⟩,
            ⟨some 151, none, .mv (.t 0), []⟩,
            ⟨some 152, none, .nilc (.t 151) (mok Tryz.prog), []⟩,
            ⟨some 153, none, .fld 0 (.t 152), []⟩,
            ⟨some 154, none, .ld 2 true (.t 153), []⟩,
            ⟨some 155, none, .mv (.t 15), []⟩,
            ⟨some 156, none, .call 107 [.t 154, .t 155], []⟩,
            ⟨some 157, none, .nilc (.t 145) (mok Tryz.prog), []⟩,
            ⟨some 158, none, .fld 10 (.t 157), []⟩,
            ⟨none, none, .st 1 (.t 158) (.t 149), []⟩,
            ⟨some 159, none, .nilc (.t 146) (mok Tryz.prog), []⟩,
            ⟨some 160, none, .fld 9 (.t 159), []⟩,
            ⟨none, none, .st 1 (.t 160) (.t 150), []⟩,
            ⟨some 161, none, .nilc (.t 147) (mok Tryz.prog), []⟩,
            ⟨some 162, none, .fld 8 (.t 161), []⟩,
            ⟨none, none, .st 1 (.t 162) (.t 156), []⟩,
            ⟨some 163, none, .nilc (.t 148) (mok Tryz.prog), []⟩,
            ⟨some 164, none, .fld 14 (.t 163), []⟩,
            ⟨none, none, .st 1 (.t 164) (.c (.int .i64 2)), []⟩])
          (.seq
           (.ops 17 [⟨some 165, none, .mv (.t 0), []⟩,
             ⟨some 166, none, .nilc (.t 165) (mok Tryz.prog), []⟩,
             ⟨some 167, none, .fld 8 (.t 166), []⟩,
             ⟨some 168, none, .ld 1 false (.t 167), []⟩,
             ⟨some 169, none, .eqn .ptr false (.t 168), []⟩])
           (.cond (.t 169)
            (.ops 18 [⟨some 170, none, .mv (.t 0), []⟩,
              ⟨some 171, none, .call 47 [.t 170], []⟩])
            .skip))))))))))))⟩
theorem F48_code : cfgA.code 48 = some F48 := by kernel_rfl

/-- (*ticketline/descend.Scan).over -/
noncomputable def F50 : AFn := ⟨13, [.tmp 2], (.seq
 (.ops 0 [⟨some 2, none, .mv (.c (.bool false)), []⟩])
 (.seq
  (.ops 1 [⟨some 3, none, .mv (.t 0), []⟩,
    ⟨some 4, none, .call 45 [.t 3], []⟩,
    ⟨some 5, none, .un .not (.t 4), []⟩,
    ⟨some 6, none, .mv (.t 5), []⟩,
    ⟨some 7, some (6, true), .mv (.t 0), []⟩,
    ⟨some 8, some (6, true), .nilc (.t 7) (mok Tryz.prog), []⟩,
    ⟨some 9, some (6, true), .fld 14 (.t 8), []⟩,
    ⟨some 10, some (6, true), .ld 1 false (.t 9), []⟩,
    ⟨some 11, some (6, true), .bin .eql (.t 10) (.c (.int .i64 4)), []⟩,
    ⟨some 12, none, .pick (.t 6) (.t 11) (.c (.bool false)), []⟩,
    ⟨some 2, none, .mv (.t 12), []⟩])
  .ret))⟩
theorem F50_code : cfgA.code 50 = some F50 := by kernel_rfl

/-- slices.Clone[[]ticketline/api.Pair,ticketline/api.Pair] -/
noncomputable def F52 : AFn := ⟨8, [.tmp 2], (.seq
 (.ops 0 [⟨some 2, none, .mv (.c (.nils)), []⟩])
 (.seq
  (.seq
   (.ops 1 [⟨some 3, none, .mv (.t 0), []⟩,
     ⟨some 4, none, .eqn .slice false (.t 3), []⟩])
   (.cond (.t 4)
    (.seq
     (.ops 2 [⟨some 2, none, .mv (.c (.nils)), []⟩])
     .ret)
    .skip))
  (.seq
   (.ops 3 [⟨some 5, none, .bslice [.str [], .str []] 2 0 [] false false, []⟩,
     ⟨some 6, none, .mv (.t 0), []⟩,
     ⟨some 7, none, .app 2 32 (.t 5) (.t 6) true, []⟩,
     ⟨some 2, none, .mv (.t 7), []⟩])
   .ret)))⟩
theorem F52_code : cfgA.code 52 = some F52 := by kernel_rfl

/-- ticketline/descend.valid -/
noncomputable def F53 : AFn := ⟨21, [.tmp 2], (.seq
 (.ops 0 [⟨some 1, none, .box 2 (.t 0) false, []⟩,
   ⟨some 2, none, .mv (.c (.bool false)), []⟩])
 (.seq
  (.ops 1 [⟨some 3, none, .fld 0 (.t 1), []⟩,
    ⟨some 4, none, .ld 1 false (.t 3), []⟩,
    ⟨some 5, none, .bin .geq (.t 4) (.c (.int .i64 1)), []⟩,
    ⟨some 6, none, .mv (.t 5), []⟩,
    ⟨some 7, some (6, true), .fld 0 (.t 1), []⟩,
    ⟨some 8, some (6, true), .ld 1 false (.t 7), []⟩,
    ⟨some 9, some (6, true), .bin .leq (.t 8) (.c (.int .i64 511)), []⟩,
    ⟨some 10, none, .pick (.t 6) (.t 9) (.c (.bool false)), []⟩,
    ⟨some 11, none, .mv (.t 10), []⟩,
    ⟨some 12, some (11, true), .fld 1 (.t 1), []⟩,
    ⟨some 13, some (11, true), .ld 1 false (.t 12), []⟩,
    ⟨some 14, some (11, true), .bin .geq (.t 13) (.c (.int .i64 1)), []⟩,
    ⟨some 15, none, .pick (.t 11) (.t 14) (.c (.bool false)), []⟩,
    ⟨some 16, none, .mv (.t 15), []⟩,
    ⟨some 17, some (16, true), .fld 1 (.t 1), []⟩,
    ⟨some 18, some (16, true), .ld 1 false (.t 17), []⟩,
    ⟨some 19, some (16, true), .bin .leq (.t 18) (.c (.int .i64 17)), []⟩,
    ⟨some 20, none, .pick (.t 16) (.t 19) (.c (.bool false)), []⟩,
    ⟨some 2, none, .mv (.t 20), []⟩])
  .ret))⟩
theorem F53_code : cfgA.code 53 = some F53 := by kernel_rfl

/-- ticketline/keys.ValidKey -/
noncomputable def F54 : AFn := ⟨11, [.tmp 2], (.seq
 (.ops 0 [⟨some 2, none, .mv (.c (.bool false)), []⟩])
 (.seq
  (.ops 1 [⟨some 3, none, .mv (.t 0), []⟩,
    ⟨some 4, none, .len .string (.t 3), []⟩,
    ⟨some 5, none, .bin .geq (.t 4) (.c (.int .i64 1)), []⟩,
    ⟨some 6, none, .mv (.t 5), []⟩,
    ⟨some 7, some (6, true), .mv (.t 0), []⟩,
    ⟨some 8, some (6, true), .len .string (.t 7), []⟩,
    ⟨some 9, some (6, true), .bin .leq (.t 8) (.c (.int .i64 24)), []⟩,
    ⟨some 10, none, .pick (.t 6) (.t 9) (.c (.bool false)), []⟩,
    ⟨some 2, none, .mv (.t 10), []⟩])
  .ret))⟩
theorem F54_code : cfgA.code 54 = some F54 := by kernel_rfl

/-- ticketline/descend.readRoot -/
noncomputable def F55 : AFn := ⟨8, [.tmp 0], (.seq
 (.ops 0 [⟨some 0, none, .mv (.c (.nilp)), []⟩])
 (.seq
  (.ops 1 [⟨some 4, none, .call 109 [.c (.int .i64 11), .c (.int .i64 3), .c (.int .i64 1), .c (.int .i64 2)], []⟩,
    ⟨some 3, none, .mv (.t 4), []⟩,
    ⟨some 5, none, .ext (.t 3) 0, []⟩,
    ⟨some 6, none, .ext (.t 3) 1, []⟩,
    ⟨some 1, none, .mv (.t 5), []⟩,
    ⟨some 2, none, .mv (.t 6), []⟩])
  (.seq
   (.ops 2 [⟨some 7, none, .mv (.t 1), []⟩,
     ⟨some 0, none, .mv (.t 7), []⟩])
   .ret)))⟩
theorem F55_code : cfgA.code 55 = some F55 := by kernel_rfl

/-- ticketline/ticketlinelaw27.word -/
noncomputable def F56 : AFn := ⟨22, [.tmp 6], (.seq
 (.ops 0 [⟨some 3, none, .box 2 (.t 0) false, []⟩,
   ⟨some 6, none, .mv (.c (.bool false)), []⟩])
 (.seq
  (.ops 1 [⟨some 10, none, .ld 2 true (.t 3), []⟩,
    ⟨some 11, none, .call 110 [.t 10], []⟩,
    ⟨some 9, none, .mv (.t 11), []⟩,
    ⟨some 12, none, .ext (.t 9) 0, []⟩,
    ⟨some 13, none, .ext (.t 9) 1, []⟩,
    ⟨some 7, none, .mv (.t 12), []⟩,
    ⟨some 8, none, .mv (.t 13), []⟩])
  (.seq
   (.ops 2 [⟨some 14, none, .mv (.t 7), []⟩,
     ⟨some 15, none, .mv (.t 1), []⟩,
     ⟨some 16, none, .bin .eql (.t 14) (.t 15), []⟩,
     ⟨some 17, none, .mv (.t 16), []⟩,
     ⟨some 18, some (17, true), .mv (.t 8), []⟩,
     ⟨some 19, some (17, true), .mv (.t 2), []⟩,
     ⟨some 20, some (17, true), .bin .eql (.t 18) (.t 19), []⟩,
     ⟨some 21, none, .pick (.t 17) (.t 20) (.c (.bool false)), []⟩,
     ⟨some 6, none, .mv (.t 21), []⟩])
   .ret)))⟩
theorem F56_code : cfgA.code 56 = some F56 := by kernel_rfl

/-- ticketline/ticketlinelaw27.at -/
noncomputable def F57 : AFn := ⟨60, [.tmp 8], (.seq
 (.ops 0 [⟨some 4, none, .box 2 (.t 0) false, []⟩,
   ⟨some 8, none, .mv (.c (.bool false)), []⟩])
 (.seq
  (.ops 1 [⟨some 14, none, .ld 2 true (.t 4), []⟩,
    ⟨some 15, none, .mv (.t 1), []⟩,
    ⟨some 16, none, .call 111 [.t 14, .t 15], []⟩,
    ⟨some 13, none, .mv (.t 16), []⟩,
    ⟨some 17, none, .ext (.t 13) 0, []⟩,
    ⟨some 18, none, .ext (.t 13) 1, []⟩,
    ⟨some 9, none, .mv (.t 17), []⟩,
    ⟨some 10, none, .mv (.t 18), []⟩])
  (.seq
   (.ops 2 [⟨some 20, none, .ld 2 true (.t 4), []⟩,
     ⟨some 21, none, .mv (.t 1), []⟩,
     ⟨some 22, none, .call 101 [.t 20, .t 21], []⟩,
     ⟨some 19, none, .mv (.t 22), []⟩,
     ⟨some 23, none, .ext (.t 19) 0, []⟩,
     ⟨some 24, none, .ext (.t 19) 1, []⟩,
     ⟨some 11, none, .mv (.t 23), []⟩,
     ⟨some 12, none, .mv (.t 24), []⟩])
   (.seq
    (.seq
     (.ops 3 [⟨some 25, none, .mv (.t 3), []⟩,
       ⟨some 26, none, .bin .neq (.t 25) (.c (.int .i64 0)), []⟩])
     (.cond (.t 26)
      (.seq
       (.ops 4 [⟨some 27, none, .mv (.t 9), []⟩,
         ⟨some 28, none, .bin .eql (.t 27) (.c (.int .i64 0)), []⟩,
         ⟨some 29, none, .mv (.t 28), []⟩,
         ⟨some 30, some (29, true), .mv (.t 11), []⟩,
         ⟨some 31, some (29, true), .bin .eql (.t 30) (.c (.int .i64 0)), []⟩,
         ⟨some 32, none, .pick (.t 29) (.t 31) (.c (.bool false)), []⟩,
         ⟨some 33, none, .mv (.t 32), []⟩,
         ⟨some 34, some (33, true), .mv (.t 10), []⟩,
         ⟨some 35, some (33, true), .mv (.t 3), []⟩,
         ⟨some 36, some (33, true), .bin .eql (.t 34) (.t 35), []⟩,
         ⟨some 37, none, .pick (.t 33) (.t 36) (.c (.bool false)), []⟩,
         ⟨some 38, none, .mv (.t 37), []⟩,
         ⟨some 39, some (38, true), .mv (.t 12), []⟩,
         ⟨some 40, some (38, true), .mv (.t 3), []⟩,
         ⟨some 41, some (38, true), .bin .eql (.t 39) (.t 40), []⟩,
         ⟨some 42, none, .pick (.t 38) (.t 41) (.c (.bool false)), []⟩,
         ⟨some 8, none, .mv (.t 42), []⟩])
       .ret)
      .skip))
    (.seq
     (.ops 5 [⟨some 43, none, .mv (.t 9), []⟩,
       ⟨some 44, none, .mv (.t 2), []⟩,
       ⟨some 45, none, .bin .eql (.t 43) (.t 44), []⟩,
       ⟨some 46, none, .mv (.t 45), []⟩,
       ⟨some 47, some (46, true), .mv (.t 11), []⟩,
       ⟨some 48, some (46, true), .mv (.t 2), []⟩,
       ⟨some 49, some (46, true), .bin .add (.t 48) (.c (.int .i64 3)), []⟩,
       ⟨some 50, some (46, true), .bin .eql (.t 47) (.t 49), []⟩,
       ⟨some 51, none, .pick (.t 46) (.t 50) (.c (.bool false)), []⟩,
       ⟨some 52, none, .mv (.t 51), []⟩,
       ⟨some 53, some (52, true), .mv (.t 10), []⟩,
       ⟨some 54, some (52, true), .bin .eql (.t 53) (.c (.int .i64 0)), []⟩,
       ⟨some 55, none, .pick (.t 52) (.t 54) (.c (.bool false)), []⟩,
       ⟨some 56, none, .mv (.t 55), []⟩,
       ⟨some 57, some (56, true), .mv (.t 12), []⟩,
       ⟨some 58, some (56, true), .bin .eql (.t 57) (.c (.int .i64 0)), []⟩,
       ⟨some 59, none, .pick (.t 56) (.t 58) (.c (.bool false)), []⟩,
       ⟨some 8, none, .mv (.t 59), []⟩])
     .ret)))))⟩
theorem F57_code : cfgA.code 57 = some F57 := by kernel_rfl

/-- ticketline/descend.Format -/
noncomputable def F58 : AFn := ⟨61, [.tmp 2, .tmp 3], (.seq
 (.ops 0 [⟨some 1, none, .box 2 (.t 0) false, []⟩,
   ⟨some 2, none, .mv (.c (.nilp)), []⟩,
   ⟨some 3, none, .mv (.c (.int .i64 0)), []⟩])
 (.seq
  (.ops 1 [⟨some 12, none, .ld 2 true (.t 1), []⟩,
    ⟨some 13, none, .call 110 [.t 12], []⟩,
    ⟨some 11, none, .mv (.t 13), []⟩,
    ⟨some 14, none, .ext (.t 11) 0, []⟩,
    ⟨some 15, none, .ext (.t 11) 1, []⟩,
    ⟨some 4, none, .mv (.t 14), []⟩,
    ⟨some 5, none, .mv (.t 15), []⟩])
  (.seq
   (.seq
    (.ops 2 [⟨some 16, none, .mv (.t 5), []⟩,
      ⟨some 17, none, .bin .neq (.t 16) (.c (.int .i64 0)), []⟩])
    (.cond (.t 17)
     (.seq
      (.ops 3 [⟨some 18, none, .mv (.t 5), []⟩,
        ⟨some 2, none, .mv (.c (.nilp)), []⟩,
        ⟨some 3, none, .mv (.t 18), []⟩])
      .ret)
     .skip))
   (.seq
    (.ops 4 [⟨some 20, none, .mv (.t 4), []⟩,
      ⟨some 21, none, .call 5 [.t 20], []⟩,
      ⟨some 19, none, .mv (.t 21), []⟩,
      ⟨some 22, none, .ext (.t 19) 0, []⟩,
      ⟨some 23, none, .ext (.t 19) 1, []⟩,
      ⟨some 6, none, .mv (.t 22), []⟩,
      ⟨some 5, none, .mv (.t 23), []⟩])
    (.seq
     (.seq
      (.ops 5 [⟨some 24, none, .mv (.t 5), []⟩,
        ⟨some 25, none, .bin .neq (.t 24) (.c (.int .i64 0)), []⟩])
      (.cond (.t 25)
       (.seq
        (.ops 6 [⟨some 26, none, .mv (.t 5), []⟩,
          ⟨some 2, none, .mv (.c (.nilp)), []⟩,
          ⟨some 3, none, .mv (.t 26), []⟩])
        .ret)
       .skip))
     (.seq
      (.ops 7 [⟨some 28, none, .mv (.t 6), []⟩,
        ⟨some 29, none, .fld 0 (.t 1), []⟩,
        ⟨some 30, none, .ld 1 false (.t 29), []⟩,
        ⟨some 31, none, .call 112 [.t 28, .t 30], []⟩,
        ⟨some 27, none, .mv (.t 31), []⟩,
        ⟨some 32, none, .ext (.t 27) 0, []⟩,
        ⟨some 33, none, .ext (.t 27) 1, []⟩,
        ⟨some 7, none, .mv (.t 32), []⟩,
        ⟨some 5, none, .mv (.t 33), []⟩])
      (.seq
       (.seq
        (.ops 8 [⟨some 34, none, .mv (.t 5), []⟩,
          ⟨some 35, none, .bin .neq (.t 34) (.c (.int .i64 0)), []⟩])
        (.cond (.t 35)
         (.seq
          (.ops 9 [⟨some 36, none, .mv (.t 5), []⟩,
            ⟨some 2, none, .mv (.c (.nilp)), []⟩,
            ⟨some 3, none, .mv (.t 36), []⟩])
          .ret)
         .skip))
       (.seq
        (.ops 10 [⟨some 38, none, .call 113 [.c (.int .i64 0), .c (.str []), .c (.str [])], []⟩,
          ⟨some 37, none, .mv (.t 38), []⟩,
          ⟨some 39, none, .ext (.t 37) 0, []⟩,
          ⟨some 40, none, .ext (.t 37) 1, []⟩,
          ⟨some 8, none, .alloc (List.replicate 128 (.int .u64 0)) false, []⟩,
          ⟨none, none, .st 128 (.t 8) (.t 39), []⟩,
          ⟨some 5, none, .mv (.t 40), []⟩])
        (.seq
         (.seq
          (.ops 11 [⟨some 41, none, .mv (.t 5), []⟩,
            ⟨some 42, none, .bin .neq (.t 41) (.c (.int .i64 0)), []⟩])
          (.cond (.t 42)
           (.seq
            (.ops 12 [⟨some 43, none, .mv (.t 5), []⟩,
              ⟨some 2, none, .mv (.c (.nilp)), []⟩,
              ⟨some 3, none, .mv (.t 43), []⟩])
            .ret)
           .skip))
         (.seq
          (.ops 13 [⟨some 45, none, .mv (.t 7), []⟩,
            ⟨some 46, none, .ld 128 true (.t 8), []⟩,
            ⟨some 47, none, .call 114 [.t 45, .t 46], []⟩,
            ⟨some 44, none, .mv (.t 47), []⟩,
            ⟨some 48, none, .ext (.t 44) 0, []⟩,
            ⟨some 49, none, .ext (.t 44) 1, []⟩,
            ⟨some 9, none, .mv (.t 48), []⟩,
            ⟨some 5, none, .mv (.t 49), []⟩])
          (.seq
           (.seq
            (.ops 14 [⟨some 50, none, .mv (.t 5), []⟩,
              ⟨some 51, none, .bin .neq (.t 50) (.c (.int .i64 0)), []⟩])
            (.cond (.t 51)
             (.seq
              (.ops 15 [⟨some 52, none, .mv (.t 5), []⟩,
                ⟨some 2, none, .mv (.c (.nilp)), []⟩,
                ⟨some 3, none, .mv (.t 52), []⟩])
              .ret)
             .skip))
           (.seq
            (.seq
             (.ops 16 [⟨some 53, none, .mv (.t 7), []⟩,
               ⟨some 54, none, .mv (.t 9), []⟩,
               ⟨some 55, none, .call 115 [.t 53, .t 54], []⟩,
               ⟨some 10, none, .mv (.t 55), []⟩])
             (.seq
              (.ops 17 [⟨some 56, none, .mv (.t 10), []⟩,
                ⟨some 57, none, .bin .neq (.t 56) (.c (.int .i64 0)), []⟩])
              (.cond (.t 57)
               (.seq
                (.ops 18 [⟨some 58, none, .mv (.t 10), []⟩,
                  ⟨some 2, none, .mv (.c (.nilp)), []⟩,
                  ⟨some 3, none, .mv (.t 58), []⟩])
                .ret)
               .skip)))
            (.seq
             (.ops 19 [⟨some 59, none, .mv (.t 7), []⟩,
               ⟨some 60, none, .call 116 [.t 59], []⟩,
               ⟨some 2, none, .mv (.t 60), []⟩,
               ⟨some 3, none, .mv (.c (.int .i64 0)), []⟩])
             .ret)))))))))))))⟩
theorem F58_code : cfgA.code 58 = some F58 := by kernel_rfl

/-- ticketline/descend.NewScan -/
noncomputable def F59 : AFn := ⟨52, [.tmp 10, .tmp 11], (.seq
 (.ops 0 [⟨some 5, none, .box 2 (.t 0) false, []⟩,
   ⟨some 10, none, .mv (.c (.nilp)), []⟩,
   ⟨some 11, none, .mv (.c (.int .i64 0)), []⟩])
 (.seq
  (.seq
   (.ops 1 [⟨some 13, none, .ld 2 true (.t 5), []⟩,
     ⟨some 14, none, .call 53 [.t 13], []⟩,
     ⟨some 15, none, .un .not (.t 14), []⟩,
     ⟨some 16, none, .mv (.t 15), []⟩,
     ⟨some 17, some (16, false), .mv (.t 1), []⟩,
     ⟨some 18, some (16, false), .len .string (.t 17), []⟩,
     ⟨some 19, some (16, false), .bin .gtr (.t 18) (.c (.int .i64 24)), []⟩,
     ⟨some 20, none, .pick (.t 16) (.c (.bool true)) (.t 19), []⟩,
     ⟨some 21, none, .mv (.t 20), []⟩,
     ⟨some 22, some (21, false), .mv (.t 2), []⟩,
     ⟨some 23, some (21, false), .len .string (.t 22), []⟩,
     ⟨some 24, some (21, false), .bin .gtr (.t 23) (.c (.int .i64 24)), []⟩,
     ⟨some 25, none, .pick (.t 21) (.c (.bool true)) (.t 24), []⟩,
     ⟨some 26, none, .mv (.t 25), []⟩,
     ⟨some 27, some (26, false), .mv (.t 3), []⟩,
     ⟨some 28, some (26, false), .bin .lss (.t 27) (.c (.int .i64 1)), []⟩,
     ⟨some 29, none, .pick (.t 26) (.c (.bool true)) (.t 28), []⟩,
     ⟨some 30, none, .mv (.t 29), []⟩,
     ⟨some 31, some (30, false), .mv (.t 3), []⟩,
     ⟨some 32, some (30, false), .bin .gtr (.t 31) (.c (.int .i64 32)), []⟩,
     ⟨some 33, none, .pick (.t 30) (.c (.bool true)) (.t 32), []⟩,
     ⟨some 34, none, .mv (.t 33), []⟩,
     ⟨some 35, some (34, false), .mv (.t 4), []⟩,
     ⟨some 36, some (34, false), .bin .lss (.t 35) (.c (.int .i64 0)), []⟩,
     ⟨some 37, none, .pick (.t 34) (.c (.bool true)) (.t 36), []⟩,
     ⟨some 38, none, .mv (.t 37), []⟩,
     ⟨some 39, some (38, false), .mv (.t 4), []⟩,
     ⟨some 40, some (38, false), .bin .gtr (.t 39) (.c (.int .i64 64)), []⟩,
     ⟨some 41, none, .pick (.t 38) (.c (.bool true)) (.t 40), []⟩])
   (.cond (.t 41)
    (.seq
     (.ops 2 [⟨some 10, none, .mv (.c (.nilp)), []⟩,
       ⟨some 11, none, .mv (.c (.int .i64 2)), []⟩])
     .ret)
    .skip))
  (.seq
   (.ops 3 [⟨some 42, none, .ld 2 true (.t 5), []⟩,
     ⟨some 43, none, .mv (.t 1), []⟩,
     ⟨some 44, none, .mv (.t 2), []⟩,
     ⟨some 45, none, .mv (.t 3), []⟩,
     ⟨some 46, none, .mv (.t 4), []⟩,
     ⟨some 47, none, .build [.int .i64 0, .int .i64 0, .str [], .str [], .int .i64 0, .int .i64 0, .int .i64 0, .nilp, .nilp, .int .i64 0, .str [], .nils, .int .i64 0, .nils, .int .i64 0, .bool false] [(0, 2, (.t 42)), (2, 1, (.t 43)), (3, 1, (.t 44)), (4, 1, (.t 45)), (5, 1, (.t 46))], []⟩,
     ⟨some 48, none, .box 16 (.t 47) true, []⟩,
     ⟨some 12, none, .mv (.t 48), []⟩])
   (.seq
    (.ops 4 [⟨some 49, none, .mv (.t 12), []⟩,
      ⟨some 50, none, .call 102 [.t 49], []⟩])
    (.seq
     (.ops 5 [⟨some 51, none, .mv (.t 12), []⟩,
       ⟨some 10, none, .mv (.t 51), []⟩,
       ⟨some 11, none, .mv (.c (.int .i64 0)), []⟩])
     .ret)))))⟩
theorem F59_code : cfgA.code 59 = some F59 := by kernel_rfl

/-- ticketline/ticketlinelaw27.steps: the round 0 -/
noncomputable def B60x0 : AC := (.seq
 (.seq
  (.ops 2 [⟨some 13, none, .mv (.t 8), []⟩,
    ⟨some 14, none, .mv (.t 2), []⟩,
    ⟨some 15, none, .bin .lss (.t 13) (.t 14), []⟩,
    ⟨some 16, none, .mv (.t 15), []⟩,
    ⟨some 17, some (16, true), .mv (.t 0), []⟩,
    ⟨some 18, some (16, true), .invk (.t 17) "Done" [], []⟩,
    ⟨some 19, some (16, true), .un .not (.t 18), []⟩,
    ⟨some 20, none, .pick (.t 16) (.t 19) (.c (.bool false)), []⟩])
  (.cond (.t 20)
   .skip
   (.exit 0)))
 (.seq
  (.block 1
   (.seq
    (.ops 4 [⟨some 24, none, .mv (.t 1), []⟩,
      ⟨some 25, none, .call 117 [.t 24], []⟩,
      ⟨some 23, none, .mv (.t 25), []⟩,
      ⟨some 26, none, .ext (.t 23) 0, []⟩,
      ⟨some 27, none, .ext (.t 23) 1, []⟩,
      ⟨some 9, none, .mv (.t 26), []⟩,
      ⟨some 10, none, .mv (.t 27), []⟩])
    (.seq
     (.seq
      (.ops 5 [⟨some 28, none, .mv (.t 10), []⟩,
        ⟨some 29, none, .bin .neq (.t 28) (.c (.int .i64 0)), []⟩])
      (.cond (.t 29)
       (.seq
        (.ops 6 [⟨some 30, none, .mv (.t 7), []⟩,
          ⟨some 6, none, .mv (.c (.bool false)), []⟩,
          ⟨some 7, none, .mv (.t 30), []⟩])
        .ret)
       .skip))
     (.seq
      (.ops 7 [⟨some 32, none, .mv (.t 0), []⟩,
        ⟨some 33, none, .mv (.t 9), []⟩,
        ⟨some 34, none, .mki 154 (.t 33), []⟩,
        ⟨some 35, none, .invk (.t 32) "Step" [.t 34], []⟩,
        ⟨some 31, none, .mv (.t 35), []⟩,
        ⟨some 36, none, .ext (.t 31) 0, []⟩,
        ⟨some 37, none, .ext (.t 31) 1, []⟩,
        ⟨some 11, none, .mv (.t 36), []⟩,
        ⟨some 10, none, .mv (.t 37), []⟩])
      (.seq
       (.seq
        (.ops 8 [⟨some 38, none, .mv (.t 9), []⟩,
          ⟨some 39, none, .call 118 [.t 38], []⟩,
          ⟨some 40, none, .fdv 0 1 false (.t 39), []⟩,
          ⟨some 12, none, .mv (.t 40), []⟩])
        (.seq
         (.ops 9 [⟨some 41, none, .mv (.t 10), []⟩,
           ⟨some 42, none, .bin .neq (.t 41) (.c (.int .i64 0)), []⟩,
           ⟨some 43, none, .mv (.t 42), []⟩,
           ⟨some 44, some (43, false), .mv (.t 12), []⟩,
           ⟨some 45, some (43, false), .bin .neq (.t 44) (.c (.int .i64 1)), []⟩,
           ⟨some 46, some (43, false), .mv (.t 45), []⟩,
           ⟨some 47, some (46, true), .mv (.t 12), []⟩,
           ⟨some 48, some (46, true), .bin .neq (.t 47) (.c (.int .i64 0)), []⟩,
           ⟨some 49, some (43, false), .pick (.t 46) (.t 48) (.c (.bool false)), []⟩,
           ⟨some 50, none, .pick (.t 43) (.c (.bool true)) (.t 49), []⟩])
         (.cond (.t 50)
          (.seq
           (.ops 10 [⟨some 51, none, .mv (.t 7), []⟩,
             ⟨some 6, none, .mv (.c (.bool false)), []⟩,
             ⟨some 7, none, .mv (.t 51), []⟩])
           .ret)
          .skip)))
       (.ops 11 [⟨some 52, none, .mv (.t 7), []⟩,
         ⟨some 53, none, .mv (.t 52), []⟩,
         ⟨some 54, some (53, false), .mv (.t 11), []⟩,
         ⟨some 55, none, .pick (.t 53) (.c (.bool true)) (.t 54), []⟩,
         ⟨some 7, none, .mv (.t 55), []⟩]))))))
  (.ops 3 [⟨some 21, none, .mv (.t 8), []⟩,
    ⟨some 22, none, .bin .add (.t 21) (.c (.int .i64 1)), []⟩,
    ⟨some 8, none, .mv (.t 22), []⟩])))
/-- ticketline/ticketlinelaw27.steps -/
noncomputable def F60 : AFn := ⟨59, [.tmp 6, .tmp 7], (.seq
 (.ops 0 [⟨some 6, none, .mv (.c (.bool false)), []⟩,
   ⟨some 7, none, .mv (.c (.bool false)), []⟩])
 (.seq
  (.seq
   (.ops 1 [⟨some 8, none, .mv (.c (.int .i64 0)), []⟩])
   (.block 0
    (.loop [] B60x0)))
  (.seq
   (.ops 12 [⟨some 56, none, .mv (.t 0), []⟩,
     ⟨some 57, none, .invk (.t 56) "Done" [], []⟩,
     ⟨some 58, none, .mv (.t 7), []⟩,
     ⟨some 6, none, .mv (.t 57), []⟩,
     ⟨some 7, none, .mv (.t 58), []⟩])
   .ret)))⟩
theorem F60_code : cfgA.code 60 = some F60 := by kernel_rfl

/-- ticketline/slot.Len -/
noncomputable def F61 : AFn := ⟨11, [.tmp 2], (.seq
 (.ops 0 [⟨some 1, none, .box 128 (.t 0) false, []⟩,
   ⟨some 2, none, .mv (.c (.int .i64 0)), []⟩])
 (.seq
  (.ops 1 [⟨some 6, none, .call 119 [.t 1], []⟩,
    ⟨some 5, none, .mv (.t 6), []⟩,
    ⟨some 7, none, .ext (.t 5) 0, []⟩,
    ⟨some 8, none, .ext (.t 5) 1, []⟩,
    ⟨some 3, none, .mv (.t 7), []⟩,
    ⟨some 4, none, .mv (.t 8), []⟩])
  (.seq
   (.ops 2 [⟨some 9, none, .mv (.t 3), []⟩,
     ⟨some 10, none, .len .slice (.t 9), []⟩,
     ⟨some 2, none, .mv (.t 10), []⟩])
   .ret)))⟩
theorem F61_code : cfgA.code 61 = some F61 := by kernel_rfl

/-- (*ticketline/mem.Mem).Store -/
noncomputable def F62 : AFn := ⟨18, [.tmp 6], (.seq
 (.ops 0 [⟨some 6, none, .mv (.c (.int .i64 0)), []⟩])
 (.seq
  (.ops 1 [⟨some 10, none, .mv (.t 0), []⟩,
    ⟨some 11, none, .mv (.t 1), []⟩,
    ⟨some 12, none, .mv (.t 2), []⟩,
    ⟨some 13, none, .build [.int .i64 0, .int .i64 0, .int .u64 0, .int .u64 0] [(0, 1, (.c (.int .i64 2))), (1, 1, (.t 11)), (3, 1, (.t 12))], []⟩,
    ⟨some 14, none, .call 120 [.t 10, .t 13], []⟩,
    ⟨some 9, none, .mv (.t 14), []⟩,
    ⟨some 15, none, .ext (.t 9) 0, []⟩,
    ⟨some 16, none, .ext (.t 9) 1, []⟩,
    ⟨some 7, none, .alloc [.int .i64 0, .int .i64 0, .int .u64 0, .int .u64 0] false, []⟩,
    ⟨none, none, .st 4 (.t 7) (.t 15), []⟩,
    ⟨some 8, none, .mv (.t 16), []⟩])
  (.seq
   (.ops 2 [⟨some 17, none, .mv (.t 8), []⟩,
     ⟨some 6, none, .mv (.t 17), []⟩])
   .ret)))⟩
theorem F62_code : cfgA.code 62 = some F62 := by kernel_rfl

/-- (*ticketline/mem.Mem).Len -/
noncomputable def F63 : AFn := ⟨10, [.tmp 2], (.seq
 (.ops 0 [⟨some 2, none, .mv (.c (.int .i64 0)), []⟩])
 (.seq
  (.seq
   (.ops 1 [⟨some 3, none, .mv (.t 0), []⟩,
     ⟨some 4, none, .call 121 [.t 3], []⟩])
   (.cond (.t 4)
    (.seq
     (.ops 2 [⟨some 2, none, .mv (.c (.int .i64 0)), []⟩])
     .ret)
    .skip))
  (.seq
   (.ops 3 [⟨some 5, none, .mv (.t 0), []⟩,
     ⟨some 6, none, .nilc (.t 5) (mok Tryz.prog), []⟩,
     ⟨some 7, none, .fld 0 (.t 6), []⟩,
     ⟨some 8, none, .ld 1 false (.t 7), []⟩,
     ⟨some 9, none, .len .slice (.t 8), []⟩,
     ⟨some 2, none, .mv (.t 9), []⟩])
   .ret)))⟩
theorem F63_code : cfgA.code 63 = some F63 := by kernel_rfl

/-- ticketline/version.Even -/
noncomputable def F90 : AFn := ⟨6, [.tmp 2], (.seq
 (.ops 0 [⟨some 2, none, .mv (.c (.bool false)), []⟩])
 (.seq
  (.ops 1 [⟨some 3, none, .mv (.t 0), []⟩,
    ⟨some 4, none, .bin .rem (.t 3) (.c (.int .u64 2)), []⟩,
    ⟨some 5, none, .bin .eql (.t 4) (.c (.int .u64 0)), []⟩,
    ⟨some 2, none, .mv (.t 5), []⟩])
  .ret))⟩
theorem F90_code : cfgA.code 90 = some F90 := by kernel_rfl

/-- (*ticketline/version.Read).Words -/
noncomputable def F91 : AFn := ⟨11, [.tmp 2], (.seq
 (.ops 0 [⟨some 2, none, .mv (.c (.nils)), []⟩])
 (.seq
  (.seq
   (.ops 1 [⟨some 3, none, .mv (.t 0), []⟩,
     ⟨some 4, none, .call 92 [.t 3], []⟩,
     ⟨some 5, none, .bin .eql (.t 4) (.c (.int .u64 0)), []⟩])
   (.cond (.t 5)
    (.seq
     (.ops 2 [⟨some 2, none, .mv (.c (.nils)), []⟩])
     .ret)
    .skip))
  (.seq
   (.ops 3 [⟨some 6, none, .mv (.t 0), []⟩,
     ⟨some 7, none, .nilc (.t 6) (mok Tryz.prog), []⟩,
     ⟨some 8, none, .fld 7 (.t 7), []⟩,
     ⟨some 9, none, .ld 1 false (.t 8), []⟩,
     ⟨some 10, none, .call 139 [.t 9], []⟩,
     ⟨some 2, none, .mv (.t 10), []⟩])
   .ret)))⟩
theorem F91_code : cfgA.code 91 = some F91 := by kernel_rfl

/-- (*ticketline/version.Read).Result -/
noncomputable def F92 : AFn := ⟨9, [.tmp 2], (.seq
 (.ops 0 [⟨some 2, none, .mv (.c (.int .u64 0)), []⟩])
 (.seq
  (.seq
   (.ops 1 [⟨some 3, none, .mv (.t 0), []⟩,
     ⟨some 4, none, .eqn .ptr false (.t 3), []⟩])
   (.cond (.t 4)
    (.seq
     (.ops 2 [⟨some 2, none, .mv (.c (.int .u64 0)), []⟩])
     .ret)
    .skip))
  (.seq
   (.ops 3 [⟨some 5, none, .mv (.t 0), []⟩,
     ⟨some 6, none, .nilc (.t 5) (mok Tryz.prog), []⟩,
     ⟨some 7, none, .fld 8 (.t 6), []⟩,
     ⟨some 8, none, .ld 1 false (.t 7), []⟩,
     ⟨some 2, none, .mv (.t 8), []⟩])
   .ret)))⟩
theorem F92_code : cfgA.code 92 = some F92 := by kernel_rfl

/-- (*ticketline/descend.Find).visit -/
noncomputable def F94 : AFn := ⟨37, [], (.seq
 (.ops 0 [⟨some 5, none, .mv (.t 0), []⟩,
   ⟨some 6, none, .nilc (.t 5) (mok Tryz.prog), []⟩,
   ⟨some 7, none, .fld 5 (.t 6), []⟩,
   ⟨some 8, none, .ld 1 false (.t 7), []⟩,
   ⟨some 9, none, .bin .add (.t 8) (.c (.int .i64 1)), []⟩,
   ⟨some 10, none, .nilc (.t 5) (mok Tryz.prog), []⟩,
   ⟨some 11, none, .fld 5 (.t 10), []⟩,
   ⟨none, none, .st 1 (.t 11) (.t 9), []⟩])
 (.seq
  (.ops 1 [⟨some 12, none, .mv (.t 0), []⟩,
    ⟨some 13, none, .nilc (.t 12) (mok Tryz.prog), []⟩,
    ⟨some 14, none, .fld 0 (.t 13), []⟩,
    ⟨some 15, none, .ld 2 true (.t 14), []⟩,
    ⟨some 16, none, .mv (.t 1), []⟩,
    ⟨some 17, none, .call 107 [.t 15, .t 16], []⟩,
    ⟨some 4, none, .mv (.t 17), []⟩])
  (.seq
   (.seq
    (.ops 2 [⟨some 18, none, .mv (.t 4), []⟩,
      ⟨some 19, none, .eqn .ptr false (.t 18), []⟩,
      ⟨some 20, none, .mv (.t 19), []⟩,
      ⟨some 21, some (20, false), .mv (.t 0), []⟩,
      ⟨some 22, some (20, false), .nilc (.t 21) (mok Tryz.prog), []⟩,
      ⟨some 23, some (20, false), .fld 5 (.t 22), []⟩,
      ⟨some 24, some (20, false), .ld 1 false (.t 23), []⟩,
      ⟨some 25, some (20, false), .bin .gtr (.t 24) (.c (.int .i64 40)), []⟩,
      ⟨some 26, none, .pick (.t 20) (.c (.bool true)) (.t 25), []⟩])
    (.cond (.t 26)
     (.seq
      (.ops 3 [⟨some 27, none, .mv (.t 0), []⟩,
        ⟨some 28, none, .call 93 [.t 27], []⟩])
      .ret)
     .skip))
   (.ops 4 [⟨some 29, none, .mv (.t 0), []⟩,
     ⟨some 30, none, .mv (.t 0), []⟩,
     ⟨some 31, none, .mv (.t 1), []⟩,
     ⟨some 32, none, .mv (.t 4), []⟩,
     ⟨some 33, none, .nilc (.t 29) (mok Tryz.prog), []⟩,
     ⟨some 34, none, .fld 6 (.t 33), []⟩,
     ⟨none, none, .st 1 (.t 34) (.t 31), []⟩,
     ⟨some 35, none, .nilc (.t 30) (mok Tryz.prog), []⟩,
     ⟨some 36, none, .fld 7 (.t 35), []⟩,
     ⟨none, none, .st 1 (.t 36) (.t 32), []⟩]))))⟩
theorem F94_code : cfgA.code 94 = some F94 := by kernel_rfl

/-- ticketline/descend.image -/
noncomputable def F95 : AFn := ⟨8, [.cell 2 128 true], (.seq
 (.ops 0 [⟨some 2, none, .alloc (List.replicate 128 (.int .u64 0)) false, []⟩])
 (.seq
  (.ops 1 [⟨some 3, none, .alloc (List.replicate 128 (.int .u64 0)) false, []⟩])
  (.seq
   (.ops 2 [⟨some 4, none, .slc (some 128) 1 (.t 3) (some (.c (.int .i64 8))) none, []⟩,
     ⟨some 5, none, .mv (.t 0), []⟩,
     ⟨some 6, none, .cpy 1 (.t 4) (.t 5), []⟩])
   (.seq
    (.ops 3 [⟨some 7, none, .ld 128 true (.t 3), []⟩,
      ⟨none, none, .st 128 (.t 2) (.t 7), []⟩])
    .ret))))⟩
theorem F95_code : cfgA.code 95 = some F95 := by kernel_rfl

/-- ticketline/fence.Where -/
noncomputable def F96 : AFn := ⟨22, [.tmp 4, .tmp 5], (.seq
 (.ops 0 [⟨some 2, none, .box 128 (.t 0) false, []⟩,
   ⟨some 4, none, .mv (.c (.int .i64 0)), []⟩,
   ⟨some 5, none, .mv (.c (.int .i64 0)), []⟩])
 (.seq
  (.ops 1 [⟨some 10, none, .ld 128 true (.t 2), []⟩,
    ⟨some 11, none, .call 104 [.t 10], []⟩,
    ⟨some 9, none, .mv (.t 11), []⟩,
    ⟨some 12, none, .ext (.t 9) 0, []⟩,
    ⟨some 13, none, .ext (.t 9) 1, []⟩,
    ⟨some 14, none, .ext (.t 9) 2, []⟩,
    ⟨some 6, none, .mv (.t 12), []⟩,
    ⟨some 7, none, .mv (.t 13), []⟩,
    ⟨some 8, none, .mv (.t 14), []⟩])
  (.seq
   (.seq
    (.ops 2 [⟨some 15, none, .mv (.t 8), []⟩,
      ⟨some 16, none, .bin .neq (.t 15) (.c (.int .i64 0)), []⟩])
    (.cond (.t 16)
     (.seq
      (.ops 3 [⟨some 17, none, .mv (.t 8), []⟩,
        ⟨some 4, none, .mv (.c (.int .i64 0)), []⟩,
        ⟨some 5, none, .mv (.t 17), []⟩])
      .ret)
     .skip))
   (.seq
    (.ops 4 [⟨some 18, none, .mv (.t 6), []⟩,
      ⟨some 19, none, .mv (.t 7), []⟩,
      ⟨some 20, none, .mv (.t 1), []⟩,
      ⟨some 21, none, .call 140 [.t 18, .t 19, .t 20], []⟩,
      ⟨some 4, none, .mv (.t 21), []⟩,
      ⟨some 5, none, .mv (.c (.int .i64 0)), []⟩])
    .ret))))⟩
theorem F96_code : cfgA.code 96 = some F96 := by kernel_rfl

/-- ticketline/slot.Next -/
noncomputable def F97 : AFn := ⟨9, [.tmp 2], (.seq
 (.ops 0 [⟨some 1, none, .box 128 (.t 0) false, []⟩,
   ⟨some 2, none, .mv (.c (.int .i64 0)), []⟩])
 (.seq
  (.seq
   (.ops 1 [⟨some 3, none, .ld 128 true (.t 1), []⟩,
     ⟨some 4, none, .call 141 [.t 3], []⟩,
     ⟨some 5, none, .un .not (.t 4), []⟩])
   (.cond (.t 5)
    (.seq
     (.ops 2 [⟨some 2, none, .mv (.c (.int .i64 0)), []⟩])
     .ret)
    .skip))
  (.seq
   (.ops 3 [⟨some 6, none, .ixa (some 128) 1 (.t 1) (.c (.int .i64 10)), []⟩,
     ⟨some 7, none, .ld 1 false (.t 6), []⟩,
     ⟨some 8, none, .cvi .i64 (.t 7), []⟩,
     ⟨some 2, none, .mv (.t 8), []⟩])
   .ret)))⟩
theorem F97_code : cfgA.code 97 = some F97 := by kernel_rfl

/-- ticketline/slot.Level -/
noncomputable def F98 : AFn := ⟨10, [.tmp 2], (.seq
 (.ops 0 [⟨some 1, none, .box 128 (.t 0) false, []⟩,
   ⟨some 2, none, .mv (.c (.int .i64 0)), []⟩])
 (.seq
  (.seq
   (.ops 1 [⟨some 3, none, .ld 128 true (.t 1), []⟩,
     ⟨some 4, none, .call 141 [.t 3], []⟩,
     ⟨some 5, none, .un .not (.t 4), []⟩])
   (.cond (.t 5)
    (.seq
     (.ops 2 [⟨some 2, none, .mv (.c (.int .i64 (-1))), []⟩])
     .ret)
    .skip))
  (.seq
   (.ops 3 [⟨some 6, none, .ixa (some 128) 1 (.t 1) (.c (.int .i64 8)), []⟩,
     ⟨some 7, none, .ld 1 false (.t 6), []⟩,
     ⟨some 8, none, .cvi .i64 (.t 7), []⟩,
     ⟨some 9, none, .bin .sub (.t 8) (.c (.int .i64 1)), []⟩,
     ⟨some 2, none, .mv (.t 9), []⟩])
   .ret)))⟩
theorem F98_code : cfgA.code 98 = some F98 := by kernel_rfl

/-- (*ticketline/version.Read).Version -/
noncomputable def F99 : AFn := ⟨10, [.tmp 2], (.seq
 (.ops 0 [⟨some 2, none, .mv (.c (.int .u64 0)), []⟩])
 (.seq
  (.seq
   (.ops 1 [⟨some 3, none, .mv (.t 0), []⟩,
     ⟨some 4, none, .call 92 [.t 3], []⟩,
     ⟨some 5, none, .bin .eql (.t 4) (.c (.int .u64 0)), []⟩])
   (.cond (.t 5)
    (.seq
     (.ops 2 [⟨some 2, none, .mv (.c (.int .u64 0)), []⟩])
     .ret)
    .skip))
  (.seq
   (.ops 3 [⟨some 6, none, .mv (.t 0), []⟩,
     ⟨some 7, none, .nilc (.t 6) (mok Tryz.prog), []⟩,
     ⟨some 8, none, .fld 6 (.t 7), []⟩,
     ⟨some 9, none, .ld 1 false (.t 8), []⟩,
     ⟨some 2, none, .mv (.t 9), []⟩])
   .ret)))⟩
theorem F99_code : cfgA.code 99 = some F99 := by kernel_rfl

/-- ticketline/descend.Of -/
noncomputable def F101 : AFn := ⟨19, [.tmp 4, .tmp 5], (.seq
 (.ops 0 [⟨some 2, none, .box 2 (.t 0) false, []⟩,
   ⟨some 4, none, .mv (.c (.int .i64 0)), []⟩,
   ⟨some 5, none, .mv (.c (.int .i64 0)), []⟩])
 (.seq
  (.ops 1 [⟨some 9, none, .ld 2 true (.t 2), []⟩,
    ⟨some 10, none, .mv (.t 1), []⟩,
    ⟨some 11, none, .call 111 [.t 9, .t 10], []⟩,
    ⟨some 8, none, .mv (.t 11), []⟩,
    ⟨some 12, none, .ext (.t 8) 0, []⟩,
    ⟨some 13, none, .ext (.t 8) 1, []⟩,
    ⟨some 6, none, .mv (.t 12), []⟩,
    ⟨some 7, none, .mv (.t 13), []⟩])
  (.seq
   (.seq
    (.ops 2 [⟨some 14, none, .mv (.t 7), []⟩,
      ⟨some 15, none, .bin .neq (.t 14) (.c (.int .i64 0)), []⟩])
    (.cond (.t 15)
     (.seq
      (.ops 3 [⟨some 16, none, .mv (.t 7), []⟩,
        ⟨some 4, none, .mv (.c (.int .i64 0)), []⟩,
        ⟨some 5, none, .mv (.t 16), []⟩])
      .ret)
     .skip))
   (.seq
    (.ops 4 [⟨some 17, none, .mv (.t 6), []⟩,
      ⟨some 18, none, .bin .add (.t 17) (.c (.int .i64 3)), []⟩,
      ⟨some 4, none, .mv (.t 18), []⟩,
      ⟨some 5, none, .mv (.c (.int .i64 0)), []⟩])
    .ret))))⟩
theorem F101_code : cfgA.code 101 = some F101 := by kernel_rfl

/-- (*ticketline/descend.Scan).begin -/
noncomputable def F102 : AFn := ⟨33, [], (.seq
 (.ops 0 [⟨some 3, none, .mv (.t 0), []⟩,
   ⟨some 4, none, .nilc (.t 3) (mok Tryz.prog), []⟩,
   ⟨some 5, none, .fld 2 (.t 4), []⟩,
   ⟨some 6, none, .ld 1 false (.t 5), []⟩,
   ⟨some 2, none, .mv (.t 6), []⟩])
 (.seq
  (.seq
   (.ops 1 [⟨some 7, none, .mv (.t 2), []⟩,
     ⟨some 8, none, .bin .eql (.t 7) (.c (.str [])), []⟩])
   (.cond (.t 8)
    (.ops 2 [⟨some 2, none, .mv (.c (.str [0])), []⟩])
    .skip))
  (.seq
   (.ops 3 [⟨some 10, none, .mv (.t 0), []⟩,
     ⟨some 11, none, .mv (.t 0), []⟩,
     ⟨some 12, none, .nilc (.t 11) (mok Tryz.prog), []⟩,
     ⟨some 13, none, .fld 0 (.t 12), []⟩,
     ⟨some 14, none, .ld 2 true (.t 13), []⟩,
     ⟨some 15, none, .mv (.t 2), []⟩,
     ⟨some 16, none, .call 18 [.t 14, .t 15, .c (.int .i64 0)], []⟩,
     ⟨some 9, none, .mv (.t 16), []⟩,
     ⟨some 17, none, .ext (.t 9) 0, []⟩,
     ⟨some 18, none, .ext (.t 9) 1, []⟩,
     ⟨some 19, none, .nilc (.t 10) (mok Tryz.prog), []⟩,
     ⟨some 20, none, .fld 7 (.t 19), []⟩,
     ⟨none, none, .st 1 (.t 20) (.t 17), []⟩])
   (.ops 4 [⟨some 21, none, .mv (.t 0), []⟩,
     ⟨some 22, none, .mv (.t 0), []⟩,
     ⟨some 23, none, .mv (.t 0), []⟩,
     ⟨some 24, none, .mv (.t 0), []⟩,
     ⟨some 25, none, .nilc (.t 21) (mok Tryz.prog), []⟩,
     ⟨some 26, none, .fld 11 (.t 25), []⟩,
     ⟨none, none, .st 1 (.t 26) (.c (.nils)), []⟩,
     ⟨some 27, none, .nilc (.t 22) (mok Tryz.prog), []⟩,
     ⟨some 28, none, .fld 13 (.t 27), []⟩,
     ⟨none, none, .st 1 (.t 28) (.c (.nils)), []⟩,
     ⟨some 29, none, .nilc (.t 23) (mok Tryz.prog), []⟩,
     ⟨some 30, none, .fld 12 (.t 29), []⟩,
     ⟨none, none, .st 1 (.t 30) (.c (.int .i64 0)), []⟩,
     ⟨some 31, none, .nilc (.t 24) (mok Tryz.prog), []⟩,
     ⟨some 32, none, .fld 14 (.t 31), []⟩,
     ⟨none, none, .st 1 (.t 32) (.c (.int .i64 1)), []⟩]))))⟩
theorem F102_code : cfgA.code 102 = some F102 := by kernel_rfl

/-- ticketline/slot.Pairs -/
noncomputable def F103 : AFn := ⟨13, [.tmp 2, .tmp 3], (.seq
 (.ops 0 [⟨some 1, none, .box 128 (.t 0) false, []⟩,
   ⟨some 2, none, .mv (.c (.nils)), []⟩,
   ⟨some 3, none, .mv (.c (.int .i64 0)), []⟩])
 (.seq
  (.ops 1 [⟨some 7, none, .call 119 [.t 1], []⟩,
    ⟨some 6, none, .mv (.t 7), []⟩,
    ⟨some 8, none, .ext (.t 6) 0, []⟩,
    ⟨some 9, none, .ext (.t 6) 1, []⟩,
    ⟨some 4, none, .mv (.t 8), []⟩,
    ⟨some 5, none, .mv (.t 9), []⟩])
  (.seq
   (.seq
    (.ops 2 [⟨some 10, none, .mv (.t 5), []⟩,
      ⟨some 11, none, .un .not (.t 10), []⟩])
    (.cond (.t 11)
     (.seq
      (.ops 3 [⟨some 2, none, .mv (.c (.nils)), []⟩,
        ⟨some 3, none, .mv (.c (.int .i64 12)), []⟩])
      .ret)
     .skip))
   (.seq
    (.ops 4 [⟨some 12, none, .mv (.t 4), []⟩,
      ⟨some 2, none, .mv (.t 12), []⟩,
      ⟨some 3, none, .mv (.c (.int .i64 0)), []⟩])
    .ret))))⟩
theorem F103_code : cfgA.code 103 = some F103 := by kernel_rfl

/-- ticketline/slot.Fences -/
noncomputable def F104 : AFn := ⟨18, [.tmp 2, .tmp 3, .tmp 4], (.seq
 (.ops 0 [⟨some 1, none, .box 128 (.t 0) false, []⟩,
   ⟨some 2, none, .mv (.c (.str [])), []⟩,
   ⟨some 3, none, .mv (.c (.str [])), []⟩,
   ⟨some 4, none, .mv (.c (.int .i64 0)), []⟩])
 (.seq
  (.seq
   (.ops 1 [⟨some 5, none, .ld 128 true (.t 1), []⟩,
     ⟨some 6, none, .call 141 [.t 5], []⟩,
     ⟨some 7, none, .un .not (.t 6), []⟩])
   (.cond (.t 7)
    (.seq
     (.ops 2 [⟨some 2, none, .mv (.c (.str [])), []⟩,
       ⟨some 3, none, .mv (.c (.str [])), []⟩,
       ⟨some 4, none, .mv (.c (.int .i64 12)), []⟩])
     .ret)
    .skip))
  (.seq
   (.ops 3 [⟨some 9, none, .call 143 [.t 1, .c (.int .i64 12)], []⟩,
     ⟨some 8, none, .mv (.t 9), []⟩,
     ⟨some 10, none, .ext (.t 8) 0, []⟩,
     ⟨some 11, none, .ext (.t 8) 1, []⟩,
     ⟨some 2, none, .mv (.t 10), []⟩])
   (.seq
    (.ops 4 [⟨some 13, none, .call 143 [.t 1, .c (.int .i64 16)], []⟩,
      ⟨some 12, none, .mv (.t 13), []⟩,
      ⟨some 14, none, .ext (.t 12) 0, []⟩,
      ⟨some 15, none, .ext (.t 12) 1, []⟩,
      ⟨some 3, none, .mv (.t 14), []⟩])
    (.seq
     (.ops 5 [⟨some 16, none, .mv (.t 2), []⟩,
       ⟨some 17, none, .mv (.t 3), []⟩,
       ⟨some 2, none, .mv (.t 16), []⟩,
       ⟨some 3, none, .mv (.t 17), []⟩,
       ⟨some 4, none, .mv (.c (.int .i64 0)), []⟩])
     .ret)))))⟩
theorem F104_code : cfgA.code 104 = some F104 := by kernel_rfl

/-- slices.Clone[[]ticketline/descend.seen,ticketline/descend.seen] -/
noncomputable def F105 : AFn := ⟨8, [.tmp 2], (.seq
 (.ops 0 [⟨some 2, none, .mv (.c (.nils)), []⟩])
 (.seq
  (.seq
   (.ops 1 [⟨some 3, none, .mv (.t 0), []⟩,
     ⟨some 4, none, .eqn .slice false (.t 3), []⟩])
   (.cond (.t 4)
    (.seq
     (.ops 2 [⟨some 2, none, .mv (.c (.nils)), []⟩])
     .ret)
    .skip))
  (.seq
   (.ops 3 [⟨some 5, none, .bslice [.int .i64 0, .int .u64 0] 2 0 [] false false, []⟩,
     ⟨some 6, none, .mv (.t 0), []⟩,
     ⟨some 7, none, .app 2 16 (.t 5) (.t 6) true, []⟩,
     ⟨some 2, none, .mv (.t 7), []⟩])
   .ret)))⟩
theorem F105_code : cfgA.code 105 = some F105 := by kernel_rfl

/-- (*ticketline/descend.Scan).settle -/
noncomputable def F106 : AFn := ⟨17, [], (.seq
 (.seq
  (.ops 0 [⟨some 2, none, .mv (.t 0), []⟩,
    ⟨some 3, none, .nilc (.t 2) (mok Tryz.prog), []⟩,
    ⟨some 4, none, .fld 11 (.t 3), []⟩,
    ⟨some 5, none, .ld 1 false (.t 4), []⟩,
    ⟨some 6, none, .len .slice (.t 5), []⟩,
    ⟨some 7, none, .bin .eql (.t 6) (.c (.int .i64 1)), []⟩])
  (.cond (.t 7)
   (.seq
    (.ops 1 [⟨some 8, none, .mv (.t 0), []⟩,
      ⟨some 9, none, .mv (.t 0), []⟩,
      ⟨some 10, none, .nilc (.t 8) (mok Tryz.prog), []⟩,
      ⟨some 11, none, .fld 15 (.t 10), []⟩,
      ⟨none, none, .st 1 (.t 11) (.c (.bool true)), []⟩,
      ⟨some 12, none, .nilc (.t 9) (mok Tryz.prog), []⟩,
      ⟨some 13, none, .fld 14 (.t 12), []⟩,
      ⟨none, none, .st 1 (.t 13) (.c (.int .i64 4)), []⟩])
    .ret)
   .skip))
 (.ops 2 [⟨some 14, none, .mv (.t 0), []⟩,
   ⟨some 15, none, .nilc (.t 14) (mok Tryz.prog), []⟩,
   ⟨some 16, none, .fld 14 (.t 15), []⟩,
   ⟨none, none, .st 1 (.t 16) (.c (.int .i64 3)), []⟩]))⟩
theorem F106_code : cfgA.code 106 = some F106 := by kernel_rfl

/-- ticketline/descend.readPage -/
noncomputable def F107 : AFn := ⟨28, [.tmp 4], (.seq
 (.ops 0 [⟨some 2, none, .box 2 (.t 0) false, []⟩,
   ⟨some 4, none, .mv (.c (.nilp)), []⟩])
 (.seq
  (.seq
   (.ops 1 [⟨some 9, none, .mv (.t 1), []⟩,
     ⟨some 10, none, .bin .lss (.t 9) (.c (.int .i64 1)), []⟩])
   (.cond (.t 10)
    (.seq
     (.ops 2 [⟨some 4, none, .mv (.c (.nilp)), []⟩])
     .ret)
    .skip))
  (.seq
   (.ops 3 [⟨some 12, none, .ld 2 true (.t 2), []⟩,
     ⟨some 13, none, .mv (.t 1), []⟩,
     ⟨some 14, none, .call 101 [.t 12, .t 13], []⟩,
     ⟨some 11, none, .mv (.t 14), []⟩,
     ⟨some 15, none, .ext (.t 11) 0, []⟩,
     ⟨some 16, none, .ext (.t 11) 1, []⟩,
     ⟨some 5, none, .mv (.t 15), []⟩,
     ⟨some 6, none, .mv (.t 16), []⟩])
   (.seq
    (.seq
     (.ops 4 [⟨some 17, none, .mv (.t 6), []⟩,
       ⟨some 18, none, .bin .neq (.t 17) (.c (.int .i64 0)), []⟩])
     (.cond (.t 18)
      (.seq
       (.ops 5 [⟨some 4, none, .mv (.c (.nilp)), []⟩])
       .ret)
      .skip))
    (.seq
     (.ops 6 [⟨some 20, none, .mv (.t 5), []⟩,
       ⟨some 21, none, .mv (.t 5), []⟩,
       ⟨some 22, none, .bin .sub (.t 21) (.c (.int .i64 3)), []⟩,
       ⟨some 23, none, .bin .add (.t 22) (.c (.int .i64 8)), []⟩,
       ⟨some 24, none, .call 109 [.t 20, .t 23, .c (.int .i64 120), .c (.int .i64 2)], []⟩,
       ⟨some 19, none, .mv (.t 24), []⟩,
       ⟨some 25, none, .ext (.t 19) 0, []⟩,
       ⟨some 26, none, .ext (.t 19) 1, []⟩,
       ⟨some 7, none, .mv (.t 25), []⟩,
       ⟨some 8, none, .mv (.t 26), []⟩])
     (.seq
      (.ops 7 [⟨some 27, none, .mv (.t 7), []⟩,
        ⟨some 4, none, .mv (.t 27), []⟩])
      .ret))))))⟩
theorem F107_code : cfgA.code 107 = some F107 := by kernel_rfl

/-- ticketline/version.NewRead -/
noncomputable def F109 : AFn := ⟨24, [.tmp 8, .tmp 9], (.seq
 (.ops 0 [⟨some 8, none, .mv (.c (.nilp)), []⟩,
   ⟨some 9, none, .mv (.c (.int .i64 0)), []⟩])
 (.seq
  (.seq
   (.ops 1 [⟨some 10, none, .mv (.t 0), []⟩,
     ⟨some 11, none, .mv (.t 1), []⟩,
     ⟨some 12, none, .mv (.t 2), []⟩,
     ⟨some 13, none, .call 144 [.t 10, .t 11, .t 12], []⟩,
     ⟨some 14, none, .mv (.t 13), []⟩,
     ⟨some 15, some (14, false), .mv (.t 3), []⟩,
     ⟨some 16, some (14, false), .bin .lss (.t 15) (.c (.int .i64 1)), []⟩,
     ⟨some 17, none, .pick (.t 14) (.c (.bool true)) (.t 16), []⟩])
   (.cond (.t 17)
    (.seq
     (.ops 2 [⟨some 8, none, .mv (.c (.nilp)), []⟩,
       ⟨some 9, none, .mv (.c (.int .i64 2)), []⟩])
     .ret)
    .skip))
  (.seq
   (.ops 3 [⟨some 18, none, .mv (.t 0), []⟩,
     ⟨some 19, none, .mv (.t 1), []⟩,
     ⟨some 20, none, .mv (.t 2), []⟩,
     ⟨some 21, none, .mv (.t 3), []⟩,
     ⟨some 22, none, .build [.bool false, .int .i64 0, .int .i64 0, .int .i64 0, .int .i64 0, .bool false, .int .u64 0, .nils, .int .u64 0, .bool false] [(0, 1, (.c (.bool true))), (1, 1, (.t 18)), (2, 1, (.t 19)), (3, 1, (.t 20)), (4, 1, (.t 21))], []⟩,
     ⟨some 23, none, .box 10 (.t 22) true, []⟩,
     ⟨some 8, none, .mv (.t 23), []⟩,
     ⟨some 9, none, .mv (.c (.int .i64 0)), []⟩])
   .ret)))⟩
theorem F109_code : cfgA.code 109 = some F109 := by kernel_rfl

/-- ticketline/descend.Words -/
noncomputable def F110 : AFn := ⟨14, [.tmp 2, .tmp 3], (.seq
 (.ops 0 [⟨some 1, none, .box 2 (.t 0) false, []⟩,
   ⟨some 2, none, .mv (.c (.int .i64 0)), []⟩,
   ⟨some 3, none, .mv (.c (.int .i64 0)), []⟩])
 (.seq
  (.seq
   (.ops 1 [⟨some 4, none, .ld 2 true (.t 1), []⟩,
     ⟨some 5, none, .call 53 [.t 4], []⟩,
     ⟨some 6, none, .un .not (.t 5), []⟩])
   (.cond (.t 6)
    (.seq
     (.ops 2 [⟨some 2, none, .mv (.c (.int .i64 0)), []⟩,
       ⟨some 3, none, .mv (.c (.int .i64 2)), []⟩])
     .ret)
    .skip))
  (.seq
   (.ops 3 [⟨some 7, none, .ld 2 true (.t 1), []⟩,
     ⟨some 9, none, .fld 1 (.t 1), []⟩,
     ⟨some 10, none, .ld 1 false (.t 9), []⟩,
     ⟨some 11, none, .bin .mul (.t 10) (.c (.int .i64 2)), []⟩,
     ⟨some 12, none, .bin .mul (.t 11) (.c (.int .i64 3)), []⟩,
     ⟨some 8, none, .call 145 [.t 7], [(10, .ld 1 false (.t 9))]⟩,
     ⟨some 13, none, .bin .add (.t 8) (.t 12), []⟩,
     ⟨some 2, none, .mv (.t 13), []⟩,
     ⟨some 3, none, .mv (.c (.int .i64 0)), []⟩])
   .ret)))⟩
theorem F110_code : cfgA.code 110 = some F110 := by kernel_rfl

/-- ticketline/descend.At -/
noncomputable def F111 : AFn := ⟨26, [.tmp 4, .tmp 5], (.seq
 (.ops 0 [⟨some 2, none, .box 2 (.t 0) false, []⟩,
   ⟨some 4, none, .mv (.c (.int .i64 0)), []⟩,
   ⟨some 5, none, .mv (.c (.int .i64 0)), []⟩])
 (.seq
  (.block 0
   (.seq
    (.ops 1 [⟨some 7, none, .ld 2 true (.t 2), []⟩,
      ⟨some 8, none, .call 53 [.t 7], []⟩,
      ⟨some 9, none, .un .not (.t 8), []⟩,
      ⟨some 6, none, .mv (.t 9), []⟩])
    (.cond (.t 6)
     (.seq
      (.ops 2 [⟨some 4, none, .mv (.c (.int .i64 0)), []⟩,
        ⟨some 5, none, .mv (.c (.int .i64 2)), []⟩])
      .ret)
     (.seq
      (.ops 3 [⟨some 11, none, .mv (.t 1), []⟩,
        ⟨some 12, none, .bin .lss (.t 11) (.c (.int .i64 0)), []⟩,
        ⟨some 13, none, .mv (.t 12), []⟩,
        ⟨some 14, some (13, false), .mv (.t 1), []⟩,
        ⟨some 15, some (13, false), .fld 0 (.t 2), []⟩,
        ⟨some 16, some (13, false), .ld 1 false (.t 15), []⟩,
        ⟨some 17, some (13, false), .bin .gtr (.t 14) (.t 16), []⟩,
        ⟨some 18, none, .pick (.t 13) (.c (.bool true)) (.t 17), []⟩,
        ⟨some 10, none, .mv (.t 18), []⟩])
      (.cond (.t 10)
       (.seq
        (.ops 4 [⟨some 4, none, .mv (.c (.int .i64 0)), []⟩,
          ⟨some 5, none, .mv (.c (.int .i64 3)), []⟩])
        .ret)
       (.seq
        (.ops 5 [⟨some 20, none, .mv (.t 1), []⟩,
          ⟨some 21, none, .bin .eql (.t 20) (.c (.int .i64 0)), []⟩,
          ⟨some 19, none, .mv (.t 21), []⟩])
        (.cond (.t 19)
         (.seq
          (.ops 6 [⟨some 4, none, .mv (.c (.int .i64 8)), []⟩,
            ⟨some 5, none, .mv (.c (.int .i64 0)), []⟩])
          .ret)
         .skip)))))))
  (.seq
   (.ops 7 [⟨some 22, none, .mv (.t 1), []⟩,
     ⟨some 23, none, .call 128 [.t 22, .c (.int .i64 0)], []⟩,
     ⟨some 24, none, .ext (.t 23) 0, []⟩,
     ⟨some 25, none, .ext (.t 23) 1, []⟩,
     ⟨some 4, none, .mv (.t 24), []⟩,
     ⟨some 5, none, .mv (.t 25), []⟩])
   .ret)))⟩
theorem F111_code : cfgA.code 111 = some F111 := by kernel_rfl

/-- ticketline/arena.Format: the round 0 -/
noncomputable def B112x0 : AC := (.seq
 (.ops 7 [⟨some 35, none, .bin .lss (.t 34) (.t 33), []⟩])
 (.seq
  (.cond (.t 35)
   .skip
   (.exit 1))
  (.seq
   (.block 2
    (.seq
     (.ops 8 [⟨some 36, none, .mv (.t 34), []⟩,
       ⟨some 7, none, .mv (.t 36), []⟩])
     (.ops 9 [⟨some 37, none, .ld 1 true (.t 6), []⟩,
       ⟨some 38, none, .mv (.t 7), []⟩,
       ⟨some 39, none, .call 148 [.t 37, .t 38, .c (.int .u64 0)], []⟩])))
   (.ops 10 [⟨some 40, none, .bin .add (.t 34) (.c (.int .i64 1)), []⟩,
     ⟨some 34, none, .mv (.t 40), []⟩]))))
/-- ticketline/arena.Format: the round 1 -/
noncomputable def B112x1 : AC := (.seq
 (.seq
  (.ops 15 [⟨some 49, none, .mv (.t 8), []⟩,
    ⟨some 50, none, .mv (.t 1), []⟩,
    ⟨some 51, none, .bin .lss (.t 49) (.t 50), []⟩])
  (.cond (.t 51)
   .skip
   (.exit 3)))
 (.seq
  (.block 4
   (.ops 17 [⟨some 54, none, .ld 1 true (.t 6), []⟩,
     ⟨some 55, none, .mv (.t 8), []⟩,
     ⟨some 57, none, .mv (.t 8), []⟩,
     ⟨some 58, none, .bin .add (.t 57) (.c (.int .i64 1)), []⟩,
     ⟨some 59, none, .cvi .u64 (.t 58), []⟩,
     ⟨some 56, none, .call 146 [.t 55, .c (.int .i64 10)], [(54, .ld 1 true (.t 6))]⟩,
     ⟨some 60, none, .call 148 [.t 54, .t 56, .t 59], []⟩]))
  (.ops 16 [⟨some 52, none, .mv (.t 8), []⟩,
    ⟨some 53, none, .bin .add (.t 52) (.c (.int .i64 1)), []⟩,
    ⟨some 8, none, .mv (.t 53), []⟩])))
/-- ticketline/arena.Format -/
noncomputable def F112 : AFn := ⟨64, [.tmp 4, .tmp 5], (.seq
 (.ops 0 [⟨some 4, none, .mv (.c (.nilp)), []⟩,
   ⟨some 5, none, .mv (.c (.int .i64 0)), []⟩])
 (.seq
  (.block 0
   (.seq
    (.ops 1 [⟨some 10, none, .mv (.t 0), []⟩,
      ⟨some 11, none, .call 63 [.t 10], []⟩,
      ⟨some 12, none, .bin .eql (.t 11) (.c (.int .i64 0)), []⟩,
      ⟨some 9, none, .mv (.t 12), []⟩])
    (.cond (.t 9)
     (.seq
      (.ops 2 [⟨some 4, none, .mv (.c (.nilp)), []⟩,
        ⟨some 5, none, .mv (.c (.int .i64 1)), []⟩])
      .ret)
     (.seq
      (.ops 3 [⟨some 14, none, .mv (.t 1), []⟩,
        ⟨some 15, none, .bin .lss (.t 14) (.c (.int .i64 1)), []⟩,
        ⟨some 16, none, .mv (.t 15), []⟩,
        ⟨some 17, some (16, false), .mv (.t 1), []⟩,
        ⟨some 18, some (16, false), .bin .gtr (.t 17) (.c (.int .i64 511)), []⟩,
        ⟨some 19, none, .pick (.t 16) (.c (.bool true)) (.t 18), []⟩,
        ⟨some 20, none, .mv (.t 19), []⟩,
        ⟨some 21, some (20, false), .mv (.t 1), []⟩,
        ⟨some 22, some (20, false), .bin .add (.t 21) (.c (.int .i64 1)), []⟩,
        ⟨some 23, some (20, false), .call 146 [.t 22, .c (.int .i64 0)], []⟩,
        ⟨some 24, some (20, false), .mv (.t 0), []⟩,
        ⟨some 25, some (20, false), .call 63 [.t 24], []⟩,
        ⟨some 26, some (20, false), .bin .gtr (.t 23) (.t 25), []⟩,
        ⟨some 27, none, .pick (.t 20) (.c (.bool true)) (.t 26), []⟩,
        ⟨some 13, none, .mv (.t 27), []⟩])
      (.cond (.t 13)
       (.seq
        (.ops 4 [⟨some 4, none, .mv (.c (.nilp)), []⟩,
          ⟨some 5, none, .mv (.c (.int .i64 2)), []⟩])
        .ret)
       .skip)))))
  (.seq
   (.ops 5 [⟨some 28, none, .mv (.t 0), []⟩,
     ⟨some 29, none, .call 147 [.t 28], []⟩,
     ⟨some 30, none, .build [.nilp] [(0, 1, (.t 29))], []⟩,
     ⟨some 6, none, .alloc [.nilp] false, []⟩,
     ⟨none, none, .st 1 (.t 6) (.t 30), []⟩])
   (.seq
    (.seq
     (.ops 6 [⟨some 31, none, .mv (.t 1), []⟩,
       ⟨some 32, none, .bin .add (.t 31) (.c (.int .i64 1)), []⟩,
       ⟨some 33, none, .call 146 [.t 32, .c (.int .i64 0)], []⟩,
       ⟨some 34, none, .mv (.c (.int .i64 0)), []⟩])
     (.block 1
      (.loop [] B112x0)))
    (.seq
     (.ops 11 [⟨some 41, none, .ld 1 true (.t 6), []⟩,
       ⟨some 42, none, .mv (.t 1), []⟩,
       ⟨some 43, none, .cvi .u64 (.t 42), []⟩,
       ⟨some 44, none, .call 148 [.t 41, .c (.int .i64 0), .t 43], []⟩])
     (.seq
      (.ops 12 [⟨some 45, none, .ld 1 true (.t 6), []⟩,
        ⟨some 46, none, .call 148 [.t 45, .c (.int .i64 1), .c (.int .u64 1)], []⟩])
      (.seq
       (.ops 13 [⟨some 47, none, .ld 1 true (.t 6), []⟩,
         ⟨some 48, none, .call 148 [.t 47, .c (.int .i64 4), .c (.int .u64 1)], []⟩])
       (.seq
        (.seq
         (.ops 14 [⟨some 8, none, .mv (.c (.int .i64 1)), []⟩])
         (.block 3
          (.loop [] B112x1)))
        (.seq
         (.ops 18 [⟨some 61, none, .ld 1 true (.t 6), []⟩,
           ⟨some 62, none, .build [.nilp] [(0, 1, (.t 61))], []⟩,
           ⟨some 63, none, .box 1 (.t 62) true, []⟩,
           ⟨some 4, none, .mv (.t 63), []⟩,
           ⟨some 5, none, .mv (.c (.int .i64 0)), []⟩])
         .ret)))))))))⟩
theorem F112_code : cfgA.code 112 = some F112 := by kernel_rfl

/-- ticketline/slot.Make -/
noncomputable def F113 : AFn := ⟨57, [.cell 6 128 true, .tmp 7], (.seq
 (.ops 0 [⟨some 6, none, .alloc (List.replicate 128 (.int .u64 0)) false, []⟩,
   ⟨some 7, none, .mv (.c (.int .i64 0)), []⟩])
 (.seq
  (.block 0
   (.seq
    (.ops 1 [⟨some 12, none, .mv (.t 0), []⟩,
      ⟨some 13, none, .bin .lss (.t 12) (.c (.int .i64 0)), []⟩,
      ⟨some 14, none, .mv (.t 13), []⟩,
      ⟨some 15, some (14, false), .mv (.t 0), []⟩,
      ⟨some 16, some (14, false), .bin .geq (.t 15) (.c (.int .i64 6)), []⟩,
      ⟨some 17, none, .pick (.t 14) (.c (.bool true)) (.t 16), []⟩,
      ⟨some 11, none, .mv (.t 17), []⟩])
    (.cond (.t 11)
     (.seq
      (.ops 2 [⟨some 18, none, .build (List.replicate 128 (.int .u64 0)) [], []⟩,
        ⟨none, none, .st 128 (.t 6) (.t 18), []⟩,
        ⟨some 7, none, .mv (.c (.int .i64 2)), []⟩])
      .ret)
     (.seq
      (.ops 3 [⟨some 20, none, .mv (.t 1), []⟩,
        ⟨some 21, none, .len .string (.t 20), []⟩,
        ⟨some 22, none, .bin .gtr (.t 21) (.c (.int .i64 24)), []⟩,
        ⟨some 23, none, .mv (.t 22), []⟩,
        ⟨some 24, some (23, false), .mv (.t 2), []⟩,
        ⟨some 25, some (23, false), .len .string (.t 24), []⟩,
        ⟨some 26, some (23, false), .bin .gtr (.t 25) (.c (.int .i64 24)), []⟩,
        ⟨some 27, none, .pick (.t 23) (.c (.bool true)) (.t 26), []⟩,
        ⟨some 19, none, .mv (.t 27), []⟩])
      (.cond (.t 19)
       (.seq
        (.ops 4 [⟨some 28, none, .build (List.replicate 128 (.int .u64 0)) [], []⟩,
          ⟨none, none, .st 128 (.t 6) (.t 28), []⟩,
          ⟨some 7, none, .mv (.c (.int .i64 5)), []⟩])
        .ret)
       (.seq
        (.ops 5 [⟨some 30, none, .mv (.t 2), []⟩,
          ⟨some 31, none, .bin .neq (.t 30) (.c (.str [])), []⟩,
          ⟨some 32, none, .mv (.t 31), []⟩,
          ⟨some 33, some (32, true), .mv (.t 1), []⟩,
          ⟨some 34, some (32, true), .mv (.t 2), []⟩,
          ⟨some 35, some (32, true), .call 149 [.t 33, .t 34], []⟩,
          ⟨some 36, some (32, true), .bin .geq (.t 35) (.c (.int .i64 0)), []⟩,
          ⟨some 37, none, .pick (.t 32) (.t 36) (.c (.bool false)), []⟩,
          ⟨some 29, none, .mv (.t 37), []⟩])
        (.cond (.t 29)
         (.seq
          (.ops 6 [⟨some 38, none, .build (List.replicate 128 (.int .u64 0)) [], []⟩,
            ⟨none, none, .st 128 (.t 6) (.t 38), []⟩,
            ⟨some 7, none, .mv (.c (.int .i64 13)), []⟩])
          .ret)
         .skip)))))))
  (.seq
   (.ops 7 [⟨some 8, none, .alloc (List.replicate 128 (.int .u64 0)) false, []⟩])
   (.seq
    (.ops 8 [⟨some 39, none, .mv (.t 0), []⟩,
      ⟨some 40, none, .bin .add (.c (.int .i64 1)) (.t 39), []⟩,
      ⟨some 41, none, .cvi .u64 (.t 40), []⟩,
      ⟨some 42, none, .ixa (some 128) 1 (.t 8) (.c (.int .i64 8)), []⟩,
      ⟨none, none, .st 1 (.t 42) (.t 41), []⟩,
      ⟨some 43, none, .ixa (some 128) 1 (.t 8) (.c (.int .i64 11)), []⟩,
      ⟨none, none, .st 1 (.t 43) (.c (.int .u64 128)), []⟩])
    (.seq
     (.seq
      (.ops 9 [⟨some 44, none, .mv (.t 1), []⟩,
        ⟨some 45, none, .call 150 [.t 8, .c (.int .i64 12), .t 44], []⟩,
        ⟨some 9, none, .mv (.t 45), []⟩])
      (.seq
       (.ops 10 [⟨some 46, none, .mv (.t 9), []⟩,
         ⟨some 47, none, .bin .neq (.t 46) (.c (.int .i64 0)), []⟩])
       (.cond (.t 47)
        (.seq
         (.ops 11 [⟨some 48, none, .build (List.replicate 128 (.int .u64 0)) [], []⟩,
           ⟨some 49, none, .mv (.t 9), []⟩,
           ⟨none, none, .st 128 (.t 6) (.t 48), []⟩,
           ⟨some 7, none, .mv (.t 49), []⟩])
         .ret)
        .skip)))
     (.seq
      (.seq
       (.ops 12 [⟨some 50, none, .mv (.t 2), []⟩,
         ⟨some 51, none, .call 150 [.t 8, .c (.int .i64 16), .t 50], []⟩,
         ⟨some 10, none, .mv (.t 51), []⟩])
       (.seq
        (.ops 13 [⟨some 52, none, .mv (.t 10), []⟩,
          ⟨some 53, none, .bin .neq (.t 52) (.c (.int .i64 0)), []⟩])
        (.cond (.t 53)
         (.seq
          (.ops 14 [⟨some 54, none, .build (List.replicate 128 (.int .u64 0)) [], []⟩,
            ⟨some 55, none, .mv (.t 10), []⟩,
            ⟨none, none, .st 128 (.t 6) (.t 54), []⟩,
            ⟨some 7, none, .mv (.t 55), []⟩])
          .ret)
         .skip)))
      (.seq
       (.ops 15 [⟨some 56, none, .ld 128 true (.t 8), []⟩,
         ⟨none, none, .st 128 (.t 6) (.t 56), []⟩,
         ⟨some 7, none, .mv (.c (.int .i64 0)), []⟩])
       .ret)))))))⟩
theorem F113_code : cfgA.code 113 = some F113 := by kernel_rfl

/-- (*ticketline/arena.Arena).Alloc -/
noncomputable def F114 : AFn := ⟨39, [.tmp 4, .tmp 5], (.seq
 (.ops 0 [⟨some 3, none, .box 128 (.t 1) false, []⟩,
   ⟨some 4, none, .mv (.c (.int .i64 0)), []⟩,
   ⟨some 5, none, .mv (.c (.int .i64 0)), []⟩])
 (.seq
  (.block 0
   (.seq
    (.ops 1 [⟨some 8, none, .mv (.t 0), []⟩,
      ⟨some 9, none, .call 151 [.t 8], []⟩,
      ⟨some 7, none, .mv (.t 9), []⟩])
    (.cond (.t 7)
     (.seq
      (.ops 2 [⟨some 4, none, .mv (.c (.int .i64 0)), []⟩,
        ⟨some 5, none, .mv (.c (.int .i64 1)), []⟩])
      .ret)
     (.seq
      (.ops 3 [⟨some 11, none, .ld 128 true (.t 3), []⟩,
        ⟨some 12, none, .call 141 [.t 11], []⟩,
        ⟨some 13, none, .un .not (.t 12), []⟩,
        ⟨some 10, none, .mv (.t 13), []⟩])
      (.cond (.t 10)
       (.seq
        (.ops 4 [⟨some 4, none, .mv (.c (.int .i64 0)), []⟩,
          ⟨some 5, none, .mv (.c (.int .i64 12)), []⟩])
        .ret)
       .skip)))))
  (.seq
   (.ops 5 [⟨some 14, none, .mv (.t 0), []⟩,
     ⟨some 15, none, .nilc (.t 14) (mok Tryz.prog), []⟩,
     ⟨some 16, none, .fld 0 (.t 15), []⟩,
     ⟨some 17, none, .ld 1 true (.t 16), []⟩,
     ⟨some 18, none, .call 152 [.t 17, .c (.int .i64 1)], []⟩,
     ⟨some 19, none, .cvi .i64 (.t 18), []⟩,
     ⟨some 6, none, .mv (.t 19), []⟩])
   (.seq
    (.seq
     (.ops 6 [⟨some 20, none, .mv (.t 6), []⟩,
       ⟨some 21, none, .bin .eql (.t 20) (.c (.int .i64 0)), []⟩])
     (.cond (.t 21)
      (.seq
       (.ops 7 [⟨some 4, none, .mv (.c (.int .i64 0)), []⟩,
         ⟨some 5, none, .mv (.c (.int .i64 7)), []⟩])
       .ret)
      .skip))
    (.seq
     (.ops 8 [⟨some 22, none, .mv (.t 0), []⟩,
       ⟨some 23, none, .nilc (.t 22) (mok Tryz.prog), []⟩,
       ⟨some 24, none, .fld 0 (.t 23), []⟩,
       ⟨some 25, none, .ld 1 true (.t 24), []⟩,
       ⟨some 26, none, .mv (.t 0), []⟩,
       ⟨some 27, none, .nilc (.t 26) (mok Tryz.prog), []⟩,
       ⟨some 28, none, .fld 0 (.t 27), []⟩,
       ⟨some 29, none, .ld 1 true (.t 28), []⟩,
       ⟨some 30, none, .mv (.t 6), []⟩,
       ⟨some 31, none, .call 146 [.t 30, .c (.int .i64 10)], [(25, .ld 1 true (.t 24)), (29, .ld 1 true (.t 28))]⟩,
       ⟨some 32, none, .call 152 [.t 29, .t 31], [(25, .ld 1 true (.t 24))]⟩,
       ⟨some 33, none, .call 148 [.t 25, .c (.int .i64 1), .t 32], []⟩])
     (.seq
      (.ops 9 [⟨some 34, none, .mv (.t 0), []⟩,
        ⟨some 35, none, .mv (.t 6), []⟩,
        ⟨some 36, none, .ld 128 true (.t 3), []⟩,
        ⟨some 37, none, .call 153 [.t 34, .t 35, .t 36], []⟩])
      (.seq
       (.ops 10 [⟨some 38, none, .mv (.t 6), []⟩,
         ⟨some 4, none, .mv (.t 38), []⟩,
         ⟨some 5, none, .mv (.c (.int .i64 0)), []⟩])
       .ret)))))))⟩
theorem F114_code : cfgA.code 114 = some F114 := by kernel_rfl

/-- (*ticketline/arena.Arena).SetRoot -/
noncomputable def F115 : AFn := ⟨23, [.tmp 4], (.seq
 (.ops 0 [⟨some 4, none, .mv (.c (.int .i64 0)), []⟩])
 (.seq
  (.seq
   (.ops 1 [⟨some 6, none, .mv (.t 0), []⟩,
     ⟨some 7, none, .call 151 [.t 6], []⟩])
   (.cond (.t 7)
    (.seq
     (.ops 2 [⟨some 4, none, .mv (.c (.int .i64 1)), []⟩])
     .ret)
    .skip))
  (.seq
   (.seq
    (.ops 3 [⟨some 8, none, .mv (.t 1), []⟩,
      ⟨some 9, none, .bin .neq (.t 8) (.c (.int .i64 0)), []⟩])
    (.cond (.t 9)
     (.seq
      (.ops 4 [⟨some 10, none, .mv (.t 0), []⟩,
        ⟨some 11, none, .mv (.t 1), []⟩,
        ⟨some 12, none, .call 154 [.t 10, .t 11, .c (.bool false)], []⟩,
        ⟨some 5, none, .mv (.t 12), []⟩])
      (.seq
       (.ops 5 [⟨some 13, none, .mv (.t 5), []⟩,
         ⟨some 14, none, .bin .neq (.t 13) (.c (.int .i64 0)), []⟩])
       (.cond (.t 14)
        (.seq
         (.ops 6 [⟨some 15, none, .mv (.t 5), []⟩,
           ⟨some 4, none, .mv (.t 15), []⟩])
         .ret)
        .skip)))
     .skip))
   (.seq
    (.ops 7 [⟨some 16, none, .mv (.t 0), []⟩,
      ⟨some 17, none, .nilc (.t 16) (mok Tryz.prog), []⟩,
      ⟨some 18, none, .fld 0 (.t 17), []⟩,
      ⟨some 19, none, .ld 1 true (.t 18), []⟩,
      ⟨some 20, none, .mv (.t 1), []⟩,
      ⟨some 21, none, .cvi .u64 (.t 20), []⟩,
      ⟨some 22, none, .call 148 [.t 19, .c (.int .i64 3), .t 21], []⟩])
    (.seq
     (.ops 8 [⟨some 4, none, .mv (.c (.int .i64 0)), []⟩])
     .ret)))))⟩
theorem F115_code : cfgA.code 115 = some F115 := by kernel_rfl

/-- (*ticketline/arena.Arena).Mem -/
noncomputable def F116 : AFn := ⟨11, [.tmp 2], (.seq
 (.ops 0 [⟨some 2, none, .mv (.c (.nilp)), []⟩])
 (.seq
  (.seq
   (.ops 1 [⟨some 3, none, .mv (.t 0), []⟩,
     ⟨some 4, none, .call 151 [.t 3], []⟩])
   (.cond (.t 4)
    (.seq
     (.ops 2 [⟨some 2, none, .mv (.c (.nilp)), []⟩])
     .ret)
    .skip))
  (.seq
   (.ops 3 [⟨some 5, none, .mv (.t 0), []⟩,
     ⟨some 6, none, .nilc (.t 5) (mok Tryz.prog), []⟩,
     ⟨some 7, none, .fld 0 (.t 6), []⟩,
     ⟨some 8, none, .fld 0 (.t 7), []⟩,
     ⟨some 9, none, .ld 1 false (.t 8), []⟩,
     ⟨some 10, none, .call 147 [.t 9], []⟩,
     ⟨some 2, none, .mv (.t 10), []⟩])
   .ret)))⟩
theorem F116_code : cfgA.code 116 = some F116 := by kernel_rfl

/-- ticketline/mem.NewOnce -/
noncomputable def F117 : AFn := ⟨9, [.tmp 2, .tmp 3], (.seq
 (.ops 0 [⟨some 2, none, .mv (.c (.nilp)), []⟩,
   ⟨some 3, none, .mv (.c (.int .i64 0)), []⟩])
 (.seq
  (.seq
   (.ops 1 [⟨some 4, none, .mv (.t 0), []⟩,
     ⟨some 5, none, .call 121 [.t 4], []⟩])
   (.cond (.t 5)
    (.seq
     (.ops 2 [⟨some 2, none, .mv (.c (.nilp)), []⟩,
       ⟨some 3, none, .mv (.c (.int .i64 1)), []⟩])
     .ret)
    .skip))
  (.seq
   (.ops 3 [⟨some 6, none, .mv (.t 0), []⟩,
     ⟨some 7, none, .build [.nilp, .int .i64 0, .int .i64 0, .int .u64 0, .int .u64 0] [(0, 1, (.t 6))], []⟩,
     ⟨some 8, none, .box 5 (.t 7) true, []⟩,
     ⟨some 2, none, .mv (.t 8), []⟩,
     ⟨some 3, none, .mv (.c (.int .i64 0)), []⟩])
   .ret)))⟩
theorem F117_code : cfgA.code 117 = some F117 := by kernel_rfl

/-- (*ticketline/mem.Once).Access -/
noncomputable def F118 : AFn := ⟨10, [.cell 2 4 true], (.seq
 (.ops 0 [⟨some 2, none, .alloc [.int .i64 0, .int .i64 0, .int .u64 0, .int .u64 0] false, []⟩])
 (.seq
  (.seq
   (.ops 1 [⟨some 3, none, .mv (.t 0), []⟩,
     ⟨some 4, none, .call 155 [.t 3], []⟩])
   (.cond (.t 4)
    (.seq
     (.ops 2 [⟨some 5, none, .build [.int .i64 0, .int .i64 0, .int .u64 0, .int .u64 0] [], []⟩,
       ⟨none, none, .st 4 (.t 2) (.t 5), []⟩])
     .ret)
    .skip))
  (.seq
   (.ops 3 [⟨some 6, none, .mv (.t 0), []⟩,
     ⟨some 7, none, .nilc (.t 6) (mok Tryz.prog), []⟩,
     ⟨some 8, none, .fld 1 (.t 7), []⟩,
     ⟨some 9, none, .ld 4 true (.t 8), []⟩,
     ⟨none, none, .st 4 (.t 2) (.t 9), []⟩])
   .ret)))⟩
theorem F118_code : cfgA.code 118 = some F118 := by kernel_rfl

/-- ticketline/slot.list: the round 0 -/
noncomputable def B119x0 : AC := (.seq
 (.seq
  (.ops 15 [⟨some 68, none, .mv (.t 10), []⟩,
    ⟨some 69, none, .fld 2 (.t 7), []⟩,
    ⟨some 70, none, .ld 1 false (.t 69), []⟩,
    ⟨some 71, none, .bin .lss (.t 68) (.t 70), []⟩])
  (.cond (.t 71)
   .skip
   (.exit 2)))
 (.seq
  (.block 3
   (.seq
    (.seq
     (.ops 17 [⟨some 74, none, .mv (.t 10), []⟩,
       ⟨some 75, none, .ixa (some 128) 1 (.t 5) (.t 74), []⟩,
       ⟨some 76, none, .ld 1 false (.t 75), []⟩])
     (.cond (.t 76)
      (.seq
       (.ops 18 [⟨some 2, none, .mv (.c (.nils)), []⟩,
         ⟨some 3, none, .mv (.c (.bool false)), []⟩])
       .ret)
      .skip))
    (.ops 19 [⟨some 77, none, .mv (.t 10), []⟩,
      ⟨some 78, none, .ixa (some 128) 1 (.t 5) (.t 77), []⟩,
      ⟨none, none, .st 1 (.t 78) (.c (.bool true)), []⟩])))
  (.ops 16 [⟨some 72, none, .mv (.t 10), []⟩,
    ⟨some 73, none, .bin .add (.t 72) (.c (.int .i64 1)), []⟩,
    ⟨some 10, none, .mv (.t 73), []⟩])))
/-- ticketline/slot.list: the round 1 -/
noncomputable def B119x1 : AC := (.seq
 (.ops 6 [⟨some 20, none, .bin .lss (.t 19) (.t 18), []⟩])
 (.seq
  (.cond (.t 20)
   .skip
   (.exit 0))
  (.seq
   (.block 1
    (.seq
     (.ops 7 [⟨some 21, none, .mv (.t 19), []⟩,
       ⟨some 6, none, .mv (.t 21), []⟩])
     (.seq
      (.seq
       (.ops 8 [⟨some 22, none, .mv (.t 0), []⟩,
         ⟨some 23, none, .mv (.t 6), []⟩,
         ⟨some 24, none, .call 157 [.t 22, .t 23], []⟩,
         ⟨some 25, none, .un .not (.t 24), []⟩])
       (.cond (.t 25)
        (.seq
         (.ops 9 [⟨some 2, none, .mv (.c (.nils)), []⟩,
           ⟨some 3, none, .mv (.c (.bool false)), []⟩])
         .ret)
        .skip))
      (.seq
       (.ops 10 [⟨some 26, none, .mv (.t 0), []⟩,
         ⟨some 27, none, .mv (.t 6), []⟩,
         ⟨some 28, none, .bin .add (.c (.int .i64 20)) (.t 27), []⟩,
         ⟨some 29, none, .nilc (.t 26) (mok Tryz.prog), []⟩,
         ⟨some 30, none, .ixa (some 128) 1 (.t 29) (.t 28), []⟩,
         ⟨some 31, none, .ld 1 false (.t 30), []⟩,
         ⟨some 32, none, .call 158 [.t 31], []⟩,
         ⟨some 7, none, .alloc [.int .i64 0, .int .i64 0, .int .i64 0, .int .i64 0, .int .i64 0] false, []⟩,
         ⟨none, none, .st 5 (.t 7) (.t 32), []⟩])
       (.seq
        (.ops 11 [⟨some 34, none, .mv (.t 0), []⟩,
          ⟨some 35, none, .ld 5 true (.t 7), []⟩,
          ⟨some 36, none, .call 159 [.t 34, .t 35], []⟩,
          ⟨some 33, none, .mv (.t 36), []⟩,
          ⟨some 37, none, .ext (.t 33) 0, []⟩,
          ⟨some 38, none, .ext (.t 33) 1, []⟩,
          ⟨some 8, none, .alloc [.str [], .str []] false, []⟩,
          ⟨none, none, .st 2 (.t 8) (.t 37), []⟩,
          ⟨some 9, none, .mv (.t 38), []⟩])
        (.seq
         (.seq
          (.ops 12 [⟨some 39, none, .mv (.t 9), []⟩,
            ⟨some 40, none, .bin .neq (.t 39) (.c (.int .i64 0)), []⟩,
            ⟨some 41, none, .mv (.t 40), []⟩,
            ⟨some 42, some (41, false), .mv (.t 0), []⟩,
            ⟨some 43, some (41, false), .nilc (.t 42) (mok Tryz.prog), []⟩,
            ⟨some 44, some (41, false), .ixa (some 128) 1 (.t 43) (.c (.int .i64 8)), []⟩,
            ⟨some 45, some (41, false), .ld 1 false (.t 44), []⟩,
            ⟨some 46, some (41, false), .bin .gtr (.t 45) (.c (.int .u64 1)), []⟩,
            ⟨some 47, some (41, false), .mv (.t 46), []⟩,
            ⟨some 48, some (47, true), .mv (.t 0), []⟩,
            ⟨some 49, some (47, true), .fld 1 (.t 7), []⟩,
            ⟨some 50, some (47, true), .ld 1 false (.t 49), []⟩,
            ⟨some 51, some (47, true), .nilc (.t 48) (mok Tryz.prog), []⟩,
            ⟨some 52, some (47, true), .ixa (some 128) 1 (.t 51) (.t 50), []⟩,
            ⟨some 53, some (47, true), .ld 1 false (.t 52), []⟩,
            ⟨some 54, some (47, true), .bin .lss (.t 53) (.c (.int .u64 1)), []⟩,
            ⟨some 55, some (47, true), .mv (.t 54), []⟩,
            ⟨some 56, some (55, false), .mv (.t 0), []⟩,
            ⟨some 57, some (55, false), .fld 1 (.t 7), []⟩,
            ⟨some 58, some (55, false), .ld 1 false (.t 57), []⟩,
            ⟨some 59, some (55, false), .nilc (.t 56) (mok Tryz.prog), []⟩,
            ⟨some 60, some (55, false), .ixa (some 128) 1 (.t 59) (.t 58), []⟩,
            ⟨some 61, some (55, false), .ld 1 false (.t 60), []⟩,
            ⟨some 62, some (55, false), .bin .gtr (.t 61) (.c (.int .u64 511)), []⟩,
            ⟨some 63, some (47, true), .pick (.t 55) (.c (.bool true)) (.t 62), []⟩,
            ⟨some 64, some (41, false), .pick (.t 47) (.t 63) (.c (.bool false)), []⟩,
            ⟨some 65, none, .pick (.t 41) (.c (.bool true)) (.t 64), []⟩])
          (.cond (.t 65)
           (.seq
            (.ops 13 [⟨some 2, none, .mv (.c (.nils)), []⟩,
              ⟨some 3, none, .mv (.c (.bool false)), []⟩])
            .ret)
           .skip))
         (.seq
          (.seq
           (.ops 14 [⟨some 66, none, .fld 0 (.t 7), []⟩,
             ⟨some 67, none, .ld 1 false (.t 66), []⟩,
             ⟨some 10, none, .mv (.t 67), []⟩])
           (.block 2
            (.loop [] B119x0)))
          (.ops 20 [⟨some 79, none, .mv (.t 4), []⟩,
            ⟨some 80, none, .ld 2 true (.t 8), []⟩,
            ⟨some 81, none, .bslice [.str [], .str []] 2 1 [(0, (.t 80))] false false, []⟩,
            ⟨some 82, none, .app 2 32 (.t 79) (.t 81) false, []⟩,
            ⟨some 4, none, .mv (.t 82), []⟩]))))))))
   (.ops 21 [⟨some 83, none, .bin .add (.t 19) (.c (.int .i64 1)), []⟩,
     ⟨some 19, none, .mv (.t 83), []⟩]))))
/-- ticketline/slot.list -/
noncomputable def F119 : AFn := ⟨85, [.tmp 2, .tmp 3], (.seq
 (.ops 0 [⟨some 2, none, .mv (.c (.nils)), []⟩,
   ⟨some 3, none, .mv (.c (.bool false)), []⟩])
 (.seq
  (.seq
   (.ops 1 [⟨some 11, none, .mv (.t 0), []⟩,
     ⟨some 12, none, .call 156 [.t 11], []⟩,
     ⟨some 13, none, .un .not (.t 12), []⟩])
   (.cond (.t 13)
    (.seq
     (.ops 2 [⟨some 2, none, .mv (.c (.nils)), []⟩,
       ⟨some 3, none, .mv (.c (.bool false)), []⟩])
     .ret)
    .skip))
  (.seq
   (.ops 3 [⟨some 4, none, .mv (.c (.nils)), []⟩])
   (.seq
    (.ops 4 [⟨some 5, none, .alloc (List.replicate 128 (.bool false)) false, []⟩])
    (.seq
     (.seq
      (.ops 5 [⟨some 14, none, .mv (.t 0), []⟩,
        ⟨some 15, none, .nilc (.t 14) (mok Tryz.prog), []⟩,
        ⟨some 16, none, .ixa (some 128) 1 (.t 15) (.c (.int .i64 9)), []⟩,
        ⟨some 17, none, .ld 1 false (.t 16), []⟩,
        ⟨some 18, none, .cvi .i64 (.t 17), []⟩,
        ⟨some 19, none, .mv (.c (.int .i64 0)), []⟩])
      (.block 0
       (.loop [] B119x1)))
     (.seq
      (.ops 22 [⟨some 84, none, .mv (.t 4), []⟩,
        ⟨some 2, none, .mv (.t 84), []⟩,
        ⟨some 3, none, .mv (.c (.bool true)), []⟩])
      .ret))))))⟩
theorem F119_code : cfgA.code 119 = some F119 := by kernel_rfl

/-- (*ticketline/mem.Mem).Do -/
noncomputable def F120 : AFn := ⟨86, [.cell 4 4 true, .tmp 5], (.seq
 (.ops 0 [⟨some 3, none, .box 4 (.t 1) false, []⟩,
   ⟨some 4, none, .alloc [.int .i64 0, .int .i64 0, .int .u64 0, .int .u64 0] false, []⟩,
   ⟨some 5, none, .mv (.c (.int .i64 0)), []⟩])
 (.seq
  (.block 0
   (.seq
    (.ops 1 [⟨some 8, none, .mv (.t 0), []⟩,
      ⟨some 9, none, .call 121 [.t 8], []⟩,
      ⟨some 7, none, .mv (.t 9), []⟩])
    (.cond (.t 7)
     (.seq
      (.ops 2 [⟨some 10, none, .build [.int .i64 0, .int .i64 0, .int .u64 0, .int .u64 0] [], []⟩,
        ⟨none, none, .st 4 (.t 4) (.t 10), []⟩,
        ⟨some 5, none, .mv (.c (.int .i64 1)), []⟩])
      .ret)
     (.seq
      (.ops 3 [⟨some 12, none, .fld 0 (.t 3), []⟩,
        ⟨some 13, none, .ld 1 false (.t 12), []⟩,
        ⟨some 14, none, .bin .lss (.t 13) (.c (.int .i64 1)), []⟩,
        ⟨some 15, none, .mv (.t 14), []⟩,
        ⟨some 16, some (15, false), .fld 0 (.t 3), []⟩,
        ⟨some 17, some (15, false), .ld 1 false (.t 16), []⟩,
        ⟨some 18, some (15, false), .bin .gtr (.t 17) (.c (.int .i64 4)), []⟩,
        ⟨some 19, none, .pick (.t 15) (.c (.bool true)) (.t 18), []⟩,
        ⟨some 11, none, .mv (.t 19), []⟩])
      (.cond (.t 11)
       (.seq
        (.ops 4 [⟨some 20, none, .build [.int .i64 0, .int .i64 0, .int .u64 0, .int .u64 0] [], []⟩,
          ⟨none, none, .st 4 (.t 4) (.t 20), []⟩,
          ⟨some 5, none, .mv (.c (.int .i64 2)), []⟩])
        .ret)
       (.seq
        (.ops 5 [⟨some 22, none, .fld 1 (.t 3), []⟩,
          ⟨some 23, none, .ld 1 false (.t 22), []⟩,
          ⟨some 24, none, .bin .lss (.t 23) (.c (.int .i64 0)), []⟩,
          ⟨some 25, none, .mv (.t 24), []⟩,
          ⟨some 26, some (25, false), .fld 1 (.t 3), []⟩,
          ⟨some 27, some (25, false), .ld 1 false (.t 26), []⟩,
          ⟨some 28, some (25, false), .mv (.t 0), []⟩,
          ⟨some 29, some (25, false), .nilc (.t 28) (mok Tryz.prog), []⟩,
          ⟨some 30, some (25, false), .fld 0 (.t 29), []⟩,
          ⟨some 31, some (25, false), .ld 1 false (.t 30), []⟩,
          ⟨some 32, some (25, false), .len .slice (.t 31), []⟩,
          ⟨some 33, some (25, false), .bin .geq (.t 27) (.t 32), []⟩,
          ⟨some 34, none, .pick (.t 25) (.c (.bool true)) (.t 33), []⟩,
          ⟨some 21, none, .mv (.t 34), []⟩])
        (.cond (.t 21)
         (.seq
          (.ops 6 [⟨some 35, none, .build [.int .i64 0, .int .i64 0, .int .u64 0, .int .u64 0] [], []⟩,
            ⟨none, none, .st 4 (.t 4) (.t 35), []⟩,
            ⟨some 5, none, .mv (.c (.int .i64 3)), []⟩])
          .ret)
         .skip)))))))
  (.seq
   (.ops 7 [⟨some 36, none, .mv (.t 0), []⟩,
     ⟨some 37, none, .nilc (.t 36) (mok Tryz.prog), []⟩,
     ⟨some 38, none, .fld 0 (.t 37), []⟩,
     ⟨some 39, none, .ld 1 false (.t 38), []⟩,
     ⟨some 40, none, .fld 1 (.t 3), []⟩,
     ⟨some 41, none, .ld 1 false (.t 40), []⟩,
     ⟨some 42, none, .ixa none 1 (.t 39) (.t 41), []⟩,
     ⟨some 43, none, .ld 1 false (.t 42), []⟩,
     ⟨some 6, none, .mv (.t 43), []⟩])
   (.seq
    (.seq
     (.ops 8 [⟨some 44, none, .fld 0 (.t 3), []⟩,
       ⟨some 45, none, .ld 1 false (.t 44), []⟩,
       ⟨some 46, none, .bin .eql (.t 45) (.c (.int .i64 2)), []⟩,
       ⟨some 47, none, .mv (.t 46), []⟩,
       ⟨some 48, some (47, false), .fld 0 (.t 3), []⟩,
       ⟨some 49, some (47, false), .ld 1 false (.t 48), []⟩,
       ⟨some 50, some (47, false), .bin .eql (.t 49) (.c (.int .i64 4)), []⟩,
       ⟨some 51, none, .pick (.t 47) (.c (.bool true)) (.t 50), []⟩,
       ⟨some 52, none, .mv (.t 51), []⟩,
       ⟨some 53, some (52, false), .fld 0 (.t 3), []⟩,
       ⟨some 54, some (52, false), .ld 1 false (.t 53), []⟩,
       ⟨some 55, some (52, false), .bin .eql (.t 54) (.c (.int .i64 3)), []⟩,
       ⟨some 56, some (52, false), .mv (.t 55), []⟩,
       ⟨some 57, some (56, true), .mv (.t 6), []⟩,
       ⟨some 58, some (56, true), .fld 2 (.t 3), []⟩,
       ⟨some 59, some (56, true), .ld 1 false (.t 58), []⟩,
       ⟨some 60, some (56, true), .bin .eql (.t 57) (.t 59), []⟩,
       ⟨some 61, some (52, false), .pick (.t 56) (.t 60) (.c (.bool false)), []⟩,
       ⟨some 62, none, .pick (.t 52) (.c (.bool true)) (.t 61), []⟩])
     (.cond (.t 62)
      (.ops 9 [⟨some 63, none, .mv (.t 0), []⟩,
        ⟨some 64, none, .nilc (.t 63) (mok Tryz.prog), []⟩,
        ⟨some 65, none, .fld 0 (.t 64), []⟩,
        ⟨some 66, none, .ld 1 false (.t 65), []⟩,
        ⟨some 67, none, .fld 1 (.t 3), []⟩,
        ⟨some 68, none, .ld 1 false (.t 67), []⟩,
        ⟨some 69, none, .fld 3 (.t 3), []⟩,
        ⟨some 70, none, .ld 1 false (.t 69), []⟩,
        ⟨some 71, none, .ixa none 1 (.t 66) (.t 68), []⟩,
        ⟨none, none, .st 1 (.t 71) (.t 70), []⟩])
      .skip))
    (.seq
     (.ops 10 [⟨some 72, none, .fld 0 (.t 3), []⟩,
       ⟨some 73, none, .ld 1 false (.t 72), []⟩,
       ⟨some 74, none, .fld 1 (.t 3), []⟩,
       ⟨some 75, none, .ld 1 false (.t 74), []⟩,
       ⟨some 76, none, .mv (.t 6), []⟩,
       ⟨some 77, none, .mv (.t 0), []⟩,
       ⟨some 78, none, .nilc (.t 77) (mok Tryz.prog), []⟩,
       ⟨some 79, none, .fld 0 (.t 78), []⟩,
       ⟨some 80, none, .ld 1 false (.t 79), []⟩,
       ⟨some 81, none, .fld 1 (.t 3), []⟩,
       ⟨some 82, none, .ld 1 false (.t 81), []⟩,
       ⟨some 83, none, .ixa none 1 (.t 80) (.t 82), []⟩,
       ⟨some 84, none, .ld 1 false (.t 83), []⟩,
       ⟨some 85, none, .build [.int .i64 0, .int .i64 0, .int .u64 0, .int .u64 0] [(0, 1, (.t 73)), (1, 1, (.t 75)), (2, 1, (.t 76)), (3, 1, (.t 84))], []⟩,
       ⟨none, none, .st 4 (.t 4) (.t 85), []⟩,
       ⟨some 5, none, .mv (.c (.int .i64 0)), []⟩])
     .ret)))))⟩
theorem F120_code : cfgA.code 120 = some F120 := by kernel_rfl

/-- (*ticketline/mem.Mem).zero -/
noncomputable def F121 : AFn := ⟨13, [.tmp 2], (.seq
 (.ops 0 [⟨some 2, none, .mv (.c (.bool false)), []⟩])
 (.seq
  (.ops 1 [⟨some 3, none, .mv (.t 0), []⟩,
    ⟨some 4, none, .eqn .ptr false (.t 3), []⟩,
    ⟨some 5, none, .mv (.t 4), []⟩,
    ⟨some 6, some (5, false), .mv (.t 0), []⟩,
    ⟨some 7, some (5, false), .nilc (.t 6) (mok Tryz.prog), []⟩,
    ⟨some 8, some (5, false), .fld 0 (.t 7), []⟩,
    ⟨some 9, some (5, false), .ld 1 false (.t 8), []⟩,
    ⟨some 10, some (5, false), .len .slice (.t 9), []⟩,
    ⟨some 11, some (5, false), .bin .eql (.t 10) (.c (.int .i64 0)), []⟩,
    ⟨some 12, none, .pick (.t 5) (.c (.bool true)) (.t 11), []⟩,
    ⟨some 2, none, .mv (.t 12), []⟩])
  .ret))⟩
theorem F121_code : cfgA.code 121 = some F121 := by kernel_rfl

/-- ticketline/arena.Word -/
noncomputable def F128 : AFn := ⟨23, [.tmp 4, .tmp 5], (.seq
 (.ops 0 [⟨some 4, none, .mv (.c (.int .i64 0)), []⟩,
   ⟨some 5, none, .mv (.c (.int .i64 0)), []⟩])
 (.seq
  (.seq
   (.ops 1 [⟨some 6, none, .mv (.t 0), []⟩,
     ⟨some 7, none, .bin .lss (.t 6) (.c (.int .i64 1)), []⟩,
     ⟨some 8, none, .mv (.t 7), []⟩,
     ⟨some 9, some (8, false), .mv (.t 0), []⟩,
     ⟨some 10, some (8, false), .bin .gtr (.t 9) (.c (.int .i64 511)), []⟩,
     ⟨some 11, none, .pick (.t 8) (.c (.bool true)) (.t 10), []⟩,
     ⟨some 12, none, .mv (.t 11), []⟩,
     ⟨some 13, some (12, false), .mv (.t 1), []⟩,
     ⟨some 14, some (12, false), .bin .lss (.t 13) (.c (.int .i64 0)), []⟩,
     ⟨some 15, none, .pick (.t 12) (.c (.bool true)) (.t 14), []⟩,
     ⟨some 16, none, .mv (.t 15), []⟩,
     ⟨some 17, some (16, false), .mv (.t 1), []⟩,
     ⟨some 18, some (16, false), .bin .geq (.t 17) (.c (.int .i64 128)), []⟩,
     ⟨some 19, none, .pick (.t 16) (.c (.bool true)) (.t 18), []⟩])
   (.cond (.t 19)
    (.seq
     (.ops 2 [⟨some 4, none, .mv (.c (.int .i64 0)), []⟩,
       ⟨some 5, none, .mv (.c (.int .i64 3)), []⟩])
     .ret)
    .skip))
  (.seq
   (.ops 3 [⟨some 20, none, .mv (.t 0), []⟩,
     ⟨some 21, none, .mv (.t 1), []⟩,
     ⟨some 22, none, .call 146 [.t 20, .t 21], []⟩,
     ⟨some 4, none, .mv (.t 22), []⟩,
     ⟨some 5, none, .mv (.c (.int .i64 0)), []⟩])
   .ret)))⟩
theorem F128_code : cfgA.code 128 = some F128 := by kernel_rfl

/-- (*ticketline/mem.Mem).Load -/
noncomputable def F135 : AFn := ⟨18, [.tmp 4, .tmp 5], (.seq
 (.ops 0 [⟨some 4, none, .mv (.c (.int .u64 0)), []⟩,
   ⟨some 5, none, .mv (.c (.int .i64 0)), []⟩])
 (.seq
  (.ops 1 [⟨some 9, none, .mv (.t 0), []⟩,
    ⟨some 10, none, .mv (.t 1), []⟩,
    ⟨some 11, none, .build [.int .i64 0, .int .i64 0, .int .u64 0, .int .u64 0] [(0, 1, (.c (.int .i64 1))), (1, 1, (.t 10))], []⟩,
    ⟨some 12, none, .call 120 [.t 9, .t 11], []⟩,
    ⟨some 8, none, .mv (.t 12), []⟩,
    ⟨some 13, none, .ext (.t 8) 0, []⟩,
    ⟨some 14, none, .ext (.t 8) 1, []⟩,
    ⟨some 6, none, .alloc [.int .i64 0, .int .i64 0, .int .u64 0, .int .u64 0] false, []⟩,
    ⟨none, none, .st 4 (.t 6) (.t 13), []⟩,
    ⟨some 7, none, .mv (.t 14), []⟩])
  (.seq
   (.ops 2 [⟨some 15, none, .fld 2 (.t 6), []⟩,
     ⟨some 16, none, .ld 1 false (.t 15), []⟩,
     ⟨some 17, none, .mv (.t 7), []⟩,
     ⟨some 4, none, .mv (.t 16), []⟩,
     ⟨some 5, none, .mv (.t 17), []⟩])
   .ret)))⟩
theorem F135_code : cfgA.code 135 = some F135 := by kernel_rfl

/-- slices.Clone[[]uint64,uint64] -/
noncomputable def F139 : AFn := ⟨8, [.tmp 2], (.seq
 (.ops 0 [⟨some 2, none, .mv (.c (.nils)), []⟩])
 (.seq
  (.seq
   (.ops 1 [⟨some 3, none, .mv (.t 0), []⟩,
     ⟨some 4, none, .eqn .slice false (.t 3), []⟩])
   (.cond (.t 4)
    (.seq
     (.ops 2 [⟨some 2, none, .mv (.c (.nils)), []⟩])
     .ret)
    .skip))
  (.seq
   (.ops 3 [⟨some 5, none, .bslice [.int .u64 0] 1 0 [] false false, []⟩,
     ⟨some 6, none, .mv (.t 0), []⟩,
     ⟨some 7, none, .app 1 8 (.t 5) (.t 6) true, []⟩,
     ⟨some 2, none, .mv (.t 7), []⟩])
   .ret)))⟩
theorem F139_code : cfgA.code 139 = some F139 := by kernel_rfl

/-- ticketline/fence.place -/
noncomputable def F140 : AFn := ⟨21, [.tmp 6], (.seq
 (.ops 0 [⟨some 6, none, .mv (.c (.int .i64 0)), []⟩])
 (.seq
  (.block 0
   (.seq
    (.ops 1 [⟨some 8, none, .mv (.t 2), []⟩,
      ⟨some 9, none, .mv (.t 0), []⟩,
      ⟨some 10, none, .call 149 [.t 8, .t 9], []⟩,
      ⟨some 11, none, .bin .lss (.t 10) (.c (.int .i64 0)), []⟩,
      ⟨some 7, none, .mv (.t 11), []⟩])
    (.cond (.t 7)
     (.seq
      (.ops 2 [⟨some 6, none, .mv (.c (.int .i64 (-1))), []⟩])
      .ret)
     (.seq
      (.ops 3 [⟨some 13, none, .mv (.t 1), []⟩,
        ⟨some 14, none, .bin .neq (.t 13) (.c (.str [])), []⟩,
        ⟨some 15, none, .mv (.t 14), []⟩,
        ⟨some 16, some (15, true), .mv (.t 2), []⟩,
        ⟨some 17, some (15, true), .mv (.t 1), []⟩,
        ⟨some 18, some (15, true), .call 149 [.t 16, .t 17], []⟩,
        ⟨some 19, some (15, true), .bin .geq (.t 18) (.c (.int .i64 0)), []⟩,
        ⟨some 20, none, .pick (.t 15) (.t 19) (.c (.bool false)), []⟩,
        ⟨some 12, none, .mv (.t 20), []⟩])
      (.cond (.t 12)
       (.seq
        (.ops 4 [⟨some 6, none, .mv (.c (.int .i64 1)), []⟩])
        .ret)
       .skip)))))
  (.seq
   (.ops 5 [⟨some 6, none, .mv (.c (.int .i64 0)), []⟩])
   .ret)))⟩
theorem F140_code : cfgA.code 140 = some F140 := by kernel_rfl

/-- ticketline/slot.Valid -/
noncomputable def F141 : AFn := ⟨10, [.tmp 2], (.seq
 (.ops 0 [⟨some 1, none, .box 128 (.t 0) false, []⟩,
   ⟨some 2, none, .mv (.c (.bool false)), []⟩])
 (.seq
  (.ops 1 [⟨some 6, none, .call 119 [.t 1], []⟩,
    ⟨some 5, none, .mv (.t 6), []⟩,
    ⟨some 7, none, .ext (.t 5) 0, []⟩,
    ⟨some 8, none, .ext (.t 5) 1, []⟩,
    ⟨some 3, none, .mv (.t 7), []⟩,
    ⟨some 4, none, .mv (.t 8), []⟩])
  (.seq
   (.ops 2 [⟨some 9, none, .mv (.t 4), []⟩,
     ⟨some 2, none, .mv (.t 9), []⟩])
   .ret)))⟩
theorem F141_code : cfgA.code 141 = some F141 := by kernel_rfl

/-- ticketline/slot.fence: the round 0 -/
noncomputable def B143x0 : AC := (.seq
 (.ops 6 [⟨some 35, none, .bin .lss (.t 34) (.t 33), []⟩])
 (.seq
  (.cond (.t 35)
   .skip
   (.exit 0))
  (.seq
   (.block 1
    (.seq
     (.ops 7 [⟨some 36, none, .ixa none 1 (.t 32) (.t 34), []⟩,
       ⟨some 37, none, .ld 1 false (.t 36), []⟩,
       ⟨some 9, none, .mv (.t 37), []⟩])
     (.seq
      (.ops 8 [⟨some 38, none, .mv (.t 9), []⟩,
        ⟨some 39, none, .bin .neq (.t 38) (.c (.int .u64 0)), []⟩])
      (.cond (.t 39)
       (.seq
        (.ops 9 [⟨some 4, none, .mv (.c (.str [])), []⟩,
          ⟨some 5, none, .mv (.c (.int .i64 12)), []⟩])
        .ret)
       .skip))))
   (.ops 10 [⟨some 40, none, .bin .add (.t 34) (.c (.int .i64 1)), []⟩,
     ⟨some 34, none, .mv (.t 40), []⟩]))))
/-- ticketline/slot.fence -/
noncomputable def F143 : AFn := ⟨51, [.tmp 4, .tmp 5], (.seq
 (.ops 0 [⟨some 4, none, .mv (.c (.str [])), []⟩,
   ⟨some 5, none, .mv (.c (.int .i64 0)), []⟩])
 (.seq
  (.seq
   (.ops 1 [⟨some 10, none, .mv (.t 0), []⟩,
     ⟨some 11, none, .mv (.t 1), []⟩,
     ⟨some 12, none, .nilc (.t 10) (mok Tryz.prog), []⟩,
     ⟨some 13, none, .ixa (some 128) 1 (.t 12) (.t 11), []⟩,
     ⟨some 14, none, .ld 1 false (.t 13), []⟩,
     ⟨some 15, none, .bin .gtr (.t 14) (.c (.int .u64 24)), []⟩])
   (.cond (.t 15)
    (.seq
     (.ops 2 [⟨some 4, none, .mv (.c (.str [])), []⟩,
       ⟨some 5, none, .mv (.c (.int .i64 12)), []⟩])
     .ret)
    .skip))
  (.seq
   (.ops 3 [⟨some 16, none, .mv (.t 0), []⟩,
     ⟨some 17, none, .mv (.t 1), []⟩,
     ⟨some 18, none, .nilc (.t 16) (mok Tryz.prog), []⟩,
     ⟨some 19, none, .ixa (some 128) 1 (.t 18) (.t 17), []⟩,
     ⟨some 20, none, .ld 1 false (.t 19), []⟩,
     ⟨some 21, none, .cvi .i64 (.t 20), []⟩,
     ⟨some 6, none, .mv (.t 21), []⟩])
   (.seq
    (.ops 4 [⟨some 22, none, .mv (.t 1), []⟩,
      ⟨some 23, none, .bin .add (.t 22) (.c (.int .i64 1)), []⟩,
      ⟨some 24, none, .mv (.t 6), []⟩,
      ⟨some 25, none, .call 173 [.t 24], []⟩,
      ⟨some 26, none, .bin .add (.t 23) (.t 25), []⟩,
      ⟨some 7, none, .mv (.t 26), []⟩])
    (.seq
     (.seq
      (.ops 5 [⟨some 27, none, .mv (.t 0), []⟩,
        ⟨some 28, none, .nilc (.t 27) (mok Tryz.prog), []⟩,
        ⟨some 29, none, .mv (.t 7), []⟩,
        ⟨some 30, none, .mv (.t 1), []⟩,
        ⟨some 31, none, .bin .add (.t 30) (.c (.int .i64 4)), []⟩,
        ⟨some 32, none, .slc (some 128) 1 (.t 28) (some (.t 29)) (some (.t 31)), []⟩,
        ⟨some 33, none, .len .slice (.t 32), []⟩,
        ⟨some 34, none, .mv (.c (.int .i64 0)), []⟩])
      (.block 0
       (.loop [] B143x0)))
     (.seq
      (.ops 11 [⟨some 41, none, .mv (.t 0), []⟩,
        ⟨some 42, none, .nilc (.t 41) (mok Tryz.prog), []⟩,
        ⟨some 43, none, .mv (.t 1), []⟩,
        ⟨some 44, none, .bin .add (.t 43) (.c (.int .i64 1)), []⟩,
        ⟨some 45, none, .mv (.t 7), []⟩,
        ⟨some 46, none, .slc (some 128) 1 (.t 42) (some (.t 44)) (some (.t 45)), []⟩,
        ⟨some 47, none, .mv (.t 6), []⟩,
        ⟨some 48, none, .call 174 [.t 46, .t 47], []⟩,
        ⟨some 49, none, .ext (.t 48) 0, []⟩,
        ⟨some 50, none, .ext (.t 48) 1, []⟩,
        ⟨some 4, none, .mv (.t 49), []⟩,
        ⟨some 5, none, .mv (.t 50), []⟩])
      .ret))))))⟩
theorem F143_code : cfgA.code 143 = some F143 := by kernel_rfl

/-- ticketline/version.wrong -/
noncomputable def F144 : AFn := ⟨43, [.tmp 6], (.seq
 (.ops 0 [⟨some 6, none, .mv (.c (.bool false)), []⟩])
 (.seq
  (.seq
   (.ops 1 [⟨some 7, none, .mv (.t 0), []⟩,
     ⟨some 8, none, .call 175 [.t 7], []⟩,
     ⟨some 9, none, .un .not (.t 8), []⟩,
     ⟨some 10, none, .mv (.t 9), []⟩,
     ⟨some 11, some (10, false), .mv (.t 2), []⟩,
     ⟨some 12, some (10, false), .bin .lss (.t 11) (.c (.int .i64 0)), []⟩,
     ⟨some 13, none, .pick (.t 10) (.c (.bool true)) (.t 12), []⟩,
     ⟨some 14, none, .mv (.t 13), []⟩,
     ⟨some 15, some (14, false), .mv (.t 2), []⟩,
     ⟨some 16, some (14, false), .bin .gtr (.t 15) (.c (.int .i64 256)), []⟩,
     ⟨some 17, none, .pick (.t 14) (.c (.bool true)) (.t 16), []⟩])
   (.cond (.t 17)
    (.seq
     (.ops 2 [⟨some 6, none, .mv (.c (.bool true)), []⟩])
     .ret)
    .skip))
  (.seq
   (.ops 3 [⟨some 18, none, .mv (.t 2), []⟩,
     ⟨some 19, none, .bin .gtr (.t 18) (.c (.int .i64 0)), []⟩,
     ⟨some 20, none, .mv (.t 19), []⟩,
     ⟨some 21, some (20, true), .mv (.t 1), []⟩,
     ⟨some 22, some (20, true), .call 175 [.t 21], []⟩,
     ⟨some 23, some (20, true), .un .not (.t 22), []⟩,
     ⟨some 24, some (20, true), .mv (.t 23), []⟩,
     ⟨some 25, some (24, false), .mv (.t 1), []⟩,
     ⟨some 26, some (24, false), .mv (.t 2), []⟩,
     ⟨some 27, some (24, false), .bin .sub (.c (.int .i64 65536)) (.t 26), []⟩,
     ⟨some 28, some (24, false), .bin .gtr (.t 25) (.t 27), []⟩,
     ⟨some 29, some (20, true), .pick (.t 24) (.c (.bool true)) (.t 28), []⟩,
     ⟨some 30, some (20, true), .mv (.t 29), []⟩,
     ⟨some 31, some (30, false), .mv (.t 0), []⟩,
     ⟨some 32, some (30, false), .mv (.t 1), []⟩,
     ⟨some 33, some (30, false), .bin .geq (.t 31) (.t 32), []⟩,
     ⟨some 34, some (30, false), .mv (.t 33), []⟩,
     ⟨some 35, some (34, true), .mv (.t 0), []⟩,
     ⟨some 36, some (34, true), .mv (.t 1), []⟩,
     ⟨some 37, some (34, true), .mv (.t 2), []⟩,
     ⟨some 38, some (34, true), .bin .add (.t 36) (.t 37), []⟩,
     ⟨some 39, some (34, true), .bin .lss (.t 35) (.t 38), []⟩,
     ⟨some 40, some (30, false), .pick (.t 34) (.t 39) (.c (.bool false)), []⟩,
     ⟨some 41, some (20, true), .pick (.t 30) (.c (.bool true)) (.t 40), []⟩,
     ⟨some 42, none, .pick (.t 20) (.t 41) (.c (.bool false)), []⟩,
     ⟨some 6, none, .mv (.t 42), []⟩])
   .ret)))⟩
theorem F144_code : cfgA.code 144 = some F144 := by kernel_rfl

/-- ticketline/descend.nodes -/
noncomputable def F145 : AFn := ⟨7, [.tmp 2], (.seq
 (.ops 0 [⟨some 1, none, .box 2 (.t 0) false, []⟩,
   ⟨some 2, none, .mv (.c (.int .i64 0)), []⟩])
 (.seq
  (.ops 1 [⟨some 3, none, .fld 0 (.t 1), []⟩,
    ⟨some 4, none, .ld 1 false (.t 3), []⟩,
    ⟨some 5, none, .bin .mul (.c (.int .i64 128)) (.t 4), []⟩,
    ⟨some 6, none, .bin .add (.c (.int .i64 16)) (.t 5), []⟩,
    ⟨some 2, none, .mv (.t 6), []⟩])
  .ret))⟩
theorem F145_code : cfgA.code 145 = some F145 := by kernel_rfl

/-- ticketline/arena.place -/
noncomputable def F146 : AFn := ⟨11, [.tmp 4], (.seq
 (.ops 0 [⟨some 4, none, .mv (.c (.int .i64 0)), []⟩])
 (.seq
  (.ops 1 [⟨some 5, none, .mv (.t 0), []⟩,
    ⟨some 6, none, .bin .sub (.t 5) (.c (.int .i64 1)), []⟩,
    ⟨some 7, none, .bin .mul (.c (.int .i64 128)) (.t 6), []⟩,
    ⟨some 8, none, .bin .add (.c (.int .i64 16)) (.t 7), []⟩,
    ⟨some 9, none, .mv (.t 1), []⟩,
    ⟨some 10, none, .bin .add (.t 8) (.t 9), []⟩,
    ⟨some 4, none, .mv (.t 10), []⟩])
  .ret))⟩
theorem F146_code : cfgA.code 146 = some F146 := by kernel_rfl

/-- (*ticketline/mem.Mem).Copy -/
noncomputable def F147 : AFn := ⟨12, [.tmp 2], (.seq
 (.ops 0 [⟨some 2, none, .mv (.c (.nilp)), []⟩])
 (.seq
  (.seq
   (.ops 1 [⟨some 3, none, .mv (.t 0), []⟩,
     ⟨some 4, none, .call 121 [.t 3], []⟩])
   (.cond (.t 4)
    (.seq
     (.ops 2 [⟨some 2, none, .mv (.c (.nilp)), []⟩])
     .ret)
    .skip))
  (.seq
   (.ops 3 [⟨some 5, none, .mv (.t 0), []⟩,
     ⟨some 6, none, .nilc (.t 5) (mok Tryz.prog), []⟩,
     ⟨some 7, none, .fld 0 (.t 6), []⟩,
     ⟨some 8, none, .ld 1 false (.t 7), []⟩,
     ⟨some 9, none, .call 139 [.t 8], []⟩,
     ⟨some 10, none, .build [.nils] [(0, 1, (.t 9))], []⟩,
     ⟨some 11, none, .box 1 (.t 10) true, []⟩,
     ⟨some 2, none, .mv (.t 11), []⟩])
   .ret)))⟩
theorem F147_code : cfgA.code 147 = some F147 := by kernel_rfl

/-- (ticketline/arena.words).set -/
noncomputable def F148 : AFn := ⟨11, [], (.seq
 (.ops 0 [⟨some 3, none, .box 1 (.t 0) false, []⟩])
 (.ops 1 [⟨some 6, none, .fld 0 (.t 3), []⟩,
   ⟨some 7, none, .ld 1 false (.t 6), []⟩,
   ⟨some 8, none, .mv (.t 1), []⟩,
   ⟨some 9, none, .mv (.t 2), []⟩,
   ⟨some 10, none, .call 62 [.t 7, .t 8, .t 9], []⟩]))⟩
theorem F148_code : cfgA.code 148 = some F148 := by kernel_rfl

/-- ticketline/keys.Compare -/
noncomputable def F149 : AFn := ⟨8, [.tmp 4], (.seq
 (.ops 0 [⟨some 4, none, .mv (.c (.int .i64 0)), []⟩])
 (.seq
  (.ops 1 [⟨some 5, none, .mv (.t 0), []⟩,
    ⟨some 6, none, .mv (.t 1), []⟩,
    ⟨some 7, none, .call 176 [.t 5, .t 6], []⟩,
    ⟨some 4, none, .mv (.t 7), []⟩])
  .ret))⟩
theorem F149_code : cfgA.code 149 = some F149 := by kernel_rfl

/-- ticketline/slot.setFence -/
noncomputable def F150 : AFn := ⟨33, [.tmp 6], (.seq
 (.ops 0 [⟨some 6, none, .mv (.c (.int .i64 0)), []⟩])
 (.seq
  (.ops 1 [⟨some 10, none, .mv (.t 2), []⟩,
    ⟨some 11, none, .call 177 [.t 10], []⟩,
    ⟨some 9, none, .mv (.t 11), []⟩,
    ⟨some 12, none, .ext (.t 9) 0, []⟩,
    ⟨some 13, none, .ext (.t 9) 1, []⟩,
    ⟨some 7, none, .mv (.t 12), []⟩,
    ⟨some 8, none, .mv (.t 13), []⟩])
  (.seq
   (.seq
    (.ops 2 [⟨some 14, none, .mv (.t 8), []⟩,
      ⟨some 15, none, .bin .neq (.t 14) (.c (.int .i64 0)), []⟩])
    (.cond (.t 15)
     (.seq
      (.ops 3 [⟨some 16, none, .mv (.t 8), []⟩,
        ⟨some 6, none, .mv (.t 16), []⟩])
      .ret)
     .skip))
   (.seq
    (.ops 4 [⟨some 17, none, .mv (.t 0), []⟩,
      ⟨some 18, none, .mv (.t 1), []⟩,
      ⟨some 19, none, .mv (.t 2), []⟩,
      ⟨some 20, none, .len .string (.t 19), []⟩,
      ⟨some 21, none, .cvi .u64 (.t 20), []⟩,
      ⟨some 22, none, .nilc (.t 17) (mok Tryz.prog), []⟩,
      ⟨some 23, none, .ixa (some 128) 1 (.t 22) (.t 18), []⟩,
      ⟨none, none, .st 1 (.t 23) (.t 21), []⟩])
    (.seq
     (.ops 5 [⟨some 24, none, .mv (.t 0), []⟩,
       ⟨some 25, none, .nilc (.t 24) (mok Tryz.prog), []⟩,
       ⟨some 26, none, .mv (.t 1), []⟩,
       ⟨some 27, none, .bin .add (.t 26) (.c (.int .i64 1)), []⟩,
       ⟨some 28, none, .mv (.t 1), []⟩,
       ⟨some 29, none, .bin .add (.t 28) (.c (.int .i64 4)), []⟩,
       ⟨some 30, none, .slc (some 128) 1 (.t 25) (some (.t 27)) (some (.t 29)), []⟩,
       ⟨some 31, none, .mv (.t 7), []⟩,
       ⟨some 32, none, .cpy 1 (.t 30) (.t 31), []⟩])
     (.seq
      (.ops 6 [⟨some 6, none, .mv (.c (.int .i64 0)), []⟩])
      .ret))))))⟩
theorem F150_code : cfgA.code 150 = some F150 := by kernel_rfl

/-- (*ticketline/arena.Arena).none -/
noncomputable def F151 : AFn := ⟨13, [.tmp 2], (.seq
 (.ops 0 [⟨some 2, none, .mv (.c (.bool false)), []⟩])
 (.seq
  (.ops 1 [⟨some 3, none, .mv (.t 0), []⟩,
    ⟨some 4, none, .eqn .ptr false (.t 3), []⟩,
    ⟨some 5, none, .mv (.t 4), []⟩,
    ⟨some 6, some (5, false), .mv (.t 0), []⟩,
    ⟨some 7, some (5, false), .nilc (.t 6) (mok Tryz.prog), []⟩,
    ⟨some 8, some (5, false), .fld 0 (.t 7), []⟩,
    ⟨some 9, some (5, false), .fld 0 (.t 8), []⟩,
    ⟨some 10, some (5, false), .ld 1 false (.t 9), []⟩,
    ⟨some 11, some (5, false), .eqn .ptr false (.t 10), []⟩,
    ⟨some 12, none, .pick (.t 5) (.c (.bool true)) (.t 11), []⟩,
    ⟨some 2, none, .mv (.t 12), []⟩])
  .ret))⟩
theorem F151_code : cfgA.code 151 = some F151 := by kernel_rfl

/-- (ticketline/arena.words).get -/
noncomputable def F152 : AFn := ⟨15, [.tmp 4], (.seq
 (.ops 0 [⟨some 2, none, .box 1 (.t 0) false, []⟩,
   ⟨some 4, none, .mv (.c (.int .u64 0)), []⟩])
 (.seq
  (.ops 1 [⟨some 8, none, .fld 0 (.t 2), []⟩,
    ⟨some 9, none, .ld 1 false (.t 8), []⟩,
    ⟨some 10, none, .mv (.t 1), []⟩,
    ⟨some 11, none, .call 135 [.t 9, .t 10], []⟩,
    ⟨some 7, none, .mv (.t 11), []⟩,
    ⟨some 12, none, .ext (.t 7) 0, []⟩,
    ⟨some 13, none, .ext (.t 7) 1, []⟩,
    ⟨some 5, none, .mv (.t 12), []⟩,
    ⟨some 6, none, .mv (.t 13), []⟩])
  (.seq
   (.ops 2 [⟨some 14, none, .mv (.t 5), []⟩,
     ⟨some 4, none, .mv (.t 14), []⟩])
   .ret)))⟩
theorem F152_code : cfgA.code 152 = some F152 := by kernel_rfl

/-- (*ticketline/arena.Arena).put: the round 0 -/
noncomputable def B153x0 : AC := (.seq
 (.seq
  (.ops 2 [⟨some 7, none, .mv (.t 6), []⟩,
    ⟨some 8, none, .bin .lss (.t 7) (.c (.int .i64 128)), []⟩])
  (.cond (.t 8)
   .skip
   (.exit 0)))
 (.seq
  (.block 1
   (.ops 4 [⟨some 11, none, .mv (.t 0), []⟩,
     ⟨some 12, none, .nilc (.t 11) (mok Tryz.prog), []⟩,
     ⟨some 13, none, .fld 0 (.t 12), []⟩,
     ⟨some 14, none, .ld 1 true (.t 13), []⟩,
     ⟨some 15, none, .mv (.t 1), []⟩,
     ⟨some 16, none, .mv (.t 6), []⟩,
     ⟨some 18, none, .mv (.t 6), []⟩,
     ⟨some 19, none, .ixa (some 128) 1 (.t 5) (.t 18), []⟩,
     ⟨some 20, none, .ld 1 false (.t 19), []⟩,
     ⟨some 17, none, .call 146 [.t 15, .t 16], [(14, .ld 1 true (.t 13)), (20, .ld 1 false (.t 19))]⟩,
     ⟨some 21, none, .call 148 [.t 14, .t 17, .t 20], []⟩]))
  (.ops 3 [⟨some 9, none, .mv (.t 6), []⟩,
    ⟨some 10, none, .bin .add (.t 9) (.c (.int .i64 1)), []⟩,
    ⟨some 6, none, .mv (.t 10), []⟩])))
/-- (*ticketline/arena.Arena).put -/
noncomputable def F153 : AFn := ⟨22, [], (.seq
 (.ops 0 [⟨some 5, none, .box 128 (.t 2) false, []⟩])
 (.seq
  (.ops 1 [⟨some 6, none, .mv (.c (.int .i64 8)), []⟩])
  (.block 0
   (.loop [] B153x0))))⟩
theorem F153_code : cfgA.code 153 = some F153 := by kernel_rfl

/-- (*ticketline/arena.Arena).busy -/
noncomputable def F154 : AFn := ⟨28, [.tmp 6], (.seq
 (.ops 0 [⟨some 6, none, .mv (.c (.int .i64 0)), []⟩])
 (.seq
  (.ops 1 [⟨some 8, none, .mv (.t 0), []⟩,
    ⟨some 9, none, .mv (.t 1), []⟩,
    ⟨some 10, none, .call 178 [.t 8, .t 9], []⟩,
    ⟨some 7, none, .mv (.t 10), []⟩])
  (.seq
   (.block 0
    (.seq
     (.ops 2 [⟨some 12, none, .mv (.t 7), []⟩,
       ⟨some 13, none, .bin .neq (.t 12) (.c (.int .i64 0)), []⟩,
       ⟨some 11, none, .mv (.t 13), []⟩])
     (.cond (.t 11)
      (.seq
       (.ops 3 [⟨some 14, none, .mv (.t 7), []⟩,
         ⟨some 6, none, .mv (.t 14), []⟩])
       .ret)
      (.seq
       (.ops 4 [⟨some 16, none, .mv (.t 0), []⟩,
         ⟨some 17, none, .mv (.t 1), []⟩,
         ⟨some 18, none, .call 179 [.t 16, .t 17], []⟩,
         ⟨some 19, none, .un .not (.t 18), []⟩,
         ⟨some 15, none, .mv (.t 19), []⟩])
       (.cond (.t 15)
        (.seq
         (.ops 5 [⟨some 6, none, .mv (.c (.int .i64 8)), []⟩])
         .ret)
        (.seq
         (.ops 6 [⟨some 21, none, .mv (.t 2), []⟩,
           ⟨some 22, none, .mv (.t 21), []⟩,
           ⟨some 23, some (22, true), .mv (.t 0), []⟩,
           ⟨some 24, some (22, true), .call 180 [.t 23], []⟩,
           ⟨some 25, some (22, true), .mv (.t 1), []⟩,
           ⟨some 26, some (22, true), .bin .eql (.t 24) (.t 25), []⟩,
           ⟨some 27, none, .pick (.t 22) (.t 26) (.c (.bool false)), []⟩,
           ⟨some 20, none, .mv (.t 27), []⟩])
         (.cond (.t 20)
          (.seq
           (.ops 7 [⟨some 6, none, .mv (.c (.int .i64 11)), []⟩])
           .ret)
          .skip)))))))
   (.seq
    (.ops 8 [⟨some 6, none, .mv (.c (.int .i64 0)), []⟩])
    .ret))))⟩
theorem F154_code : cfgA.code 154 = some F154 := by kernel_rfl

/-- (*ticketline/mem.Once).zero -/
noncomputable def F155 : AFn := ⟨12, [.tmp 2], (.seq
 (.ops 0 [⟨some 2, none, .mv (.c (.bool false)), []⟩])
 (.seq
  (.ops 1 [⟨some 3, none, .mv (.t 0), []⟩,
    ⟨some 4, none, .eqn .ptr false (.t 3), []⟩,
    ⟨some 5, none, .mv (.t 4), []⟩,
    ⟨some 6, some (5, false), .mv (.t 0), []⟩,
    ⟨some 7, some (5, false), .nilc (.t 6) (mok Tryz.prog), []⟩,
    ⟨some 8, some (5, false), .fld 0 (.t 7), []⟩,
    ⟨some 9, some (5, false), .ld 1 false (.t 8), []⟩,
    ⟨some 10, some (5, false), .eqn .ptr false (.t 9), []⟩,
    ⟨some 11, none, .pick (.t 5) (.c (.bool true)) (.t 10), []⟩,
    ⟨some 2, none, .mv (.t 11), []⟩])
  .ret))⟩
theorem F155_code : cfgA.code 155 = some F155 := by kernel_rfl

/-- ticketline/slot.head -/
noncomputable def F156 : AFn := ⟨68, [.tmp 2], (.seq
 (.ops 0 [⟨some 2, none, .mv (.c (.bool false)), []⟩])
 (.seq
  (.seq
   (.ops 1 [⟨some 7, none, .mv (.t 0), []⟩,
     ⟨some 8, none, .nilc (.t 7) (mok Tryz.prog), []⟩,
     ⟨some 9, none, .ixa (some 128) 1 (.t 8) (.c (.int .i64 8)), []⟩,
     ⟨some 10, none, .ld 1 false (.t 9), []⟩,
     ⟨some 11, none, .bin .lss (.t 10) (.c (.int .u64 1)), []⟩,
     ⟨some 12, none, .mv (.t 11), []⟩,
     ⟨some 13, some (12, false), .mv (.t 0), []⟩,
     ⟨some 14, some (12, false), .nilc (.t 13) (mok Tryz.prog), []⟩,
     ⟨some 15, some (12, false), .ixa (some 128) 1 (.t 14) (.c (.int .i64 8)), []⟩,
     ⟨some 16, some (12, false), .ld 1 false (.t 15), []⟩,
     ⟨some 17, some (12, false), .bin .gtr (.t 16) (.c (.int .u64 6)), []⟩,
     ⟨some 18, none, .pick (.t 12) (.c (.bool true)) (.t 17), []⟩,
     ⟨some 19, none, .mv (.t 18), []⟩,
     ⟨some 20, some (19, false), .mv (.t 0), []⟩,
     ⟨some 21, some (19, false), .nilc (.t 20) (mok Tryz.prog), []⟩,
     ⟨some 22, some (19, false), .ixa (some 128) 1 (.t 21) (.c (.int .i64 9)), []⟩,
     ⟨some 23, some (19, false), .ld 1 false (.t 22), []⟩,
     ⟨some 24, some (19, false), .bin .gtr (.t 23) (.c (.int .u64 108)), []⟩,
     ⟨some 25, none, .pick (.t 19) (.c (.bool true)) (.t 24), []⟩,
     ⟨some 26, none, .mv (.t 25), []⟩,
     ⟨some 27, some (26, false), .mv (.t 0), []⟩,
     ⟨some 28, some (26, false), .nilc (.t 27) (mok Tryz.prog), []⟩,
     ⟨some 29, some (26, false), .ixa (some 128) 1 (.t 28) (.c (.int .i64 10)), []⟩,
     ⟨some 30, some (26, false), .ld 1 false (.t 29), []⟩,
     ⟨some 31, some (26, false), .bin .gtr (.t 30) (.c (.int .u64 511)), []⟩,
     ⟨some 32, none, .pick (.t 26) (.c (.bool true)) (.t 31), []⟩,
     ⟨some 33, none, .mv (.t 32), []⟩,
     ⟨some 34, some (33, false), .mv (.t 0), []⟩,
     ⟨some 35, some (33, false), .nilc (.t 34) (mok Tryz.prog), []⟩,
     ⟨some 36, some (33, false), .ixa (some 128) 1 (.t 35) (.c (.int .i64 11)), []⟩,
     ⟨some 37, some (33, false), .ld 1 false (.t 36), []⟩,
     ⟨some 38, some (33, false), .bin .gtr (.t 37) (.c (.int .u64 128)), []⟩,
     ⟨some 39, none, .pick (.t 33) (.c (.bool true)) (.t 38), []⟩,
     ⟨some 40, none, .mv (.t 39), []⟩,
     ⟨some 41, some (40, false), .mv (.t 0), []⟩,
     ⟨some 42, some (40, false), .nilc (.t 41) (mok Tryz.prog), []⟩,
     ⟨some 43, some (40, false), .ixa (some 128) 1 (.t 42) (.c (.int .i64 11)), []⟩,
     ⟨some 44, some (40, false), .ld 1 false (.t 43), []⟩,
     ⟨some 45, some (40, false), .mv (.t 0), []⟩,
     ⟨some 46, some (40, false), .nilc (.t 45) (mok Tryz.prog), []⟩,
     ⟨some 47, some (40, false), .ixa (some 128) 1 (.t 46) (.c (.int .i64 9)), []⟩,
     ⟨some 48, some (40, false), .ld 1 false (.t 47), []⟩,
     ⟨some 49, some (40, false), .bin .add (.c (.int .u64 20)) (.t 48), []⟩,
     ⟨some 50, some (40, false), .bin .lss (.t 44) (.t 49), []⟩,
     ⟨some 51, none, .pick (.t 40) (.c (.bool true)) (.t 50), []⟩])
   (.cond (.t 51)
    (.seq
     (.ops 2 [⟨some 2, none, .mv (.c (.bool false)), []⟩])
     .ret)
    .skip))
  (.seq
   (.ops 3 [⟨some 53, none, .mv (.t 0), []⟩,
     ⟨some 54, none, .call 143 [.t 53, .c (.int .i64 12)], []⟩,
     ⟨some 52, none, .mv (.t 54), []⟩,
     ⟨some 55, none, .ext (.t 52) 0, []⟩,
     ⟨some 56, none, .ext (.t 52) 1, []⟩,
     ⟨some 3, none, .mv (.t 55), []⟩,
     ⟨some 4, none, .mv (.t 56), []⟩])
   (.seq
    (.ops 4 [⟨some 58, none, .mv (.t 0), []⟩,
      ⟨some 59, none, .call 143 [.t 58, .c (.int .i64 16)], []⟩,
      ⟨some 57, none, .mv (.t 59), []⟩,
      ⟨some 60, none, .ext (.t 57) 0, []⟩,
      ⟨some 61, none, .ext (.t 57) 1, []⟩,
      ⟨some 5, none, .mv (.t 60), []⟩,
      ⟨some 6, none, .mv (.t 61), []⟩])
    (.seq
     (.ops 5 [⟨some 62, none, .mv (.t 4), []⟩,
       ⟨some 63, none, .bin .eql (.t 62) (.c (.int .i64 0)), []⟩,
       ⟨some 64, none, .mv (.t 63), []⟩,
       ⟨some 65, some (64, true), .mv (.t 6), []⟩,
       ⟨some 66, some (64, true), .bin .eql (.t 65) (.c (.int .i64 0)), []⟩,
       ⟨some 67, none, .pick (.t 64) (.t 66) (.c (.bool false)), []⟩,
       ⟨some 2, none, .mv (.t 67), []⟩])
     .ret)))))⟩
theorem F156_code : cfgA.code 156 = some F156 := by kernel_rfl

/-- ticketline/keys.Words -/
noncomputable def F173 : AFn := ⟨9, [.tmp 2], (.seq
 (.ops 0 [⟨some 2, none, .mv (.c (.int .i64 0)), []⟩])
 (.seq
  (.seq
   (.ops 1 [⟨some 3, none, .mv (.t 0), []⟩,
     ⟨some 4, none, .bin .leq (.t 3) (.c (.int .i64 0)), []⟩])
   (.cond (.t 4)
    (.seq
     (.ops 2 [⟨some 2, none, .mv (.c (.int .i64 0)), []⟩])
     .ret)
    .skip))
  (.seq
   (.ops 3 [⟨some 5, none, .mv (.t 0), []⟩,
     ⟨some 6, none, .bin .sub (.t 5) (.c (.int .i64 1)), []⟩,
     ⟨some 7, none, .bin .quo (.t 6) (.c (.int .i64 8)), []⟩,
     ⟨some 8, none, .bin .add (.t 7) (.c (.int .i64 1)), []⟩,
     ⟨some 2, none, .mv (.t 8), []⟩])
   .ret)))⟩
theorem F173_code : cfgA.code 173 = some F173 := by kernel_rfl

/-- ticketline/keys.Unpack: the round 0 -/
noncomputable def B174x0 : AC := (.seq
 (.seq
  (.ops 12 [⟨some 30, none, .mv (.t 9), []⟩,
    ⟨some 31, none, .bin .geq (.t 30) (.c (.int .i64 0)), []⟩])
  (.cond (.t 31)
   .skip
   (.exit 3)))
 (.seq
  (.block 4
   (.ops 14 [⟨some 34, none, .mv (.t 6), []⟩,
     ⟨some 35, none, .mv (.t 8), []⟩,
     ⟨some 36, none, .mv (.t 9), []⟩,
     ⟨some 37, none, .bin .mul (.c (.int .i64 8)) (.t 36), []⟩,
     ⟨some 38, none, .bin .shr (.t 35) (.t 37), []⟩,
     ⟨some 39, none, .cvi .u8 (.t 38), []⟩,
     ⟨some 40, none, .bslice [.int .u8 0] 1 1 [(0, (.t 39))] false false, []⟩,
     ⟨some 41, none, .app 1 1 (.t 34) (.t 40) false, []⟩,
     ⟨some 6, none, .mv (.t 41), []⟩]))
  (.ops 13 [⟨some 32, none, .mv (.t 9), []⟩,
    ⟨some 33, none, .bin .sub (.t 32) (.c (.int .i64 1)), []⟩,
    ⟨some 9, none, .mv (.t 33), []⟩])))
/-- ticketline/keys.Unpack: the round 1 -/
noncomputable def B174x1 : AC := (.seq
 (.ops 9 [⟨some 27, none, .bin .lss (.t 26) (.t 25), []⟩])
 (.seq
  (.cond (.t 27)
   .skip
   (.exit 1))
  (.seq
   (.block 2
    (.seq
     (.ops 10 [⟨some 28, none, .ixa none 1 (.t 24) (.t 26), []⟩,
       ⟨some 29, none, .ld 1 false (.t 28), []⟩,
       ⟨some 8, none, .mv (.t 29), []⟩])
     (.seq
      (.ops 11 [⟨some 9, none, .mv (.c (.int .i64 7)), []⟩])
      (.block 3
       (.loop [] B174x0)))))
   (.ops 15 [⟨some 42, none, .bin .add (.t 26) (.c (.int .i64 1)), []⟩,
     ⟨some 26, none, .mv (.t 42), []⟩]))))
/-- ticketline/keys.Unpack: the round 2 -/
noncomputable def B174x2 : AC := (.seq
 (.ops 17 [⟨some 48, none, .bin .lss (.t 47) (.t 46), []⟩])
 (.seq
  (.cond (.t 48)
   .skip
   (.exit 5))
  (.seq
   (.block 6
    (.seq
     (.ops 18 [⟨some 49, none, .ixa none 1 (.t 45) (.t 47), []⟩,
       ⟨some 50, none, .ld 1 false (.t 49), []⟩,
       ⟨some 11, none, .mv (.t 50), []⟩])
     (.seq
      (.ops 19 [⟨some 51, none, .mv (.t 11), []⟩,
        ⟨some 52, none, .bin .neq (.t 51) (.c (.int .u8 0)), []⟩])
      (.cond (.t 52)
       (.seq
        (.ops 20 [⟨some 4, none, .mv (.c (.str [])), []⟩,
          ⟨some 5, none, .mv (.c (.int .i64 12)), []⟩])
        .ret)
       .skip))))
   (.ops 21 [⟨some 53, none, .bin .add (.t 47) (.c (.int .i64 1)), []⟩,
     ⟨some 47, none, .mv (.t 53), []⟩]))))
/-- ticketline/keys.Unpack -/
noncomputable def F174 : AFn := ⟨58, [.tmp 4, .tmp 5], (.seq
 (.ops 0 [⟨some 4, none, .mv (.c (.str [])), []⟩,
   ⟨some 5, none, .mv (.c (.int .i64 0)), []⟩])
 (.seq
  (.block 0
   (.seq
    (.ops 1 [⟨some 13, none, .mv (.t 1), []⟩,
      ⟨some 14, none, .bin .lss (.t 13) (.c (.int .i64 0)), []⟩,
      ⟨some 12, none, .mv (.t 14), []⟩])
    (.cond (.t 12)
     (.seq
      (.ops 2 [⟨some 4, none, .mv (.c (.str [])), []⟩,
        ⟨some 5, none, .mv (.c (.int .i64 2)), []⟩])
      .ret)
     (.seq
      (.ops 3 [⟨some 16, none, .mv (.t 1), []⟩,
        ⟨some 17, none, .bin .gtr (.t 16) (.c (.int .i64 40)), []⟩,
        ⟨some 15, none, .mv (.t 17), []⟩])
      (.cond (.t 15)
       (.seq
        (.ops 4 [⟨some 4, none, .mv (.c (.str [])), []⟩,
          ⟨some 5, none, .mv (.c (.int .i64 5)), []⟩])
        .ret)
       (.seq
        (.ops 5 [⟨some 19, none, .mv (.t 0), []⟩,
          ⟨some 20, none, .len .slice (.t 19), []⟩,
          ⟨some 21, none, .mv (.t 1), []⟩,
          ⟨some 22, none, .call 173 [.t 21], []⟩,
          ⟨some 23, none, .bin .neq (.t 20) (.t 22), []⟩,
          ⟨some 18, none, .mv (.t 23), []⟩])
        (.cond (.t 18)
         (.seq
          (.ops 6 [⟨some 4, none, .mv (.c (.str [])), []⟩,
            ⟨some 5, none, .mv (.c (.int .i64 12)), []⟩])
          .ret)
         .skip)))))))
  (.seq
   (.ops 7 [⟨some 6, none, .mv (.c (.nils)), []⟩])
   (.seq
    (.seq
     (.ops 8 [⟨some 24, none, .mv (.t 0), []⟩,
       ⟨some 25, none, .len .slice (.t 24), []⟩,
       ⟨some 26, none, .mv (.c (.int .i64 0)), []⟩])
     (.block 1
      (.loop [] B174x1)))
    (.seq
     (.seq
      (.ops 16 [⟨some 43, none, .mv (.t 6), []⟩,
        ⟨some 44, none, .mv (.t 1), []⟩,
        ⟨some 45, none, .slc none 1 (.t 43) (some (.t 44)) none, []⟩,
        ⟨some 46, none, .len .slice (.t 45), []⟩,
        ⟨some 47, none, .mv (.c (.int .i64 0)), []⟩])
      (.block 5
       (.loop [] B174x2)))
     (.seq
      (.ops 22 [⟨some 54, none, .mv (.t 6), []⟩,
        ⟨some 55, none, .mv (.t 1), []⟩,
        ⟨some 56, none, .slc none 1 (.t 54) none (some (.t 55)), []⟩,
        ⟨some 57, none, .cvs (.t 56), []⟩,
        ⟨some 4, none, .mv (.t 57), []⟩,
        ⟨some 5, none, .mv (.c (.int .i64 0)), []⟩])
      .ret))))))⟩
theorem F174_code : cfgA.code 174 = some F174 := by kernel_rfl

/-- ticketline/version.word -/
noncomputable def F175 : AFn := ⟨9, [.tmp 2], (.seq
 (.ops 0 [⟨some 2, none, .mv (.c (.bool false)), []⟩])
 (.seq
  (.ops 1 [⟨some 3, none, .mv (.t 0), []⟩,
    ⟨some 4, none, .bin .geq (.t 3) (.c (.int .i64 0)), []⟩,
    ⟨some 5, none, .mv (.t 4), []⟩,
    ⟨some 6, some (5, true), .mv (.t 0), []⟩,
    ⟨some 7, some (5, true), .bin .lss (.t 6) (.c (.int .i64 65536)), []⟩,
    ⟨some 8, none, .pick (.t 5) (.t 7) (.c (.bool false)), []⟩,
    ⟨some 2, none, .mv (.t 8), []⟩])
  .ret))⟩
theorem F175_code : cfgA.code 175 = some F175 := by kernel_rfl

/-- strings.Compare -/
noncomputable def F176 : AFn := ⟨8, [.tmp 4], (.seq
 (.ops 0 [⟨some 4, none, .mv (.c (.int .i64 0)), []⟩])
 (.seq
  (.ops 1 [⟨some 5, none, .mv (.t 0), []⟩,
    ⟨some 6, none, .mv (.t 1), []⟩,
    ⟨some 7, none, .call 186 [.t 5, .t 6], []⟩,
    ⟨some 4, none, .mv (.t 7), []⟩])
  .ret))⟩
theorem F176_code : cfgA.code 176 = some F176 := by kernel_rfl

/-- ticketline/keys.Pack: the round 0 -/
noncomputable def B177x0 : AC := (.seq
 (.ops 9 [⟨some 19, none, .bin .lss (.t 18) (.c (.int .i64 8)), []⟩])
 (.seq
  (.cond (.t 19)
   .skip
   (.exit 2))
  (.seq
   (.block 3
    (.seq
     (.ops 10 [⟨some 20, none, .mv (.t 18), []⟩,
       ⟨some 7, none, .mv (.t 20), []⟩])
     (.seq
      (.ops 11 [⟨some 21, none, .mv (.t 6), []⟩,
        ⟨some 22, none, .bin .shl (.t 21) (.c (.int .u64 8)), []⟩,
        ⟨some 6, none, .mv (.t 22), []⟩])
      (.seq
       (.ops 12 [⟨some 23, none, .mv (.t 5), []⟩,
         ⟨some 24, none, .bin .mul (.t 23) (.c (.int .i64 8)), []⟩,
         ⟨some 25, none, .mv (.t 7), []⟩,
         ⟨some 26, none, .bin .add (.t 24) (.t 25), []⟩,
         ⟨some 8, none, .mv (.t 26), []⟩])
       (.seq
        (.ops 13 [⟨some 27, none, .mv (.t 8), []⟩,
          ⟨some 28, none, .mv (.t 0), []⟩,
          ⟨some 29, none, .len .string (.t 28), []⟩,
          ⟨some 30, none, .bin .lss (.t 27) (.t 29), []⟩])
        (.cond (.t 30)
         (.ops 14 [⟨some 31, none, .mv (.t 6), []⟩,
           ⟨some 32, none, .mv (.t 0), []⟩,
           ⟨some 33, none, .mv (.t 8), []⟩,
           ⟨some 34, none, .ixs (.t 32) (.t 33), []⟩,
           ⟨some 35, none, .cvi .u64 (.t 34), []⟩,
           ⟨some 36, none, .bin .or (.t 31) (.t 35), []⟩,
           ⟨some 6, none, .mv (.t 36), []⟩])
         .skip))))))
   (.ops 15 [⟨some 37, none, .bin .add (.t 18) (.c (.int .i64 1)), []⟩,
     ⟨some 18, none, .mv (.t 37), []⟩]))))
/-- ticketline/keys.Pack: the round 1 -/
noncomputable def B177x1 : AC := (.seq
 (.ops 5 [⟨some 16, none, .bin .lss (.t 15) (.t 14), []⟩])
 (.seq
  (.cond (.t 16)
   .skip
   (.exit 0))
  (.seq
   (.block 1
    (.seq
     (.ops 6 [⟨some 17, none, .mv (.t 15), []⟩,
       ⟨some 5, none, .mv (.t 17), []⟩])
     (.seq
      (.ops 7 [⟨some 6, none, .mv (.c (.int .u64 0)), []⟩])
      (.seq
       (.seq
        (.ops 8 [⟨some 18, none, .mv (.c (.int .i64 0)), []⟩])
        (.block 2
         (.loop [] B177x0)))
       (.ops 16 [⟨some 38, none, .mv (.t 4), []⟩,
         ⟨some 39, none, .mv (.t 6), []⟩,
         ⟨some 40, none, .bslice [.int .u64 0] 1 1 [(0, (.t 39))] false false, []⟩,
         ⟨some 41, none, .app 1 8 (.t 38) (.t 40) false, []⟩,
         ⟨some 4, none, .mv (.t 41), []⟩])))))
   (.ops 17 [⟨some 42, none, .bin .add (.t 15) (.c (.int .i64 1)), []⟩,
     ⟨some 15, none, .mv (.t 42), []⟩]))))
/-- ticketline/keys.Pack -/
noncomputable def F177 : AFn := ⟨44, [.tmp 2, .tmp 3], (.seq
 (.ops 0 [⟨some 2, none, .mv (.c (.nils)), []⟩,
   ⟨some 3, none, .mv (.c (.int .i64 0)), []⟩])
 (.seq
  (.seq
   (.ops 1 [⟨some 9, none, .mv (.t 0), []⟩,
     ⟨some 10, none, .call 187 [.t 9], []⟩,
     ⟨some 11, none, .un .not (.t 10), []⟩])
   (.cond (.t 11)
    (.seq
     (.ops 2 [⟨some 2, none, .mv (.c (.nils)), []⟩,
       ⟨some 3, none, .mv (.c (.int .i64 5)), []⟩])
     .ret)
    .skip))
  (.seq
   (.ops 3 [⟨some 4, none, .mv (.c (.nils)), []⟩])
   (.seq
    (.seq
     (.ops 4 [⟨some 12, none, .mv (.t 0), []⟩,
       ⟨some 13, none, .len .string (.t 12), []⟩,
       ⟨some 14, none, .call 173 [.t 13], []⟩,
       ⟨some 15, none, .mv (.c (.int .i64 0)), []⟩])
     (.block 0
      (.loop [] B177x1)))
    (.seq
     (.ops 18 [⟨some 43, none, .mv (.t 4), []⟩,
       ⟨some 2, none, .mv (.t 43), []⟩,
       ⟨some 3, none, .mv (.c (.int .i64 0)), []⟩])
     .ret)))))⟩
theorem F177_code : cfgA.code 177 = some F177 := by kernel_rfl

/-- (*ticketline/arena.Arena).there -/
noncomputable def F178 : AFn := ⟨17, [.tmp 4], (.seq
 (.ops 0 [⟨some 4, none, .mv (.c (.int .i64 0)), []⟩])
 (.seq
  (.block 0
   (.seq
    (.ops 1 [⟨some 6, none, .mv (.t 0), []⟩,
      ⟨some 7, none, .call 151 [.t 6], []⟩,
      ⟨some 5, none, .mv (.t 7), []⟩])
    (.cond (.t 5)
     (.seq
      (.ops 2 [⟨some 4, none, .mv (.c (.int .i64 1)), []⟩])
      .ret)
     (.seq
      (.ops 3 [⟨some 9, none, .mv (.t 1), []⟩,
        ⟨some 10, none, .bin .lss (.t 9) (.c (.int .i64 1)), []⟩,
        ⟨some 11, none, .mv (.t 10), []⟩,
        ⟨some 12, some (11, false), .mv (.t 1), []⟩,
        ⟨some 13, some (11, false), .mv (.t 0), []⟩,
        ⟨some 14, some (11, false), .call 188 [.t 13], []⟩,
        ⟨some 15, some (11, false), .bin .gtr (.t 12) (.t 14), []⟩,
        ⟨some 16, none, .pick (.t 11) (.c (.bool true)) (.t 15), []⟩,
        ⟨some 8, none, .mv (.t 16), []⟩])
      (.cond (.t 8)
       (.seq
        (.ops 4 [⟨some 4, none, .mv (.c (.int .i64 3)), []⟩])
        .ret)
       .skip)))))
  (.seq
   (.ops 5 [⟨some 4, none, .mv (.c (.int .i64 0)), []⟩])
   .ret)))⟩
theorem F178_code : cfgA.code 178 = some F178 := by kernel_rfl

/-- (*ticketline/arena.Arena).used -/
noncomputable def F179 : AFn := ⟨15, [.tmp 4], (.seq
 (.ops 0 [⟨some 4, none, .mv (.c (.bool false)), []⟩])
 (.seq
  (.ops 1 [⟨some 6, none, .mv (.t 0), []⟩,
    ⟨some 7, none, .mv (.t 1), []⟩,
    ⟨some 8, none, .call 189 [.t 6, .t 7], []⟩,
    ⟨some 5, none, .mv (.t 8), []⟩])
  (.seq
   (.ops 2 [⟨some 9, none, .mv (.t 5), []⟩,
     ⟨some 10, none, .bin .geq (.t 9) (.c (.int .u64 1)), []⟩,
     ⟨some 11, none, .mv (.t 10), []⟩,
     ⟨some 12, some (11, true), .mv (.t 5), []⟩,
     ⟨some 13, some (11, true), .bin .leq (.t 12) (.c (.int .u64 6)), []⟩,
     ⟨some 14, none, .pick (.t 11) (.t 13) (.c (.bool false)), []⟩,
     ⟨some 4, none, .mv (.t 14), []⟩])
   .ret)))⟩
theorem F179_code : cfgA.code 179 = some F179 := by kernel_rfl

/-- ticketline/keys.ValidValue -/
noncomputable def F187 : AFn := ⟨6, [.tmp 2], (.seq
 (.ops 0 [⟨some 2, none, .mv (.c (.bool false)), []⟩])
 (.seq
  (.ops 1 [⟨some 3, none, .mv (.t 0), []⟩,
    ⟨some 4, none, .len .string (.t 3), []⟩,
    ⟨some 5, none, .bin .leq (.t 4) (.c (.int .i64 40)), []⟩,
    ⟨some 2, none, .mv (.t 5), []⟩])
  .ret))⟩
theorem F187_code : cfgA.code 187 = some F187 := by kernel_rfl

/-- (*ticketline/arena.Arena).pages -/
noncomputable def F188 : AFn := ⟨9, [.tmp 2], (.seq
 (.ops 0 [⟨some 2, none, .mv (.c (.int .i64 0)), []⟩])
 (.seq
  (.ops 1 [⟨some 3, none, .mv (.t 0), []⟩,
    ⟨some 4, none, .nilc (.t 3) (mok Tryz.prog), []⟩,
    ⟨some 5, none, .fld 0 (.t 4), []⟩,
    ⟨some 6, none, .ld 1 true (.t 5), []⟩,
    ⟨some 7, none, .call 152 [.t 6, .c (.int .i64 0)], []⟩,
    ⟨some 8, none, .cvi .i64 (.t 7), []⟩,
    ⟨some 2, none, .mv (.t 8), []⟩])
  .ret))⟩
theorem F188_code : cfgA.code 188 = some F188 := by kernel_rfl

/-- (*ticketline/arena.Arena).kind -/
noncomputable def F189 : AFn := ⟨12, [.tmp 4], (.seq
 (.ops 0 [⟨some 4, none, .mv (.c (.int .u64 0)), []⟩])
 (.seq
  (.ops 1 [⟨some 5, none, .mv (.t 0), []⟩,
    ⟨some 6, none, .nilc (.t 5) (mok Tryz.prog), []⟩,
    ⟨some 7, none, .fld 0 (.t 6), []⟩,
    ⟨some 8, none, .ld 1 true (.t 7), []⟩,
    ⟨some 9, none, .mv (.t 1), []⟩,
    ⟨some 10, none, .call 146 [.t 9, .c (.int .i64 8)], [(8, .ld 1 true (.t 7))]⟩,
    ⟨some 11, none, .call 152 [.t 8, .t 10], []⟩,
    ⟨some 4, none, .mv (.t 11), []⟩])
  .ret))⟩
theorem F189_code : cfgA.code 189 = some F189 := by kernel_rfl

/-- (*ticketline/mem.Once).Load -/
noncomputable def F215 : AFn := ⟨18, [.tmp 4, .tmp 5], (.seq
 (.ops 0 [⟨some 4, none, .mv (.c (.int .u64 0)), []⟩,
   ⟨some 5, none, .mv (.c (.int .i64 0)), []⟩])
 (.seq
  (.ops 1 [⟨some 9, none, .mv (.t 0), []⟩,
    ⟨some 10, none, .mv (.t 1), []⟩,
    ⟨some 11, none, .build [.int .i64 0, .int .i64 0, .int .u64 0, .int .u64 0] [(0, 1, (.c (.int .i64 1))), (1, 1, (.t 10))], []⟩,
    ⟨some 12, none, .call 218 [.t 9, .t 11], []⟩,
    ⟨some 8, none, .mv (.t 12), []⟩,
    ⟨some 13, none, .ext (.t 8) 0, []⟩,
    ⟨some 14, none, .ext (.t 8) 1, []⟩,
    ⟨some 6, none, .alloc [.int .i64 0, .int .i64 0, .int .u64 0, .int .u64 0] false, []⟩,
    ⟨none, none, .st 4 (.t 6) (.t 13), []⟩,
    ⟨some 7, none, .mv (.t 14), []⟩])
  (.seq
   (.ops 2 [⟨some 15, none, .fld 2 (.t 6), []⟩,
     ⟨some 16, none, .ld 1 false (.t 15), []⟩,
     ⟨some 17, none, .mv (.t 7), []⟩,
     ⟨some 4, none, .mv (.t 16), []⟩,
     ⟨some 5, none, .mv (.t 17), []⟩])
   .ret)))⟩
theorem F215_code : cfgA.code 215 = some F215 := by kernel_rfl

end Den
