/- Functions of the program, as den reads them. -/
import Derived.Test.YtnfmadnnbfidgaaGreatA
namespace Den
open Go Go.Proofs
set_option maxRecDepth 1000000

/-- (*ticketline/reclaim.Give).write -/
noncomputable def F65 : AFn := ⟨49, [.tmp 2], (.seq
 (.ops 0 [⟨some 2, none, .mv (.c (.int .i64 0)), []⟩])
 (.seq
  (.ops 1 [⟨some 3, none, .alloc (List.replicate 128 (.int .u64 0)) false, []⟩])
  (.seq
   (.ops 2 [⟨some 6, none, .mv (.t 0), []⟩,
     ⟨some 7, none, .nilc (.t 6) (mok Tryz.prog), []⟩,
     ⟨some 8, none, .fld 6 (.t 7), []⟩,
     ⟨some 9, none, .ld 1 false (.t 8), []⟩,
     ⟨some 10, none, .mv (.t 0), []⟩,
     ⟨some 11, none, .nilc (.t 10) (mok Tryz.prog), []⟩,
     ⟨some 12, none, .fld 7 (.t 11), []⟩,
     ⟨some 13, none, .ld 1 false (.t 12), []⟩,
     ⟨some 14, none, .ixa (some 128) 1 (.t 3) (.c (.int .i64 8)), []⟩,
     ⟨none, none, .st 1 (.t 14) (.c (.int .u64 255)), []⟩,
     ⟨some 15, none, .ixa (some 128) 1 (.t 3) (.c (.int .i64 10)), []⟩,
     ⟨none, none, .st 1 (.t 15) (.t 9), []⟩,
     ⟨some 16, none, .ixa (some 128) 1 (.t 3) (.c (.int .i64 11)), []⟩,
     ⟨none, none, .st 1 (.t 16) (.t 13), []⟩])
   (.seq
    (.ops 3 [⟨some 18, none, .mv (.t 0), []⟩,
      ⟨some 19, none, .nilc (.t 18) (mok Tryz.prog), []⟩,
      ⟨some 20, none, .fld 0 (.t 19), []⟩,
      ⟨some 21, none, .ld 2 true (.t 20), []⟩,
      ⟨some 22, none, .mv (.t 0), []⟩,
      ⟨some 23, none, .nilc (.t 22) (mok Tryz.prog), []⟩,
      ⟨some 24, none, .fld 3 (.t 23), []⟩,
      ⟨some 25, none, .ld 1 false (.t 24), []⟩,
      ⟨some 26, none, .cvi .i64 (.t 25), []⟩,
      ⟨some 27, none, .call 101 [.t 21, .t 26], []⟩,
      ⟨some 17, none, .mv (.t 27), []⟩,
      ⟨some 28, none, .ext (.t 17) 0, []⟩,
      ⟨some 29, none, .ext (.t 17) 1, []⟩,
      ⟨some 4, none, .mv (.t 28), []⟩,
      ⟨some 5, none, .mv (.t 29), []⟩])
    (.seq
     (.ops 4 [⟨some 31, none, .mv (.t 0), []⟩,
       ⟨some 32, none, .mv (.t 4), []⟩,
       ⟨some 33, none, .mv (.t 0), []⟩,
       ⟨some 34, none, .nilc (.t 33) (mok Tryz.prog), []⟩,
       ⟨some 35, none, .fld 3 (.t 34), []⟩,
       ⟨some 36, none, .ld 1 false (.t 35), []⟩,
       ⟨some 38, none, .slc (some 128) 1 (.t 3) (some (.c (.int .i64 8))) none, []⟩,
       ⟨some 37, none, .call 77 [.t 36, .c (.int .i64 8)], []⟩,
       ⟨some 39, none, .call 122 [.t 32, .t 37, .t 38], []⟩,
       ⟨some 30, none, .mv (.t 39), []⟩,
       ⟨some 40, none, .ext (.t 30) 0, []⟩,
       ⟨some 41, none, .mki 166 (.t 40), []⟩,
       ⟨some 42, none, .ext (.t 30) 1, []⟩,
       ⟨some 43, none, .nilc (.t 31) (mok Tryz.prog), []⟩,
       ⟨some 44, none, .fld 5 (.t 43), []⟩,
       ⟨none, none, .st 1 (.t 44) (.t 41), []⟩,
       ⟨some 2, none, .mv (.t 42), []⟩])
     (.seq
      (.ops 5 [⟨some 45, none, .mv (.t 0), []⟩,
        ⟨some 46, none, .nilc (.t 45) (mok Tryz.prog), []⟩,
        ⟨some 47, none, .fld 4 (.t 46), []⟩,
        ⟨none, none, .st 1 (.t 47) (.c (.int .i64 4)), []⟩])
      (.seq
       (.ops 6 [⟨some 48, none, .mv (.t 2), []⟩,
         ⟨some 2, none, .mv (.t 48), []⟩])
       .ret)))))))⟩
theorem F65_code : cfgA.code 65 = some F65 := by kernel_rfl

/-- (*ticketline/reclaim.Give).store -/
noncomputable def F66 : AFn := ⟨37, [.tmp 10], (.seq
 (.ops 0 [⟨some 10, none, .mv (.c (.int .i64 0)), []⟩])
 (.seq
  (.ops 1 [⟨some 12, none, .mv (.t 1), []⟩,
    ⟨some 13, none, .mv (.t 2), []⟩,
    ⟨some 14, none, .mv (.t 3), []⟩,
    ⟨some 15, none, .invk (.t 12) "Store" [.t 13, .t 14], []⟩,
    ⟨some 11, none, .mv (.t 15), []⟩])
  (.seq
   (.seq
    (.ops 2 [⟨some 16, none, .mv (.t 11), []⟩,
      ⟨some 17, none, .bin .neq (.t 16) (.c (.int .i64 0)), []⟩])
    (.cond (.t 17)
     (.seq
      (.ops 3 [⟨some 18, none, .mv (.t 11), []⟩,
        ⟨some 10, none, .mv (.t 18), []⟩])
      .ret)
     .skip))
   (.seq
    (.seq
     (.ops 4 [⟨some 19, none, .mv (.t 0), []⟩,
       ⟨some 20, none, .mv (.t 4), []⟩,
       ⟨some 21, none, .nilc (.t 19) (mok Tryz.prog), []⟩,
       ⟨some 22, none, .fld 4 (.t 21), []⟩,
       ⟨none, none, .st 1 (.t 22) (.t 20), []⟩])
     (.seq
      (.ops 5 [⟨some 23, none, .mv (.t 4), []⟩,
        ⟨some 24, none, .bin .eql (.t 23) (.c (.int .i64 15)), []⟩])
      (.cond (.t 24)
       (.ops 6 [⟨some 25, none, .mv (.t 0), []⟩,
         ⟨some 26, none, .mv (.t 0), []⟩,
         ⟨some 27, none, .nilc (.t 26) (mok Tryz.prog), []⟩,
         ⟨some 28, none, .fld 0 (.t 27), []⟩,
         ⟨some 29, none, .ld 2 true (.t 28), []⟩,
         ⟨some 30, none, .mv (.t 0), []⟩,
         ⟨some 31, none, .nilc (.t 30) (mok Tryz.prog), []⟩,
         ⟨some 32, none, .fld 2 (.t 31), []⟩,
         ⟨some 33, none, .ld 1 false (.t 32), []⟩,
         ⟨some 34, none, .call 123 [.t 29, .t 33], []⟩,
         ⟨some 35, none, .nilc (.t 25) (mok Tryz.prog), []⟩,
         ⟨some 36, none, .fld 5 (.t 35), []⟩,
         ⟨none, none, .st 1 (.t 36) (.t 34), []⟩])
       .skip)))
    (.seq
     (.ops 7 [⟨some 10, none, .mv (.c (.int .i64 0)), []⟩])
     .ret)))))⟩
theorem F66_code : cfgA.code 66 = some F66 := by kernel_rfl

/-- (*ticketline/reclaim.Give).over -/
noncomputable def F67 : AFn := ⟨13, [.tmp 2], (.seq
 (.ops 0 [⟨some 2, none, .mv (.c (.bool false)), []⟩])
 (.seq
  (.ops 1 [⟨some 3, none, .mv (.t 0), []⟩,
    ⟨some 4, none, .call 64 [.t 3], []⟩,
    ⟨some 5, none, .un .not (.t 4), []⟩,
    ⟨some 6, none, .mv (.t 5), []⟩,
    ⟨some 7, some (6, true), .mv (.t 0), []⟩,
    ⟨some 8, some (6, true), .nilc (.t 7) (mok Tryz.prog), []⟩,
    ⟨some 9, some (6, true), .fld 4 (.t 8), []⟩,
    ⟨some 10, some (6, true), .ld 1 false (.t 9), []⟩,
    ⟨some 11, some (6, true), .bin .eql (.t 10) (.c (.int .i64 20)), []⟩,
    ⟨some 12, none, .pick (.t 6) (.t 11) (.c (.bool false)), []⟩,
    ⟨some 2, none, .mv (.t 12), []⟩])
  .ret))⟩
theorem F67_code : cfgA.code 67 = some F67 := by kernel_rfl

/-- (*ticketline/reclaim.Join).over -/
noncomputable def F69 : AFn := ⟨13, [.tmp 2], (.seq
 (.ops 0 [⟨some 2, none, .mv (.c (.bool false)), []⟩])
 (.seq
  (.ops 1 [⟨some 3, none, .mv (.t 0), []⟩,
    ⟨some 4, none, .call 70 [.t 3], []⟩,
    ⟨some 5, none, .un .not (.t 4), []⟩,
    ⟨some 6, none, .mv (.t 5), []⟩,
    ⟨some 7, some (6, true), .mv (.t 0), []⟩,
    ⟨some 8, some (6, true), .nilc (.t 7) (mok Tryz.prog), []⟩,
    ⟨some 9, some (6, true), .fld 395 (.t 8), []⟩,
    ⟨some 10, some (6, true), .ld 1 false (.t 9), []⟩,
    ⟨some 11, some (6, true), .bin .eql (.t 10) (.c (.int .i64 20)), []⟩,
    ⟨some 12, none, .pick (.t 6) (.t 11) (.c (.bool false)), []⟩,
    ⟨some 2, none, .mv (.t 12), []⟩])
  .ret))⟩
theorem F69_code : cfgA.code 69 = some F69 := by kernel_rfl

/-- (*ticketline/reclaim.Join).zero -/
noncomputable def F70 : AFn := ⟨12, [.tmp 2], (.seq
 (.ops 0 [⟨some 2, none, .mv (.c (.bool false)), []⟩])
 (.seq
  (.ops 1 [⟨some 3, none, .mv (.t 0), []⟩,
    ⟨some 4, none, .eqn .ptr false (.t 3), []⟩,
    ⟨some 5, none, .mv (.t 4), []⟩,
    ⟨some 6, some (5, false), .mv (.t 0), []⟩,
    ⟨some 7, some (5, false), .nilc (.t 6) (mok Tryz.prog), []⟩,
    ⟨some 8, some (5, false), .fld 395 (.t 7), []⟩,
    ⟨some 9, some (5, false), .ld 1 false (.t 8), []⟩,
    ⟨some 10, some (5, false), .bin .eql (.t 9) (.c (.int .i64 0)), []⟩,
    ⟨some 11, none, .pick (.t 5) (.c (.bool true)) (.t 10), []⟩,
    ⟨some 2, none, .mv (.t 11), []⟩])
  .ret))⟩
theorem F70_code : cfgA.code 70 = some F70 := by kernel_rfl

/-- (*ticketline/reclaim.Lower).zero -/
noncomputable def F72 : AFn := ⟨12, [.tmp 2], (.seq
 (.ops 0 [⟨some 2, none, .mv (.c (.bool false)), []⟩])
 (.seq
  (.ops 1 [⟨some 3, none, .mv (.t 0), []⟩,
    ⟨some 4, none, .eqn .ptr false (.t 3), []⟩,
    ⟨some 5, none, .mv (.t 4), []⟩,
    ⟨some 6, some (5, false), .mv (.t 0), []⟩,
    ⟨some 7, some (5, false), .nilc (.t 6) (mok Tryz.prog), []⟩,
    ⟨some 8, some (5, false), .fld 5 (.t 7), []⟩,
    ⟨some 9, some (5, false), .ld 1 false (.t 8), []⟩,
    ⟨some 10, some (5, false), .bin .eql (.t 9) (.c (.int .i64 0)), []⟩,
    ⟨some 11, none, .pick (.t 5) (.c (.bool true)) (.t 10), []⟩,
    ⟨some 2, none, .mv (.t 11), []⟩])
  .ret))⟩
theorem F72_code : cfgA.code 72 = some F72 := by kernel_rfl

/-- ticketline/reclaim.NewGive -/
noncomputable def F73 : AFn := ⟨26, [.tmp 6, .tmp 7], (.seq
 (.ops 0 [⟨some 3, none, .box 2 (.t 0) false, []⟩,
   ⟨some 6, none, .mv (.c (.nilp)), []⟩,
   ⟨some 7, none, .mv (.c (.int .i64 0)), []⟩])
 (.seq
  (.seq
   (.ops 1 [⟨some 8, none, .ld 2 true (.t 3), []⟩,
     ⟨some 9, none, .mv (.t 1), []⟩,
     ⟨some 10, none, .mv (.t 2), []⟩,
     ⟨some 11, none, .call 125 [.t 8, .t 9, .t 10], []⟩,
     ⟨some 12, none, .un .not (.t 11), []⟩,
     ⟨some 13, none, .mv (.t 12), []⟩,
     ⟨some 14, some (13, false), .mv (.t 2), []⟩,
     ⟨some 15, some (13, false), .bin .eql (.t 14) (.c (.int .i64 0)), []⟩,
     ⟨some 16, none, .pick (.t 13) (.c (.bool true)) (.t 15), []⟩])
   (.cond (.t 16)
    (.seq
     (.ops 2 [⟨some 6, none, .mv (.c (.nilp)), []⟩,
       ⟨some 7, none, .mv (.c (.int .i64 2)), []⟩])
     .ret)
    .skip))
  (.seq
   (.ops 3 [⟨some 17, none, .ld 2 true (.t 3), []⟩,
     ⟨some 18, none, .mv (.t 1), []⟩,
     ⟨some 19, none, .mv (.t 2), []⟩,
     ⟨some 20, none, .cvi .u64 (.t 19), []⟩,
     ⟨some 21, none, .ld 2 true (.t 3), []⟩,
     ⟨some 22, none, .mv (.t 1), []⟩,
     ⟨some 23, none, .call 126 [.t 21, .t 22], [(17, .ld 2 true (.t 3))]⟩,
     ⟨some 24, none, .build [.int .i64 0, .int .i64 0, .int .i64 0, .int .u64 0, .int .i64 0, .nili, .int .u64 0, .int .u64 0] [(0, 2, (.t 17)), (2, 1, (.t 18)), (3, 1, (.t 20)), (4, 1, (.c (.int .i64 1))), (5, 1, (.t 23))], []⟩,
     ⟨some 25, none, .box 8 (.t 24) true, []⟩,
     ⟨some 6, none, .mv (.t 25), []⟩,
     ⟨some 7, none, .mv (.c (.int .i64 0)), []⟩])
   .ret)))⟩
theorem F73_code : cfgA.code 73 = some F73 := by kernel_rfl

/-- (*ticketline/reclaim.Lower).over -/
noncomputable def F74 : AFn := ⟨13, [.tmp 2], (.seq
 (.ops 0 [⟨some 2, none, .mv (.c (.bool false)), []⟩])
 (.seq
  (.ops 1 [⟨some 3, none, .mv (.t 0), []⟩,
    ⟨some 4, none, .call 72 [.t 3], []⟩,
    ⟨some 5, none, .un .not (.t 4), []⟩,
    ⟨some 6, none, .mv (.t 5), []⟩,
    ⟨some 7, some (6, true), .mv (.t 0), []⟩,
    ⟨some 8, some (6, true), .nilc (.t 7) (mok Tryz.prog), []⟩,
    ⟨some 9, some (6, true), .fld 5 (.t 8), []⟩,
    ⟨some 10, some (6, true), .ld 1 false (.t 9), []⟩,
    ⟨some 11, some (6, true), .bin .eql (.t 10) (.c (.int .i64 20)), []⟩,
    ⟨some 12, none, .pick (.t 6) (.t 11) (.c (.bool false)), []⟩,
    ⟨some 2, none, .mv (.t 12), []⟩])
  .ret))⟩
theorem F74_code : cfgA.code 74 = some F74 := by kernel_rfl

/-- (*ticketline/reclaim.Sweep).zero -/
noncomputable def F75 : AFn := ⟨12, [.tmp 2], (.seq
 (.ops 0 [⟨some 2, none, .mv (.c (.bool false)), []⟩])
 (.seq
  (.ops 1 [⟨some 3, none, .mv (.t 0), []⟩,
    ⟨some 4, none, .eqn .ptr false (.t 3), []⟩,
    ⟨some 5, none, .mv (.t 4), []⟩,
    ⟨some 6, some (5, false), .mv (.t 0), []⟩,
    ⟨some 7, some (5, false), .nilc (.t 6) (mok Tryz.prog), []⟩,
    ⟨some 8, some (5, false), .fld 4 (.t 7), []⟩,
    ⟨some 9, some (5, false), .ld 1 false (.t 8), []⟩,
    ⟨some 10, some (5, false), .bin .eql (.t 9) (.c (.int .i64 0)), []⟩,
    ⟨some 11, none, .pick (.t 5) (.c (.bool true)) (.t 10), []⟩,
    ⟨some 2, none, .mv (.t 11), []⟩])
  .ret))⟩
theorem F75_code : cfgA.code 75 = some F75 := by kernel_rfl

/-- (*ticketline/reclaim.Sweep).load -/
noncomputable def F76 : AFn := ⟨72, [.tmp 6], (.seq
 (.ops 0 [⟨some 6, none, .mv (.c (.int .i64 0)), []⟩])
 (.seq
  (.ops 1 [⟨some 10, none, .mv (.t 1), []⟩,
    ⟨some 11, none, .mv (.t 2), []⟩,
    ⟨some 12, none, .invk (.t 10) "Load" [.t 11], []⟩,
    ⟨some 9, none, .mv (.t 12), []⟩,
    ⟨some 13, none, .ext (.t 9) 0, []⟩,
    ⟨some 14, none, .ext (.t 9) 1, []⟩,
    ⟨some 7, none, .mv (.t 13), []⟩,
    ⟨some 8, none, .mv (.t 14), []⟩])
  (.seq
   (.seq
    (.ops 2 [⟨some 15, none, .mv (.t 8), []⟩,
      ⟨some 16, none, .bin .neq (.t 15) (.c (.int .i64 0)), []⟩])
    (.cond (.t 16)
     (.seq
      (.ops 3 [⟨some 17, none, .mv (.t 8), []⟩,
        ⟨some 6, none, .mv (.t 17), []⟩])
      .ret)
     .skip))
   (.seq
    (.seq
     (.ops 4 [⟨some 18, none, .mv (.t 0), []⟩,
       ⟨some 19, none, .nilc (.t 18) (mok Tryz.prog), []⟩,
       ⟨some 20, none, .fld 4 (.t 19), []⟩,
       ⟨some 21, none, .ld 1 false (.t 20), []⟩])
     (.block 0
      (.seq
       (.ops 5 [⟨some 23, none, .bin .eql (.t 21) (.c (.int .i64 2)), []⟩,
         ⟨some 22, none, .mv (.t 23), []⟩])
       (.cond (.t 22)
        (.seq
         (.ops 6 [⟨some 24, none, .mv (.t 0), []⟩,
           ⟨some 25, none, .mv (.t 7), []⟩,
           ⟨some 26, none, .call 127 [.t 24, .t 25], []⟩,
           ⟨some 6, none, .mv (.t 26), []⟩])
         .ret)
        (.seq
         (.ops 7 [⟨some 28, none, .bin .eql (.t 21) (.c (.int .i64 7)), []⟩,
           ⟨some 27, none, .mv (.t 28), []⟩])
         (.cond (.t 27)
          (.seq
           (.ops 8 [⟨some 29, none, .mv (.t 0), []⟩,
             ⟨some 30, none, .mv (.t 0), []⟩,
             ⟨some 31, none, .nilc (.t 30) (mok Tryz.prog), []⟩,
             ⟨some 32, none, .fld 7 (.t 31), []⟩,
             ⟨some 33, none, .ld 1 false (.t 32), []⟩,
             ⟨some 34, none, .call 77 [.t 33, .c (.int .i64 10)], []⟩,
             ⟨some 35, none, .nilc (.t 29) (mok Tryz.prog), []⟩,
             ⟨some 36, none, .fld 6 (.t 35), []⟩,
             ⟨none, none, .st 1 (.t 36) (.t 34), []⟩])
           (.seq
            (.ops 9 [⟨some 37, none, .mv (.t 0), []⟩,
              ⟨some 38, none, .mv (.t 7), []⟩,
              ⟨some 39, none, .call 127 [.t 37, .t 38], []⟩,
              ⟨some 6, none, .mv (.t 39), []⟩])
            .ret))
          (.seq
           (.ops 10 [⟨some 41, none, .bin .eql (.t 21) (.c (.int .i64 3)), []⟩,
             ⟨some 40, none, .mv (.t 41), []⟩])
           (.cond (.t 40)
            (.seq
             (.ops 11 [⟨some 42, none, .mv (.t 0), []⟩,
               ⟨some 43, none, .nilc (.t 42) (mok Tryz.prog), []⟩,
               ⟨some 44, none, .fld 4 (.t 43), []⟩,
               ⟨none, none, .st 1 (.t 44) (.c (.int .i64 8)), []⟩])
             (.seq
              (.ops 12 [⟨some 45, none, .mv (.t 7), []⟩,
                ⟨some 46, none, .mv (.t 0), []⟩,
                ⟨some 47, none, .nilc (.t 46) (mok Tryz.prog), []⟩,
                ⟨some 48, none, .fld 3 (.t 47), []⟩,
                ⟨some 49, none, .ld 1 false (.t 48), []⟩,
                ⟨some 50, none, .bin .geq (.t 45) (.t 49), []⟩])
              (.cond (.t 50)
               (.ops 13 [⟨some 51, none, .mv (.t 0), []⟩,
                 ⟨some 52, none, .nilc (.t 51) (mok Tryz.prog), []⟩,
                 ⟨some 53, none, .fld 4 (.t 52), []⟩,
                 ⟨none, none, .st 1 (.t 53) (.c (.int .i64 7)), []⟩])
               .skip)))
            (.seq
             (.ops 14 [⟨some 55, none, .bin .eql (.t 21) (.c (.int .i64 8)), []⟩,
               ⟨some 54, none, .mv (.t 55), []⟩])
             (.cond (.t 54)
              (.ops 15 [⟨some 56, none, .mv (.t 0), []⟩,
                ⟨some 57, none, .mv (.t 0), []⟩,
                ⟨some 58, none, .mv (.t 7), []⟩,
                ⟨some 59, none, .nilc (.t 56) (mok Tryz.prog), []⟩,
                ⟨some 60, none, .fld 8 (.t 59), []⟩,
                ⟨none, none, .st 1 (.t 60) (.t 58), []⟩,
                ⟨some 61, none, .nilc (.t 57) (mok Tryz.prog), []⟩,
                ⟨some 62, none, .fld 4 (.t 61), []⟩,
                ⟨none, none, .st 1 (.t 62) (.c (.int .i64 9)), []⟩])
              (.seq
               (.ops 16 [⟨some 64, none, .bin .eql (.t 21) (.c (.int .i64 12)), []⟩,
                 ⟨some 63, none, .mv (.t 64), []⟩])
               (.cond (.t 63)
                (.ops 17 [⟨some 65, none, .mv (.t 0), []⟩,
                  ⟨some 66, none, .mv (.t 0), []⟩,
                  ⟨some 67, none, .mv (.t 7), []⟩,
                  ⟨some 68, none, .nilc (.t 65) (mok Tryz.prog), []⟩,
                  ⟨some 69, none, .fld 9 (.t 68), []⟩,
                  ⟨none, none, .st 1 (.t 69) (.t 67), []⟩,
                  ⟨some 70, none, .nilc (.t 66) (mok Tryz.prog), []⟩,
                  ⟨some 71, none, .fld 4 (.t 70), []⟩,
                  ⟨none, none, .st 1 (.t 71) (.c (.int .i64 13)), []⟩])
                .skip))))))))))))
    (.seq
     (.ops 18 [⟨some 6, none, .mv (.c (.int .i64 0)), []⟩])
     .ret)))))⟩
theorem F76_code : cfgA.code 76 = some F76 := by kernel_rfl

/-- ticketline/reclaim.word -/
noncomputable def F77 : AFn := ⟨15, [.tmp 4], (.seq
 (.ops 0 [⟨some 4, none, .mv (.c (.int .i64 0)), []⟩])
 (.seq
  (.ops 1 [⟨some 8, none, .mv (.t 0), []⟩,
    ⟨some 9, none, .cvi .i64 (.t 8), []⟩,
    ⟨some 10, none, .mv (.t 1), []⟩,
    ⟨some 11, none, .call 128 [.t 9, .t 10], []⟩,
    ⟨some 7, none, .mv (.t 11), []⟩,
    ⟨some 12, none, .ext (.t 7) 0, []⟩,
    ⟨some 13, none, .ext (.t 7) 1, []⟩,
    ⟨some 5, none, .mv (.t 12), []⟩,
    ⟨some 6, none, .mv (.t 13), []⟩])
  (.seq
   (.ops 2 [⟨some 14, none, .mv (.t 5), []⟩,
     ⟨some 4, none, .mv (.t 14), []⟩])
   .ret)))⟩
theorem F77_code : cfgA.code 77 = some F77 := by kernel_rfl

/-- (*ticketline/reclaim.Sweep).store -/
noncomputable def F78 : AFn := ⟨23, [.tmp 10], (.seq
 (.ops 0 [⟨some 10, none, .mv (.c (.int .i64 0)), []⟩])
 (.seq
  (.ops 1 [⟨some 12, none, .mv (.t 1), []⟩,
    ⟨some 13, none, .mv (.t 2), []⟩,
    ⟨some 14, none, .mv (.t 3), []⟩,
    ⟨some 15, none, .invk (.t 12) "Store" [.t 13, .t 14], []⟩,
    ⟨some 11, none, .mv (.t 15), []⟩])
  (.seq
   (.seq
    (.ops 2 [⟨some 16, none, .mv (.t 11), []⟩,
      ⟨some 17, none, .bin .eql (.t 16) (.c (.int .i64 0)), []⟩])
    (.cond (.t 17)
     (.ops 3 [⟨some 18, none, .mv (.t 0), []⟩,
       ⟨some 19, none, .mv (.t 4), []⟩,
       ⟨some 20, none, .nilc (.t 18) (mok Tryz.prog), []⟩,
       ⟨some 21, none, .fld 4 (.t 20), []⟩,
       ⟨none, none, .st 1 (.t 21) (.t 19), []⟩])
     .skip))
   (.seq
    (.ops 4 [⟨some 22, none, .mv (.t 11), []⟩,
      ⟨some 10, none, .mv (.t 22), []⟩])
    .ret))))⟩
theorem F78_code : cfgA.code 78 = some F78 := by kernel_rfl

/-- (*ticketline/reclaim.Sweep).put -/
noncomputable def F79 : AFn := ⟨31, [.tmp 4], (.seq
 (.ops 0 [⟨some 4, none, .mv (.c (.int .i64 0)), []⟩])
 (.seq
  (.seq
   (.ops 1 [⟨some 6, none, .mv (.t 1), []⟩,
     ⟨some 7, none, .mv (.t 0), []⟩,
     ⟨some 8, none, .nilc (.t 7) (mok Tryz.prog), []⟩,
     ⟨some 9, none, .fld 7 (.t 8), []⟩,
     ⟨some 10, none, .ld 1 false (.t 9), []⟩,
     ⟨some 11, none, .mkv "Store" (.t 6), []⟩,
     ⟨some 12, none, .nilc (.t 11) (mok Tryz.prog), []⟩,
     ⟨some 13, none, .mv (.t 6), []⟩,
     ⟨some 14, none, .invk (.t 13) "Store" [.c (.int .i64 1), .t 10], []⟩,
     ⟨some 5, none, .mv (.t 14), []⟩])
   (.seq
    (.ops 2 [⟨some 15, none, .mv (.t 5), []⟩,
      ⟨some 16, none, .bin .neq (.t 15) (.c (.int .i64 0)), []⟩])
    (.cond (.t 16)
     (.seq
      (.ops 3 [⟨some 17, none, .mv (.t 5), []⟩,
        ⟨some 4, none, .mv (.t 17), []⟩])
      .ret)
     .skip)))
  (.seq
   (.ops 4 [⟨some 18, none, .mv (.t 0), []⟩,
     ⟨some 19, none, .nilc (.t 18) (mok Tryz.prog), []⟩,
     ⟨some 20, none, .fld 10 (.t 19), []⟩,
     ⟨some 21, none, .ld 1 false (.t 20), []⟩,
     ⟨some 22, none, .bin .add (.t 21) (.c (.int .u64 1)), []⟩,
     ⟨some 23, none, .nilc (.t 18) (mok Tryz.prog), []⟩,
     ⟨some 24, none, .fld 10 (.t 23), []⟩,
     ⟨none, none, .st 1 (.t 24) (.t 22), []⟩])
   (.seq
    (.ops 5 [⟨some 25, none, .mv (.t 0), []⟩,
      ⟨some 26, none, .mv (.t 0), []⟩,
      ⟨some 27, none, .nilc (.t 26) (mok Tryz.prog), []⟩,
      ⟨some 28, none, .fld 8 (.t 27), []⟩,
      ⟨some 29, none, .ld 1 false (.t 28), []⟩,
      ⟨some 30, none, .call 127 [.t 25, .t 29], []⟩,
      ⟨some 4, none, .mv (.t 30), []⟩])
    .ret))))⟩
theorem F79_code : cfgA.code 79 = some F79 := by kernel_rfl

/-- (*ticketline/reclaim.Sweep).over -/
noncomputable def F80 : AFn := ⟨13, [.tmp 2], (.seq
 (.ops 0 [⟨some 2, none, .mv (.c (.bool false)), []⟩])
 (.seq
  (.ops 1 [⟨some 3, none, .mv (.t 0), []⟩,
    ⟨some 4, none, .call 75 [.t 3], []⟩,
    ⟨some 5, none, .un .not (.t 4), []⟩,
    ⟨some 6, none, .mv (.t 5), []⟩,
    ⟨some 7, some (6, true), .mv (.t 0), []⟩,
    ⟨some 8, some (6, true), .nilc (.t 7) (mok Tryz.prog), []⟩,
    ⟨some 9, some (6, true), .fld 4 (.t 8), []⟩,
    ⟨some 10, some (6, true), .ld 1 false (.t 9), []⟩,
    ⟨some 11, some (6, true), .bin .eql (.t 10) (.c (.int .i64 20)), []⟩,
    ⟨some 12, none, .pick (.t 6) (.t 11) (.c (.bool false)), []⟩,
    ⟨some 2, none, .mv (.t 12), []⟩])
  .ret))⟩
theorem F80_code : cfgA.code 80 = some F80 := by kernel_rfl

/-- ticketline/ticketlinelaw30.given -/
noncomputable def F81 : AFn := ⟨2, [.cell 0 2 true], (.seq
 (.ops 0 [⟨some 0, none, .alloc [.int .i64 0, .int .i64 0] false, []⟩])
 (.seq
  (.ops 1 [⟨some 1, none, .build [.int .i64 0, .int .i64 0] [(0, 1, (.c (.int .i64 4))), (1, 1, (.c (.int .i64 2)))], []⟩,
    ⟨none, none, .st 2 (.t 0) (.t 1), []⟩])
  .ret))⟩
theorem F81_code : cfgA.code 81 = some F81 := by kernel_rfl

/-- ticketline/ticketlinelaw30.taken -/
noncomputable def F82 : AFn := ⟨28, [.tmp 6], (.seq
 (.ops 0 [⟨some 3, none, .box 2 (.t 0) false, []⟩,
   ⟨some 6, none, .mv (.c (.int .i64 0)), []⟩])
 (.seq
  (.ops 1 [⟨some 10, none, .ld 2 true (.t 3), []⟩,
    ⟨some 11, none, .mv (.t 2), []⟩,
    ⟨some 12, none, .call 129 [.t 10, .t 11], []⟩,
    ⟨some 9, none, .mv (.t 12), []⟩,
    ⟨some 13, none, .ext (.t 9) 0, []⟩,
    ⟨some 14, none, .ext (.t 9) 1, []⟩,
    ⟨some 7, none, .mv (.t 13), []⟩,
    ⟨some 8, none, .mv (.t 14), []⟩])
  (.seq
   (.seq
    (.ops 2 [⟨some 15, none, .mv (.t 7), []⟩,
      ⟨some 16, none, .eqn .ptr false (.t 15), []⟩,
      ⟨some 17, none, .mv (.t 16), []⟩,
      ⟨some 18, some (17, false), .mv (.t 8), []⟩,
      ⟨some 19, some (17, false), .bin .neq (.t 18) (.c (.int .i64 0)), []⟩,
      ⟨some 20, none, .pick (.t 17) (.c (.bool true)) (.t 19), []⟩])
    (.cond (.t 20)
     (.seq
      (.ops 3 [⟨some 6, none, .mv (.c (.int .i64 0)), []⟩])
      .ret)
     .skip))
   (.seq
    (.ops 4 [⟨some 21, none, .mv (.t 7), []⟩,
      ⟨some 22, none, .mki 174 (.t 21), []⟩,
      ⟨some 23, none, .mv (.t 1), []⟩,
      ⟨some 24, none, .call 130 [.t 22, .t 23, .c (.int .i64 200)], []⟩])
    (.seq
     (.ops 5 [⟨some 25, none, .mv (.t 7), []⟩,
       ⟨some 26, none, .call 131 [.t 25], []⟩,
       ⟨some 27, none, .cvi .i64 (.t 26), []⟩,
       ⟨some 6, none, .mv (.t 27), []⟩])
     .ret)))))⟩
theorem F82_code : cfgA.code 82 = some F82 := by kernel_rfl

/-- ticketline/ticketlinelaw30.holds: the round 0 -/
noncomputable def B83x0 : AC := (.seq
 (.seq
  (.ops 5 [⟨some 29, none, .mv (.t 11), []⟩,
    ⟨some 30, none, .mv (.t 3), []⟩,
    ⟨some 31, none, .len .slice (.t 30), []⟩,
    ⟨some 32, none, .bin .lss (.t 29) (.t 31), []⟩])
  (.cond (.t 32)
   .skip
   (.exit 0)))
 (.seq
  (.block 1
   (.seq
    (.ops 7 [⟨some 36, none, .ld 2 true (.t 4), []⟩,
      ⟨some 37, none, .mv (.t 3), []⟩,
      ⟨some 38, none, .mv (.t 11), []⟩,
      ⟨some 39, none, .ixa none 1 (.t 37) (.t 38), []⟩,
      ⟨some 40, none, .ld 1 false (.t 39), []⟩,
      ⟨some 41, none, .call 111 [.t 36, .t 40], []⟩,
      ⟨some 35, none, .mv (.t 41), []⟩,
      ⟨some 42, none, .ext (.t 35) 0, []⟩,
      ⟨some 43, none, .ext (.t 35) 1, []⟩,
      ⟨some 12, none, .mv (.t 42), []⟩,
      ⟨some 13, none, .mv (.t 43), []⟩])
    (.seq
     (.ops 8 [⟨some 45, none, .mv (.t 9), []⟩,
       ⟨some 46, none, .mv (.t 12), []⟩,
       ⟨some 47, none, .mv (.t 2), []⟩,
       ⟨some 48, none, .call 133 [.t 45, .t 46, .t 47, .c (.int .i64 3)], []⟩,
       ⟨some 44, none, .mv (.t 48), []⟩,
       ⟨some 49, none, .ext (.t 44) 0, []⟩,
       ⟨some 50, none, .ext (.t 44) 1, []⟩,
       ⟨some 14, none, .mv (.t 49), []⟩,
       ⟨some 15, none, .mv (.t 50), []⟩])
     (.seq
      (.seq
       (.ops 9 [⟨some 51, none, .mv (.t 14), []⟩,
         ⟨some 52, none, .eqn .ptr false (.t 51), []⟩,
         ⟨some 53, none, .mv (.t 52), []⟩,
         ⟨some 54, some (53, false), .mv (.t 13), []⟩,
         ⟨some 55, some (53, false), .bin .neq (.t 54) (.c (.int .i64 0)), []⟩,
         ⟨some 56, none, .pick (.t 53) (.c (.bool true)) (.t 55), []⟩,
         ⟨some 57, none, .mv (.t 56), []⟩,
         ⟨some 58, some (57, false), .mv (.t 15), []⟩,
         ⟨some 59, some (57, false), .bin .neq (.t 58) (.c (.int .i64 0)), []⟩,
         ⟨some 60, none, .pick (.t 57) (.c (.bool true)) (.t 59), []⟩])
       (.cond (.t 60)
        (.seq
         (.ops 10 [⟨some 8, none, .mv (.c (.bool false)), []⟩])
         .ret)
        .skip))
      (.seq
       (.ops 11 [⟨some 62, none, .mv (.t 14), []⟩,
         ⟨some 63, none, .mki 181 (.t 62), []⟩,
         ⟨some 64, none, .mv (.t 1), []⟩,
         ⟨some 65, none, .call 130 [.t 63, .t 64, .c (.int .i64 100)], []⟩,
         ⟨some 61, none, .mv (.t 65), []⟩,
         ⟨some 66, none, .ext (.t 61) 0, []⟩,
         ⟨some 67, none, .ext (.t 61) 1, []⟩,
         ⟨some 16, none, .mv (.t 66), []⟩,
         ⟨some 17, none, .mv (.t 67), []⟩])
       (.seq
        (.ops 12 [⟨some 68, none, .mv (.t 16), []⟩,
          ⟨some 69, none, .un .not (.t 68), []⟩,
          ⟨some 70, none, .mv (.t 69), []⟩,
          ⟨some 71, some (70, false), .mv (.t 14), []⟩,
          ⟨some 72, some (70, false), .call 134 [.t 71], []⟩,
          ⟨some 73, some (70, false), .bin .neq (.t 72) (.c (.int .u64 1)), []⟩,
          ⟨some 74, none, .pick (.t 70) (.c (.bool true)) (.t 73), []⟩])
        (.cond (.t 74)
         (.seq
          (.ops 13 [⟨some 8, none, .mv (.c (.bool false)), []⟩])
          .ret)
         .skip)))))))
  (.ops 6 [⟨some 33, none, .mv (.t 11), []⟩,
    ⟨some 34, none, .bin .add (.t 33) (.c (.int .i64 1)), []⟩,
    ⟨some 11, none, .mv (.t 34), []⟩])))
/-- ticketline/ticketlinelaw30.holds -/
noncomputable def F83 : AFn := ⟨75, [.tmp 8], (.seq
 (.ops 0 [⟨some 4, none, .box 2 (.t 0) false, []⟩,
   ⟨some 8, none, .mv (.c (.bool false)), []⟩])
 (.seq
  (.ops 1 [⟨some 19, none, .ld 2 true (.t 4), []⟩,
    ⟨some 20, none, .call 132 [.t 19], []⟩,
    ⟨some 18, none, .mv (.t 20), []⟩,
    ⟨some 21, none, .ext (.t 18) 0, []⟩,
    ⟨some 22, none, .ext (.t 18) 1, []⟩,
    ⟨some 9, none, .mv (.t 21), []⟩,
    ⟨some 10, none, .mv (.t 22), []⟩])
  (.seq
   (.seq
    (.ops 2 [⟨some 23, none, .mv (.t 9), []⟩,
      ⟨some 24, none, .eqn .ptr false (.t 23), []⟩,
      ⟨some 25, none, .mv (.t 24), []⟩,
      ⟨some 26, some (25, false), .mv (.t 10), []⟩,
      ⟨some 27, some (25, false), .bin .neq (.t 26) (.c (.int .i64 0)), []⟩,
      ⟨some 28, none, .pick (.t 25) (.c (.bool true)) (.t 27), []⟩])
    (.cond (.t 28)
     (.seq
      (.ops 3 [⟨some 8, none, .mv (.c (.bool false)), []⟩])
      .ret)
     .skip))
   (.seq
    (.seq
     (.ops 4 [⟨some 11, none, .mv (.c (.int .i64 0)), []⟩])
     (.block 0
      (.loop [] B83x0)))
    (.seq
     (.ops 14 [⟨some 8, none, .mv (.c (.bool true)), []⟩])
     .ret)))))⟩
theorem F83_code : cfgA.code 83 = some F83 := by kernel_rfl

/-- ticketline/ticketlinelaw30.gives -/
noncomputable def F84 : AFn := ⟨47, [.tmp 10], (.seq
 (.ops 0 [⟨some 5, none, .box 2 (.t 0) false, []⟩,
   ⟨some 10, none, .mv (.c (.bool false)), []⟩])
 (.seq
  (.ops 1 [⟨some 16, none, .ld 2 true (.t 5), []⟩,
    ⟨some 17, none, .mv (.t 2), []⟩,
    ⟨some 18, none, .mv (.t 3), []⟩,
    ⟨some 19, none, .call 73 [.t 16, .t 17, .t 18], []⟩,
    ⟨some 15, none, .mv (.t 19), []⟩,
    ⟨some 20, none, .ext (.t 15) 0, []⟩,
    ⟨some 21, none, .ext (.t 15) 1, []⟩,
    ⟨some 11, none, .mv (.t 20), []⟩,
    ⟨some 12, none, .mv (.t 21), []⟩])
  (.seq
   (.seq
    (.ops 2 [⟨some 22, none, .mv (.t 11), []⟩,
      ⟨some 23, none, .eqn .ptr false (.t 22), []⟩,
      ⟨some 24, none, .mv (.t 23), []⟩,
      ⟨some 25, some (24, false), .mv (.t 12), []⟩,
      ⟨some 26, some (24, false), .bin .neq (.t 25) (.c (.int .i64 0)), []⟩,
      ⟨some 27, none, .pick (.t 24) (.c (.bool true)) (.t 26), []⟩])
    (.cond (.t 27)
     (.seq
      (.ops 3 [⟨some 10, none, .mv (.c (.bool false)), []⟩])
      .ret)
     .skip))
   (.seq
    (.ops 4 [⟨some 29, none, .mv (.t 11), []⟩,
      ⟨some 30, none, .mki 58 (.t 29), []⟩,
      ⟨some 31, none, .mv (.t 1), []⟩,
      ⟨some 32, none, .call 130 [.t 30, .t 31, .c (.int .i64 1000)], []⟩,
      ⟨some 28, none, .mv (.t 32), []⟩,
      ⟨some 33, none, .ext (.t 28) 0, []⟩,
      ⟨some 34, none, .ext (.t 28) 1, []⟩,
      ⟨some 13, none, .mv (.t 33), []⟩,
      ⟨some 14, none, .mv (.t 34), []⟩])
    (.seq
     (.ops 5 [⟨some 35, none, .mv (.t 13), []⟩,
       ⟨some 36, none, .mv (.t 35), []⟩,
       ⟨some 37, some (36, true), .mv (.t 14), []⟩,
       ⟨some 38, some (36, true), .un .not (.t 37), []⟩,
       ⟨some 39, none, .pick (.t 36) (.t 38) (.c (.bool false)), []⟩,
       ⟨some 40, none, .mv (.t 39), []⟩,
       ⟨some 41, some (40, true), .mv (.t 11), []⟩,
       ⟨some 42, some (40, true), .call 23 [.t 41], []⟩,
       ⟨some 43, some (40, true), .cvi .i64 (.t 42), []⟩,
       ⟨some 44, some (40, true), .mv (.t 4), []⟩,
       ⟨some 45, some (40, true), .bin .eql (.t 43) (.t 44), []⟩,
       ⟨some 46, none, .pick (.t 40) (.t 45) (.c (.bool false)), []⟩,
       ⟨some 10, none, .mv (.t 46), []⟩])
     .ret)))))⟩
theorem F84_code : cfgA.code 84 = some F84 := by kernel_rfl

/-- ticketline/ticketlinelaw30.words -/
noncomputable def F85 : AFn := ⟨43, [.tmp 10], (.seq
 (.ops 0 [⟨some 10, none, .mv (.c (.bool false)), []⟩])
 (.seq
  (.ops 1 [⟨some 16, none, .mv (.t 0), []⟩,
    ⟨some 17, none, .mv (.t 1), []⟩,
    ⟨some 18, none, .call 135 [.t 16, .t 17], []⟩,
    ⟨some 15, none, .mv (.t 18), []⟩,
    ⟨some 19, none, .ext (.t 15) 0, []⟩,
    ⟨some 20, none, .ext (.t 15) 1, []⟩,
    ⟨some 11, none, .mv (.t 19), []⟩,
    ⟨some 12, none, .mv (.t 20), []⟩])
  (.seq
   (.ops 2 [⟨some 22, none, .mv (.t 0), []⟩,
     ⟨some 23, none, .mv (.t 3), []⟩,
     ⟨some 24, none, .call 135 [.t 22, .t 23], []⟩,
     ⟨some 21, none, .mv (.t 24), []⟩,
     ⟨some 25, none, .ext (.t 21) 0, []⟩,
     ⟨some 26, none, .ext (.t 21) 1, []⟩,
     ⟨some 13, none, .mv (.t 25), []⟩,
     ⟨some 14, none, .mv (.t 26), []⟩])
   (.seq
    (.ops 3 [⟨some 27, none, .mv (.t 12), []⟩,
      ⟨some 28, none, .bin .eql (.t 27) (.c (.int .i64 0)), []⟩,
      ⟨some 29, none, .mv (.t 28), []⟩,
      ⟨some 30, some (29, true), .mv (.t 14), []⟩,
      ⟨some 31, some (29, true), .bin .eql (.t 30) (.c (.int .i64 0)), []⟩,
      ⟨some 32, none, .pick (.t 29) (.t 31) (.c (.bool false)), []⟩,
      ⟨some 33, none, .mv (.t 32), []⟩,
      ⟨some 34, some (33, true), .mv (.t 11), []⟩,
      ⟨some 35, some (33, true), .mv (.t 2), []⟩,
      ⟨some 36, some (33, true), .bin .eql (.t 34) (.t 35), []⟩,
      ⟨some 37, none, .pick (.t 33) (.t 36) (.c (.bool false)), []⟩,
      ⟨some 38, none, .mv (.t 37), []⟩,
      ⟨some 39, some (38, true), .mv (.t 13), []⟩,
      ⟨some 40, some (38, true), .mv (.t 4), []⟩,
      ⟨some 41, some (38, true), .bin .eql (.t 39) (.t 40), []⟩,
      ⟨some 42, none, .pick (.t 38) (.t 41) (.c (.bool false)), []⟩,
      ⟨some 10, none, .mv (.t 42), []⟩])
    .ret))))⟩
theorem F85_code : cfgA.code 85 = some F85 := by kernel_rfl

/-- ticketline/ticketlinelaw30.swept -/
noncomputable def F86 : AFn := ⟨50, [.tmp 10], (.seq
 (.ops 0 [⟨some 5, none, .box 2 (.t 0) false, []⟩,
   ⟨some 10, none, .mv (.c (.bool false)), []⟩])
 (.seq
  (.ops 1 [⟨some 16, none, .ld 2 true (.t 5), []⟩,
    ⟨some 17, none, .mv (.t 2), []⟩,
    ⟨some 18, none, .mv (.t 3), []⟩,
    ⟨some 19, none, .call 87 [.t 16, .t 17, .t 18], []⟩,
    ⟨some 15, none, .mv (.t 19), []⟩,
    ⟨some 20, none, .ext (.t 15) 0, []⟩,
    ⟨some 21, none, .ext (.t 15) 1, []⟩,
    ⟨some 11, none, .mv (.t 20), []⟩,
    ⟨some 12, none, .mv (.t 21), []⟩])
  (.seq
   (.seq
    (.ops 2 [⟨some 22, none, .mv (.t 11), []⟩,
      ⟨some 23, none, .eqn .ptr false (.t 22), []⟩,
      ⟨some 24, none, .mv (.t 23), []⟩,
      ⟨some 25, some (24, false), .mv (.t 12), []⟩,
      ⟨some 26, some (24, false), .bin .neq (.t 25) (.c (.int .i64 0)), []⟩,
      ⟨some 27, none, .pick (.t 24) (.c (.bool true)) (.t 26), []⟩])
    (.cond (.t 27)
     (.seq
      (.ops 3 [⟨some 10, none, .mv (.c (.bool false)), []⟩])
      .ret)
     .skip))
   (.seq
    (.ops 4 [⟨some 29, none, .mv (.t 11), []⟩,
      ⟨some 30, none, .mki 61 (.t 29), []⟩,
      ⟨some 31, none, .mv (.t 1), []⟩,
      ⟨some 32, none, .mv (.t 4), []⟩,
      ⟨some 33, none, .bin .mul (.c (.int .i64 150)) (.t 32), []⟩,
      ⟨some 34, none, .bin .add (.c (.int .i64 1000)) (.t 33), []⟩,
      ⟨some 35, none, .call 130 [.t 30, .t 31, .t 34], []⟩,
      ⟨some 28, none, .mv (.t 35), []⟩,
      ⟨some 36, none, .ext (.t 28) 0, []⟩,
      ⟨some 37, none, .ext (.t 28) 1, []⟩,
      ⟨some 13, none, .mv (.t 36), []⟩,
      ⟨some 14, none, .mv (.t 37), []⟩])
    (.seq
     (.ops 5 [⟨some 38, none, .mv (.t 13), []⟩,
       ⟨some 39, none, .mv (.t 38), []⟩,
       ⟨some 40, some (39, true), .mv (.t 14), []⟩,
       ⟨some 41, some (39, true), .un .not (.t 40), []⟩,
       ⟨some 42, none, .pick (.t 39) (.t 41) (.c (.bool false)), []⟩,
       ⟨some 43, none, .mv (.t 42), []⟩,
       ⟨some 44, some (43, true), .mv (.t 11), []⟩,
       ⟨some 45, some (43, true), .call 36 [.t 44], []⟩,
       ⟨some 46, some (43, true), .cvi .i64 (.t 45), []⟩,
       ⟨some 47, some (43, true), .mv (.t 4), []⟩,
       ⟨some 48, some (43, true), .bin .eql (.t 46) (.t 47), []⟩,
       ⟨some 49, none, .pick (.t 43) (.t 48) (.c (.bool false)), []⟩,
       ⟨some 10, none, .mv (.t 49), []⟩])
     .ret)))))⟩
theorem F86_code : cfgA.code 86 = some F86 := by kernel_rfl

/-- ticketline/reclaim.NewSweep -/
noncomputable def F87 : AFn := ⟨29, [.tmp 6, .tmp 7], (.seq
 (.ops 0 [⟨some 3, none, .box 2 (.t 0) false, []⟩,
   ⟨some 6, none, .mv (.c (.nilp)), []⟩,
   ⟨some 7, none, .mv (.c (.int .i64 0)), []⟩])
 (.seq
  (.seq
   (.ops 1 [⟨some 8, none, .ld 2 true (.t 3), []⟩,
     ⟨some 9, none, .mv (.t 1), []⟩,
     ⟨some 10, none, .call 125 [.t 8, .t 9, .c (.int .i64 0)], []⟩,
     ⟨some 11, none, .un .not (.t 10), []⟩,
     ⟨some 12, none, .mv (.t 11), []⟩,
     ⟨some 13, some (12, false), .mv (.t 2), []⟩,
     ⟨some 14, some (12, false), .bin .lss (.t 13) (.c (.int .i64 0)), []⟩,
     ⟨some 15, none, .pick (.t 12) (.c (.bool true)) (.t 14), []⟩,
     ⟨some 16, none, .mv (.t 15), []⟩,
     ⟨some 17, some (16, false), .mv (.t 2), []⟩,
     ⟨some 18, some (16, false), .bin .gtr (.t 17) (.c (.int .i64 1099511627776)), []⟩,
     ⟨some 19, none, .pick (.t 16) (.c (.bool true)) (.t 18), []⟩])
   (.cond (.t 19)
    (.seq
     (.ops 2 [⟨some 6, none, .mv (.c (.nilp)), []⟩,
       ⟨some 7, none, .mv (.c (.int .i64 2)), []⟩])
     .ret)
    .skip))
  (.seq
   (.ops 3 [⟨some 20, none, .ld 2 true (.t 3), []⟩,
     ⟨some 21, none, .mv (.t 1), []⟩,
     ⟨some 22, none, .mv (.t 2), []⟩,
     ⟨some 23, none, .cvi .u64 (.t 22), []⟩,
     ⟨some 24, none, .ld 2 true (.t 3), []⟩,
     ⟨some 25, none, .mv (.t 1), []⟩,
     ⟨some 26, none, .call 126 [.t 24, .t 25], [(20, .ld 2 true (.t 3))]⟩,
     ⟨some 27, none, .build [.int .i64 0, .int .i64 0, .int .i64 0, .int .u64 0, .int .i64 0, .nili, .int .i64 0, .int .u64 0, .int .u64 0, .int .u64 0, .int .u64 0] [(0, 2, (.t 20)), (2, 1, (.t 21)), (3, 1, (.t 23)), (6, 1, (.c (.int .i64 2))), (4, 1, (.c (.int .i64 1))), (5, 1, (.t 26))], []⟩,
     ⟨some 28, none, .box 11 (.t 27) true, []⟩,
     ⟨some 6, none, .mv (.t 28), []⟩,
     ⟨some 7, none, .mv (.c (.int .i64 0)), []⟩])
   .ret)))⟩
theorem F87_code : cfgA.code 87 = some F87 := by kernel_rfl

/-- ticketline/reclaim.NewLower -/
noncomputable def F88 : AFn := ⟨62, [.tmp 6, .tmp 7], (.seq
 (.ops 0 [⟨some 3, none, .box 2 (.t 0) false, []⟩,
   ⟨some 5, none, .box 130 (.t 2) false, []⟩,
   ⟨some 6, none, .mv (.c (.nilp)), []⟩,
   ⟨some 7, none, .mv (.c (.int .i64 0)), []⟩])
 (.seq
  (.seq
   (.ops 1 [⟨some 11, none, .ld 2 true (.t 3), []⟩,
     ⟨some 12, none, .mv (.t 1), []⟩,
     ⟨some 13, none, .fld 0 (.t 5), []⟩,
     ⟨some 14, none, .ld 1 false (.t 13), []⟩,
     ⟨some 15, none, .call 125 [.t 11, .t 12, .t 14], []⟩,
     ⟨some 16, none, .un .not (.t 15), []⟩,
     ⟨some 17, none, .mv (.t 16), []⟩,
     ⟨some 18, some (17, false), .fld 0 (.t 5), []⟩,
     ⟨some 19, some (17, false), .ld 1 false (.t 18), []⟩,
     ⟨some 20, some (17, false), .bin .eql (.t 19) (.c (.int .i64 0)), []⟩,
     ⟨some 21, none, .pick (.t 17) (.c (.bool true)) (.t 20), []⟩,
     ⟨some 22, none, .mv (.t 21), []⟩,
     ⟨some 23, some (22, false), .fld 1 (.t 5), []⟩,
     ⟨some 24, some (22, false), .ld 128 true (.t 23), []⟩,
     ⟨some 25, some (22, false), .call 98 [.t 24], []⟩,
     ⟨some 26, some (22, false), .bin .lss (.t 25) (.c (.int .i64 1)), []⟩,
     ⟨some 27, none, .pick (.t 22) (.c (.bool true)) (.t 26), []⟩,
     ⟨some 28, none, .mv (.t 27), []⟩,
     ⟨some 29, some (28, false), .fld 1 (.t 5), []⟩,
     ⟨some 30, some (28, false), .ld 128 true (.t 29), []⟩,
     ⟨some 31, some (28, false), .call 61 [.t 30], []⟩,
     ⟨some 32, some (28, false), .bin .neq (.t 31) (.c (.int .i64 1)), []⟩,
     ⟨some 33, none, .pick (.t 28) (.c (.bool true)) (.t 32), []⟩])
   (.cond (.t 33)
    (.seq
     (.ops 2 [⟨some 6, none, .mv (.c (.nilp)), []⟩,
       ⟨some 7, none, .mv (.c (.int .i64 2)), []⟩])
     .ret)
    .skip))
  (.seq
   (.ops 3 [⟨some 35, none, .fld 1 (.t 5), []⟩,
     ⟨some 36, none, .ld 128 true (.t 35), []⟩,
     ⟨some 37, none, .call 136 [.t 36, .c (.int .i64 0)], []⟩,
     ⟨some 34, none, .mv (.t 37), []⟩,
     ⟨some 38, none, .ext (.t 34) 0, []⟩,
     ⟨some 39, none, .ext (.t 34) 1, []⟩,
     ⟨some 8, none, .mv (.t 38), []⟩,
     ⟨some 9, none, .mv (.t 39), []⟩])
   (.seq
    (.seq
     (.ops 4 [⟨some 40, none, .mv (.t 9), []⟩,
       ⟨some 41, none, .bin .neq (.t 40) (.c (.int .i64 0)), []⟩])
     (.cond (.t 41)
      (.seq
       (.ops 5 [⟨some 42, none, .mv (.t 9), []⟩,
         ⟨some 6, none, .mv (.c (.nilp)), []⟩,
         ⟨some 7, none, .mv (.t 42), []⟩])
       .ret)
      .skip))
    (.seq
     (.ops 6 [⟨some 44, none, .mv (.t 8), []⟩,
       ⟨some 45, none, .cvi .u64 (.t 44), []⟩,
       ⟨some 46, none, .bslice [.int .u64 0] 1 1 [(0, (.t 45))] false false, []⟩,
       ⟨some 47, none, .call 122 [.c (.int .i64 11), .c (.int .i64 3), .t 46], []⟩,
       ⟨some 43, none, .mv (.t 47), []⟩,
       ⟨some 48, none, .ext (.t 43) 0, []⟩,
       ⟨some 49, none, .ext (.t 43) 1, []⟩,
       ⟨some 10, none, .mv (.t 48), []⟩,
       ⟨some 9, none, .mv (.t 49), []⟩])
     (.seq
      (.seq
       (.ops 7 [⟨some 50, none, .mv (.t 9), []⟩,
         ⟨some 51, none, .bin .neq (.t 50) (.c (.int .i64 0)), []⟩])
       (.cond (.t 51)
        (.seq
         (.ops 8 [⟨some 52, none, .mv (.t 9), []⟩,
           ⟨some 6, none, .mv (.c (.nilp)), []⟩,
           ⟨some 7, none, .mv (.t 52), []⟩])
         .ret)
        .skip))
      (.seq
       (.ops 9 [⟨some 53, none, .ld 2 true (.t 3), []⟩,
         ⟨some 54, none, .mv (.t 1), []⟩,
         ⟨some 55, none, .fld 0 (.t 5), []⟩,
         ⟨some 56, none, .ld 1 false (.t 55), []⟩,
         ⟨some 57, none, .mv (.t 8), []⟩,
         ⟨some 58, none, .mv (.t 10), []⟩,
         ⟨some 59, none, .mki 166 (.t 58), []⟩,
         ⟨some 60, none, .build [.int .i64 0, .int .i64 0, .int .i64 0, .int .i64 0, .int .i64 0, .int .i64 0, .nili] [(0, 2, (.t 53)), (2, 1, (.t 54)), (3, 1, (.t 56)), (4, 1, (.t 57)), (5, 1, (.c (.int .i64 19))), (6, 1, (.t 59))], []⟩,
         ⟨some 61, none, .box 7 (.t 60) true, []⟩,
         ⟨some 6, none, .mv (.t 61), []⟩,
         ⟨some 7, none, .mv (.c (.int .i64 0)), []⟩])
       .ret)))))))⟩
theorem F88_code : cfgA.code 88 = some F88 := by kernel_rfl

/-- ticketline/ticketlinelaw30.leafOf: the round 0 -/
noncomputable def B89x0 : AC := (.seq
 (.seq
  (.ops 4 [⟨some 21, none, .mv (.t 8), []⟩,
    ⟨some 22, none, .mv (.t 6), []⟩,
    ⟨some 23, none, .len .slice (.t 22), []⟩,
    ⟨some 24, none, .bin .lss (.t 21) (.t 23), []⟩,
    ⟨some 25, none, .mv (.t 24), []⟩,
    ⟨some 26, some (25, true), .mv (.t 8), []⟩,
    ⟨some 27, some (25, true), .bin .lss (.t 26) (.c (.int .i64 128)), []⟩,
    ⟨some 28, none, .pick (.t 25) (.t 27) (.c (.bool false)), []⟩,
    ⟨some 29, none, .mv (.t 28), []⟩,
    ⟨some 30, some (29, true), .mv (.t 7), []⟩,
    ⟨some 31, some (29, true), .bin .eql (.t 30) (.c (.int .i64 0)), []⟩,
    ⟨some 32, none, .pick (.t 29) (.t 31) (.c (.bool false)), []⟩])
  (.cond (.t 32)
   .skip
   (.exit 0)))
 (.seq
  (.block 1
   (.ops 6 [⟨some 35, none, .mv (.t 8), []⟩,
     ⟨some 36, none, .mv (.t 6), []⟩,
     ⟨some 37, none, .mv (.t 8), []⟩,
     ⟨some 38, none, .ixa none 1 (.t 36) (.t 37), []⟩,
     ⟨some 39, none, .ld 1 false (.t 38), []⟩,
     ⟨some 40, none, .fld 1 (.t 5), []⟩,
     ⟨some 41, none, .ixa (some 128) 1 (.t 40) (.t 35), []⟩,
     ⟨none, none, .st 1 (.t 41) (.t 39), []⟩]))
  (.ops 5 [⟨some 33, none, .mv (.t 8), []⟩,
    ⟨some 34, none, .bin .add (.t 33) (.c (.int .i64 1)), []⟩,
    ⟨some 8, none, .mv (.t 34), []⟩])))
/-- ticketline/ticketlinelaw30.leafOf -/
noncomputable def F89 : AFn := ⟨43, [.cell 4 130 true], (.seq
 (.ops 0 [⟨some 4, none, .alloc [.int .i64 0, .int .u64 0, .int .u64 0, .int .u64 0, .int .u64 0, .int .u64 0, .int .u64 0, .int .u64 0, .int .u64 0, .int .u64 0, .int .u64 0, .int .u64 0, .int .u64 0, .int .u64 0, .int .u64 0, .int .u64 0, .int .u64 0, .int .u64 0, .int .u64 0, .int .u64 0, .int .u64 0, .int .u64 0, .int .u64 0, .int .u64 0, .int .u64 0, .int .u64 0, .int .u64 0, .int .u64 0, .int .u64 0, .int .u64 0, .int .u64 0, .int .u64 0, .int .u64 0, .int .u64 0, .int .u64 0, .int .u64 0, .int .u64 0, .int .u64 0, .int .u64 0, .int .u64 0, .int .u64 0, .int .u64 0, .int .u64 0, .int .u64 0, .int .u64 0, .int .u64 0, .int .u64 0, .int .u64 0, .int .u64 0, .int .u64 0, .int .u64 0, .int .u64 0, .int .u64 0, .int .u64 0, .int .u64 0, .int .u64 0, .int .u64 0, .int .u64 0, .int .u64 0, .int .u64 0, .int .u64 0, .int .u64 0, .int .u64 0, .int .u64 0, .int .u64 0, .int .u64 0, .int .u64 0, .int .u64 0, .int .u64 0, .int .u64 0, .int .u64 0, .int .u64 0, .int .u64 0, .int .u64 0, .int .u64 0, .int .u64 0, .int .u64 0, .int .u64 0, .int .u64 0, .int .u64 0, .int .u64 0, .int .u64 0, .int .u64 0, .int .u64 0, .int .u64 0, .int .u64 0, .int .u64 0, .int .u64 0, .int .u64 0, .int .u64 0, .int .u64 0, .int .u64 0, .int .u64 0, .int .u64 0, .int .u64 0, .int .u64 0, .int .u64 0, .int .u64 0, .int .u64 0, .int .u64 0, .int .u64 0, .int .u64 0, .int .u64 0, .int .u64 0, .int .u64 0, .int .u64 0, .int .u64 0, .int .u64 0, .int .u64 0, .int .u64 0, .int .u64 0, .int .u64 0, .int .u64 0, .int .u64 0, .int .u64 0, .int .u64 0, .int .u64 0, .int .u64 0, .int .u64 0, .int .u64 0, .int .u64 0, .int .u64 0, .int .u64 0, .int .u64 0, .int .u64 0, .int .u64 0, .int .u64 0, .int .u64 0, .int .u64 0, .int .u64 0] false, []⟩])
 (.seq
  (.ops 1 [⟨some 9, none, .mv (.t 1), []⟩,
    ⟨some 10, none, .build [.int .i64 0, .int .u64 0, .int .u64 0, .int .u64 0, .int .u64 0, .int .u64 0, .int .u64 0, .int .u64 0, .int .u64 0, .int .u64 0, .int .u64 0, .int .u64 0, .int .u64 0, .int .u64 0, .int .u64 0, .int .u64 0, .int .u64 0, .int .u64 0, .int .u64 0, .int .u64 0, .int .u64 0, .int .u64 0, .int .u64 0, .int .u64 0, .int .u64 0, .int .u64 0, .int .u64 0, .int .u64 0, .int .u64 0, .int .u64 0, .int .u64 0, .int .u64 0, .int .u64 0, .int .u64 0, .int .u64 0, .int .u64 0, .int .u64 0, .int .u64 0, .int .u64 0, .int .u64 0, .int .u64 0, .int .u64 0, .int .u64 0, .int .u64 0, .int .u64 0, .int .u64 0, .int .u64 0, .int .u64 0, .int .u64 0, .int .u64 0, .int .u64 0, .int .u64 0, .int .u64 0, .int .u64 0, .int .u64 0, .int .u64 0, .int .u64 0, .int .u64 0, .int .u64 0, .int .u64 0, .int .u64 0, .int .u64 0, .int .u64 0, .int .u64 0, .int .u64 0, .int .u64 0, .int .u64 0, .int .u64 0, .int .u64 0, .int .u64 0, .int .u64 0, .int .u64 0, .int .u64 0, .int .u64 0, .int .u64 0, .int .u64 0, .int .u64 0, .int .u64 0, .int .u64 0, .int .u64 0, .int .u64 0, .int .u64 0, .int .u64 0, .int .u64 0, .int .u64 0, .int .u64 0, .int .u64 0, .int .u64 0, .int .u64 0, .int .u64 0, .int .u64 0, .int .u64 0, .int .u64 0, .int .u64 0, .int .u64 0, .int .u64 0, .int .u64 0, .int .u64 0, .int .u64 0, .int .u64 0, .int .u64 0, .int .u64 0, .int .u64 0, .int .u64 0, .int .u64 0, .int .u64 0, .int .u64 0, .int .u64 0, .int .u64 0, .int .u64 0, .int .u64 0, .int .u64 0, .int .u64 0, .int .u64 0, .int .u64 0, .int .u64 0, .int .u64 0, .int .u64 0, .int .u64 0, .int .u64 0, .int .u64 0, .int .u64 0, .int .u64 0, .int .u64 0, .int .u64 0, .int .u64 0, .int .u64 0, .int .u64 0, .int .u64 0, .int .u64 0] [(0, 1, (.t 9))], []⟩,
    ⟨some 5, none, .alloc [.int .i64 0, .int .u64 0, .int .u64 0, .int .u64 0, .int .u64 0, .int .u64 0, .int .u64 0, .int .u64 0, .int .u64 0, .int .u64 0, .int .u64 0, .int .u64 0, .int .u64 0, .int .u64 0, .int .u64 0, .int .u64 0, .int .u64 0, .int .u64 0, .int .u64 0, .int .u64 0, .int .u64 0, .int .u64 0, .int .u64 0, .int .u64 0, .int .u64 0, .int .u64 0, .int .u64 0, .int .u64 0, .int .u64 0, .int .u64 0, .int .u64 0, .int .u64 0, .int .u64 0, .int .u64 0, .int .u64 0, .int .u64 0, .int .u64 0, .int .u64 0, .int .u64 0, .int .u64 0, .int .u64 0, .int .u64 0, .int .u64 0, .int .u64 0, .int .u64 0, .int .u64 0, .int .u64 0, .int .u64 0, .int .u64 0, .int .u64 0, .int .u64 0, .int .u64 0, .int .u64 0, .int .u64 0, .int .u64 0, .int .u64 0, .int .u64 0, .int .u64 0, .int .u64 0, .int .u64 0, .int .u64 0, .int .u64 0, .int .u64 0, .int .u64 0, .int .u64 0, .int .u64 0, .int .u64 0, .int .u64 0, .int .u64 0, .int .u64 0, .int .u64 0, .int .u64 0, .int .u64 0, .int .u64 0, .int .u64 0, .int .u64 0, .int .u64 0, .int .u64 0, .int .u64 0, .int .u64 0, .int .u64 0, .int .u64 0, .int .u64 0, .int .u64 0, .int .u64 0, .int .u64 0, .int .u64 0, .int .u64 0, .int .u64 0, .int .u64 0, .int .u64 0, .int .u64 0, .int .u64 0, .int .u64 0, .int .u64 0, .int .u64 0, .int .u64 0, .int .u64 0, .int .u64 0, .int .u64 0, .int .u64 0, .int .u64 0, .int .u64 0, .int .u64 0, .int .u64 0, .int .u64 0, .int .u64 0, .int .u64 0, .int .u64 0, .int .u64 0, .int .u64 0, .int .u64 0, .int .u64 0, .int .u64 0, .int .u64 0, .int .u64 0, .int .u64 0, .int .u64 0, .int .u64 0, .int .u64 0, .int .u64 0, .int .u64 0, .int .u64 0, .int .u64 0, .int .u64 0, .int .u64 0, .int .u64 0, .int .u64 0, .int .u64 0, .int .u64 0] false, []⟩,
    ⟨none, none, .st 130 (.t 5) (.t 10), []⟩])
  (.seq
   (.ops 2 [⟨some 12, none, .mv (.t 0), []⟩,
     ⟨some 13, none, .mv (.t 1), []⟩,
     ⟨some 14, none, .call 138 [.t 13], []⟩,
     ⟨some 15, none, .mv (.t 1), []⟩,
     ⟨some 16, none, .call 138 [.t 15], []⟩,
     ⟨some 17, none, .bin .add (.t 16) (.c (.int .i64 128)), []⟩,
     ⟨some 18, none, .call 137 [.t 12, .t 14, .t 17], []⟩,
     ⟨some 11, none, .mv (.t 18), []⟩,
     ⟨some 19, none, .ext (.t 11) 0, []⟩,
     ⟨some 20, none, .ext (.t 11) 1, []⟩,
     ⟨some 6, none, .mv (.t 19), []⟩,
     ⟨some 7, none, .mv (.t 20), []⟩])
   (.seq
    (.seq
     (.ops 3 [⟨some 8, none, .mv (.c (.int .i64 8)), []⟩])
     (.block 0
      (.loop [] B89x0)))
    (.seq
     (.ops 7 [⟨some 42, none, .ld 130 true (.t 5), []⟩,
       ⟨none, none, .st 130 (.t 4) (.t 42), []⟩])
     .ret)))))⟩
theorem F89_code : cfgA.code 89 = some F89 := by kernel_rfl

/-- ticketline/version.Even -/
noncomputable def F90 : AFn := ⟨6, [.tmp 2], (.seq
 (.ops 0 [⟨some 2, none, .mv (.c (.bool false)), []⟩])
 (.seq
  (.ops 1 [⟨some 3, none, .mv (.t 0), []⟩,
    ⟨some 4, none, .bin .rem (.t 3) (.c (.int .u64 2)), []⟩,
    ⟨some 5, none, .bin .eql (.t 4) (.c (.int .u64 0)), []⟩,
    ⟨some 2, none, .mv (.t 5), []⟩])
  .ret))⟩
theorem F90_code : cfgA.code 90 = some F90 := by kernel_rfl

/-- (*ticketline/version.Read).Words -/
noncomputable def F91 : AFn := ⟨11, [.tmp 2], (.seq
 (.ops 0 [⟨some 2, none, .mv (.c (.nils)), []⟩])
 (.seq
  (.seq
   (.ops 1 [⟨some 3, none, .mv (.t 0), []⟩,
     ⟨some 4, none, .call 92 [.t 3], []⟩,
     ⟨some 5, none, .bin .eql (.t 4) (.c (.int .u64 0)), []⟩])
   (.cond (.t 5)
    (.seq
     (.ops 2 [⟨some 2, none, .mv (.c (.nils)), []⟩])
     .ret)
    .skip))
  (.seq
   (.ops 3 [⟨some 6, none, .mv (.t 0), []⟩,
     ⟨some 7, none, .nilc (.t 6) (mok Tryz.prog), []⟩,
     ⟨some 8, none, .fld 7 (.t 7), []⟩,
     ⟨some 9, none, .ld 1 false (.t 8), []⟩,
     ⟨some 10, none, .call 139 [.t 9], []⟩,
     ⟨some 2, none, .mv (.t 10), []⟩])
   .ret)))⟩
theorem F91_code : cfgA.code 91 = some F91 := by kernel_rfl

/-- (*ticketline/version.Read).Result -/
noncomputable def F92 : AFn := ⟨9, [.tmp 2], (.seq
 (.ops 0 [⟨some 2, none, .mv (.c (.int .u64 0)), []⟩])
 (.seq
  (.seq
   (.ops 1 [⟨some 3, none, .mv (.t 0), []⟩,
     ⟨some 4, none, .eqn .ptr false (.t 3), []⟩])
   (.cond (.t 4)
    (.seq
     (.ops 2 [⟨some 2, none, .mv (.c (.int .u64 0)), []⟩])
     .ret)
    .skip))
  (.seq
   (.ops 3 [⟨some 5, none, .mv (.t 0), []⟩,
     ⟨some 6, none, .nilc (.t 5) (mok Tryz.prog), []⟩,
     ⟨some 7, none, .fld 8 (.t 6), []⟩,
     ⟨some 8, none, .ld 1 false (.t 7), []⟩,
     ⟨some 2, none, .mv (.t 8), []⟩])
   .ret)))⟩
theorem F92_code : cfgA.code 92 = some F92 := by kernel_rfl

/-- (*ticketline/descend.Find).visit -/
noncomputable def F94 : AFn := ⟨37, [], (.seq
 (.ops 0 [⟨some 5, none, .mv (.t 0), []⟩,
   ⟨some 6, none, .nilc (.t 5) (mok Tryz.prog), []⟩,
   ⟨some 7, none, .fld 5 (.t 6), []⟩,
   ⟨some 8, none, .ld 1 false (.t 7), []⟩,
   ⟨some 9, none, .bin .add (.t 8) (.c (.int .i64 1)), []⟩,
   ⟨some 10, none, .nilc (.t 5) (mok Tryz.prog), []⟩,
   ⟨some 11, none, .fld 5 (.t 10), []⟩,
   ⟨none, none, .st 1 (.t 11) (.t 9), []⟩])
 (.seq
  (.ops 1 [⟨some 12, none, .mv (.t 0), []⟩,
    ⟨some 13, none, .nilc (.t 12) (mok Tryz.prog), []⟩,
    ⟨some 14, none, .fld 0 (.t 13), []⟩,
    ⟨some 15, none, .ld 2 true (.t 14), []⟩,
    ⟨some 16, none, .mv (.t 1), []⟩,
    ⟨some 17, none, .call 107 [.t 15, .t 16], []⟩,
    ⟨some 4, none, .mv (.t 17), []⟩])
  (.seq
   (.seq
    (.ops 2 [⟨some 18, none, .mv (.t 4), []⟩,
      ⟨some 19, none, .eqn .ptr false (.t 18), []⟩,
      ⟨some 20, none, .mv (.t 19), []⟩,
      ⟨some 21, some (20, false), .mv (.t 0), []⟩,
      ⟨some 22, some (20, false), .nilc (.t 21) (mok Tryz.prog), []⟩,
      ⟨some 23, some (20, false), .fld 5 (.t 22), []⟩,
      ⟨some 24, some (20, false), .ld 1 false (.t 23), []⟩,
      ⟨some 25, some (20, false), .bin .gtr (.t 24) (.c (.int .i64 40)), []⟩,
      ⟨some 26, none, .pick (.t 20) (.c (.bool true)) (.t 25), []⟩])
    (.cond (.t 26)
     (.seq
      (.ops 3 [⟨some 27, none, .mv (.t 0), []⟩,
        ⟨some 28, none, .call 93 [.t 27], []⟩])
      .ret)
     .skip))
   (.ops 4 [⟨some 29, none, .mv (.t 0), []⟩,
     ⟨some 30, none, .mv (.t 0), []⟩,
     ⟨some 31, none, .mv (.t 1), []⟩,
     ⟨some 32, none, .mv (.t 4), []⟩,
     ⟨some 33, none, .nilc (.t 29) (mok Tryz.prog), []⟩,
     ⟨some 34, none, .fld 6 (.t 33), []⟩,
     ⟨none, none, .st 1 (.t 34) (.t 31), []⟩,
     ⟨some 35, none, .nilc (.t 30) (mok Tryz.prog), []⟩,
     ⟨some 36, none, .fld 7 (.t 35), []⟩,
     ⟨none, none, .st 1 (.t 36) (.t 32), []⟩]))))⟩
theorem F94_code : cfgA.code 94 = some F94 := by kernel_rfl

/-- ticketline/descend.image -/
noncomputable def F95 : AFn := ⟨8, [.cell 2 128 true], (.seq
 (.ops 0 [⟨some 2, none, .alloc (List.replicate 128 (.int .u64 0)) false, []⟩])
 (.seq
  (.ops 1 [⟨some 3, none, .alloc (List.replicate 128 (.int .u64 0)) false, []⟩])
  (.seq
   (.ops 2 [⟨some 4, none, .slc (some 128) 1 (.t 3) (some (.c (.int .i64 8))) none, []⟩,
     ⟨some 5, none, .mv (.t 0), []⟩,
     ⟨some 6, none, .cpy 1 (.t 4) (.t 5), []⟩])
   (.seq
    (.ops 3 [⟨some 7, none, .ld 128 true (.t 3), []⟩,
      ⟨none, none, .st 128 (.t 2) (.t 7), []⟩])
    .ret))))⟩
theorem F95_code : cfgA.code 95 = some F95 := by kernel_rfl

/-- ticketline/fence.Where -/
noncomputable def F96 : AFn := ⟨22, [.tmp 4, .tmp 5], (.seq
 (.ops 0 [⟨some 2, none, .box 128 (.t 0) false, []⟩,
   ⟨some 4, none, .mv (.c (.int .i64 0)), []⟩,
   ⟨some 5, none, .mv (.c (.int .i64 0)), []⟩])
 (.seq
  (.ops 1 [⟨some 10, none, .ld 128 true (.t 2), []⟩,
    ⟨some 11, none, .call 104 [.t 10], []⟩,
    ⟨some 9, none, .mv (.t 11), []⟩,
    ⟨some 12, none, .ext (.t 9) 0, []⟩,
    ⟨some 13, none, .ext (.t 9) 1, []⟩,
    ⟨some 14, none, .ext (.t 9) 2, []⟩,
    ⟨some 6, none, .mv (.t 12), []⟩,
    ⟨some 7, none, .mv (.t 13), []⟩,
    ⟨some 8, none, .mv (.t 14), []⟩])
  (.seq
   (.seq
    (.ops 2 [⟨some 15, none, .mv (.t 8), []⟩,
      ⟨some 16, none, .bin .neq (.t 15) (.c (.int .i64 0)), []⟩])
    (.cond (.t 16)
     (.seq
      (.ops 3 [⟨some 17, none, .mv (.t 8), []⟩,
        ⟨some 4, none, .mv (.c (.int .i64 0)), []⟩,
        ⟨some 5, none, .mv (.t 17), []⟩])
      .ret)
     .skip))
   (.seq
    (.ops 4 [⟨some 18, none, .mv (.t 6), []⟩,
      ⟨some 19, none, .mv (.t 7), []⟩,
      ⟨some 20, none, .mv (.t 1), []⟩,
      ⟨some 21, none, .call 140 [.t 18, .t 19, .t 20], []⟩,
      ⟨some 4, none, .mv (.t 21), []⟩,
      ⟨some 5, none, .mv (.c (.int .i64 0)), []⟩])
    .ret))))⟩
theorem F96_code : cfgA.code 96 = some F96 := by kernel_rfl

/-- ticketline/slot.Next -/
noncomputable def F97 : AFn := ⟨9, [.tmp 2], (.seq
 (.ops 0 [⟨some 1, none, .box 128 (.t 0) false, []⟩,
   ⟨some 2, none, .mv (.c (.int .i64 0)), []⟩])
 (.seq
  (.seq
   (.ops 1 [⟨some 3, none, .ld 128 true (.t 1), []⟩,
     ⟨some 4, none, .call 141 [.t 3], []⟩,
     ⟨some 5, none, .un .not (.t 4), []⟩])
   (.cond (.t 5)
    (.seq
     (.ops 2 [⟨some 2, none, .mv (.c (.int .i64 0)), []⟩])
     .ret)
    .skip))
  (.seq
   (.ops 3 [⟨some 6, none, .ixa (some 128) 1 (.t 1) (.c (.int .i64 10)), []⟩,
     ⟨some 7, none, .ld 1 false (.t 6), []⟩,
     ⟨some 8, none, .cvi .i64 (.t 7), []⟩,
     ⟨some 2, none, .mv (.t 8), []⟩])
   .ret)))⟩
theorem F97_code : cfgA.code 97 = some F97 := by kernel_rfl

/-- ticketline/slot.Level -/
noncomputable def F98 : AFn := ⟨10, [.tmp 2], (.seq
 (.ops 0 [⟨some 1, none, .box 128 (.t 0) false, []⟩,
   ⟨some 2, none, .mv (.c (.int .i64 0)), []⟩])
 (.seq
  (.seq
   (.ops 1 [⟨some 3, none, .ld 128 true (.t 1), []⟩,
     ⟨some 4, none, .call 141 [.t 3], []⟩,
     ⟨some 5, none, .un .not (.t 4), []⟩])
   (.cond (.t 5)
    (.seq
     (.ops 2 [⟨some 2, none, .mv (.c (.int .i64 (-1))), []⟩])
     .ret)
    .skip))
  (.seq
   (.ops 3 [⟨some 6, none, .ixa (some 128) 1 (.t 1) (.c (.int .i64 8)), []⟩,
     ⟨some 7, none, .ld 1 false (.t 6), []⟩,
     ⟨some 8, none, .cvi .i64 (.t 7), []⟩,
     ⟨some 9, none, .bin .sub (.t 8) (.c (.int .i64 1)), []⟩,
     ⟨some 2, none, .mv (.t 9), []⟩])
   .ret)))⟩
theorem F98_code : cfgA.code 98 = some F98 := by kernel_rfl

/-- (*ticketline/version.Read).Version -/
noncomputable def F99 : AFn := ⟨10, [.tmp 2], (.seq
 (.ops 0 [⟨some 2, none, .mv (.c (.int .u64 0)), []⟩])
 (.seq
  (.seq
   (.ops 1 [⟨some 3, none, .mv (.t 0), []⟩,
     ⟨some 4, none, .call 92 [.t 3], []⟩,
     ⟨some 5, none, .bin .eql (.t 4) (.c (.int .u64 0)), []⟩])
   (.cond (.t 5)
    (.seq
     (.ops 2 [⟨some 2, none, .mv (.c (.int .u64 0)), []⟩])
     .ret)
    .skip))
  (.seq
   (.ops 3 [⟨some 6, none, .mv (.t 0), []⟩,
     ⟨some 7, none, .nilc (.t 6) (mok Tryz.prog), []⟩,
     ⟨some 8, none, .fld 6 (.t 7), []⟩,
     ⟨some 9, none, .ld 1 false (.t 8), []⟩,
     ⟨some 2, none, .mv (.t 9), []⟩])
   .ret)))⟩
theorem F99_code : cfgA.code 99 = some F99 := by kernel_rfl

/-- ticketline/descend.Of -/
noncomputable def F101 : AFn := ⟨19, [.tmp 4, .tmp 5], (.seq
 (.ops 0 [⟨some 2, none, .box 2 (.t 0) false, []⟩,
   ⟨some 4, none, .mv (.c (.int .i64 0)), []⟩,
   ⟨some 5, none, .mv (.c (.int .i64 0)), []⟩])
 (.seq
  (.ops 1 [⟨some 9, none, .ld 2 true (.t 2), []⟩,
    ⟨some 10, none, .mv (.t 1), []⟩,
    ⟨some 11, none, .call 111 [.t 9, .t 10], []⟩,
    ⟨some 8, none, .mv (.t 11), []⟩,
    ⟨some 12, none, .ext (.t 8) 0, []⟩,
    ⟨some 13, none, .ext (.t 8) 1, []⟩,
    ⟨some 6, none, .mv (.t 12), []⟩,
    ⟨some 7, none, .mv (.t 13), []⟩])
  (.seq
   (.seq
    (.ops 2 [⟨some 14, none, .mv (.t 7), []⟩,
      ⟨some 15, none, .bin .neq (.t 14) (.c (.int .i64 0)), []⟩])
    (.cond (.t 15)
     (.seq
      (.ops 3 [⟨some 16, none, .mv (.t 7), []⟩,
        ⟨some 4, none, .mv (.c (.int .i64 0)), []⟩,
        ⟨some 5, none, .mv (.t 16), []⟩])
      .ret)
     .skip))
   (.seq
    (.ops 4 [⟨some 17, none, .mv (.t 6), []⟩,
      ⟨some 18, none, .bin .add (.t 17) (.c (.int .i64 3)), []⟩,
      ⟨some 4, none, .mv (.t 18), []⟩,
      ⟨some 5, none, .mv (.c (.int .i64 0)), []⟩])
    .ret))))⟩
theorem F101_code : cfgA.code 101 = some F101 := by kernel_rfl

/-- (*ticketline/descend.Scan).begin -/
noncomputable def F102 : AFn := ⟨33, [], (.seq
 (.ops 0 [⟨some 3, none, .mv (.t 0), []⟩,
   ⟨some 4, none, .nilc (.t 3) (mok Tryz.prog), []⟩,
   ⟨some 5, none, .fld 2 (.t 4), []⟩,
   ⟨some 6, none, .ld 1 false (.t 5), []⟩,
   ⟨some 2, none, .mv (.t 6), []⟩])
 (.seq
  (.seq
   (.ops 1 [⟨some 7, none, .mv (.t 2), []⟩,
     ⟨some 8, none, .bin .eql (.t 7) (.c (.str [])), []⟩])
   (.cond (.t 8)
    (.ops 2 [⟨some 2, none, .mv (.c (.str [0])), []⟩])
    .skip))
  (.seq
   (.ops 3 [⟨some 10, none, .mv (.t 0), []⟩,
     ⟨some 11, none, .mv (.t 0), []⟩,
     ⟨some 12, none, .nilc (.t 11) (mok Tryz.prog), []⟩,
     ⟨some 13, none, .fld 0 (.t 12), []⟩,
     ⟨some 14, none, .ld 2 true (.t 13), []⟩,
     ⟨some 15, none, .mv (.t 2), []⟩,
     ⟨some 16, none, .call 18 [.t 14, .t 15, .c (.int .i64 0)], []⟩,
     ⟨some 9, none, .mv (.t 16), []⟩,
     ⟨some 17, none, .ext (.t 9) 0, []⟩,
     ⟨some 18, none, .ext (.t 9) 1, []⟩,
     ⟨some 19, none, .nilc (.t 10) (mok Tryz.prog), []⟩,
     ⟨some 20, none, .fld 7 (.t 19), []⟩,
     ⟨none, none, .st 1 (.t 20) (.t 17), []⟩])
   (.ops 4 [⟨some 21, none, .mv (.t 0), []⟩,
     ⟨some 22, none, .mv (.t 0), []⟩,
     ⟨some 23, none, .mv (.t 0), []⟩,
     ⟨some 24, none, .mv (.t 0), []⟩,
     ⟨some 25, none, .nilc (.t 21) (mok Tryz.prog), []⟩,
     ⟨some 26, none, .fld 11 (.t 25), []⟩,
     ⟨none, none, .st 1 (.t 26) (.c (.nils)), []⟩,
     ⟨some 27, none, .nilc (.t 22) (mok Tryz.prog), []⟩,
     ⟨some 28, none, .fld 13 (.t 27), []⟩,
     ⟨none, none, .st 1 (.t 28) (.c (.nils)), []⟩,
     ⟨some 29, none, .nilc (.t 23) (mok Tryz.prog), []⟩,
     ⟨some 30, none, .fld 12 (.t 29), []⟩,
     ⟨none, none, .st 1 (.t 30) (.c (.int .i64 0)), []⟩,
     ⟨some 31, none, .nilc (.t 24) (mok Tryz.prog), []⟩,
     ⟨some 32, none, .fld 14 (.t 31), []⟩,
     ⟨none, none, .st 1 (.t 32) (.c (.int .i64 1)), []⟩]))))⟩
theorem F102_code : cfgA.code 102 = some F102 := by kernel_rfl

/-- ticketline/slot.Pairs -/
noncomputable def F103 : AFn := ⟨13, [.tmp 2, .tmp 3], (.seq
 (.ops 0 [⟨some 1, none, .box 128 (.t 0) false, []⟩,
   ⟨some 2, none, .mv (.c (.nils)), []⟩,
   ⟨some 3, none, .mv (.c (.int .i64 0)), []⟩])
 (.seq
  (.ops 1 [⟨some 7, none, .call 119 [.t 1], []⟩,
    ⟨some 6, none, .mv (.t 7), []⟩,
    ⟨some 8, none, .ext (.t 6) 0, []⟩,
    ⟨some 9, none, .ext (.t 6) 1, []⟩,
    ⟨some 4, none, .mv (.t 8), []⟩,
    ⟨some 5, none, .mv (.t 9), []⟩])
  (.seq
   (.seq
    (.ops 2 [⟨some 10, none, .mv (.t 5), []⟩,
      ⟨some 11, none, .un .not (.t 10), []⟩])
    (.cond (.t 11)
     (.seq
      (.ops 3 [⟨some 2, none, .mv (.c (.nils)), []⟩,
        ⟨some 3, none, .mv (.c (.int .i64 12)), []⟩])
      .ret)
     .skip))
   (.seq
    (.ops 4 [⟨some 12, none, .mv (.t 4), []⟩,
      ⟨some 2, none, .mv (.t 12), []⟩,
      ⟨some 3, none, .mv (.c (.int .i64 0)), []⟩])
    .ret))))⟩
theorem F103_code : cfgA.code 103 = some F103 := by kernel_rfl

/-- ticketline/slot.Fences -/
noncomputable def F104 : AFn := ⟨18, [.tmp 2, .tmp 3, .tmp 4], (.seq
 (.ops 0 [⟨some 1, none, .box 128 (.t 0) false, []⟩,
   ⟨some 2, none, .mv (.c (.str [])), []⟩,
   ⟨some 3, none, .mv (.c (.str [])), []⟩,
   ⟨some 4, none, .mv (.c (.int .i64 0)), []⟩])
 (.seq
  (.seq
   (.ops 1 [⟨some 5, none, .ld 128 true (.t 1), []⟩,
     ⟨some 6, none, .call 141 [.t 5], []⟩,
     ⟨some 7, none, .un .not (.t 6), []⟩])
   (.cond (.t 7)
    (.seq
     (.ops 2 [⟨some 2, none, .mv (.c (.str [])), []⟩,
       ⟨some 3, none, .mv (.c (.str [])), []⟩,
       ⟨some 4, none, .mv (.c (.int .i64 12)), []⟩])
     .ret)
    .skip))
  (.seq
   (.ops 3 [⟨some 9, none, .call 143 [.t 1, .c (.int .i64 12)], []⟩,
     ⟨some 8, none, .mv (.t 9), []⟩,
     ⟨some 10, none, .ext (.t 8) 0, []⟩,
     ⟨some 11, none, .ext (.t 8) 1, []⟩,
     ⟨some 2, none, .mv (.t 10), []⟩])
   (.seq
    (.ops 4 [⟨some 13, none, .call 143 [.t 1, .c (.int .i64 16)], []⟩,
      ⟨some 12, none, .mv (.t 13), []⟩,
      ⟨some 14, none, .ext (.t 12) 0, []⟩,
      ⟨some 15, none, .ext (.t 12) 1, []⟩,
      ⟨some 3, none, .mv (.t 14), []⟩])
    (.seq
     (.ops 5 [⟨some 16, none, .mv (.t 2), []⟩,
       ⟨some 17, none, .mv (.t 3), []⟩,
       ⟨some 2, none, .mv (.t 16), []⟩,
       ⟨some 3, none, .mv (.t 17), []⟩,
       ⟨some 4, none, .mv (.c (.int .i64 0)), []⟩])
     .ret)))))⟩
theorem F104_code : cfgA.code 104 = some F104 := by kernel_rfl

/-- slices.Clone[[]ticketline/descend.seen,ticketline/descend.seen] -/
noncomputable def F105 : AFn := ⟨8, [.tmp 2], (.seq
 (.ops 0 [⟨some 2, none, .mv (.c (.nils)), []⟩])
 (.seq
  (.seq
   (.ops 1 [⟨some 3, none, .mv (.t 0), []⟩,
     ⟨some 4, none, .eqn .slice false (.t 3), []⟩])
   (.cond (.t 4)
    (.seq
     (.ops 2 [⟨some 2, none, .mv (.c (.nils)), []⟩])
     .ret)
    .skip))
  (.seq
   (.ops 3 [⟨some 5, none, .bslice [.int .i64 0, .int .u64 0] 2 0 [] false false, []⟩,
     ⟨some 6, none, .mv (.t 0), []⟩,
     ⟨some 7, none, .app 2 16 (.t 5) (.t 6) true, []⟩,
     ⟨some 2, none, .mv (.t 7), []⟩])
   .ret)))⟩
theorem F105_code : cfgA.code 105 = some F105 := by kernel_rfl

/-- (*ticketline/descend.Scan).settle -/
noncomputable def F106 : AFn := ⟨17, [], (.seq
 (.seq
  (.ops 0 [⟨some 2, none, .mv (.t 0), []⟩,
    ⟨some 3, none, .nilc (.t 2) (mok Tryz.prog), []⟩,
    ⟨some 4, none, .fld 11 (.t 3), []⟩,
    ⟨some 5, none, .ld 1 false (.t 4), []⟩,
    ⟨some 6, none, .len .slice (.t 5), []⟩,
    ⟨some 7, none, .bin .eql (.t 6) (.c (.int .i64 1)), []⟩])
  (.cond (.t 7)
   (.seq
    (.ops 1 [⟨some 8, none, .mv (.t 0), []⟩,
      ⟨some 9, none, .mv (.t 0), []⟩,
      ⟨some 10, none, .nilc (.t 8) (mok Tryz.prog), []⟩,
      ⟨some 11, none, .fld 15 (.t 10), []⟩,
      ⟨none, none, .st 1 (.t 11) (.c (.bool true)), []⟩,
      ⟨some 12, none, .nilc (.t 9) (mok Tryz.prog), []⟩,
      ⟨some 13, none, .fld 14 (.t 12), []⟩,
      ⟨none, none, .st 1 (.t 13) (.c (.int .i64 4)), []⟩])
    .ret)
   .skip))
 (.ops 2 [⟨some 14, none, .mv (.t 0), []⟩,
   ⟨some 15, none, .nilc (.t 14) (mok Tryz.prog), []⟩,
   ⟨some 16, none, .fld 14 (.t 15), []⟩,
   ⟨none, none, .st 1 (.t 16) (.c (.int .i64 3)), []⟩]))⟩
theorem F106_code : cfgA.code 106 = some F106 := by kernel_rfl

/-- ticketline/descend.readPage -/
noncomputable def F107 : AFn := ⟨28, [.tmp 4], (.seq
 (.ops 0 [⟨some 2, none, .box 2 (.t 0) false, []⟩,
   ⟨some 4, none, .mv (.c (.nilp)), []⟩])
 (.seq
  (.seq
   (.ops 1 [⟨some 9, none, .mv (.t 1), []⟩,
     ⟨some 10, none, .bin .lss (.t 9) (.c (.int .i64 1)), []⟩])
   (.cond (.t 10)
    (.seq
     (.ops 2 [⟨some 4, none, .mv (.c (.nilp)), []⟩])
     .ret)
    .skip))
  (.seq
   (.ops 3 [⟨some 12, none, .ld 2 true (.t 2), []⟩,
     ⟨some 13, none, .mv (.t 1), []⟩,
     ⟨some 14, none, .call 101 [.t 12, .t 13], []⟩,
     ⟨some 11, none, .mv (.t 14), []⟩,
     ⟨some 15, none, .ext (.t 11) 0, []⟩,
     ⟨some 16, none, .ext (.t 11) 1, []⟩,
     ⟨some 5, none, .mv (.t 15), []⟩,
     ⟨some 6, none, .mv (.t 16), []⟩])
   (.seq
    (.seq
     (.ops 4 [⟨some 17, none, .mv (.t 6), []⟩,
       ⟨some 18, none, .bin .neq (.t 17) (.c (.int .i64 0)), []⟩])
     (.cond (.t 18)
      (.seq
       (.ops 5 [⟨some 4, none, .mv (.c (.nilp)), []⟩])
       .ret)
      .skip))
    (.seq
     (.ops 6 [⟨some 20, none, .mv (.t 5), []⟩,
       ⟨some 21, none, .mv (.t 5), []⟩,
       ⟨some 22, none, .bin .sub (.t 21) (.c (.int .i64 3)), []⟩,
       ⟨some 23, none, .bin .add (.t 22) (.c (.int .i64 8)), []⟩,
       ⟨some 24, none, .call 109 [.t 20, .t 23, .c (.int .i64 120), .c (.int .i64 2)], []⟩,
       ⟨some 19, none, .mv (.t 24), []⟩,
       ⟨some 25, none, .ext (.t 19) 0, []⟩,
       ⟨some 26, none, .ext (.t 19) 1, []⟩,
       ⟨some 7, none, .mv (.t 25), []⟩,
       ⟨some 8, none, .mv (.t 26), []⟩])
     (.seq
      (.ops 7 [⟨some 27, none, .mv (.t 7), []⟩,
        ⟨some 4, none, .mv (.t 27), []⟩])
      .ret))))))⟩
theorem F107_code : cfgA.code 107 = some F107 := by kernel_rfl

/-- ticketline/version.NewRead -/
noncomputable def F109 : AFn := ⟨24, [.tmp 8, .tmp 9], (.seq
 (.ops 0 [⟨some 8, none, .mv (.c (.nilp)), []⟩,
   ⟨some 9, none, .mv (.c (.int .i64 0)), []⟩])
 (.seq
  (.seq
   (.ops 1 [⟨some 10, none, .mv (.t 0), []⟩,
     ⟨some 11, none, .mv (.t 1), []⟩,
     ⟨some 12, none, .mv (.t 2), []⟩,
     ⟨some 13, none, .call 144 [.t 10, .t 11, .t 12], []⟩,
     ⟨some 14, none, .mv (.t 13), []⟩,
     ⟨some 15, some (14, false), .mv (.t 3), []⟩,
     ⟨some 16, some (14, false), .bin .lss (.t 15) (.c (.int .i64 1)), []⟩,
     ⟨some 17, none, .pick (.t 14) (.c (.bool true)) (.t 16), []⟩])
   (.cond (.t 17)
    (.seq
     (.ops 2 [⟨some 8, none, .mv (.c (.nilp)), []⟩,
       ⟨some 9, none, .mv (.c (.int .i64 2)), []⟩])
     .ret)
    .skip))
  (.seq
   (.ops 3 [⟨some 18, none, .mv (.t 0), []⟩,
     ⟨some 19, none, .mv (.t 1), []⟩,
     ⟨some 20, none, .mv (.t 2), []⟩,
     ⟨some 21, none, .mv (.t 3), []⟩,
     ⟨some 22, none, .build [.bool false, .int .i64 0, .int .i64 0, .int .i64 0, .int .i64 0, .bool false, .int .u64 0, .nils, .int .u64 0, .bool false] [(0, 1, (.c (.bool true))), (1, 1, (.t 18)), (2, 1, (.t 19)), (3, 1, (.t 20)), (4, 1, (.t 21))], []⟩,
     ⟨some 23, none, .box 10 (.t 22) true, []⟩,
     ⟨some 8, none, .mv (.t 23), []⟩,
     ⟨some 9, none, .mv (.c (.int .i64 0)), []⟩])
   .ret)))⟩
theorem F109_code : cfgA.code 109 = some F109 := by kernel_rfl

/-- ticketline/descend.Words -/
noncomputable def F110 : AFn := ⟨14, [.tmp 2, .tmp 3], (.seq
 (.ops 0 [⟨some 1, none, .box 2 (.t 0) false, []⟩,
   ⟨some 2, none, .mv (.c (.int .i64 0)), []⟩,
   ⟨some 3, none, .mv (.c (.int .i64 0)), []⟩])
 (.seq
  (.seq
   (.ops 1 [⟨some 4, none, .ld 2 true (.t 1), []⟩,
     ⟨some 5, none, .call 53 [.t 4], []⟩,
     ⟨some 6, none, .un .not (.t 5), []⟩])
   (.cond (.t 6)
    (.seq
     (.ops 2 [⟨some 2, none, .mv (.c (.int .i64 0)), []⟩,
       ⟨some 3, none, .mv (.c (.int .i64 2)), []⟩])
     .ret)
    .skip))
  (.seq
   (.ops 3 [⟨some 7, none, .ld 2 true (.t 1), []⟩,
     ⟨some 9, none, .fld 1 (.t 1), []⟩,
     ⟨some 10, none, .ld 1 false (.t 9), []⟩,
     ⟨some 11, none, .bin .mul (.t 10) (.c (.int .i64 2)), []⟩,
     ⟨some 12, none, .bin .mul (.t 11) (.c (.int .i64 3)), []⟩,
     ⟨some 8, none, .call 145 [.t 7], [(10, .ld 1 false (.t 9))]⟩,
     ⟨some 13, none, .bin .add (.t 8) (.t 12), []⟩,
     ⟨some 2, none, .mv (.t 13), []⟩,
     ⟨some 3, none, .mv (.c (.int .i64 0)), []⟩])
   .ret)))⟩
theorem F110_code : cfgA.code 110 = some F110 := by kernel_rfl

/-- ticketline/descend.At -/
noncomputable def F111 : AFn := ⟨26, [.tmp 4, .tmp 5], (.seq
 (.ops 0 [⟨some 2, none, .box 2 (.t 0) false, []⟩,
   ⟨some 4, none, .mv (.c (.int .i64 0)), []⟩,
   ⟨some 5, none, .mv (.c (.int .i64 0)), []⟩])
 (.seq
  (.block 0
   (.seq
    (.ops 1 [⟨some 7, none, .ld 2 true (.t 2), []⟩,
      ⟨some 8, none, .call 53 [.t 7], []⟩,
      ⟨some 9, none, .un .not (.t 8), []⟩,
      ⟨some 6, none, .mv (.t 9), []⟩])
    (.cond (.t 6)
     (.seq
      (.ops 2 [⟨some 4, none, .mv (.c (.int .i64 0)), []⟩,
        ⟨some 5, none, .mv (.c (.int .i64 2)), []⟩])
      .ret)
     (.seq
      (.ops 3 [⟨some 11, none, .mv (.t 1), []⟩,
        ⟨some 12, none, .bin .lss (.t 11) (.c (.int .i64 0)), []⟩,
        ⟨some 13, none, .mv (.t 12), []⟩,
        ⟨some 14, some (13, false), .mv (.t 1), []⟩,
        ⟨some 15, some (13, false), .fld 0 (.t 2), []⟩,
        ⟨some 16, some (13, false), .ld 1 false (.t 15), []⟩,
        ⟨some 17, some (13, false), .bin .gtr (.t 14) (.t 16), []⟩,
        ⟨some 18, none, .pick (.t 13) (.c (.bool true)) (.t 17), []⟩,
        ⟨some 10, none, .mv (.t 18), []⟩])
      (.cond (.t 10)
       (.seq
        (.ops 4 [⟨some 4, none, .mv (.c (.int .i64 0)), []⟩,
          ⟨some 5, none, .mv (.c (.int .i64 3)), []⟩])
        .ret)
       (.seq
        (.ops 5 [⟨some 20, none, .mv (.t 1), []⟩,
          ⟨some 21, none, .bin .eql (.t 20) (.c (.int .i64 0)), []⟩,
          ⟨some 19, none, .mv (.t 21), []⟩])
        (.cond (.t 19)
         (.seq
          (.ops 6 [⟨some 4, none, .mv (.c (.int .i64 8)), []⟩,
            ⟨some 5, none, .mv (.c (.int .i64 0)), []⟩])
          .ret)
         .skip)))))))
  (.seq
   (.ops 7 [⟨some 22, none, .mv (.t 1), []⟩,
     ⟨some 23, none, .call 128 [.t 22, .c (.int .i64 0)], []⟩,
     ⟨some 24, none, .ext (.t 23) 0, []⟩,
     ⟨some 25, none, .ext (.t 23) 1, []⟩,
     ⟨some 4, none, .mv (.t 24), []⟩,
     ⟨some 5, none, .mv (.t 25), []⟩])
   .ret)))⟩
theorem F111_code : cfgA.code 111 = some F111 := by kernel_rfl

/-- ticketline/arena.Format: the round 0 -/
noncomputable def B112x0 : AC := (.seq
 (.ops 7 [⟨some 35, none, .bin .lss (.t 34) (.t 33), []⟩])
 (.seq
  (.cond (.t 35)
   .skip
   (.exit 1))
  (.seq
   (.block 2
    (.seq
     (.ops 8 [⟨some 36, none, .mv (.t 34), []⟩,
       ⟨some 7, none, .mv (.t 36), []⟩])
     (.ops 9 [⟨some 37, none, .ld 1 true (.t 6), []⟩,
       ⟨some 38, none, .mv (.t 7), []⟩,
       ⟨some 39, none, .call 148 [.t 37, .t 38, .c (.int .u64 0)], []⟩])))
   (.ops 10 [⟨some 40, none, .bin .add (.t 34) (.c (.int .i64 1)), []⟩,
     ⟨some 34, none, .mv (.t 40), []⟩]))))
/-- ticketline/arena.Format: the round 1 -/
noncomputable def B112x1 : AC := (.seq
 (.seq
  (.ops 15 [⟨some 49, none, .mv (.t 8), []⟩,
    ⟨some 50, none, .mv (.t 1), []⟩,
    ⟨some 51, none, .bin .lss (.t 49) (.t 50), []⟩])
  (.cond (.t 51)
   .skip
   (.exit 3)))
 (.seq
  (.block 4
   (.ops 17 [⟨some 54, none, .ld 1 true (.t 6), []⟩,
     ⟨some 55, none, .mv (.t 8), []⟩,
     ⟨some 57, none, .mv (.t 8), []⟩,
     ⟨some 58, none, .bin .add (.t 57) (.c (.int .i64 1)), []⟩,
     ⟨some 59, none, .cvi .u64 (.t 58), []⟩,
     ⟨some 56, none, .call 146 [.t 55, .c (.int .i64 10)], [(54, .ld 1 true (.t 6))]⟩,
     ⟨some 60, none, .call 148 [.t 54, .t 56, .t 59], []⟩]))
  (.ops 16 [⟨some 52, none, .mv (.t 8), []⟩,
    ⟨some 53, none, .bin .add (.t 52) (.c (.int .i64 1)), []⟩,
    ⟨some 8, none, .mv (.t 53), []⟩])))
/-- ticketline/arena.Format -/
noncomputable def F112 : AFn := ⟨64, [.tmp 4, .tmp 5], (.seq
 (.ops 0 [⟨some 4, none, .mv (.c (.nilp)), []⟩,
   ⟨some 5, none, .mv (.c (.int .i64 0)), []⟩])
 (.seq
  (.block 0
   (.seq
    (.ops 1 [⟨some 10, none, .mv (.t 0), []⟩,
      ⟨some 11, none, .call 63 [.t 10], []⟩,
      ⟨some 12, none, .bin .eql (.t 11) (.c (.int .i64 0)), []⟩,
      ⟨some 9, none, .mv (.t 12), []⟩])
    (.cond (.t 9)
     (.seq
      (.ops 2 [⟨some 4, none, .mv (.c (.nilp)), []⟩,
        ⟨some 5, none, .mv (.c (.int .i64 1)), []⟩])
      .ret)
     (.seq
      (.ops 3 [⟨some 14, none, .mv (.t 1), []⟩,
        ⟨some 15, none, .bin .lss (.t 14) (.c (.int .i64 1)), []⟩,
        ⟨some 16, none, .mv (.t 15), []⟩,
        ⟨some 17, some (16, false), .mv (.t 1), []⟩,
        ⟨some 18, some (16, false), .bin .gtr (.t 17) (.c (.int .i64 511)), []⟩,
        ⟨some 19, none, .pick (.t 16) (.c (.bool true)) (.t 18), []⟩,
        ⟨some 20, none, .mv (.t 19), []⟩,
        ⟨some 21, some (20, false), .mv (.t 1), []⟩,
        ⟨some 22, some (20, false), .bin .add (.t 21) (.c (.int .i64 1)), []⟩,
        ⟨some 23, some (20, false), .call 146 [.t 22, .c (.int .i64 0)], []⟩,
        ⟨some 24, some (20, false), .mv (.t 0), []⟩,
        ⟨some 25, some (20, false), .call 63 [.t 24], []⟩,
        ⟨some 26, some (20, false), .bin .gtr (.t 23) (.t 25), []⟩,
        ⟨some 27, none, .pick (.t 20) (.c (.bool true)) (.t 26), []⟩,
        ⟨some 13, none, .mv (.t 27), []⟩])
      (.cond (.t 13)
       (.seq
        (.ops 4 [⟨some 4, none, .mv (.c (.nilp)), []⟩,
          ⟨some 5, none, .mv (.c (.int .i64 2)), []⟩])
        .ret)
       .skip)))))
  (.seq
   (.ops 5 [⟨some 28, none, .mv (.t 0), []⟩,
     ⟨some 29, none, .call 147 [.t 28], []⟩,
     ⟨some 30, none, .build [.nilp] [(0, 1, (.t 29))], []⟩,
     ⟨some 6, none, .alloc [.nilp] false, []⟩,
     ⟨none, none, .st 1 (.t 6) (.t 30), []⟩])
   (.seq
    (.seq
     (.ops 6 [⟨some 31, none, .mv (.t 1), []⟩,
       ⟨some 32, none, .bin .add (.t 31) (.c (.int .i64 1)), []⟩,
       ⟨some 33, none, .call 146 [.t 32, .c (.int .i64 0)], []⟩,
       ⟨some 34, none, .mv (.c (.int .i64 0)), []⟩])
     (.block 1
      (.loop [] B112x0)))
    (.seq
     (.ops 11 [⟨some 41, none, .ld 1 true (.t 6), []⟩,
       ⟨some 42, none, .mv (.t 1), []⟩,
       ⟨some 43, none, .cvi .u64 (.t 42), []⟩,
       ⟨some 44, none, .call 148 [.t 41, .c (.int .i64 0), .t 43], []⟩])
     (.seq
      (.ops 12 [⟨some 45, none, .ld 1 true (.t 6), []⟩,
        ⟨some 46, none, .call 148 [.t 45, .c (.int .i64 1), .c (.int .u64 1)], []⟩])
      (.seq
       (.ops 13 [⟨some 47, none, .ld 1 true (.t 6), []⟩,
         ⟨some 48, none, .call 148 [.t 47, .c (.int .i64 4), .c (.int .u64 1)], []⟩])
       (.seq
        (.seq
         (.ops 14 [⟨some 8, none, .mv (.c (.int .i64 1)), []⟩])
         (.block 3
          (.loop [] B112x1)))
        (.seq
         (.ops 18 [⟨some 61, none, .ld 1 true (.t 6), []⟩,
           ⟨some 62, none, .build [.nilp] [(0, 1, (.t 61))], []⟩,
           ⟨some 63, none, .box 1 (.t 62) true, []⟩,
           ⟨some 4, none, .mv (.t 63), []⟩,
           ⟨some 5, none, .mv (.c (.int .i64 0)), []⟩])
         .ret)))))))))⟩
theorem F112_code : cfgA.code 112 = some F112 := by kernel_rfl

/-- ticketline/slot.Make -/
noncomputable def F113 : AFn := ⟨57, [.cell 6 128 true, .tmp 7], (.seq
 (.ops 0 [⟨some 6, none, .alloc (List.replicate 128 (.int .u64 0)) false, []⟩,
   ⟨some 7, none, .mv (.c (.int .i64 0)), []⟩])
 (.seq
  (.block 0
   (.seq
    (.ops 1 [⟨some 12, none, .mv (.t 0), []⟩,
      ⟨some 13, none, .bin .lss (.t 12) (.c (.int .i64 0)), []⟩,
      ⟨some 14, none, .mv (.t 13), []⟩,
      ⟨some 15, some (14, false), .mv (.t 0), []⟩,
      ⟨some 16, some (14, false), .bin .geq (.t 15) (.c (.int .i64 6)), []⟩,
      ⟨some 17, none, .pick (.t 14) (.c (.bool true)) (.t 16), []⟩,
      ⟨some 11, none, .mv (.t 17), []⟩])
    (.cond (.t 11)
     (.seq
      (.ops 2 [⟨some 18, none, .build (List.replicate 128 (.int .u64 0)) [], []⟩,
        ⟨none, none, .st 128 (.t 6) (.t 18), []⟩,
        ⟨some 7, none, .mv (.c (.int .i64 2)), []⟩])
      .ret)
     (.seq
      (.ops 3 [⟨some 20, none, .mv (.t 1), []⟩,
        ⟨some 21, none, .len .string (.t 20), []⟩,
        ⟨some 22, none, .bin .gtr (.t 21) (.c (.int .i64 24)), []⟩,
        ⟨some 23, none, .mv (.t 22), []⟩,
        ⟨some 24, some (23, false), .mv (.t 2), []⟩,
        ⟨some 25, some (23, false), .len .string (.t 24), []⟩,
        ⟨some 26, some (23, false), .bin .gtr (.t 25) (.c (.int .i64 24)), []⟩,
        ⟨some 27, none, .pick (.t 23) (.c (.bool true)) (.t 26), []⟩,
        ⟨some 19, none, .mv (.t 27), []⟩])
      (.cond (.t 19)
       (.seq
        (.ops 4 [⟨some 28, none, .build (List.replicate 128 (.int .u64 0)) [], []⟩,
          ⟨none, none, .st 128 (.t 6) (.t 28), []⟩,
          ⟨some 7, none, .mv (.c (.int .i64 5)), []⟩])
        .ret)
       (.seq
        (.ops 5 [⟨some 30, none, .mv (.t 2), []⟩,
          ⟨some 31, none, .bin .neq (.t 30) (.c (.str [])), []⟩,
          ⟨some 32, none, .mv (.t 31), []⟩,
          ⟨some 33, some (32, true), .mv (.t 1), []⟩,
          ⟨some 34, some (32, true), .mv (.t 2), []⟩,
          ⟨some 35, some (32, true), .call 149 [.t 33, .t 34], []⟩,
          ⟨some 36, some (32, true), .bin .geq (.t 35) (.c (.int .i64 0)), []⟩,
          ⟨some 37, none, .pick (.t 32) (.t 36) (.c (.bool false)), []⟩,
          ⟨some 29, none, .mv (.t 37), []⟩])
        (.cond (.t 29)
         (.seq
          (.ops 6 [⟨some 38, none, .build (List.replicate 128 (.int .u64 0)) [], []⟩,
            ⟨none, none, .st 128 (.t 6) (.t 38), []⟩,
            ⟨some 7, none, .mv (.c (.int .i64 13)), []⟩])
          .ret)
         .skip)))))))
  (.seq
   (.ops 7 [⟨some 8, none, .alloc (List.replicate 128 (.int .u64 0)) false, []⟩])
   (.seq
    (.ops 8 [⟨some 39, none, .mv (.t 0), []⟩,
      ⟨some 40, none, .bin .add (.c (.int .i64 1)) (.t 39), []⟩,
      ⟨some 41, none, .cvi .u64 (.t 40), []⟩,
      ⟨some 42, none, .ixa (some 128) 1 (.t 8) (.c (.int .i64 8)), []⟩,
      ⟨none, none, .st 1 (.t 42) (.t 41), []⟩,
      ⟨some 43, none, .ixa (some 128) 1 (.t 8) (.c (.int .i64 11)), []⟩,
      ⟨none, none, .st 1 (.t 43) (.c (.int .u64 128)), []⟩])
    (.seq
     (.seq
      (.ops 9 [⟨some 44, none, .mv (.t 1), []⟩,
        ⟨some 45, none, .call 150 [.t 8, .c (.int .i64 12), .t 44], []⟩,
        ⟨some 9, none, .mv (.t 45), []⟩])
      (.seq
       (.ops 10 [⟨some 46, none, .mv (.t 9), []⟩,
         ⟨some 47, none, .bin .neq (.t 46) (.c (.int .i64 0)), []⟩])
       (.cond (.t 47)
        (.seq
         (.ops 11 [⟨some 48, none, .build (List.replicate 128 (.int .u64 0)) [], []⟩,
           ⟨some 49, none, .mv (.t 9), []⟩,
           ⟨none, none, .st 128 (.t 6) (.t 48), []⟩,
           ⟨some 7, none, .mv (.t 49), []⟩])
         .ret)
        .skip)))
     (.seq
      (.seq
       (.ops 12 [⟨some 50, none, .mv (.t 2), []⟩,
         ⟨some 51, none, .call 150 [.t 8, .c (.int .i64 16), .t 50], []⟩,
         ⟨some 10, none, .mv (.t 51), []⟩])
       (.seq
        (.ops 13 [⟨some 52, none, .mv (.t 10), []⟩,
          ⟨some 53, none, .bin .neq (.t 52) (.c (.int .i64 0)), []⟩])
        (.cond (.t 53)
         (.seq
          (.ops 14 [⟨some 54, none, .build (List.replicate 128 (.int .u64 0)) [], []⟩,
            ⟨some 55, none, .mv (.t 10), []⟩,
            ⟨none, none, .st 128 (.t 6) (.t 54), []⟩,
            ⟨some 7, none, .mv (.t 55), []⟩])
          .ret)
         .skip)))
      (.seq
       (.ops 15 [⟨some 56, none, .ld 128 true (.t 8), []⟩,
         ⟨none, none, .st 128 (.t 6) (.t 56), []⟩,
         ⟨some 7, none, .mv (.c (.int .i64 0)), []⟩])
       .ret)))))))⟩
theorem F113_code : cfgA.code 113 = some F113 := by kernel_rfl

/-- (*ticketline/arena.Arena).Alloc -/
noncomputable def F114 : AFn := ⟨39, [.tmp 4, .tmp 5], (.seq
 (.ops 0 [⟨some 3, none, .box 128 (.t 1) false, []⟩,
   ⟨some 4, none, .mv (.c (.int .i64 0)), []⟩,
   ⟨some 5, none, .mv (.c (.int .i64 0)), []⟩])
 (.seq
  (.block 0
   (.seq
    (.ops 1 [⟨some 8, none, .mv (.t 0), []⟩,
      ⟨some 9, none, .call 151 [.t 8], []⟩,
      ⟨some 7, none, .mv (.t 9), []⟩])
    (.cond (.t 7)
     (.seq
      (.ops 2 [⟨some 4, none, .mv (.c (.int .i64 0)), []⟩,
        ⟨some 5, none, .mv (.c (.int .i64 1)), []⟩])
      .ret)
     (.seq
      (.ops 3 [⟨some 11, none, .ld 128 true (.t 3), []⟩,
        ⟨some 12, none, .call 141 [.t 11], []⟩,
        ⟨some 13, none, .un .not (.t 12), []⟩,
        ⟨some 10, none, .mv (.t 13), []⟩])
      (.cond (.t 10)
       (.seq
        (.ops 4 [⟨some 4, none, .mv (.c (.int .i64 0)), []⟩,
          ⟨some 5, none, .mv (.c (.int .i64 12)), []⟩])
        .ret)
       .skip)))))
  (.seq
   (.ops 5 [⟨some 14, none, .mv (.t 0), []⟩,
     ⟨some 15, none, .nilc (.t 14) (mok Tryz.prog), []⟩,
     ⟨some 16, none, .fld 0 (.t 15), []⟩,
     ⟨some 17, none, .ld 1 true (.t 16), []⟩,
     ⟨some 18, none, .call 152 [.t 17, .c (.int .i64 1)], []⟩,
     ⟨some 19, none, .cvi .i64 (.t 18), []⟩,
     ⟨some 6, none, .mv (.t 19), []⟩])
   (.seq
    (.seq
     (.ops 6 [⟨some 20, none, .mv (.t 6), []⟩,
       ⟨some 21, none, .bin .eql (.t 20) (.c (.int .i64 0)), []⟩])
     (.cond (.t 21)
      (.seq
       (.ops 7 [⟨some 4, none, .mv (.c (.int .i64 0)), []⟩,
         ⟨some 5, none, .mv (.c (.int .i64 7)), []⟩])
       .ret)
      .skip))
    (.seq
     (.ops 8 [⟨some 22, none, .mv (.t 0), []⟩,
       ⟨some 23, none, .nilc (.t 22) (mok Tryz.prog), []⟩,
       ⟨some 24, none, .fld 0 (.t 23), []⟩,
       ⟨some 25, none, .ld 1 true (.t 24), []⟩,
       ⟨some 26, none, .mv (.t 0), []⟩,
       ⟨some 27, none, .nilc (.t 26) (mok Tryz.prog), []⟩,
       ⟨some 28, none, .fld 0 (.t 27), []⟩,
       ⟨some 29, none, .ld 1 true (.t 28), []⟩,
       ⟨some 30, none, .mv (.t 6), []⟩,
       ⟨some 31, none, .call 146 [.t 30, .c (.int .i64 10)], [(25, .ld 1 true (.t 24)), (29, .ld 1 true (.t 28))]⟩,
       ⟨some 32, none, .call 152 [.t 29, .t 31], [(25, .ld 1 true (.t 24))]⟩,
       ⟨some 33, none, .call 148 [.t 25, .c (.int .i64 1), .t 32], []⟩])
     (.seq
      (.ops 9 [⟨some 34, none, .mv (.t 0), []⟩,
        ⟨some 35, none, .mv (.t 6), []⟩,
        ⟨some 36, none, .ld 128 true (.t 3), []⟩,
        ⟨some 37, none, .call 153 [.t 34, .t 35, .t 36], []⟩])
      (.seq
       (.ops 10 [⟨some 38, none, .mv (.t 6), []⟩,
         ⟨some 4, none, .mv (.t 38), []⟩,
         ⟨some 5, none, .mv (.c (.int .i64 0)), []⟩])
       .ret)))))))⟩
theorem F114_code : cfgA.code 114 = some F114 := by kernel_rfl

/-- (*ticketline/arena.Arena).SetRoot -/
noncomputable def F115 : AFn := ⟨23, [.tmp 4], (.seq
 (.ops 0 [⟨some 4, none, .mv (.c (.int .i64 0)), []⟩])
 (.seq
  (.seq
   (.ops 1 [⟨some 6, none, .mv (.t 0), []⟩,
     ⟨some 7, none, .call 151 [.t 6], []⟩])
   (.cond (.t 7)
    (.seq
     (.ops 2 [⟨some 4, none, .mv (.c (.int .i64 1)), []⟩])
     .ret)
    .skip))
  (.seq
   (.seq
    (.ops 3 [⟨some 8, none, .mv (.t 1), []⟩,
      ⟨some 9, none, .bin .neq (.t 8) (.c (.int .i64 0)), []⟩])
    (.cond (.t 9)
     (.seq
      (.ops 4 [⟨some 10, none, .mv (.t 0), []⟩,
        ⟨some 11, none, .mv (.t 1), []⟩,
        ⟨some 12, none, .call 154 [.t 10, .t 11, .c (.bool false)], []⟩,
        ⟨some 5, none, .mv (.t 12), []⟩])
      (.seq
       (.ops 5 [⟨some 13, none, .mv (.t 5), []⟩,
         ⟨some 14, none, .bin .neq (.t 13) (.c (.int .i64 0)), []⟩])
       (.cond (.t 14)
        (.seq
         (.ops 6 [⟨some 15, none, .mv (.t 5), []⟩,
           ⟨some 4, none, .mv (.t 15), []⟩])
         .ret)
        .skip)))
     .skip))
   (.seq
    (.ops 7 [⟨some 16, none, .mv (.t 0), []⟩,
      ⟨some 17, none, .nilc (.t 16) (mok Tryz.prog), []⟩,
      ⟨some 18, none, .fld 0 (.t 17), []⟩,
      ⟨some 19, none, .ld 1 true (.t 18), []⟩,
      ⟨some 20, none, .mv (.t 1), []⟩,
      ⟨some 21, none, .cvi .u64 (.t 20), []⟩,
      ⟨some 22, none, .call 148 [.t 19, .c (.int .i64 3), .t 21], []⟩])
    (.seq
     (.ops 8 [⟨some 4, none, .mv (.c (.int .i64 0)), []⟩])
     .ret)))))⟩
theorem F115_code : cfgA.code 115 = some F115 := by kernel_rfl

/-- (*ticketline/arena.Arena).Mem -/
noncomputable def F116 : AFn := ⟨11, [.tmp 2], (.seq
 (.ops 0 [⟨some 2, none, .mv (.c (.nilp)), []⟩])
 (.seq
  (.seq
   (.ops 1 [⟨some 3, none, .mv (.t 0), []⟩,
     ⟨some 4, none, .call 151 [.t 3], []⟩])
   (.cond (.t 4)
    (.seq
     (.ops 2 [⟨some 2, none, .mv (.c (.nilp)), []⟩])
     .ret)
    .skip))
  (.seq
   (.ops 3 [⟨some 5, none, .mv (.t 0), []⟩,
     ⟨some 6, none, .nilc (.t 5) (mok Tryz.prog), []⟩,
     ⟨some 7, none, .fld 0 (.t 6), []⟩,
     ⟨some 8, none, .fld 0 (.t 7), []⟩,
     ⟨some 9, none, .ld 1 false (.t 8), []⟩,
     ⟨some 10, none, .call 147 [.t 9], []⟩,
     ⟨some 2, none, .mv (.t 10), []⟩])
   .ret)))⟩
theorem F116_code : cfgA.code 116 = some F116 := by kernel_rfl

/-- ticketline/mem.NewOnce -/
noncomputable def F117 : AFn := ⟨9, [.tmp 2, .tmp 3], (.seq
 (.ops 0 [⟨some 2, none, .mv (.c (.nilp)), []⟩,
   ⟨some 3, none, .mv (.c (.int .i64 0)), []⟩])
 (.seq
  (.seq
   (.ops 1 [⟨some 4, none, .mv (.t 0), []⟩,
     ⟨some 5, none, .call 121 [.t 4], []⟩])
   (.cond (.t 5)
    (.seq
     (.ops 2 [⟨some 2, none, .mv (.c (.nilp)), []⟩,
       ⟨some 3, none, .mv (.c (.int .i64 1)), []⟩])
     .ret)
    .skip))
  (.seq
   (.ops 3 [⟨some 6, none, .mv (.t 0), []⟩,
     ⟨some 7, none, .build [.nilp, .int .i64 0, .int .i64 0, .int .u64 0, .int .u64 0] [(0, 1, (.t 6))], []⟩,
     ⟨some 8, none, .box 5 (.t 7) true, []⟩,
     ⟨some 2, none, .mv (.t 8), []⟩,
     ⟨some 3, none, .mv (.c (.int .i64 0)), []⟩])
   .ret)))⟩
theorem F117_code : cfgA.code 117 = some F117 := by kernel_rfl

/-- (*ticketline/mem.Once).Access -/
noncomputable def F118 : AFn := ⟨10, [.cell 2 4 true], (.seq
 (.ops 0 [⟨some 2, none, .alloc [.int .i64 0, .int .i64 0, .int .u64 0, .int .u64 0] false, []⟩])
 (.seq
  (.seq
   (.ops 1 [⟨some 3, none, .mv (.t 0), []⟩,
     ⟨some 4, none, .call 155 [.t 3], []⟩])
   (.cond (.t 4)
    (.seq
     (.ops 2 [⟨some 5, none, .build [.int .i64 0, .int .i64 0, .int .u64 0, .int .u64 0] [], []⟩,
       ⟨none, none, .st 4 (.t 2) (.t 5), []⟩])
     .ret)
    .skip))
  (.seq
   (.ops 3 [⟨some 6, none, .mv (.t 0), []⟩,
     ⟨some 7, none, .nilc (.t 6) (mok Tryz.prog), []⟩,
     ⟨some 8, none, .fld 1 (.t 7), []⟩,
     ⟨some 9, none, .ld 4 true (.t 8), []⟩,
     ⟨none, none, .st 4 (.t 2) (.t 9), []⟩])
   .ret)))⟩
theorem F118_code : cfgA.code 118 = some F118 := by kernel_rfl

/-- ticketline/slot.list: the round 0 -/
noncomputable def B119x0 : AC := (.seq
 (.seq
  (.ops 15 [⟨some 68, none, .mv (.t 10), []⟩,
    ⟨some 69, none, .fld 2 (.t 7), []⟩,
    ⟨some 70, none, .ld 1 false (.t 69), []⟩,
    ⟨some 71, none, .bin .lss (.t 68) (.t 70), []⟩])
  (.cond (.t 71)
   .skip
   (.exit 2)))
 (.seq
  (.block 3
   (.seq
    (.seq
     (.ops 17 [⟨some 74, none, .mv (.t 10), []⟩,
       ⟨some 75, none, .ixa (some 128) 1 (.t 5) (.t 74), []⟩,
       ⟨some 76, none, .ld 1 false (.t 75), []⟩])
     (.cond (.t 76)
      (.seq
       (.ops 18 [⟨some 2, none, .mv (.c (.nils)), []⟩,
         ⟨some 3, none, .mv (.c (.bool false)), []⟩])
       .ret)
      .skip))
    (.ops 19 [⟨some 77, none, .mv (.t 10), []⟩,
      ⟨some 78, none, .ixa (some 128) 1 (.t 5) (.t 77), []⟩,
      ⟨none, none, .st 1 (.t 78) (.c (.bool true)), []⟩])))
  (.ops 16 [⟨some 72, none, .mv (.t 10), []⟩,
    ⟨some 73, none, .bin .add (.t 72) (.c (.int .i64 1)), []⟩,
    ⟨some 10, none, .mv (.t 73), []⟩])))
/-- ticketline/slot.list: the round 1 -/
noncomputable def B119x1 : AC := (.seq
 (.ops 6 [⟨some 20, none, .bin .lss (.t 19) (.t 18), []⟩])
 (.seq
  (.cond (.t 20)
   .skip
   (.exit 0))
  (.seq
   (.block 1
    (.seq
     (.ops 7 [⟨some 21, none, .mv (.t 19), []⟩,
       ⟨some 6, none, .mv (.t 21), []⟩])
     (.seq
      (.seq
       (.ops 8 [⟨some 22, none, .mv (.t 0), []⟩,
         ⟨some 23, none, .mv (.t 6), []⟩,
         ⟨some 24, none, .call 157 [.t 22, .t 23], []⟩,
         ⟨some 25, none, .un .not (.t 24), []⟩])
       (.cond (.t 25)
        (.seq
         (.ops 9 [⟨some 2, none, .mv (.c (.nils)), []⟩,
           ⟨some 3, none, .mv (.c (.bool false)), []⟩])
         .ret)
        .skip))
      (.seq
       (.ops 10 [⟨some 26, none, .mv (.t 0), []⟩,
         ⟨some 27, none, .mv (.t 6), []⟩,
         ⟨some 28, none, .bin .add (.c (.int .i64 20)) (.t 27), []⟩,
         ⟨some 29, none, .nilc (.t 26) (mok Tryz.prog), []⟩,
         ⟨some 30, none, .ixa (some 128) 1 (.t 29) (.t 28), []⟩,
         ⟨some 31, none, .ld 1 false (.t 30), []⟩,
         ⟨some 32, none, .call 158 [.t 31], []⟩,
         ⟨some 7, none, .alloc [.int .i64 0, .int .i64 0, .int .i64 0, .int .i64 0, .int .i64 0] false, []⟩,
         ⟨none, none, .st 5 (.t 7) (.t 32), []⟩])
       (.seq
        (.ops 11 [⟨some 34, none, .mv (.t 0), []⟩,
          ⟨some 35, none, .ld 5 true (.t 7), []⟩,
          ⟨some 36, none, .call 159 [.t 34, .t 35], []⟩,
          ⟨some 33, none, .mv (.t 36), []⟩,
          ⟨some 37, none, .ext (.t 33) 0, []⟩,
          ⟨some 38, none, .ext (.t 33) 1, []⟩,
          ⟨some 8, none, .alloc [.str [], .str []] false, []⟩,
          ⟨none, none, .st 2 (.t 8) (.t 37), []⟩,
          ⟨some 9, none, .mv (.t 38), []⟩])
        (.seq
         (.seq
          (.ops 12 [⟨some 39, none, .mv (.t 9), []⟩,
            ⟨some 40, none, .bin .neq (.t 39) (.c (.int .i64 0)), []⟩,
            ⟨some 41, none, .mv (.t 40), []⟩,
            ⟨some 42, some (41, false), .mv (.t 0), []⟩,
            ⟨some 43, some (41, false), .nilc (.t 42) (mok Tryz.prog), []⟩,
            ⟨some 44, some (41, false), .ixa (some 128) 1 (.t 43) (.c (.int .i64 8)), []⟩,
            ⟨some 45, some (41, false), .ld 1 false (.t 44), []⟩,
            ⟨some 46, some (41, false), .bin .gtr (.t 45) (.c (.int .u64 1)), []⟩,
            ⟨some 47, some (41, false), .mv (.t 46), []⟩,
            ⟨some 48, some (47, true), .mv (.t 0), []⟩,
            ⟨some 49, some (47, true), .fld 1 (.t 7), []⟩,
            ⟨some 50, some (47, true), .ld 1 false (.t 49), []⟩,
            ⟨some 51, some (47, true), .nilc (.t 48) (mok Tryz.prog), []⟩,
            ⟨some 52, some (47, true), .ixa (some 128) 1 (.t 51) (.t 50), []⟩,
            ⟨some 53, some (47, true), .ld 1 false (.t 52), []⟩,
            ⟨some 54, some (47, true), .bin .lss (.t 53) (.c (.int .u64 1)), []⟩,
            ⟨some 55, some (47, true), .mv (.t 54), []⟩,
            ⟨some 56, some (55, false), .mv (.t 0), []⟩,
            ⟨some 57, some (55, false), .fld 1 (.t 7), []⟩,
            ⟨some 58, some (55, false), .ld 1 false (.t 57), []⟩,
            ⟨some 59, some (55, false), .nilc (.t 56) (mok Tryz.prog), []⟩,
            ⟨some 60, some (55, false), .ixa (some 128) 1 (.t 59) (.t 58), []⟩,
            ⟨some 61, some (55, false), .ld 1 false (.t 60), []⟩,
            ⟨some 62, some (55, false), .bin .gtr (.t 61) (.c (.int .u64 511)), []⟩,
            ⟨some 63, some (47, true), .pick (.t 55) (.c (.bool true)) (.t 62), []⟩,
            ⟨some 64, some (41, false), .pick (.t 47) (.t 63) (.c (.bool false)), []⟩,
            ⟨some 65, none, .pick (.t 41) (.c (.bool true)) (.t 64), []⟩])
          (.cond (.t 65)
           (.seq
            (.ops 13 [⟨some 2, none, .mv (.c (.nils)), []⟩,
              ⟨some 3, none, .mv (.c (.bool false)), []⟩])
            .ret)
           .skip))
         (.seq
          (.seq
           (.ops 14 [⟨some 66, none, .fld 0 (.t 7), []⟩,
             ⟨some 67, none, .ld 1 false (.t 66), []⟩,
             ⟨some 10, none, .mv (.t 67), []⟩])
           (.block 2
            (.loop [] B119x0)))
          (.ops 20 [⟨some 79, none, .mv (.t 4), []⟩,
            ⟨some 80, none, .ld 2 true (.t 8), []⟩,
            ⟨some 81, none, .bslice [.str [], .str []] 2 1 [(0, (.t 80))] false false, []⟩,
            ⟨some 82, none, .app 2 32 (.t 79) (.t 81) false, []⟩,
            ⟨some 4, none, .mv (.t 82), []⟩]))))))))
   (.ops 21 [⟨some 83, none, .bin .add (.t 19) (.c (.int .i64 1)), []⟩,
     ⟨some 19, none, .mv (.t 83), []⟩]))))
/-- ticketline/slot.list -/
noncomputable def F119 : AFn := ⟨85, [.tmp 2, .tmp 3], (.seq
 (.ops 0 [⟨some 2, none, .mv (.c (.nils)), []⟩,
   ⟨some 3, none, .mv (.c (.bool false)), []⟩])
 (.seq
  (.seq
   (.ops 1 [⟨some 11, none, .mv (.t 0), []⟩,
     ⟨some 12, none, .call 156 [.t 11], []⟩,
     ⟨some 13, none, .un .not (.t 12), []⟩])
   (.cond (.t 13)
    (.seq
     (.ops 2 [⟨some 2, none, .mv (.c (.nils)), []⟩,
       ⟨some 3, none, .mv (.c (.bool false)), []⟩])
     .ret)
    .skip))
  (.seq
   (.ops 3 [⟨some 4, none, .mv (.c (.nils)), []⟩])
   (.seq
    (.ops 4 [⟨some 5, none, .alloc (List.replicate 128 (.bool false)) false, []⟩])
    (.seq
     (.seq
      (.ops 5 [⟨some 14, none, .mv (.t 0), []⟩,
        ⟨some 15, none, .nilc (.t 14) (mok Tryz.prog), []⟩,
        ⟨some 16, none, .ixa (some 128) 1 (.t 15) (.c (.int .i64 9)), []⟩,
        ⟨some 17, none, .ld 1 false (.t 16), []⟩,
        ⟨some 18, none, .cvi .i64 (.t 17), []⟩,
        ⟨some 19, none, .mv (.c (.int .i64 0)), []⟩])
      (.block 0
       (.loop [] B119x1)))
     (.seq
      (.ops 22 [⟨some 84, none, .mv (.t 4), []⟩,
        ⟨some 2, none, .mv (.t 84), []⟩,
        ⟨some 3, none, .mv (.c (.bool true)), []⟩])
      .ret))))))⟩
theorem F119_code : cfgA.code 119 = some F119 := by kernel_rfl

/-- (*ticketline/mem.Mem).Do -/
noncomputable def F120 : AFn := ⟨86, [.cell 4 4 true, .tmp 5], (.seq
 (.ops 0 [⟨some 3, none, .box 4 (.t 1) false, []⟩,
   ⟨some 4, none, .alloc [.int .i64 0, .int .i64 0, .int .u64 0, .int .u64 0] false, []⟩,
   ⟨some 5, none, .mv (.c (.int .i64 0)), []⟩])
 (.seq
  (.block 0
   (.seq
    (.ops 1 [⟨some 8, none, .mv (.t 0), []⟩,
      ⟨some 9, none, .call 121 [.t 8], []⟩,
      ⟨some 7, none, .mv (.t 9), []⟩])
    (.cond (.t 7)
     (.seq
      (.ops 2 [⟨some 10, none, .build [.int .i64 0, .int .i64 0, .int .u64 0, .int .u64 0] [], []⟩,
        ⟨none, none, .st 4 (.t 4) (.t 10), []⟩,
        ⟨some 5, none, .mv (.c (.int .i64 1)), []⟩])
      .ret)
     (.seq
      (.ops 3 [⟨some 12, none, .fld 0 (.t 3), []⟩,
        ⟨some 13, none, .ld 1 false (.t 12), []⟩,
        ⟨some 14, none, .bin .lss (.t 13) (.c (.int .i64 1)), []⟩,
        ⟨some 15, none, .mv (.t 14), []⟩,
        ⟨some 16, some (15, false), .fld 0 (.t 3), []⟩,
        ⟨some 17, some (15, false), .ld 1 false (.t 16), []⟩,
        ⟨some 18, some (15, false), .bin .gtr (.t 17) (.c (.int .i64 4)), []⟩,
        ⟨some 19, none, .pick (.t 15) (.c (.bool true)) (.t 18), []⟩,
        ⟨some 11, none, .mv (.t 19), []⟩])
      (.cond (.t 11)
       (.seq
        (.ops 4 [⟨some 20, none, .build [.int .i64 0, .int .i64 0, .int .u64 0, .int .u64 0] [], []⟩,
          ⟨none, none, .st 4 (.t 4) (.t 20), []⟩,
          ⟨some 5, none, .mv (.c (.int .i64 2)), []⟩])
        .ret)
       (.seq
        (.ops 5 [⟨some 22, none, .fld 1 (.t 3), []⟩,
          ⟨some 23, none, .ld 1 false (.t 22), []⟩,
          ⟨some 24, none, .bin .lss (.t 23) (.c (.int .i64 0)), []⟩,
          ⟨some 25, none, .mv (.t 24), []⟩,
          ⟨some 26, some (25, false), .fld 1 (.t 3), []⟩,
          ⟨some 27, some (25, false), .ld 1 false (.t 26), []⟩,
          ⟨some 28, some (25, false), .mv (.t 0), []⟩,
          ⟨some 29, some (25, false), .nilc (.t 28) (mok Tryz.prog), []⟩,
          ⟨some 30, some (25, false), .fld 0 (.t 29), []⟩,
          ⟨some 31, some (25, false), .ld 1 false (.t 30), []⟩,
          ⟨some 32, some (25, false), .len .slice (.t 31), []⟩,
          ⟨some 33, some (25, false), .bin .geq (.t 27) (.t 32), []⟩,
          ⟨some 34, none, .pick (.t 25) (.c (.bool true)) (.t 33), []⟩,
          ⟨some 21, none, .mv (.t 34), []⟩])
        (.cond (.t 21)
         (.seq
          (.ops 6 [⟨some 35, none, .build [.int .i64 0, .int .i64 0, .int .u64 0, .int .u64 0] [], []⟩,
            ⟨none, none, .st 4 (.t 4) (.t 35), []⟩,
            ⟨some 5, none, .mv (.c (.int .i64 3)), []⟩])
          .ret)
         .skip)))))))
  (.seq
   (.ops 7 [⟨some 36, none, .mv (.t 0), []⟩,
     ⟨some 37, none, .nilc (.t 36) (mok Tryz.prog), []⟩,
     ⟨some 38, none, .fld 0 (.t 37), []⟩,
     ⟨some 39, none, .ld 1 false (.t 38), []⟩,
     ⟨some 40, none, .fld 1 (.t 3), []⟩,
     ⟨some 41, none, .ld 1 false (.t 40), []⟩,
     ⟨some 42, none, .ixa none 1 (.t 39) (.t 41), []⟩,
     ⟨some 43, none, .ld 1 false (.t 42), []⟩,
     ⟨some 6, none, .mv (.t 43), []⟩])
   (.seq
    (.seq
     (.ops 8 [⟨some 44, none, .fld 0 (.t 3), []⟩,
       ⟨some 45, none, .ld 1 false (.t 44), []⟩,
       ⟨some 46, none, .bin .eql (.t 45) (.c (.int .i64 2)), []⟩,
       ⟨some 47, none, .mv (.t 46), []⟩,
       ⟨some 48, some (47, false), .fld 0 (.t 3), []⟩,
       ⟨some 49, some (47, false), .ld 1 false (.t 48), []⟩,
       ⟨some 50, some (47, false), .bin .eql (.t 49) (.c (.int .i64 4)), []⟩,
       ⟨some 51, none, .pick (.t 47) (.c (.bool true)) (.t 50), []⟩,
       ⟨some 52, none, .mv (.t 51), []⟩,
       ⟨some 53, some (52, false), .fld 0 (.t 3), []⟩,
       ⟨some 54, some (52, false), .ld 1 false (.t 53), []⟩,
       ⟨some 55, some (52, false), .bin .eql (.t 54) (.c (.int .i64 3)), []⟩,
       ⟨some 56, some (52, false), .mv (.t 55), []⟩,
       ⟨some 57, some (56, true), .mv (.t 6), []⟩,
       ⟨some 58, some (56, true), .fld 2 (.t 3), []⟩,
       ⟨some 59, some (56, true), .ld 1 false (.t 58), []⟩,
       ⟨some 60, some (56, true), .bin .eql (.t 57) (.t 59), []⟩,
       ⟨some 61, some (52, false), .pick (.t 56) (.t 60) (.c (.bool false)), []⟩,
       ⟨some 62, none, .pick (.t 52) (.c (.bool true)) (.t 61), []⟩])
     (.cond (.t 62)
      (.ops 9 [⟨some 63, none, .mv (.t 0), []⟩,
        ⟨some 64, none, .nilc (.t 63) (mok Tryz.prog), []⟩,
        ⟨some 65, none, .fld 0 (.t 64), []⟩,
        ⟨some 66, none, .ld 1 false (.t 65), []⟩,
        ⟨some 67, none, .fld 1 (.t 3), []⟩,
        ⟨some 68, none, .ld 1 false (.t 67), []⟩,
        ⟨some 69, none, .fld 3 (.t 3), []⟩,
        ⟨some 70, none, .ld 1 false (.t 69), []⟩,
        ⟨some 71, none, .ixa none 1 (.t 66) (.t 68), []⟩,
        ⟨none, none, .st 1 (.t 71) (.t 70), []⟩])
      .skip))
    (.seq
     (.ops 10 [⟨some 72, none, .fld 0 (.t 3), []⟩,
       ⟨some 73, none, .ld 1 false (.t 72), []⟩,
       ⟨some 74, none, .fld 1 (.t 3), []⟩,
       ⟨some 75, none, .ld 1 false (.t 74), []⟩,
       ⟨some 76, none, .mv (.t 6), []⟩,
       ⟨some 77, none, .mv (.t 0), []⟩,
       ⟨some 78, none, .nilc (.t 77) (mok Tryz.prog), []⟩,
       ⟨some 79, none, .fld 0 (.t 78), []⟩,
       ⟨some 80, none, .ld 1 false (.t 79), []⟩,
       ⟨some 81, none, .fld 1 (.t 3), []⟩,
       ⟨some 82, none, .ld 1 false (.t 81), []⟩,
       ⟨some 83, none, .ixa none 1 (.t 80) (.t 82), []⟩,
       ⟨some 84, none, .ld 1 false (.t 83), []⟩,
       ⟨some 85, none, .build [.int .i64 0, .int .i64 0, .int .u64 0, .int .u64 0] [(0, 1, (.t 73)), (1, 1, (.t 75)), (2, 1, (.t 76)), (3, 1, (.t 84))], []⟩,
       ⟨none, none, .st 4 (.t 4) (.t 85), []⟩,
       ⟨some 5, none, .mv (.c (.int .i64 0)), []⟩])
     .ret)))))⟩
theorem F120_code : cfgA.code 120 = some F120 := by kernel_rfl

/-- (*ticketline/mem.Mem).zero -/
noncomputable def F121 : AFn := ⟨13, [.tmp 2], (.seq
 (.ops 0 [⟨some 2, none, .mv (.c (.bool false)), []⟩])
 (.seq
  (.ops 1 [⟨some 3, none, .mv (.t 0), []⟩,
    ⟨some 4, none, .eqn .ptr false (.t 3), []⟩,
    ⟨some 5, none, .mv (.t 4), []⟩,
    ⟨some 6, some (5, false), .mv (.t 0), []⟩,
    ⟨some 7, some (5, false), .nilc (.t 6) (mok Tryz.prog), []⟩,
    ⟨some 8, some (5, false), .fld 0 (.t 7), []⟩,
    ⟨some 9, some (5, false), .ld 1 false (.t 8), []⟩,
    ⟨some 10, some (5, false), .len .slice (.t 9), []⟩,
    ⟨some 11, some (5, false), .bin .eql (.t 10) (.c (.int .i64 0)), []⟩,
    ⟨some 12, none, .pick (.t 5) (.c (.bool true)) (.t 11), []⟩,
    ⟨some 2, none, .mv (.t 12), []⟩])
  .ret))⟩
theorem F121_code : cfgA.code 121 = some F121 := by kernel_rfl

/-- ticketline/version.NewWrite -/
noncomputable def F122 : AFn := ⟨19, [.tmp 6, .tmp 7], (.seq
 (.ops 0 [⟨some 6, none, .mv (.c (.nilp)), []⟩,
   ⟨some 7, none, .mv (.c (.int .i64 0)), []⟩])
 (.seq
  (.seq
   (.ops 1 [⟨some 8, none, .mv (.t 0), []⟩,
     ⟨some 9, none, .mv (.t 1), []⟩,
     ⟨some 10, none, .mv (.t 2), []⟩,
     ⟨some 11, none, .len .slice (.t 10), []⟩,
     ⟨some 12, none, .call 144 [.t 8, .t 9, .t 11], []⟩])
   (.cond (.t 12)
    (.seq
     (.ops 2 [⟨some 6, none, .mv (.c (.nilp)), []⟩,
       ⟨some 7, none, .mv (.c (.int .i64 2)), []⟩])
     .ret)
    .skip))
  (.seq
   (.ops 3 [⟨some 13, none, .mv (.t 0), []⟩,
     ⟨some 14, none, .mv (.t 1), []⟩,
     ⟨some 15, none, .mv (.t 2), []⟩,
     ⟨some 16, none, .call 139 [.t 15], []⟩,
     ⟨some 17, none, .build [.bool false, .int .i64 0, .int .i64 0, .nils, .int .u64 0, .int .i64 0, .bool false] [(0, 1, (.c (.bool true))), (1, 1, (.t 13)), (2, 1, (.t 14)), (3, 1, (.t 16))], []⟩,
     ⟨some 18, none, .box 7 (.t 17) true, []⟩,
     ⟨some 6, none, .mv (.t 18), []⟩,
     ⟨some 7, none, .mv (.c (.int .i64 0)), []⟩])
   .ret)))⟩
theorem F122_code : cfgA.code 122 = some F122 := by kernel_rfl

/-- ticketline/reclaim.unlock -/
noncomputable def F123 : AFn := ⟨30, [.tmp 4], (.seq
 (.ops 0 [⟨some 2, none, .box 2 (.t 0) false, []⟩,
   ⟨some 4, none, .mv (.c (.nili)), []⟩])
 (.seq
  (.ops 1 [⟨some 12, none, .ld 2 true (.t 2), []⟩,
    ⟨some 13, none, .call 132 [.t 12], []⟩,
    ⟨some 11, none, .mv (.t 13), []⟩,
    ⟨some 14, none, .ext (.t 11) 0, []⟩,
    ⟨some 15, none, .ext (.t 11) 1, []⟩,
    ⟨some 5, none, .mv (.t 14), []⟩,
    ⟨some 6, none, .mv (.t 15), []⟩])
  (.seq
   (.ops 2 [⟨some 17, none, .mv (.t 5), []⟩,
     ⟨some 18, none, .mv (.t 1), []⟩,
     ⟨some 19, none, .call 160 [.t 17, .t 18, .c (.int .i64 0)], []⟩,
     ⟨some 16, none, .mv (.t 19), []⟩,
     ⟨some 20, none, .ext (.t 16) 0, []⟩,
     ⟨some 21, none, .ext (.t 16) 1, []⟩,
     ⟨some 7, none, .mv (.t 20), []⟩,
     ⟨some 8, none, .mv (.t 21), []⟩])
   (.seq
    (.ops 3 [⟨some 23, none, .mv (.t 5), []⟩,
      ⟨some 24, none, .mv (.t 7), []⟩,
      ⟨some 25, none, .call 161 [.t 23, .c (.int .i64 5), .t 24], []⟩,
      ⟨some 22, none, .mv (.t 25), []⟩,
      ⟨some 26, none, .ext (.t 22) 0, []⟩,
      ⟨some 27, none, .ext (.t 22) 1, []⟩,
      ⟨some 9, none, .mv (.t 26), []⟩,
      ⟨some 10, none, .mv (.t 27), []⟩])
    (.seq
     (.ops 4 [⟨some 28, none, .mv (.t 9), []⟩,
       ⟨some 29, none, .mki 221 (.t 28), []⟩,
       ⟨some 4, none, .mv (.t 29), []⟩])
     .ret)))))⟩
theorem F123_code : cfgA.code 123 = some F123 := by kernel_rfl

/-- ticketline/reclaim.allowed -/
noncomputable def F125 : AFn := ⟨27, [.tmp 6], (.seq
 (.ops 0 [⟨some 3, none, .box 2 (.t 0) false, []⟩,
   ⟨some 6, none, .mv (.c (.bool false)), []⟩])
 (.seq
  (.ops 1 [⟨some 10, none, .ld 2 true (.t 3), []⟩,
    ⟨some 11, none, .mv (.t 2), []⟩,
    ⟨some 12, none, .call 111 [.t 10, .t 11], []⟩,
    ⟨some 9, none, .mv (.t 12), []⟩,
    ⟨some 13, none, .ext (.t 9) 0, []⟩,
    ⟨some 14, none, .ext (.t 9) 1, []⟩,
    ⟨some 7, none, .mv (.t 13), []⟩,
    ⟨some 8, none, .mv (.t 14), []⟩])
  (.seq
   (.ops 2 [⟨some 15, none, .mv (.t 8), []⟩,
     ⟨some 16, none, .bin .eql (.t 15) (.c (.int .i64 0)), []⟩,
     ⟨some 17, none, .mv (.t 16), []⟩,
     ⟨some 18, some (17, true), .mv (.t 1), []⟩,
     ⟨some 19, some (17, true), .bin .geq (.t 18) (.c (.int .i64 0)), []⟩,
     ⟨some 20, none, .pick (.t 17) (.t 19) (.c (.bool false)), []⟩,
     ⟨some 21, none, .mv (.t 20), []⟩,
     ⟨some 22, some (21, true), .mv (.t 1), []⟩,
     ⟨some 23, some (21, true), .fld 1 (.t 3), []⟩,
     ⟨some 24, some (21, true), .ld 1 false (.t 23), []⟩,
     ⟨some 25, some (21, true), .bin .lss (.t 22) (.t 24), []⟩,
     ⟨some 26, none, .pick (.t 21) (.t 25) (.c (.bool false)), []⟩,
     ⟨some 6, none, .mv (.t 26), []⟩])
   .ret)))⟩
theorem F125_code : cfgA.code 125 = some F125 := by kernel_rfl

/-- ticketline/reclaim.lock -/
noncomputable def F126 : AFn := ⟨30, [.tmp 4], (.seq
 (.ops 0 [⟨some 2, none, .box 2 (.t 0) false, []⟩,
   ⟨some 4, none, .mv (.c (.nili)), []⟩])
 (.seq
  (.ops 1 [⟨some 12, none, .ld 2 true (.t 2), []⟩,
    ⟨some 13, none, .call 132 [.t 12], []⟩,
    ⟨some 11, none, .mv (.t 13), []⟩,
    ⟨some 14, none, .ext (.t 11) 0, []⟩,
    ⟨some 15, none, .ext (.t 11) 1, []⟩,
    ⟨some 5, none, .mv (.t 14), []⟩,
    ⟨some 6, none, .mv (.t 15), []⟩])
  (.seq
   (.ops 2 [⟨some 17, none, .mv (.t 5), []⟩,
     ⟨some 18, none, .mv (.t 1), []⟩,
     ⟨some 19, none, .call 160 [.t 17, .t 18, .c (.int .i64 0)], []⟩,
     ⟨some 16, none, .mv (.t 19), []⟩,
     ⟨some 20, none, .ext (.t 16) 0, []⟩,
     ⟨some 21, none, .ext (.t 16) 1, []⟩,
     ⟨some 7, none, .mv (.t 20), []⟩,
     ⟨some 8, none, .mv (.t 21), []⟩])
   (.seq
    (.ops 3 [⟨some 23, none, .mv (.t 5), []⟩,
      ⟨some 24, none, .mv (.t 7), []⟩,
      ⟨some 25, none, .call 163 [.t 23, .c (.int .i64 5), .t 24], []⟩,
      ⟨some 22, none, .mv (.t 25), []⟩,
      ⟨some 26, none, .ext (.t 22) 0, []⟩,
      ⟨some 27, none, .ext (.t 22) 1, []⟩,
      ⟨some 9, none, .mv (.t 26), []⟩,
      ⟨some 10, none, .mv (.t 27), []⟩])
    (.seq
     (.ops 4 [⟨some 28, none, .mv (.t 9), []⟩,
       ⟨some 29, none, .mki 226 (.t 28), []⟩,
       ⟨some 4, none, .mv (.t 29), []⟩])
     .ret)))))⟩
theorem F126_code : cfgA.code 126 = some F126 := by kernel_rfl

/-- (*ticketline/reclaim.Sweep).visit -/
noncomputable def F127 : AFn := ⟨50, [.tmp 4], (.seq
 (.ops 0 [⟨some 4, none, .mv (.c (.int .i64 0)), []⟩])
 (.seq
  (.seq
   (.ops 1 [⟨some 5, none, .mv (.t 1), []⟩,
     ⟨some 6, none, .mv (.t 0), []⟩,
     ⟨some 7, none, .nilc (.t 6) (mok Tryz.prog), []⟩,
     ⟨some 8, none, .fld 0 (.t 7), []⟩,
     ⟨some 9, none, .fld 0 (.t 8), []⟩,
     ⟨some 10, none, .ld 1 false (.t 9), []⟩,
     ⟨some 11, none, .cvi .u64 (.t 10), []⟩,
     ⟨some 12, none, .bin .gtr (.t 5) (.t 11), []⟩,
     ⟨some 13, none, .mv (.t 12), []⟩,
     ⟨some 14, some (13, false), .mv (.t 0), []⟩,
     ⟨some 15, some (13, false), .nilc (.t 14) (mok Tryz.prog), []⟩,
     ⟨some 16, some (13, false), .fld 10 (.t 15), []⟩,
     ⟨some 17, some (13, false), .ld 1 false (.t 16), []⟩,
     ⟨some 18, some (13, false), .mv (.t 0), []⟩,
     ⟨some 19, some (13, false), .nilc (.t 18) (mok Tryz.prog), []⟩,
     ⟨some 20, some (13, false), .fld 0 (.t 19), []⟩,
     ⟨some 21, some (13, false), .fld 0 (.t 20), []⟩,
     ⟨some 22, some (13, false), .ld 1 false (.t 21), []⟩,
     ⟨some 23, some (13, false), .cvi .u64 (.t 22), []⟩,
     ⟨some 24, some (13, false), .bin .gtr (.t 17) (.t 23), []⟩,
     ⟨some 25, none, .pick (.t 13) (.c (.bool true)) (.t 24), []⟩])
   (.cond (.t 25)
    (.seq
     (.ops 2 [⟨some 4, none, .mv (.c (.int .i64 12)), []⟩])
     .ret)
    .skip))
  (.seq
   (.seq
    (.ops 3 [⟨some 26, none, .mv (.t 0), []⟩,
      ⟨some 27, none, .mv (.t 0), []⟩,
      ⟨some 28, none, .mv (.t 1), []⟩,
      ⟨some 29, none, .nilc (.t 26) (mok Tryz.prog), []⟩,
      ⟨some 30, none, .fld 7 (.t 29), []⟩,
      ⟨none, none, .st 1 (.t 30) (.t 28), []⟩,
      ⟨some 31, none, .nilc (.t 27) (mok Tryz.prog), []⟩,
      ⟨some 32, none, .fld 4 (.t 31), []⟩,
      ⟨none, none, .st 1 (.t 32) (.c (.int .i64 3)), []⟩])
    (.seq
     (.ops 4 [⟨some 33, none, .mv (.t 1), []⟩,
       ⟨some 34, none, .bin .eql (.t 33) (.c (.int .u64 0)), []⟩])
     (.cond (.t 34)
      (.ops 5 [⟨some 35, none, .mv (.t 0), []⟩,
        ⟨some 36, none, .mv (.t 0), []⟩,
        ⟨some 37, none, .mv (.t 0), []⟩,
        ⟨some 38, none, .nilc (.t 37) (mok Tryz.prog), []⟩,
        ⟨some 39, none, .fld 0 (.t 38), []⟩,
        ⟨some 40, none, .ld 2 true (.t 39), []⟩,
        ⟨some 41, none, .mv (.t 0), []⟩,
        ⟨some 42, none, .nilc (.t 41) (mok Tryz.prog), []⟩,
        ⟨some 43, none, .fld 2 (.t 42), []⟩,
        ⟨some 44, none, .ld 1 false (.t 43), []⟩,
        ⟨some 45, none, .call 123 [.t 40, .t 44], []⟩,
        ⟨some 46, none, .nilc (.t 35) (mok Tryz.prog), []⟩,
        ⟨some 47, none, .fld 5 (.t 46), []⟩,
        ⟨none, none, .st 1 (.t 47) (.t 45), []⟩,
        ⟨some 48, none, .nilc (.t 36) (mok Tryz.prog), []⟩,
        ⟨some 49, none, .fld 4 (.t 48), []⟩,
        ⟨none, none, .st 1 (.t 49) (.c (.int .i64 15)), []⟩])
      .skip)))
   (.seq
    (.ops 6 [⟨some 4, none, .mv (.c (.int .i64 0)), []⟩])
    .ret))))⟩
theorem F127_code : cfgA.code 127 = some F127 := by kernel_rfl

/-- ticketline/arena.Word -/
noncomputable def F128 : AFn := ⟨23, [.tmp 4, .tmp 5], (.seq
 (.ops 0 [⟨some 4, none, .mv (.c (.int .i64 0)), []⟩,
   ⟨some 5, none, .mv (.c (.int .i64 0)), []⟩])
 (.seq
  (.seq
   (.ops 1 [⟨some 6, none, .mv (.t 0), []⟩,
     ⟨some 7, none, .bin .lss (.t 6) (.c (.int .i64 1)), []⟩,
     ⟨some 8, none, .mv (.t 7), []⟩,
     ⟨some 9, some (8, false), .mv (.t 0), []⟩,
     ⟨some 10, some (8, false), .bin .gtr (.t 9) (.c (.int .i64 511)), []⟩,
     ⟨some 11, none, .pick (.t 8) (.c (.bool true)) (.t 10), []⟩,
     ⟨some 12, none, .mv (.t 11), []⟩,
     ⟨some 13, some (12, false), .mv (.t 1), []⟩,
     ⟨some 14, some (12, false), .bin .lss (.t 13) (.c (.int .i64 0)), []⟩,
     ⟨some 15, none, .pick (.t 12) (.c (.bool true)) (.t 14), []⟩,
     ⟨some 16, none, .mv (.t 15), []⟩,
     ⟨some 17, some (16, false), .mv (.t 1), []⟩,
     ⟨some 18, some (16, false), .bin .geq (.t 17) (.c (.int .i64 128)), []⟩,
     ⟨some 19, none, .pick (.t 16) (.c (.bool true)) (.t 18), []⟩])
   (.cond (.t 19)
    (.seq
     (.ops 2 [⟨some 4, none, .mv (.c (.int .i64 0)), []⟩,
       ⟨some 5, none, .mv (.c (.int .i64 3)), []⟩])
     .ret)
    .skip))
  (.seq
   (.ops 3 [⟨some 20, none, .mv (.t 0), []⟩,
     ⟨some 21, none, .mv (.t 1), []⟩,
     ⟨some 22, none, .call 146 [.t 20, .t 21], []⟩,
     ⟨some 4, none, .mv (.t 22), []⟩,
     ⟨some 5, none, .mv (.c (.int .i64 0)), []⟩])
   .ret)))⟩
theorem F128_code : cfgA.code 128 = some F128 := by kernel_rfl

/-- ticketline/grow.NewTake -/
noncomputable def F129 : AFn := ⟨17, [.tmp 4, .tmp 5], (.seq
 (.ops 0 [⟨some 2, none, .box 2 (.t 0) false, []⟩,
   ⟨some 4, none, .mv (.c (.nilp)), []⟩,
   ⟨some 5, none, .mv (.c (.int .i64 0)), []⟩])
 (.seq
  (.seq
   (.ops 1 [⟨some 6, none, .ld 2 true (.t 2), []⟩,
     ⟨some 7, none, .mv (.t 1), []⟩,
     ⟨some 8, none, .call 164 [.t 6, .t 7, .c (.int .i64 0)], []⟩,
     ⟨some 9, none, .un .not (.t 8), []⟩])
   (.cond (.t 9)
    (.seq
     (.ops 2 [⟨some 4, none, .mv (.c (.nilp)), []⟩,
       ⟨some 5, none, .mv (.c (.int .i64 2)), []⟩])
     .ret)
    .skip))
  (.seq
   (.ops 3 [⟨some 10, none, .ld 2 true (.t 2), []⟩,
     ⟨some 11, none, .mv (.t 1), []⟩,
     ⟨some 12, none, .ld 2 true (.t 2), []⟩,
     ⟨some 13, none, .mv (.t 1), []⟩,
     ⟨some 14, none, .call 165 [.t 12, .t 13], [(10, .ld 2 true (.t 2))]⟩,
     ⟨some 15, none, .build [.int .i64 0, .int .i64 0, .int .i64 0, .int .i64 0, .nili, .int .u64 0, .int .u64 0] [(0, 2, (.t 10)), (2, 1, (.t 11)), (3, 1, (.c (.int .i64 1))), (4, 1, (.t 14))], []⟩,
     ⟨some 16, none, .box 7 (.t 15) true, []⟩,
     ⟨some 4, none, .mv (.t 16), []⟩,
     ⟨some 5, none, .mv (.c (.int .i64 0)), []⟩])
   .ret)))⟩
theorem F129_code : cfgA.code 129 = some F129 := by kernel_rfl

/-- ticketline/ticketlinelaw30.run: the round 0 -/
noncomputable def B130x0 : AC := (.seq
 (.seq
  (.ops 2 [⟨some 11, none, .mv (.t 8), []⟩,
    ⟨some 12, none, .mv (.t 2), []⟩,
    ⟨some 13, none, .bin .lss (.t 11) (.t 12), []⟩,
    ⟨some 14, none, .mv (.t 13), []⟩,
    ⟨some 15, some (14, true), .mv (.t 0), []⟩,
    ⟨some 16, some (14, true), .invk (.t 15) "Done" [], []⟩,
    ⟨some 17, some (14, true), .un .not (.t 16), []⟩,
    ⟨some 18, none, .pick (.t 14) (.t 17) (.c (.bool false)), []⟩])
  (.cond (.t 18)
   .skip
   (.exit 0)))
 (.seq
  (.block 1
   (.seq
    (.ops 4 [⟨some 22, none, .mv (.t 0), []⟩,
      ⟨some 23, none, .mv (.t 1), []⟩,
      ⟨some 24, none, .call 166 [.t 22, .t 23], []⟩,
      ⟨some 21, none, .mv (.t 24), []⟩,
      ⟨some 25, none, .ext (.t 21) 0, []⟩,
      ⟨some 26, none, .ext (.t 21) 1, []⟩,
      ⟨some 9, none, .mv (.t 25), []⟩,
      ⟨some 10, none, .mv (.t 26), []⟩])
    (.seq
     (.seq
      (.ops 5 [⟨some 27, none, .mv (.t 10), []⟩])
      (.cond (.t 27)
       (.seq
        (.ops 6 [⟨some 6, none, .mv (.c (.bool false)), []⟩,
          ⟨some 7, none, .mv (.c (.bool false)), []⟩])
        .ret)
       .skip))
     (.ops 7 [⟨some 28, none, .mv (.t 9), []⟩,
       ⟨some 7, none, .mv (.t 28), []⟩]))))
  (.ops 3 [⟨some 19, none, .mv (.t 8), []⟩,
    ⟨some 20, none, .bin .add (.t 19) (.c (.int .i64 1)), []⟩,
    ⟨some 8, none, .mv (.t 20), []⟩])))
/-- ticketline/ticketlinelaw30.run -/
noncomputable def F130 : AFn := ⟨32, [.tmp 6, .tmp 7], (.seq
 (.ops 0 [⟨some 6, none, .mv (.c (.bool false)), []⟩,
   ⟨some 7, none, .mv (.c (.bool false)), []⟩])
 (.seq
  (.seq
   (.ops 1 [⟨some 8, none, .mv (.c (.int .i64 0)), []⟩])
   (.block 0
    (.loop [] B130x0)))
  (.seq
   (.ops 8 [⟨some 29, none, .mv (.t 0), []⟩,
     ⟨some 30, none, .invk (.t 29) "Done" [], []⟩,
     ⟨some 31, none, .mv (.t 7), []⟩,
     ⟨some 6, none, .mv (.t 30), []⟩,
     ⟨some 7, none, .mv (.t 31), []⟩])
   .ret)))⟩
theorem F130_code : cfgA.code 130 = some F130 := by kernel_rfl

/-- (*ticketline/grow.Take).Result -/
noncomputable def F131 : AFn := ⟨10, [.tmp 2], (.seq
 (.ops 0 [⟨some 2, none, .mv (.c (.int .u64 0)), []⟩])
 (.seq
  (.seq
   (.ops 1 [⟨some 3, none, .mv (.t 0), []⟩,
     ⟨some 4, none, .call 167 [.t 3], []⟩,
     ⟨some 5, none, .un .not (.t 4), []⟩])
   (.cond (.t 5)
    (.seq
     (.ops 2 [⟨some 2, none, .mv (.c (.int .u64 0)), []⟩])
     .ret)
    .skip))
  (.seq
   (.ops 3 [⟨some 6, none, .mv (.t 0), []⟩,
     ⟨some 7, none, .nilc (.t 6) (mok Tryz.prog), []⟩,
     ⟨some 8, none, .fld 5 (.t 7), []⟩,
     ⟨some 9, none, .ld 1 false (.t 8), []⟩,
     ⟨some 2, none, .mv (.t 9), []⟩])
   .ret)))⟩
theorem F131_code : cfgA.code 131 = some F131 := by kernel_rfl

/-- ticketline/descend.Nodes -/
noncomputable def F132 : AFn := ⟨14, [.tmp 2, .tmp 3], (.seq
 (.ops 0 [⟨some 1, none, .box 2 (.t 0) false, []⟩,
   ⟨some 2, none, .mv (.c (.nilp)), []⟩,
   ⟨some 3, none, .mv (.c (.int .i64 0)), []⟩])
 (.seq
  (.seq
   (.ops 1 [⟨some 4, none, .ld 2 true (.t 1), []⟩,
     ⟨some 5, none, .call 53 [.t 4], []⟩,
     ⟨some 6, none, .un .not (.t 5), []⟩])
   (.cond (.t 6)
    (.seq
     (.ops 2 [⟨some 2, none, .mv (.c (.nilp)), []⟩,
       ⟨some 3, none, .mv (.c (.int .i64 2)), []⟩])
     .ret)
    .skip))
  (.seq
   (.ops 3 [⟨some 7, none, .ld 2 true (.t 1), []⟩,
     ⟨some 9, none, .fld 1 (.t 1), []⟩,
     ⟨some 10, none, .ld 1 false (.t 9), []⟩,
     ⟨some 8, none, .call 145 [.t 7], [(10, .ld 1 false (.t 9))]⟩,
     ⟨some 11, none, .call 168 [.t 8, .t 10], []⟩,
     ⟨some 12, none, .ext (.t 11) 0, []⟩,
     ⟨some 13, none, .ext (.t 11) 1, []⟩,
     ⟨some 2, none, .mv (.t 12), []⟩,
     ⟨some 3, none, .mv (.t 13), []⟩])
   .ret)))⟩
theorem F132_code : cfgA.code 132 = some F132 := by kernel_rfl

/-- ticketline/latch.NewAcquire -/
noncomputable def F133 : AFn := ⟨17, [.tmp 8, .tmp 9], (.seq
 (.ops 0 [⟨some 8, none, .mv (.c (.nilp)), []⟩,
   ⟨some 9, none, .mv (.c (.int .i64 0)), []⟩])
 (.seq
  (.ops 1 [⟨some 10, none, .mv (.t 0), []⟩,
    ⟨some 11, none, .mv (.t 1), []⟩,
    ⟨some 12, none, .mv (.t 2), []⟩,
    ⟨some 13, none, .mv (.t 3), []⟩,
    ⟨some 14, none, .call 169 [.t 10, .t 11, .t 12, .c (.int .i64 1), .t 13], []⟩,
    ⟨some 15, none, .ext (.t 14) 0, []⟩,
    ⟨some 16, none, .ext (.t 14) 1, []⟩,
    ⟨some 8, none, .mv (.t 15), []⟩,
    ⟨some 9, none, .mv (.t 16), []⟩])
  .ret))⟩
theorem F133_code : cfgA.code 133 = some F133 := by kernel_rfl

/-- (*ticketline/latch.Move).Result -/
noncomputable def F134 : AFn := ⟨16, [.tmp 2], (.seq
 (.ops 0 [⟨some 2, none, .mv (.c (.int .u64 0)), []⟩])
 (.seq
  (.seq
   (.ops 1 [⟨some 3, none, .mv (.t 0), []⟩,
     ⟨some 4, none, .eqn .ptr false (.t 3), []⟩,
     ⟨some 5, none, .mv (.t 4), []⟩,
     ⟨some 6, some (5, false), .mv (.t 0), []⟩,
     ⟨some 7, some (5, false), .nilc (.t 6) (mok Tryz.prog), []⟩,
     ⟨some 8, some (5, false), .fld 26 (.t 7), []⟩,
     ⟨some 9, some (5, false), .ld 1 false (.t 8), []⟩,
     ⟨some 10, some (5, false), .un .not (.t 9), []⟩,
     ⟨some 11, none, .pick (.t 5) (.c (.bool true)) (.t 10), []⟩])
   (.cond (.t 11)
    (.seq
     (.ops 2 [⟨some 2, none, .mv (.c (.int .u64 0)), []⟩])
     .ret)
    .skip))
  (.seq
   (.ops 3 [⟨some 12, none, .mv (.t 0), []⟩,
     ⟨some 13, none, .nilc (.t 12) (mok Tryz.prog), []⟩,
     ⟨some 14, none, .fld 25 (.t 13), []⟩,
     ⟨some 15, none, .ld 1 false (.t 14), []⟩,
     ⟨some 2, none, .mv (.t 15), []⟩])
   .ret)))⟩
theorem F134_code : cfgA.code 134 = some F134 := by kernel_rfl

/-- (*ticketline/mem.Mem).Load -/
noncomputable def F135 : AFn := ⟨18, [.tmp 4, .tmp 5], (.seq
 (.ops 0 [⟨some 4, none, .mv (.c (.int .u64 0)), []⟩,
   ⟨some 5, none, .mv (.c (.int .i64 0)), []⟩])
 (.seq
  (.ops 1 [⟨some 9, none, .mv (.t 0), []⟩,
    ⟨some 10, none, .mv (.t 1), []⟩,
    ⟨some 11, none, .build [.int .i64 0, .int .i64 0, .int .u64 0, .int .u64 0] [(0, 1, (.c (.int .i64 1))), (1, 1, (.t 10))], []⟩,
    ⟨some 12, none, .call 120 [.t 9, .t 11], []⟩,
    ⟨some 8, none, .mv (.t 12), []⟩,
    ⟨some 13, none, .ext (.t 8) 0, []⟩,
    ⟨some 14, none, .ext (.t 8) 1, []⟩,
    ⟨some 6, none, .alloc [.int .i64 0, .int .i64 0, .int .u64 0, .int .u64 0] false, []⟩,
    ⟨none, none, .st 4 (.t 6) (.t 13), []⟩,
    ⟨some 7, none, .mv (.t 14), []⟩])
  (.seq
   (.ops 2 [⟨some 15, none, .fld 2 (.t 6), []⟩,
     ⟨some 16, none, .ld 1 false (.t 15), []⟩,
     ⟨some 17, none, .mv (.t 7), []⟩,
     ⟨some 4, none, .mv (.t 16), []⟩,
     ⟨some 5, none, .mv (.t 17), []⟩])
   .ret)))⟩
theorem F135_code : cfgA.code 135 = some F135 := by kernel_rfl

/-- (*ticketline/mem.Mem).Words -/
noncomputable def F137 : AFn := ⟨36, [.tmp 6, .tmp 7], (.seq
 (.ops 0 [⟨some 6, none, .mv (.c (.nils)), []⟩,
   ⟨some 7, none, .mv (.c (.int .i64 0)), []⟩])
 (.seq
  (.block 0
   (.seq
    (.ops 1 [⟨some 9, none, .mv (.t 0), []⟩,
      ⟨some 10, none, .call 121 [.t 9], []⟩,
      ⟨some 8, none, .mv (.t 10), []⟩])
    (.cond (.t 8)
     (.seq
      (.ops 2 [⟨some 6, none, .mv (.c (.nils)), []⟩,
        ⟨some 7, none, .mv (.c (.int .i64 1)), []⟩])
      .ret)
     (.seq
      (.ops 3 [⟨some 12, none, .mv (.t 1), []⟩,
        ⟨some 13, none, .bin .lss (.t 12) (.c (.int .i64 0)), []⟩,
        ⟨some 14, none, .mv (.t 13), []⟩,
        ⟨some 15, some (14, false), .mv (.t 2), []⟩,
        ⟨some 16, some (14, false), .mv (.t 1), []⟩,
        ⟨some 17, some (14, false), .bin .lss (.t 15) (.t 16), []⟩,
        ⟨some 18, none, .pick (.t 14) (.c (.bool true)) (.t 17), []⟩,
        ⟨some 19, none, .mv (.t 18), []⟩,
        ⟨some 20, some (19, false), .mv (.t 2), []⟩,
        ⟨some 21, some (19, false), .mv (.t 0), []⟩,
        ⟨some 22, some (19, false), .nilc (.t 21) (mok Tryz.prog), []⟩,
        ⟨some 23, some (19, false), .fld 0 (.t 22), []⟩,
        ⟨some 24, some (19, false), .ld 1 false (.t 23), []⟩,
        ⟨some 25, some (19, false), .len .slice (.t 24), []⟩,
        ⟨some 26, some (19, false), .bin .gtr (.t 20) (.t 25), []⟩,
        ⟨some 27, none, .pick (.t 19) (.c (.bool true)) (.t 26), []⟩,
        ⟨some 11, none, .mv (.t 27), []⟩])
      (.cond (.t 11)
       (.seq
        (.ops 4 [⟨some 6, none, .mv (.c (.nils)), []⟩,
          ⟨some 7, none, .mv (.c (.int .i64 3)), []⟩])
        .ret)
       .skip)))))
  (.seq
   (.ops 5 [⟨some 28, none, .mv (.t 0), []⟩,
     ⟨some 29, none, .nilc (.t 28) (mok Tryz.prog), []⟩,
     ⟨some 30, none, .fld 0 (.t 29), []⟩,
     ⟨some 31, none, .ld 1 false (.t 30), []⟩,
     ⟨some 32, none, .mv (.t 1), []⟩,
     ⟨some 33, none, .mv (.t 2), []⟩,
     ⟨some 34, none, .slc none 1 (.t 31) (some (.t 32)) (some (.t 33)), []⟩,
     ⟨some 35, none, .call 139 [.t 34], []⟩,
     ⟨some 6, none, .mv (.t 35), []⟩,
     ⟨some 7, none, .mv (.c (.int .i64 0)), []⟩])
   .ret)))⟩
theorem F137_code : cfgA.code 137 = some F137 := by kernel_rfl

/-- ticketline/ticketlineref27.At -/
noncomputable def F138 : AFn := ⟨9, [.tmp 2], (.seq
 (.ops 0 [⟨some 2, none, .mv (.c (.int .i64 0)), []⟩])
 (.seq
  (.seq
   (.ops 1 [⟨some 3, none, .mv (.t 0), []⟩,
     ⟨some 4, none, .bin .eql (.t 3) (.c (.int .i64 0)), []⟩])
   (.cond (.t 4)
    (.seq
     (.ops 2 [⟨some 2, none, .mv (.c (.int .i64 8)), []⟩])
     .ret)
    .skip))
  (.seq
   (.ops 3 [⟨some 5, none, .mv (.t 0), []⟩,
     ⟨some 6, none, .bin .sub (.t 5) (.c (.int .i64 1)), []⟩,
     ⟨some 7, none, .bin .mul (.c (.int .i64 128)) (.t 6), []⟩,
     ⟨some 8, none, .bin .add (.c (.int .i64 16)) (.t 7), []⟩,
     ⟨some 2, none, .mv (.t 8), []⟩])
   .ret)))⟩
theorem F138_code : cfgA.code 138 = some F138 := by kernel_rfl

/-- slices.Clone[[]uint64,uint64] -/
noncomputable def F139 : AFn := ⟨8, [.tmp 2], (.seq
 (.ops 0 [⟨some 2, none, .mv (.c (.nils)), []⟩])
 (.seq
  (.seq
   (.ops 1 [⟨some 3, none, .mv (.t 0), []⟩,
     ⟨some 4, none, .eqn .slice false (.t 3), []⟩])
   (.cond (.t 4)
    (.seq
     (.ops 2 [⟨some 2, none, .mv (.c (.nils)), []⟩])
     .ret)
    .skip))
  (.seq
   (.ops 3 [⟨some 5, none, .bslice [.int .u64 0] 1 0 [] false false, []⟩,
     ⟨some 6, none, .mv (.t 0), []⟩,
     ⟨some 7, none, .app 1 8 (.t 5) (.t 6) true, []⟩,
     ⟨some 2, none, .mv (.t 7), []⟩])
   .ret)))⟩
theorem F139_code : cfgA.code 139 = some F139 := by kernel_rfl

/-- ticketline/fence.place -/
noncomputable def F140 : AFn := ⟨21, [.tmp 6], (.seq
 (.ops 0 [⟨some 6, none, .mv (.c (.int .i64 0)), []⟩])
 (.seq
  (.block 0
   (.seq
    (.ops 1 [⟨some 8, none, .mv (.t 2), []⟩,
      ⟨some 9, none, .mv (.t 0), []⟩,
      ⟨some 10, none, .call 149 [.t 8, .t 9], []⟩,
      ⟨some 11, none, .bin .lss (.t 10) (.c (.int .i64 0)), []⟩,
      ⟨some 7, none, .mv (.t 11), []⟩])
    (.cond (.t 7)
     (.seq
      (.ops 2 [⟨some 6, none, .mv (.c (.int .i64 (-1))), []⟩])
      .ret)
     (.seq
      (.ops 3 [⟨some 13, none, .mv (.t 1), []⟩,
        ⟨some 14, none, .bin .neq (.t 13) (.c (.str [])), []⟩,
        ⟨some 15, none, .mv (.t 14), []⟩,
        ⟨some 16, some (15, true), .mv (.t 2), []⟩,
        ⟨some 17, some (15, true), .mv (.t 1), []⟩,
        ⟨some 18, some (15, true), .call 149 [.t 16, .t 17], []⟩,
        ⟨some 19, some (15, true), .bin .geq (.t 18) (.c (.int .i64 0)), []⟩,
        ⟨some 20, none, .pick (.t 15) (.t 19) (.c (.bool false)), []⟩,
        ⟨some 12, none, .mv (.t 20), []⟩])
      (.cond (.t 12)
       (.seq
        (.ops 4 [⟨some 6, none, .mv (.c (.int .i64 1)), []⟩])
        .ret)
       .skip)))))
  (.seq
   (.ops 5 [⟨some 6, none, .mv (.c (.int .i64 0)), []⟩])
   .ret)))⟩
theorem F140_code : cfgA.code 140 = some F140 := by kernel_rfl

/-- ticketline/slot.Valid -/
noncomputable def F141 : AFn := ⟨10, [.tmp 2], (.seq
 (.ops 0 [⟨some 1, none, .box 128 (.t 0) false, []⟩,
   ⟨some 2, none, .mv (.c (.bool false)), []⟩])
 (.seq
  (.ops 1 [⟨some 6, none, .call 119 [.t 1], []⟩,
    ⟨some 5, none, .mv (.t 6), []⟩,
    ⟨some 7, none, .ext (.t 5) 0, []⟩,
    ⟨some 8, none, .ext (.t 5) 1, []⟩,
    ⟨some 3, none, .mv (.t 7), []⟩,
    ⟨some 4, none, .mv (.t 8), []⟩])
  (.seq
   (.ops 2 [⟨some 9, none, .mv (.t 4), []⟩,
     ⟨some 2, none, .mv (.t 9), []⟩])
   .ret)))⟩
theorem F141_code : cfgA.code 141 = some F141 := by kernel_rfl

/-- ticketline/slot.fence: the round 0 -/
noncomputable def B143x0 : AC := (.seq
 (.ops 6 [⟨some 35, none, .bin .lss (.t 34) (.t 33), []⟩])
 (.seq
  (.cond (.t 35)
   .skip
   (.exit 0))
  (.seq
   (.block 1
    (.seq
     (.ops 7 [⟨some 36, none, .ixa none 1 (.t 32) (.t 34), []⟩,
       ⟨some 37, none, .ld 1 false (.t 36), []⟩,
       ⟨some 9, none, .mv (.t 37), []⟩])
     (.seq
      (.ops 8 [⟨some 38, none, .mv (.t 9), []⟩,
        ⟨some 39, none, .bin .neq (.t 38) (.c (.int .u64 0)), []⟩])
      (.cond (.t 39)
       (.seq
        (.ops 9 [⟨some 4, none, .mv (.c (.str [])), []⟩,
          ⟨some 5, none, .mv (.c (.int .i64 12)), []⟩])
        .ret)
       .skip))))
   (.ops 10 [⟨some 40, none, .bin .add (.t 34) (.c (.int .i64 1)), []⟩,
     ⟨some 34, none, .mv (.t 40), []⟩]))))
/-- ticketline/slot.fence -/
noncomputable def F143 : AFn := ⟨51, [.tmp 4, .tmp 5], (.seq
 (.ops 0 [⟨some 4, none, .mv (.c (.str [])), []⟩,
   ⟨some 5, none, .mv (.c (.int .i64 0)), []⟩])
 (.seq
  (.seq
   (.ops 1 [⟨some 10, none, .mv (.t 0), []⟩,
     ⟨some 11, none, .mv (.t 1), []⟩,
     ⟨some 12, none, .nilc (.t 10) (mok Tryz.prog), []⟩,
     ⟨some 13, none, .ixa (some 128) 1 (.t 12) (.t 11), []⟩,
     ⟨some 14, none, .ld 1 false (.t 13), []⟩,
     ⟨some 15, none, .bin .gtr (.t 14) (.c (.int .u64 24)), []⟩])
   (.cond (.t 15)
    (.seq
     (.ops 2 [⟨some 4, none, .mv (.c (.str [])), []⟩,
       ⟨some 5, none, .mv (.c (.int .i64 12)), []⟩])
     .ret)
    .skip))
  (.seq
   (.ops 3 [⟨some 16, none, .mv (.t 0), []⟩,
     ⟨some 17, none, .mv (.t 1), []⟩,
     ⟨some 18, none, .nilc (.t 16) (mok Tryz.prog), []⟩,
     ⟨some 19, none, .ixa (some 128) 1 (.t 18) (.t 17), []⟩,
     ⟨some 20, none, .ld 1 false (.t 19), []⟩,
     ⟨some 21, none, .cvi .i64 (.t 20), []⟩,
     ⟨some 6, none, .mv (.t 21), []⟩])
   (.seq
    (.ops 4 [⟨some 22, none, .mv (.t 1), []⟩,
      ⟨some 23, none, .bin .add (.t 22) (.c (.int .i64 1)), []⟩,
      ⟨some 24, none, .mv (.t 6), []⟩,
      ⟨some 25, none, .call 173 [.t 24], []⟩,
      ⟨some 26, none, .bin .add (.t 23) (.t 25), []⟩,
      ⟨some 7, none, .mv (.t 26), []⟩])
    (.seq
     (.seq
      (.ops 5 [⟨some 27, none, .mv (.t 0), []⟩,
        ⟨some 28, none, .nilc (.t 27) (mok Tryz.prog), []⟩,
        ⟨some 29, none, .mv (.t 7), []⟩,
        ⟨some 30, none, .mv (.t 1), []⟩,
        ⟨some 31, none, .bin .add (.t 30) (.c (.int .i64 4)), []⟩,
        ⟨some 32, none, .slc (some 128) 1 (.t 28) (some (.t 29)) (some (.t 31)), []⟩,
        ⟨some 33, none, .len .slice (.t 32), []⟩,
        ⟨some 34, none, .mv (.c (.int .i64 0)), []⟩])
      (.block 0
       (.loop [] B143x0)))
     (.seq
      (.ops 11 [⟨some 41, none, .mv (.t 0), []⟩,
        ⟨some 42, none, .nilc (.t 41) (mok Tryz.prog), []⟩,
        ⟨some 43, none, .mv (.t 1), []⟩,
        ⟨some 44, none, .bin .add (.t 43) (.c (.int .i64 1)), []⟩,
        ⟨some 45, none, .mv (.t 7), []⟩,
        ⟨some 46, none, .slc (some 128) 1 (.t 42) (some (.t 44)) (some (.t 45)), []⟩,
        ⟨some 47, none, .mv (.t 6), []⟩,
        ⟨some 48, none, .call 174 [.t 46, .t 47], []⟩,
        ⟨some 49, none, .ext (.t 48) 0, []⟩,
        ⟨some 50, none, .ext (.t 48) 1, []⟩,
        ⟨some 4, none, .mv (.t 49), []⟩,
        ⟨some 5, none, .mv (.t 50), []⟩])
      .ret))))))⟩
theorem F143_code : cfgA.code 143 = some F143 := by kernel_rfl

/-- ticketline/version.wrong -/
noncomputable def F144 : AFn := ⟨43, [.tmp 6], (.seq
 (.ops 0 [⟨some 6, none, .mv (.c (.bool false)), []⟩])
 (.seq
  (.seq
   (.ops 1 [⟨some 7, none, .mv (.t 0), []⟩,
     ⟨some 8, none, .call 175 [.t 7], []⟩,
     ⟨some 9, none, .un .not (.t 8), []⟩,
     ⟨some 10, none, .mv (.t 9), []⟩,
     ⟨some 11, some (10, false), .mv (.t 2), []⟩,
     ⟨some 12, some (10, false), .bin .lss (.t 11) (.c (.int .i64 0)), []⟩,
     ⟨some 13, none, .pick (.t 10) (.c (.bool true)) (.t 12), []⟩,
     ⟨some 14, none, .mv (.t 13), []⟩,
     ⟨some 15, some (14, false), .mv (.t 2), []⟩,
     ⟨some 16, some (14, false), .bin .gtr (.t 15) (.c (.int .i64 256)), []⟩,
     ⟨some 17, none, .pick (.t 14) (.c (.bool true)) (.t 16), []⟩])
   (.cond (.t 17)
    (.seq
     (.ops 2 [⟨some 6, none, .mv (.c (.bool true)), []⟩])
     .ret)
    .skip))
  (.seq
   (.ops 3 [⟨some 18, none, .mv (.t 2), []⟩,
     ⟨some 19, none, .bin .gtr (.t 18) (.c (.int .i64 0)), []⟩,
     ⟨some 20, none, .mv (.t 19), []⟩,
     ⟨some 21, some (20, true), .mv (.t 1), []⟩,
     ⟨some 22, some (20, true), .call 175 [.t 21], []⟩,
     ⟨some 23, some (20, true), .un .not (.t 22), []⟩,
     ⟨some 24, some (20, true), .mv (.t 23), []⟩,
     ⟨some 25, some (24, false), .mv (.t 1), []⟩,
     ⟨some 26, some (24, false), .mv (.t 2), []⟩,
     ⟨some 27, some (24, false), .bin .sub (.c (.int .i64 65536)) (.t 26), []⟩,
     ⟨some 28, some (24, false), .bin .gtr (.t 25) (.t 27), []⟩,
     ⟨some 29, some (20, true), .pick (.t 24) (.c (.bool true)) (.t 28), []⟩,
     ⟨some 30, some (20, true), .mv (.t 29), []⟩,
     ⟨some 31, some (30, false), .mv (.t 0), []⟩,
     ⟨some 32, some (30, false), .mv (.t 1), []⟩,
     ⟨some 33, some (30, false), .bin .geq (.t 31) (.t 32), []⟩,
     ⟨some 34, some (30, false), .mv (.t 33), []⟩,
     ⟨some 35, some (34, true), .mv (.t 0), []⟩,
     ⟨some 36, some (34, true), .mv (.t 1), []⟩,
     ⟨some 37, some (34, true), .mv (.t 2), []⟩,
     ⟨some 38, some (34, true), .bin .add (.t 36) (.t 37), []⟩,
     ⟨some 39, some (34, true), .bin .lss (.t 35) (.t 38), []⟩,
     ⟨some 40, some (30, false), .pick (.t 34) (.t 39) (.c (.bool false)), []⟩,
     ⟨some 41, some (20, true), .pick (.t 30) (.c (.bool true)) (.t 40), []⟩,
     ⟨some 42, none, .pick (.t 20) (.t 41) (.c (.bool false)), []⟩,
     ⟨some 6, none, .mv (.t 42), []⟩])
   .ret)))⟩
theorem F144_code : cfgA.code 144 = some F144 := by kernel_rfl

/-- ticketline/descend.nodes -/
noncomputable def F145 : AFn := ⟨7, [.tmp 2], (.seq
 (.ops 0 [⟨some 1, none, .box 2 (.t 0) false, []⟩,
   ⟨some 2, none, .mv (.c (.int .i64 0)), []⟩])
 (.seq
  (.ops 1 [⟨some 3, none, .fld 0 (.t 1), []⟩,
    ⟨some 4, none, .ld 1 false (.t 3), []⟩,
    ⟨some 5, none, .bin .mul (.c (.int .i64 128)) (.t 4), []⟩,
    ⟨some 6, none, .bin .add (.c (.int .i64 16)) (.t 5), []⟩,
    ⟨some 2, none, .mv (.t 6), []⟩])
  .ret))⟩
theorem F145_code : cfgA.code 145 = some F145 := by kernel_rfl

/-- ticketline/arena.place -/
noncomputable def F146 : AFn := ⟨11, [.tmp 4], (.seq
 (.ops 0 [⟨some 4, none, .mv (.c (.int .i64 0)), []⟩])
 (.seq
  (.ops 1 [⟨some 5, none, .mv (.t 0), []⟩,
    ⟨some 6, none, .bin .sub (.t 5) (.c (.int .i64 1)), []⟩,
    ⟨some 7, none, .bin .mul (.c (.int .i64 128)) (.t 6), []⟩,
    ⟨some 8, none, .bin .add (.c (.int .i64 16)) (.t 7), []⟩,
    ⟨some 9, none, .mv (.t 1), []⟩,
    ⟨some 10, none, .bin .add (.t 8) (.t 9), []⟩,
    ⟨some 4, none, .mv (.t 10), []⟩])
  .ret))⟩
theorem F146_code : cfgA.code 146 = some F146 := by kernel_rfl

/-- (*ticketline/mem.Mem).Copy -/
noncomputable def F147 : AFn := ⟨12, [.tmp 2], (.seq
 (.ops 0 [⟨some 2, none, .mv (.c (.nilp)), []⟩])
 (.seq
  (.seq
   (.ops 1 [⟨some 3, none, .mv (.t 0), []⟩,
     ⟨some 4, none, .call 121 [.t 3], []⟩])
   (.cond (.t 4)
    (.seq
     (.ops 2 [⟨some 2, none, .mv (.c (.nilp)), []⟩])
     .ret)
    .skip))
  (.seq
   (.ops 3 [⟨some 5, none, .mv (.t 0), []⟩,
     ⟨some 6, none, .nilc (.t 5) (mok Tryz.prog), []⟩,
     ⟨some 7, none, .fld 0 (.t 6), []⟩,
     ⟨some 8, none, .ld 1 false (.t 7), []⟩,
     ⟨some 9, none, .call 139 [.t 8], []⟩,
     ⟨some 10, none, .build [.nils] [(0, 1, (.t 9))], []⟩,
     ⟨some 11, none, .box 1 (.t 10) true, []⟩,
     ⟨some 2, none, .mv (.t 11), []⟩])
   .ret)))⟩
theorem F147_code : cfgA.code 147 = some F147 := by kernel_rfl

/-- (ticketline/arena.words).set -/
noncomputable def F148 : AFn := ⟨11, [], (.seq
 (.ops 0 [⟨some 3, none, .box 1 (.t 0) false, []⟩])
 (.ops 1 [⟨some 6, none, .fld 0 (.t 3), []⟩,
   ⟨some 7, none, .ld 1 false (.t 6), []⟩,
   ⟨some 8, none, .mv (.t 1), []⟩,
   ⟨some 9, none, .mv (.t 2), []⟩,
   ⟨some 10, none, .call 62 [.t 7, .t 8, .t 9], []⟩]))⟩
theorem F148_code : cfgA.code 148 = some F148 := by kernel_rfl

/-- ticketline/keys.Compare -/
noncomputable def F149 : AFn := ⟨8, [.tmp 4], (.seq
 (.ops 0 [⟨some 4, none, .mv (.c (.int .i64 0)), []⟩])
 (.seq
  (.ops 1 [⟨some 5, none, .mv (.t 0), []⟩,
    ⟨some 6, none, .mv (.t 1), []⟩,
    ⟨some 7, none, .call 176 [.t 5, .t 6], []⟩,
    ⟨some 4, none, .mv (.t 7), []⟩])
  .ret))⟩
theorem F149_code : cfgA.code 149 = some F149 := by kernel_rfl

/-- ticketline/slot.setFence -/
noncomputable def F150 : AFn := ⟨33, [.tmp 6], (.seq
 (.ops 0 [⟨some 6, none, .mv (.c (.int .i64 0)), []⟩])
 (.seq
  (.ops 1 [⟨some 10, none, .mv (.t 2), []⟩,
    ⟨some 11, none, .call 177 [.t 10], []⟩,
    ⟨some 9, none, .mv (.t 11), []⟩,
    ⟨some 12, none, .ext (.t 9) 0, []⟩,
    ⟨some 13, none, .ext (.t 9) 1, []⟩,
    ⟨some 7, none, .mv (.t 12), []⟩,
    ⟨some 8, none, .mv (.t 13), []⟩])
  (.seq
   (.seq
    (.ops 2 [⟨some 14, none, .mv (.t 8), []⟩,
      ⟨some 15, none, .bin .neq (.t 14) (.c (.int .i64 0)), []⟩])
    (.cond (.t 15)
     (.seq
      (.ops 3 [⟨some 16, none, .mv (.t 8), []⟩,
        ⟨some 6, none, .mv (.t 16), []⟩])
      .ret)
     .skip))
   (.seq
    (.ops 4 [⟨some 17, none, .mv (.t 0), []⟩,
      ⟨some 18, none, .mv (.t 1), []⟩,
      ⟨some 19, none, .mv (.t 2), []⟩,
      ⟨some 20, none, .len .string (.t 19), []⟩,
      ⟨some 21, none, .cvi .u64 (.t 20), []⟩,
      ⟨some 22, none, .nilc (.t 17) (mok Tryz.prog), []⟩,
      ⟨some 23, none, .ixa (some 128) 1 (.t 22) (.t 18), []⟩,
      ⟨none, none, .st 1 (.t 23) (.t 21), []⟩])
    (.seq
     (.ops 5 [⟨some 24, none, .mv (.t 0), []⟩,
       ⟨some 25, none, .nilc (.t 24) (mok Tryz.prog), []⟩,
       ⟨some 26, none, .mv (.t 1), []⟩,
       ⟨some 27, none, .bin .add (.t 26) (.c (.int .i64 1)), []⟩,
       ⟨some 28, none, .mv (.t 1), []⟩,
       ⟨some 29, none, .bin .add (.t 28) (.c (.int .i64 4)), []⟩,
       ⟨some 30, none, .slc (some 128) 1 (.t 25) (some (.t 27)) (some (.t 29)), []⟩,
       ⟨some 31, none, .mv (.t 7), []⟩,
       ⟨some 32, none, .cpy 1 (.t 30) (.t 31), []⟩])
     (.seq
      (.ops 6 [⟨some 6, none, .mv (.c (.int .i64 0)), []⟩])
      .ret))))))⟩
theorem F150_code : cfgA.code 150 = some F150 := by kernel_rfl

/-- (*ticketline/arena.Arena).none -/
noncomputable def F151 : AFn := ⟨13, [.tmp 2], (.seq
 (.ops 0 [⟨some 2, none, .mv (.c (.bool false)), []⟩])
 (.seq
  (.ops 1 [⟨some 3, none, .mv (.t 0), []⟩,
    ⟨some 4, none, .eqn .ptr false (.t 3), []⟩,
    ⟨some 5, none, .mv (.t 4), []⟩,
    ⟨some 6, some (5, false), .mv (.t 0), []⟩,
    ⟨some 7, some (5, false), .nilc (.t 6) (mok Tryz.prog), []⟩,
    ⟨some 8, some (5, false), .fld 0 (.t 7), []⟩,
    ⟨some 9, some (5, false), .fld 0 (.t 8), []⟩,
    ⟨some 10, some (5, false), .ld 1 false (.t 9), []⟩,
    ⟨some 11, some (5, false), .eqn .ptr false (.t 10), []⟩,
    ⟨some 12, none, .pick (.t 5) (.c (.bool true)) (.t 11), []⟩,
    ⟨some 2, none, .mv (.t 12), []⟩])
  .ret))⟩
theorem F151_code : cfgA.code 151 = some F151 := by kernel_rfl

/-- (ticketline/arena.words).get -/
noncomputable def F152 : AFn := ⟨15, [.tmp 4], (.seq
 (.ops 0 [⟨some 2, none, .box 1 (.t 0) false, []⟩,
   ⟨some 4, none, .mv (.c (.int .u64 0)), []⟩])
 (.seq
  (.ops 1 [⟨some 8, none, .fld 0 (.t 2), []⟩,
    ⟨some 9, none, .ld 1 false (.t 8), []⟩,
    ⟨some 10, none, .mv (.t 1), []⟩,
    ⟨some 11, none, .call 135 [.t 9, .t 10], []⟩,
    ⟨some 7, none, .mv (.t 11), []⟩,
    ⟨some 12, none, .ext (.t 7) 0, []⟩,
    ⟨some 13, none, .ext (.t 7) 1, []⟩,
    ⟨some 5, none, .mv (.t 12), []⟩,
    ⟨some 6, none, .mv (.t 13), []⟩])
  (.seq
   (.ops 2 [⟨some 14, none, .mv (.t 5), []⟩,
     ⟨some 4, none, .mv (.t 14), []⟩])
   .ret)))⟩
theorem F152_code : cfgA.code 152 = some F152 := by kernel_rfl

/-- (*ticketline/arena.Arena).put: the round 0 -/
noncomputable def B153x0 : AC := (.seq
 (.seq
  (.ops 2 [⟨some 7, none, .mv (.t 6), []⟩,
    ⟨some 8, none, .bin .lss (.t 7) (.c (.int .i64 128)), []⟩])
  (.cond (.t 8)
   .skip
   (.exit 0)))
 (.seq
  (.block 1
   (.ops 4 [⟨some 11, none, .mv (.t 0), []⟩,
     ⟨some 12, none, .nilc (.t 11) (mok Tryz.prog), []⟩,
     ⟨some 13, none, .fld 0 (.t 12), []⟩,
     ⟨some 14, none, .ld 1 true (.t 13), []⟩,
     ⟨some 15, none, .mv (.t 1), []⟩,
     ⟨some 16, none, .mv (.t 6), []⟩,
     ⟨some 18, none, .mv (.t 6), []⟩,
     ⟨some 19, none, .ixa (some 128) 1 (.t 5) (.t 18), []⟩,
     ⟨some 20, none, .ld 1 false (.t 19), []⟩,
     ⟨some 17, none, .call 146 [.t 15, .t 16], [(14, .ld 1 true (.t 13)), (20, .ld 1 false (.t 19))]⟩,
     ⟨some 21, none, .call 148 [.t 14, .t 17, .t 20], []⟩]))
  (.ops 3 [⟨some 9, none, .mv (.t 6), []⟩,
    ⟨some 10, none, .bin .add (.t 9) (.c (.int .i64 1)), []⟩,
    ⟨some 6, none, .mv (.t 10), []⟩])))
/-- (*ticketline/arena.Arena).put -/
noncomputable def F153 : AFn := ⟨22, [], (.seq
 (.ops 0 [⟨some 5, none, .box 128 (.t 2) false, []⟩])
 (.seq
  (.ops 1 [⟨some 6, none, .mv (.c (.int .i64 8)), []⟩])
  (.block 0
   (.loop [] B153x0))))⟩
theorem F153_code : cfgA.code 153 = some F153 := by kernel_rfl

/-- (*ticketline/arena.Arena).busy -/
noncomputable def F154 : AFn := ⟨28, [.tmp 6], (.seq
 (.ops 0 [⟨some 6, none, .mv (.c (.int .i64 0)), []⟩])
 (.seq
  (.ops 1 [⟨some 8, none, .mv (.t 0), []⟩,
    ⟨some 9, none, .mv (.t 1), []⟩,
    ⟨some 10, none, .call 178 [.t 8, .t 9], []⟩,
    ⟨some 7, none, .mv (.t 10), []⟩])
  (.seq
   (.block 0
    (.seq
     (.ops 2 [⟨some 12, none, .mv (.t 7), []⟩,
       ⟨some 13, none, .bin .neq (.t 12) (.c (.int .i64 0)), []⟩,
       ⟨some 11, none, .mv (.t 13), []⟩])
     (.cond (.t 11)
      (.seq
       (.ops 3 [⟨some 14, none, .mv (.t 7), []⟩,
         ⟨some 6, none, .mv (.t 14), []⟩])
       .ret)
      (.seq
       (.ops 4 [⟨some 16, none, .mv (.t 0), []⟩,
         ⟨some 17, none, .mv (.t 1), []⟩,
         ⟨some 18, none, .call 179 [.t 16, .t 17], []⟩,
         ⟨some 19, none, .un .not (.t 18), []⟩,
         ⟨some 15, none, .mv (.t 19), []⟩])
       (.cond (.t 15)
        (.seq
         (.ops 5 [⟨some 6, none, .mv (.c (.int .i64 8)), []⟩])
         .ret)
        (.seq
         (.ops 6 [⟨some 21, none, .mv (.t 2), []⟩,
           ⟨some 22, none, .mv (.t 21), []⟩,
           ⟨some 23, some (22, true), .mv (.t 0), []⟩,
           ⟨some 24, some (22, true), .call 180 [.t 23], []⟩,
           ⟨some 25, some (22, true), .mv (.t 1), []⟩,
           ⟨some 26, some (22, true), .bin .eql (.t 24) (.t 25), []⟩,
           ⟨some 27, none, .pick (.t 22) (.t 26) (.c (.bool false)), []⟩,
           ⟨some 20, none, .mv (.t 27), []⟩])
         (.cond (.t 20)
          (.seq
           (.ops 7 [⟨some 6, none, .mv (.c (.int .i64 11)), []⟩])
           .ret)
          .skip)))))))
   (.seq
    (.ops 8 [⟨some 6, none, .mv (.c (.int .i64 0)), []⟩])
    .ret))))⟩
theorem F154_code : cfgA.code 154 = some F154 := by kernel_rfl

/-- (*ticketline/mem.Once).zero -/
noncomputable def F155 : AFn := ⟨12, [.tmp 2], (.seq
 (.ops 0 [⟨some 2, none, .mv (.c (.bool false)), []⟩])
 (.seq
  (.ops 1 [⟨some 3, none, .mv (.t 0), []⟩,
    ⟨some 4, none, .eqn .ptr false (.t 3), []⟩,
    ⟨some 5, none, .mv (.t 4), []⟩,
    ⟨some 6, some (5, false), .mv (.t 0), []⟩,
    ⟨some 7, some (5, false), .nilc (.t 6) (mok Tryz.prog), []⟩,
    ⟨some 8, some (5, false), .fld 0 (.t 7), []⟩,
    ⟨some 9, some (5, false), .ld 1 false (.t 8), []⟩,
    ⟨some 10, some (5, false), .eqn .ptr false (.t 9), []⟩,
    ⟨some 11, none, .pick (.t 5) (.c (.bool true)) (.t 10), []⟩,
    ⟨some 2, none, .mv (.t 11), []⟩])
  .ret))⟩
theorem F155_code : cfgA.code 155 = some F155 := by kernel_rfl

/-- ticketline/slot.head -/
noncomputable def F156 : AFn := ⟨68, [.tmp 2], (.seq
 (.ops 0 [⟨some 2, none, .mv (.c (.bool false)), []⟩])
 (.seq
  (.seq
   (.ops 1 [⟨some 7, none, .mv (.t 0), []⟩,
     ⟨some 8, none, .nilc (.t 7) (mok Tryz.prog), []⟩,
     ⟨some 9, none, .ixa (some 128) 1 (.t 8) (.c (.int .i64 8)), []⟩,
     ⟨some 10, none, .ld 1 false (.t 9), []⟩,
     ⟨some 11, none, .bin .lss (.t 10) (.c (.int .u64 1)), []⟩,
     ⟨some 12, none, .mv (.t 11), []⟩,
     ⟨some 13, some (12, false), .mv (.t 0), []⟩,
     ⟨some 14, some (12, false), .nilc (.t 13) (mok Tryz.prog), []⟩,
     ⟨some 15, some (12, false), .ixa (some 128) 1 (.t 14) (.c (.int .i64 8)), []⟩,
     ⟨some 16, some (12, false), .ld 1 false (.t 15), []⟩,
     ⟨some 17, some (12, false), .bin .gtr (.t 16) (.c (.int .u64 6)), []⟩,
     ⟨some 18, none, .pick (.t 12) (.c (.bool true)) (.t 17), []⟩,
     ⟨some 19, none, .mv (.t 18), []⟩,
     ⟨some 20, some (19, false), .mv (.t 0), []⟩,
     ⟨some 21, some (19, false), .nilc (.t 20) (mok Tryz.prog), []⟩,
     ⟨some 22, some (19, false), .ixa (some 128) 1 (.t 21) (.c (.int .i64 9)), []⟩,
     ⟨some 23, some (19, false), .ld 1 false (.t 22), []⟩,
     ⟨some 24, some (19, false), .bin .gtr (.t 23) (.c (.int .u64 108)), []⟩,
     ⟨some 25, none, .pick (.t 19) (.c (.bool true)) (.t 24), []⟩,
     ⟨some 26, none, .mv (.t 25), []⟩,
     ⟨some 27, some (26, false), .mv (.t 0), []⟩,
     ⟨some 28, some (26, false), .nilc (.t 27) (mok Tryz.prog), []⟩,
     ⟨some 29, some (26, false), .ixa (some 128) 1 (.t 28) (.c (.int .i64 10)), []⟩,
     ⟨some 30, some (26, false), .ld 1 false (.t 29), []⟩,
     ⟨some 31, some (26, false), .bin .gtr (.t 30) (.c (.int .u64 511)), []⟩,
     ⟨some 32, none, .pick (.t 26) (.c (.bool true)) (.t 31), []⟩,
     ⟨some 33, none, .mv (.t 32), []⟩,
     ⟨some 34, some (33, false), .mv (.t 0), []⟩,
     ⟨some 35, some (33, false), .nilc (.t 34) (mok Tryz.prog), []⟩,
     ⟨some 36, some (33, false), .ixa (some 128) 1 (.t 35) (.c (.int .i64 11)), []⟩,
     ⟨some 37, some (33, false), .ld 1 false (.t 36), []⟩,
     ⟨some 38, some (33, false), .bin .gtr (.t 37) (.c (.int .u64 128)), []⟩,
     ⟨some 39, none, .pick (.t 33) (.c (.bool true)) (.t 38), []⟩,
     ⟨some 40, none, .mv (.t 39), []⟩,
     ⟨some 41, some (40, false), .mv (.t 0), []⟩,
     ⟨some 42, some (40, false), .nilc (.t 41) (mok Tryz.prog), []⟩,
     ⟨some 43, some (40, false), .ixa (some 128) 1 (.t 42) (.c (.int .i64 11)), []⟩,
     ⟨some 44, some (40, false), .ld 1 false (.t 43), []⟩,
     ⟨some 45, some (40, false), .mv (.t 0), []⟩,
     ⟨some 46, some (40, false), .nilc (.t 45) (mok Tryz.prog), []⟩,
     ⟨some 47, some (40, false), .ixa (some 128) 1 (.t 46) (.c (.int .i64 9)), []⟩,
     ⟨some 48, some (40, false), .ld 1 false (.t 47), []⟩,
     ⟨some 49, some (40, false), .bin .add (.c (.int .u64 20)) (.t 48), []⟩,
     ⟨some 50, some (40, false), .bin .lss (.t 44) (.t 49), []⟩,
     ⟨some 51, none, .pick (.t 40) (.c (.bool true)) (.t 50), []⟩])
   (.cond (.t 51)
    (.seq
     (.ops 2 [⟨some 2, none, .mv (.c (.bool false)), []⟩])
     .ret)
    .skip))
  (.seq
   (.ops 3 [⟨some 53, none, .mv (.t 0), []⟩,
     ⟨some 54, none, .call 143 [.t 53, .c (.int .i64 12)], []⟩,
     ⟨some 52, none, .mv (.t 54), []⟩,
     ⟨some 55, none, .ext (.t 52) 0, []⟩,
     ⟨some 56, none, .ext (.t 52) 1, []⟩,
     ⟨some 3, none, .mv (.t 55), []⟩,
     ⟨some 4, none, .mv (.t 56), []⟩])
   (.seq
    (.ops 4 [⟨some 58, none, .mv (.t 0), []⟩,
      ⟨some 59, none, .call 143 [.t 58, .c (.int .i64 16)], []⟩,
      ⟨some 57, none, .mv (.t 59), []⟩,
      ⟨some 60, none, .ext (.t 57) 0, []⟩,
      ⟨some 61, none, .ext (.t 57) 1, []⟩,
      ⟨some 5, none, .mv (.t 60), []⟩,
      ⟨some 6, none, .mv (.t 61), []⟩])
    (.seq
     (.ops 5 [⟨some 62, none, .mv (.t 4), []⟩,
       ⟨some 63, none, .bin .eql (.t 62) (.c (.int .i64 0)), []⟩,
       ⟨some 64, none, .mv (.t 63), []⟩,
       ⟨some 65, some (64, true), .mv (.t 6), []⟩,
       ⟨some 66, some (64, true), .bin .eql (.t 65) (.c (.int .i64 0)), []⟩,
       ⟨some 67, none, .pick (.t 64) (.t 66) (.c (.bool false)), []⟩,
       ⟨some 2, none, .mv (.t 67), []⟩])
     .ret)))))⟩
theorem F156_code : cfgA.code 156 = some F156 := by kernel_rfl

/-- (*ticketline/qnode.Nodes).Of -/
noncomputable def F160 : AFn := ⟨34, [.tmp 6, .tmp 7], (.seq
 (.ops 0 [⟨some 6, none, .mv (.c (.int .i64 0)), []⟩,
   ⟨some 7, none, .mv (.c (.int .i64 0)), []⟩])
 (.seq
  (.block 0
   (.seq
    (.ops 1 [⟨some 9, none, .mv (.t 0), []⟩,
      ⟨some 10, none, .call 181 [.t 9], []⟩,
      ⟨some 8, none, .mv (.t 10), []⟩])
    (.cond (.t 8)
     (.seq
      (.ops 2 [⟨some 6, none, .mv (.c (.int .i64 0)), []⟩,
        ⟨some 7, none, .mv (.c (.int .i64 1)), []⟩])
      .ret)
     (.seq
      (.ops 3 [⟨some 12, none, .mv (.t 1), []⟩,
        ⟨some 13, none, .bin .lss (.t 12) (.c (.int .i64 0)), []⟩,
        ⟨some 14, none, .mv (.t 13), []⟩,
        ⟨some 15, some (14, false), .mv (.t 1), []⟩,
        ⟨some 16, some (14, false), .mv (.t 0), []⟩,
        ⟨some 17, some (14, false), .nilc (.t 16) (mok Tryz.prog), []⟩,
        ⟨some 18, some (14, false), .fld 1 (.t 17), []⟩,
        ⟨some 19, some (14, false), .ld 1 false (.t 18), []⟩,
        ⟨some 20, some (14, false), .bin .geq (.t 15) (.t 19), []⟩,
        ⟨some 21, none, .pick (.t 14) (.c (.bool true)) (.t 20), []⟩,
        ⟨some 22, none, .mv (.t 21), []⟩,
        ⟨some 23, some (22, false), .mv (.t 2), []⟩,
        ⟨some 24, some (22, false), .bin .neq (.t 23) (.c (.int .i64 0)), []⟩,
        ⟨some 25, some (22, false), .mv (.t 24), []⟩,
        ⟨some 26, some (25, true), .mv (.t 2), []⟩,
        ⟨some 27, some (25, true), .bin .neq (.t 26) (.c (.int .i64 1)), []⟩,
        ⟨some 28, some (22, false), .pick (.t 25) (.t 27) (.c (.bool false)), []⟩,
        ⟨some 29, none, .pick (.t 22) (.c (.bool true)) (.t 28), []⟩,
        ⟨some 11, none, .mv (.t 29), []⟩])
      (.cond (.t 11)
       (.seq
        (.ops 4 [⟨some 6, none, .mv (.c (.int .i64 0)), []⟩,
          ⟨some 7, none, .mv (.c (.int .i64 2)), []⟩])
        .ret)
       .skip)))))
  (.seq
   (.ops 5 [⟨some 30, none, .mv (.t 1), []⟩,
     ⟨some 31, none, .bin .mul (.t 30) (.c (.int .i64 2)), []⟩,
     ⟨some 32, none, .mv (.t 2), []⟩,
     ⟨some 33, none, .bin .add (.t 31) (.t 32), []⟩,
     ⟨some 6, none, .mv (.t 33), []⟩,
     ⟨some 7, none, .mv (.c (.int .i64 0)), []⟩])
   .ret)))⟩
theorem F160_code : cfgA.code 160 = some F160 := by kernel_rfl

/-- ticketline/mcs.NewRelease -/
noncomputable def F161 : AFn := ⟨23, [.tmp 6, .tmp 7], (.seq
 (.ops 0 [⟨some 6, none, .mv (.c (.nilp)), []⟩,
   ⟨some 7, none, .mv (.c (.int .i64 0)), []⟩])
 (.seq
  (.ops 1 [⟨some 11, none, .mv (.t 0), []⟩,
    ⟨some 12, none, .mv (.t 1), []⟩,
    ⟨some 13, none, .mv (.t 2), []⟩,
    ⟨some 14, none, .call 182 [.t 11, .t 12, .t 13], []⟩,
    ⟨some 10, none, .mv (.t 14), []⟩,
    ⟨some 15, none, .ext (.t 10) 0, []⟩,
    ⟨some 16, none, .ext (.t 10) 1, []⟩,
    ⟨some 8, none, .alloc [.nilp, .int .i64 0, .int .i64 0, .int .i64 0, .int .u64 0, .bool false] false, []⟩,
    ⟨none, none, .st 6 (.t 8) (.t 15), []⟩,
    ⟨some 9, none, .mv (.t 16), []⟩])
  (.seq
   (.seq
    (.ops 2 [⟨some 17, none, .mv (.t 9), []⟩,
      ⟨some 18, none, .bin .neq (.t 17) (.c (.int .i64 0)), []⟩])
    (.cond (.t 18)
     (.seq
      (.ops 3 [⟨some 19, none, .mv (.t 9), []⟩,
        ⟨some 6, none, .mv (.c (.nilp)), []⟩,
        ⟨some 7, none, .mv (.t 19), []⟩])
      .ret)
     .skip))
   (.seq
    (.ops 4 [⟨some 20, none, .ld 6 true (.t 8), []⟩,
      ⟨some 21, none, .build [.nilp, .int .i64 0, .int .i64 0, .int .i64 0, .int .u64 0, .bool false] [(0, 6, (.t 20))], []⟩,
      ⟨some 22, none, .box 6 (.t 21) true, []⟩,
      ⟨some 6, none, .mv (.t 22), []⟩,
      ⟨some 7, none, .mv (.c (.int .i64 0)), []⟩])
    .ret))))⟩
theorem F161_code : cfgA.code 161 = some F161 := by kernel_rfl

/-- ticketline/mcs.NewAcquire -/
noncomputable def F163 : AFn := ⟨23, [.tmp 6, .tmp 7], (.seq
 (.ops 0 [⟨some 6, none, .mv (.c (.nilp)), []⟩,
   ⟨some 7, none, .mv (.c (.int .i64 0)), []⟩])
 (.seq
  (.ops 1 [⟨some 11, none, .mv (.t 0), []⟩,
    ⟨some 12, none, .mv (.t 1), []⟩,
    ⟨some 13, none, .mv (.t 2), []⟩,
    ⟨some 14, none, .call 182 [.t 11, .t 12, .t 13], []⟩,
    ⟨some 10, none, .mv (.t 14), []⟩,
    ⟨some 15, none, .ext (.t 10) 0, []⟩,
    ⟨some 16, none, .ext (.t 10) 1, []⟩,
    ⟨some 8, none, .alloc [.nilp, .int .i64 0, .int .i64 0, .int .i64 0, .int .u64 0, .bool false] false, []⟩,
    ⟨none, none, .st 6 (.t 8) (.t 15), []⟩,
    ⟨some 9, none, .mv (.t 16), []⟩])
  (.seq
   (.seq
    (.ops 2 [⟨some 17, none, .mv (.t 9), []⟩,
      ⟨some 18, none, .bin .neq (.t 17) (.c (.int .i64 0)), []⟩])
    (.cond (.t 18)
     (.seq
      (.ops 3 [⟨some 19, none, .mv (.t 9), []⟩,
        ⟨some 6, none, .mv (.c (.nilp)), []⟩,
        ⟨some 7, none, .mv (.t 19), []⟩])
      .ret)
     .skip))
   (.seq
    (.ops 4 [⟨some 20, none, .ld 6 true (.t 8), []⟩,
      ⟨some 21, none, .build [.nilp, .int .i64 0, .int .i64 0, .int .i64 0, .int .u64 0, .bool false] [(0, 6, (.t 20))], []⟩,
      ⟨some 22, none, .box 6 (.t 21) true, []⟩,
      ⟨some 6, none, .mv (.t 22), []⟩,
      ⟨some 7, none, .mv (.c (.int .i64 0)), []⟩])
    .ret))))⟩
theorem F163_code : cfgA.code 163 = some F163 := by kernel_rfl

/-- ticketline/grow.allowed -/
noncomputable def F164 : AFn := ⟨27, [.tmp 6], (.seq
 (.ops 0 [⟨some 3, none, .box 2 (.t 0) false, []⟩,
   ⟨some 6, none, .mv (.c (.bool false)), []⟩])
 (.seq
  (.ops 1 [⟨some 10, none, .ld 2 true (.t 3), []⟩,
    ⟨some 11, none, .mv (.t 2), []⟩,
    ⟨some 12, none, .call 111 [.t 10, .t 11], []⟩,
    ⟨some 9, none, .mv (.t 12), []⟩,
    ⟨some 13, none, .ext (.t 9) 0, []⟩,
    ⟨some 14, none, .ext (.t 9) 1, []⟩,
    ⟨some 7, none, .mv (.t 13), []⟩,
    ⟨some 8, none, .mv (.t 14), []⟩])
  (.seq
   (.ops 2 [⟨some 15, none, .mv (.t 8), []⟩,
     ⟨some 16, none, .bin .eql (.t 15) (.c (.int .i64 0)), []⟩,
     ⟨some 17, none, .mv (.t 16), []⟩,
     ⟨some 18, some (17, true), .mv (.t 1), []⟩,
     ⟨some 19, some (17, true), .bin .geq (.t 18) (.c (.int .i64 0)), []⟩,
     ⟨some 20, none, .pick (.t 17) (.t 19) (.c (.bool false)), []⟩,
     ⟨some 21, none, .mv (.t 20), []⟩,
     ⟨some 22, some (21, true), .mv (.t 1), []⟩,
     ⟨some 23, some (21, true), .fld 1 (.t 3), []⟩,
     ⟨some 24, some (21, true), .ld 1 false (.t 23), []⟩,
     ⟨some 25, some (21, true), .bin .lss (.t 22) (.t 24), []⟩,
     ⟨some 26, none, .pick (.t 21) (.t 25) (.c (.bool false)), []⟩,
     ⟨some 6, none, .mv (.t 26), []⟩])
   .ret)))⟩
theorem F164_code : cfgA.code 164 = some F164 := by kernel_rfl

/-- ticketline/grow.lock -/
noncomputable def F165 : AFn := ⟨30, [.tmp 4], (.seq
 (.ops 0 [⟨some 2, none, .box 2 (.t 0) false, []⟩,
   ⟨some 4, none, .mv (.c (.nili)), []⟩])
 (.seq
  (.ops 1 [⟨some 12, none, .ld 2 true (.t 2), []⟩,
    ⟨some 13, none, .call 132 [.t 12], []⟩,
    ⟨some 11, none, .mv (.t 13), []⟩,
    ⟨some 14, none, .ext (.t 11) 0, []⟩,
    ⟨some 15, none, .ext (.t 11) 1, []⟩,
    ⟨some 5, none, .mv (.t 14), []⟩,
    ⟨some 6, none, .mv (.t 15), []⟩])
  (.seq
   (.ops 2 [⟨some 17, none, .mv (.t 5), []⟩,
     ⟨some 18, none, .mv (.t 1), []⟩,
     ⟨some 19, none, .call 160 [.t 17, .t 18, .c (.int .i64 0)], []⟩,
     ⟨some 16, none, .mv (.t 19), []⟩,
     ⟨some 20, none, .ext (.t 16) 0, []⟩,
     ⟨some 21, none, .ext (.t 16) 1, []⟩,
     ⟨some 7, none, .mv (.t 20), []⟩,
     ⟨some 8, none, .mv (.t 21), []⟩])
   (.seq
    (.ops 3 [⟨some 23, none, .mv (.t 5), []⟩,
      ⟨some 24, none, .mv (.t 7), []⟩,
      ⟨some 25, none, .call 163 [.t 23, .c (.int .i64 5), .t 24], []⟩,
      ⟨some 22, none, .mv (.t 25), []⟩,
      ⟨some 26, none, .ext (.t 22) 0, []⟩,
      ⟨some 27, none, .ext (.t 22) 1, []⟩,
      ⟨some 9, none, .mv (.t 26), []⟩,
      ⟨some 10, none, .mv (.t 27), []⟩])
    (.seq
     (.ops 4 [⟨some 28, none, .mv (.t 9), []⟩,
       ⟨some 29, none, .mki 226 (.t 28), []⟩,
       ⟨some 4, none, .mv (.t 29), []⟩])
     .ret)))))⟩
theorem F165_code : cfgA.code 165 = some F165 := by kernel_rfl

/-- ticketline/ticketlinelaw30.step -/
noncomputable def F166 : AFn := ⟨25, [.tmp 4, .tmp 5], (.seq
 (.ops 0 [⟨some 4, none, .mv (.c (.bool false)), []⟩,
   ⟨some 5, none, .mv (.c (.bool false)), []⟩])
 (.seq
  (.ops 1 [⟨some 9, none, .mv (.t 1), []⟩,
    ⟨some 10, none, .call 117 [.t 9], []⟩,
    ⟨some 8, none, .mv (.t 10), []⟩,
    ⟨some 11, none, .ext (.t 8) 0, []⟩,
    ⟨some 12, none, .ext (.t 8) 1, []⟩,
    ⟨some 6, none, .mv (.t 11), []⟩,
    ⟨some 7, none, .mv (.t 12), []⟩])
  (.seq
   (.seq
    (.ops 2 [⟨some 13, none, .mv (.t 7), []⟩,
      ⟨some 14, none, .bin .neq (.t 13) (.c (.int .i64 0)), []⟩])
    (.cond (.t 14)
     (.seq
      (.ops 3 [⟨some 4, none, .mv (.c (.bool false)), []⟩,
        ⟨some 5, none, .mv (.c (.bool true)), []⟩])
      .ret)
     .skip))
   (.seq
    (.ops 4 [⟨some 16, none, .mv (.t 0), []⟩,
      ⟨some 17, none, .mv (.t 6), []⟩,
      ⟨some 18, none, .mki 154 (.t 17), []⟩,
      ⟨some 19, none, .invk (.t 16) "Step" [.t 18], []⟩,
      ⟨some 15, none, .mv (.t 19), []⟩,
      ⟨some 20, none, .ext (.t 15) 0, []⟩,
      ⟨some 21, none, .ext (.t 15) 1, []⟩,
      ⟨some 4, none, .mv (.t 20), []⟩,
      ⟨some 7, none, .mv (.t 21), []⟩])
    (.seq
     (.ops 5 [⟨some 22, none, .mv (.t 4), []⟩,
       ⟨some 23, none, .mv (.t 7), []⟩,
       ⟨some 24, none, .bin .neq (.t 23) (.c (.int .i64 0)), []⟩,
       ⟨some 4, none, .mv (.t 22), []⟩,
       ⟨some 5, none, .mv (.t 24), []⟩])
     .ret)))))⟩
theorem F166_code : cfgA.code 166 = some F166 := by kernel_rfl

/-- (*ticketline/grow.Take).over -/
noncomputable def F167 : AFn := ⟨13, [.tmp 2], (.seq
 (.ops 0 [⟨some 2, none, .mv (.c (.bool false)), []⟩])
 (.seq
  (.ops 1 [⟨some 3, none, .mv (.t 0), []⟩,
    ⟨some 4, none, .call 183 [.t 3], []⟩,
    ⟨some 5, none, .un .not (.t 4), []⟩,
    ⟨some 6, none, .mv (.t 5), []⟩,
    ⟨some 7, some (6, true), .mv (.t 0), []⟩,
    ⟨some 8, some (6, true), .nilc (.t 7) (mok Tryz.prog), []⟩,
    ⟨some 9, some (6, true), .fld 3 (.t 8), []⟩,
    ⟨some 10, some (6, true), .ld 1 false (.t 9), []⟩,
    ⟨some 11, some (6, true), .bin .eql (.t 10) (.c (.int .i64 17)), []⟩,
    ⟨some 12, none, .pick (.t 6) (.t 11) (.c (.bool false)), []⟩,
    ⟨some 2, none, .mv (.t 12), []⟩])
  .ret))⟩
theorem F167_code : cfgA.code 167 = some F167 := by kernel_rfl

/-- ticketline/qnode.New -/
noncomputable def F168 : AFn := ⟨28, [.tmp 4, .tmp 5], (.seq
 (.ops 0 [⟨some 4, none, .mv (.c (.nilp)), []⟩,
   ⟨some 5, none, .mv (.c (.int .i64 0)), []⟩])
 (.seq
  (.seq
   (.ops 1 [⟨some 6, none, .mv (.t 0), []⟩,
     ⟨some 7, none, .bin .lss (.t 6) (.c (.int .i64 0)), []⟩,
     ⟨some 8, none, .mv (.t 7), []⟩,
     ⟨some 9, some (8, false), .mv (.t 1), []⟩,
     ⟨some 10, some (8, false), .bin .lss (.t 9) (.c (.int .i64 1)), []⟩,
     ⟨some 11, none, .pick (.t 8) (.c (.bool true)) (.t 10), []⟩,
     ⟨some 12, none, .mv (.t 11), []⟩,
     ⟨some 13, some (12, false), .mv (.t 1), []⟩,
     ⟨some 14, some (12, false), .bin .gtr (.t 13) (.c (.int .i64 64)), []⟩,
     ⟨some 15, none, .pick (.t 12) (.c (.bool true)) (.t 14), []⟩,
     ⟨some 16, none, .mv (.t 15), []⟩,
     ⟨some 17, some (16, false), .mv (.t 0), []⟩,
     ⟨some 18, some (16, false), .mv (.t 1), []⟩,
     ⟨some 19, some (16, false), .bin .mul (.t 18) (.c (.int .i64 2)), []⟩,
     ⟨some 20, some (16, false), .bin .mul (.t 19) (.c (.int .i64 3)), []⟩,
     ⟨some 21, some (16, false), .bin .sub (.c (.int .i64 65536)) (.t 20), []⟩,
     ⟨some 22, some (16, false), .bin .gtr (.t 17) (.t 21), []⟩,
     ⟨some 23, none, .pick (.t 16) (.c (.bool true)) (.t 22), []⟩])
   (.cond (.t 23)
    (.seq
     (.ops 2 [⟨some 4, none, .mv (.c (.nilp)), []⟩,
       ⟨some 5, none, .mv (.c (.int .i64 2)), []⟩])
     .ret)
    .skip))
  (.seq
   (.ops 3 [⟨some 24, none, .mv (.t 0), []⟩,
     ⟨some 25, none, .mv (.t 1), []⟩,
     ⟨some 26, none, .build [.int .i64 0, .int .i64 0] [(0, 1, (.t 24)), (1, 1, (.t 25))], []⟩,
     ⟨some 27, none, .box 2 (.t 26) true, []⟩,
     ⟨some 4, none, .mv (.t 27), []⟩,
     ⟨some 5, none, .mv (.c (.int .i64 0)), []⟩])
   .ret)))⟩
theorem F168_code : cfgA.code 168 = some F168 := by kernel_rfl

/-- ticketline/latch.made -/
noncomputable def F169 : AFn := ⟨58, [.tmp 10, .tmp 11], (.seq
 (.ops 0 [⟨some 10, none, .mv (.c (.nilp)), []⟩,
   ⟨some 11, none, .mv (.c (.int .i64 0)), []⟩])
 (.seq
  (.seq
   (.ops 1 [⟨some 16, none, .mv (.t 0), []⟩,
     ⟨some 17, none, .mv (.t 1), []⟩,
     ⟨some 18, none, .call 184 [.t 16, .t 17], []⟩,
     ⟨some 12, none, .mv (.t 18), []⟩])
   (.seq
    (.ops 2 [⟨some 19, none, .mv (.t 12), []⟩,
      ⟨some 20, none, .bin .neq (.t 19) (.c (.int .i64 0)), []⟩])
    (.cond (.t 20)
     (.seq
      (.ops 3 [⟨some 21, none, .mv (.t 12), []⟩,
        ⟨some 10, none, .mv (.c (.nilp)), []⟩,
        ⟨some 11, none, .mv (.t 21), []⟩])
      .ret)
     .skip)))
  (.seq
   (.ops 4 [⟨some 23, none, .mv (.t 0), []⟩,
     ⟨some 24, none, .mv (.t 2), []⟩,
     ⟨some 25, none, .call 160 [.t 23, .t 24, .c (.int .i64 0)], []⟩,
     ⟨some 22, none, .mv (.t 25), []⟩,
     ⟨some 26, none, .ext (.t 22) 0, []⟩,
     ⟨some 27, none, .ext (.t 22) 1, []⟩,
     ⟨some 13, none, .mv (.t 26), []⟩,
     ⟨some 14, none, .mv (.t 27), []⟩])
   (.seq
    (.seq
     (.ops 5 [⟨some 28, none, .mv (.t 14), []⟩,
       ⟨some 29, none, .bin .neq (.t 28) (.c (.int .i64 0)), []⟩,
       ⟨some 30, none, .mv (.t 29), []⟩,
       ⟨some 31, some (30, false), .mv (.t 3), []⟩,
       ⟨some 32, some (30, false), .bin .neq (.t 31) (.c (.int .i64 2)), []⟩,
       ⟨some 33, some (30, false), .mv (.t 32), []⟩,
       ⟨some 34, some (33, true), .mv (.t 4), []⟩,
       ⟨some 35, some (33, true), .call 185 [.t 34], []⟩,
       ⟨some 36, some (33, true), .un .not (.t 35), []⟩,
       ⟨some 37, some (30, false), .pick (.t 33) (.t 36) (.c (.bool false)), []⟩,
       ⟨some 38, none, .pick (.t 30) (.c (.bool true)) (.t 37), []⟩])
     (.cond (.t 38)
      (.seq
       (.ops 6 [⟨some 10, none, .mv (.c (.nilp)), []⟩,
         ⟨some 11, none, .mv (.c (.int .i64 2)), []⟩])
       .ret)
      .skip))
    (.seq
     (.ops 7 [⟨some 40, none, .mv (.t 0), []⟩,
       ⟨some 41, none, .mv (.t 1), []⟩,
       ⟨some 42, none, .mv (.t 13), []⟩,
       ⟨some 43, none, .call 163 [.t 40, .t 41, .t 42], []⟩,
       ⟨some 39, none, .mv (.t 43), []⟩,
       ⟨some 44, none, .ext (.t 39) 0, []⟩,
       ⟨some 45, none, .ext (.t 39) 1, []⟩,
       ⟨some 15, none, .mv (.t 44), []⟩,
       ⟨some 14, none, .mv (.t 45), []⟩])
     (.seq
      (.seq
       (.ops 8 [⟨some 46, none, .mv (.t 14), []⟩,
         ⟨some 47, none, .bin .neq (.t 46) (.c (.int .i64 0)), []⟩])
       (.cond (.t 47)
        (.seq
         (.ops 9 [⟨some 48, none, .mv (.t 14), []⟩,
           ⟨some 10, none, .mv (.c (.nilp)), []⟩,
           ⟨some 11, none, .mv (.t 48), []⟩])
         .ret)
        .skip))
      (.seq
       (.ops 10 [⟨some 49, none, .mv (.t 0), []⟩,
         ⟨some 50, none, .mv (.t 1), []⟩,
         ⟨some 51, none, .mv (.t 2), []⟩,
         ⟨some 52, none, .mv (.t 3), []⟩,
         ⟨some 53, none, .mv (.t 4), []⟩,
         ⟨some 54, none, .mv (.t 15), []⟩,
         ⟨some 55, none, .mki 226 (.t 54), []⟩,
         ⟨some 56, none, .build [.nilp, .int .i64 0, .int .i64 0, .int .i64 0, .int .i64 0, .int .i64 0, .nili, .int .u64 0, .int .u64 0, .int .u64 0, .int .u64 0, .int .u64 0, .int .u64 0, .int .u64 0, .int .u64 0, .int .u64 0, .int .u64 0, .int .u64 0, .int .u64 0, .int .u64 0, .int .u64 0, .int .i64 0, .nils, .nils, .bool false, .int .u64 0, .bool false] [(0, 1, (.t 49)), (1, 1, (.t 50)), (2, 1, (.t 51)), (3, 1, (.t 52)), (4, 1, (.t 53)), (6, 1, (.t 55))], []⟩,
         ⟨some 57, none, .box 27 (.t 56) true, []⟩,
         ⟨some 10, none, .mv (.t 57), []⟩,
         ⟨some 11, none, .mv (.c (.int .i64 0)), []⟩])
       .ret)))))))⟩
theorem F169_code : cfgA.code 169 = some F169 := by kernel_rfl

/-- ticketline/keys.Words -/
noncomputable def F173 : AFn := ⟨9, [.tmp 2], (.seq
 (.ops 0 [⟨some 2, none, .mv (.c (.int .i64 0)), []⟩])
 (.seq
  (.seq
   (.ops 1 [⟨some 3, none, .mv (.t 0), []⟩,
     ⟨some 4, none, .bin .leq (.t 3) (.c (.int .i64 0)), []⟩])
   (.cond (.t 4)
    (.seq
     (.ops 2 [⟨some 2, none, .mv (.c (.int .i64 0)), []⟩])
     .ret)
    .skip))
  (.seq
   (.ops 3 [⟨some 5, none, .mv (.t 0), []⟩,
     ⟨some 6, none, .bin .sub (.t 5) (.c (.int .i64 1)), []⟩,
     ⟨some 7, none, .bin .quo (.t 6) (.c (.int .i64 8)), []⟩,
     ⟨some 8, none, .bin .add (.t 7) (.c (.int .i64 1)), []⟩,
     ⟨some 2, none, .mv (.t 8), []⟩])
   .ret)))⟩
theorem F173_code : cfgA.code 173 = some F173 := by kernel_rfl

/-- ticketline/keys.Unpack: the round 0 -/
noncomputable def B174x0 : AC := (.seq
 (.seq
  (.ops 12 [⟨some 30, none, .mv (.t 9), []⟩,
    ⟨some 31, none, .bin .geq (.t 30) (.c (.int .i64 0)), []⟩])
  (.cond (.t 31)
   .skip
   (.exit 3)))
 (.seq
  (.block 4
   (.ops 14 [⟨some 34, none, .mv (.t 6), []⟩,
     ⟨some 35, none, .mv (.t 8), []⟩,
     ⟨some 36, none, .mv (.t 9), []⟩,
     ⟨some 37, none, .bin .mul (.c (.int .i64 8)) (.t 36), []⟩,
     ⟨some 38, none, .bin .shr (.t 35) (.t 37), []⟩,
     ⟨some 39, none, .cvi .u8 (.t 38), []⟩,
     ⟨some 40, none, .bslice [.int .u8 0] 1 1 [(0, (.t 39))] false false, []⟩,
     ⟨some 41, none, .app 1 1 (.t 34) (.t 40) false, []⟩,
     ⟨some 6, none, .mv (.t 41), []⟩]))
  (.ops 13 [⟨some 32, none, .mv (.t 9), []⟩,
    ⟨some 33, none, .bin .sub (.t 32) (.c (.int .i64 1)), []⟩,
    ⟨some 9, none, .mv (.t 33), []⟩])))
/-- ticketline/keys.Unpack: the round 1 -/
noncomputable def B174x1 : AC := (.seq
 (.ops 9 [⟨some 27, none, .bin .lss (.t 26) (.t 25), []⟩])
 (.seq
  (.cond (.t 27)
   .skip
   (.exit 1))
  (.seq
   (.block 2
    (.seq
     (.ops 10 [⟨some 28, none, .ixa none 1 (.t 24) (.t 26), []⟩,
       ⟨some 29, none, .ld 1 false (.t 28), []⟩,
       ⟨some 8, none, .mv (.t 29), []⟩])
     (.seq
      (.ops 11 [⟨some 9, none, .mv (.c (.int .i64 7)), []⟩])
      (.block 3
       (.loop [] B174x0)))))
   (.ops 15 [⟨some 42, none, .bin .add (.t 26) (.c (.int .i64 1)), []⟩,
     ⟨some 26, none, .mv (.t 42), []⟩]))))
/-- ticketline/keys.Unpack: the round 2 -/
noncomputable def B174x2 : AC := (.seq
 (.ops 17 [⟨some 48, none, .bin .lss (.t 47) (.t 46), []⟩])
 (.seq
  (.cond (.t 48)
   .skip
   (.exit 5))
  (.seq
   (.block 6
    (.seq
     (.ops 18 [⟨some 49, none, .ixa none 1 (.t 45) (.t 47), []⟩,
       ⟨some 50, none, .ld 1 false (.t 49), []⟩,
       ⟨some 11, none, .mv (.t 50), []⟩])
     (.seq
      (.ops 19 [⟨some 51, none, .mv (.t 11), []⟩,
        ⟨some 52, none, .bin .neq (.t 51) (.c (.int .u8 0)), []⟩])
      (.cond (.t 52)
       (.seq
        (.ops 20 [⟨some 4, none, .mv (.c (.str [])), []⟩,
          ⟨some 5, none, .mv (.c (.int .i64 12)), []⟩])
        .ret)
       .skip))))
   (.ops 21 [⟨some 53, none, .bin .add (.t 47) (.c (.int .i64 1)), []⟩,
     ⟨some 47, none, .mv (.t 53), []⟩]))))
/-- ticketline/keys.Unpack -/
noncomputable def F174 : AFn := ⟨58, [.tmp 4, .tmp 5], (.seq
 (.ops 0 [⟨some 4, none, .mv (.c (.str [])), []⟩,
   ⟨some 5, none, .mv (.c (.int .i64 0)), []⟩])
 (.seq
  (.block 0
   (.seq
    (.ops 1 [⟨some 13, none, .mv (.t 1), []⟩,
      ⟨some 14, none, .bin .lss (.t 13) (.c (.int .i64 0)), []⟩,
      ⟨some 12, none, .mv (.t 14), []⟩])
    (.cond (.t 12)
     (.seq
      (.ops 2 [⟨some 4, none, .mv (.c (.str [])), []⟩,
        ⟨some 5, none, .mv (.c (.int .i64 2)), []⟩])
      .ret)
     (.seq
      (.ops 3 [⟨some 16, none, .mv (.t 1), []⟩,
        ⟨some 17, none, .bin .gtr (.t 16) (.c (.int .i64 40)), []⟩,
        ⟨some 15, none, .mv (.t 17), []⟩])
      (.cond (.t 15)
       (.seq
        (.ops 4 [⟨some 4, none, .mv (.c (.str [])), []⟩,
          ⟨some 5, none, .mv (.c (.int .i64 5)), []⟩])
        .ret)
       (.seq
        (.ops 5 [⟨some 19, none, .mv (.t 0), []⟩,
          ⟨some 20, none, .len .slice (.t 19), []⟩,
          ⟨some 21, none, .mv (.t 1), []⟩,
          ⟨some 22, none, .call 173 [.t 21], []⟩,
          ⟨some 23, none, .bin .neq (.t 20) (.t 22), []⟩,
          ⟨some 18, none, .mv (.t 23), []⟩])
        (.cond (.t 18)
         (.seq
          (.ops 6 [⟨some 4, none, .mv (.c (.str [])), []⟩,
            ⟨some 5, none, .mv (.c (.int .i64 12)), []⟩])
          .ret)
         .skip)))))))
  (.seq
   (.ops 7 [⟨some 6, none, .mv (.c (.nils)), []⟩])
   (.seq
    (.seq
     (.ops 8 [⟨some 24, none, .mv (.t 0), []⟩,
       ⟨some 25, none, .len .slice (.t 24), []⟩,
       ⟨some 26, none, .mv (.c (.int .i64 0)), []⟩])
     (.block 1
      (.loop [] B174x1)))
    (.seq
     (.seq
      (.ops 16 [⟨some 43, none, .mv (.t 6), []⟩,
        ⟨some 44, none, .mv (.t 1), []⟩,
        ⟨some 45, none, .slc none 1 (.t 43) (some (.t 44)) none, []⟩,
        ⟨some 46, none, .len .slice (.t 45), []⟩,
        ⟨some 47, none, .mv (.c (.int .i64 0)), []⟩])
      (.block 5
       (.loop [] B174x2)))
     (.seq
      (.ops 22 [⟨some 54, none, .mv (.t 6), []⟩,
        ⟨some 55, none, .mv (.t 1), []⟩,
        ⟨some 56, none, .slc none 1 (.t 54) none (some (.t 55)), []⟩,
        ⟨some 57, none, .cvs (.t 56), []⟩,
        ⟨some 4, none, .mv (.t 57), []⟩,
        ⟨some 5, none, .mv (.c (.int .i64 0)), []⟩])
      .ret))))))⟩
theorem F174_code : cfgA.code 174 = some F174 := by kernel_rfl

/-- ticketline/version.word -/
noncomputable def F175 : AFn := ⟨9, [.tmp 2], (.seq
 (.ops 0 [⟨some 2, none, .mv (.c (.bool false)), []⟩])
 (.seq
  (.ops 1 [⟨some 3, none, .mv (.t 0), []⟩,
    ⟨some 4, none, .bin .geq (.t 3) (.c (.int .i64 0)), []⟩,
    ⟨some 5, none, .mv (.t 4), []⟩,
    ⟨some 6, some (5, true), .mv (.t 0), []⟩,
    ⟨some 7, some (5, true), .bin .lss (.t 6) (.c (.int .i64 65536)), []⟩,
    ⟨some 8, none, .pick (.t 5) (.t 7) (.c (.bool false)), []⟩,
    ⟨some 2, none, .mv (.t 8), []⟩])
  .ret))⟩
theorem F175_code : cfgA.code 175 = some F175 := by kernel_rfl

/-- strings.Compare -/
noncomputable def F176 : AFn := ⟨8, [.tmp 4], (.seq
 (.ops 0 [⟨some 4, none, .mv (.c (.int .i64 0)), []⟩])
 (.seq
  (.ops 1 [⟨some 5, none, .mv (.t 0), []⟩,
    ⟨some 6, none, .mv (.t 1), []⟩,
    ⟨some 7, none, .call 186 [.t 5, .t 6], []⟩,
    ⟨some 4, none, .mv (.t 7), []⟩])
  .ret))⟩
theorem F176_code : cfgA.code 176 = some F176 := by kernel_rfl

/-- ticketline/keys.Pack: the round 0 -/
noncomputable def B177x0 : AC := (.seq
 (.ops 9 [⟨some 19, none, .bin .lss (.t 18) (.c (.int .i64 8)), []⟩])
 (.seq
  (.cond (.t 19)
   .skip
   (.exit 2))
  (.seq
   (.block 3
    (.seq
     (.ops 10 [⟨some 20, none, .mv (.t 18), []⟩,
       ⟨some 7, none, .mv (.t 20), []⟩])
     (.seq
      (.ops 11 [⟨some 21, none, .mv (.t 6), []⟩,
        ⟨some 22, none, .bin .shl (.t 21) (.c (.int .u64 8)), []⟩,
        ⟨some 6, none, .mv (.t 22), []⟩])
      (.seq
       (.ops 12 [⟨some 23, none, .mv (.t 5), []⟩,
         ⟨some 24, none, .bin .mul (.t 23) (.c (.int .i64 8)), []⟩,
         ⟨some 25, none, .mv (.t 7), []⟩,
         ⟨some 26, none, .bin .add (.t 24) (.t 25), []⟩,
         ⟨some 8, none, .mv (.t 26), []⟩])
       (.seq
        (.ops 13 [⟨some 27, none, .mv (.t 8), []⟩,
          ⟨some 28, none, .mv (.t 0), []⟩,
          ⟨some 29, none, .len .string (.t 28), []⟩,
          ⟨some 30, none, .bin .lss (.t 27) (.t 29), []⟩])
        (.cond (.t 30)
         (.ops 14 [⟨some 31, none, .mv (.t 6), []⟩,
           ⟨some 32, none, .mv (.t 0), []⟩,
           ⟨some 33, none, .mv (.t 8), []⟩,
           ⟨some 34, none, .ixs (.t 32) (.t 33), []⟩,
           ⟨some 35, none, .cvi .u64 (.t 34), []⟩,
           ⟨some 36, none, .bin .or (.t 31) (.t 35), []⟩,
           ⟨some 6, none, .mv (.t 36), []⟩])
         .skip))))))
   (.ops 15 [⟨some 37, none, .bin .add (.t 18) (.c (.int .i64 1)), []⟩,
     ⟨some 18, none, .mv (.t 37), []⟩]))))
/-- ticketline/keys.Pack: the round 1 -/
noncomputable def B177x1 : AC := (.seq
 (.ops 5 [⟨some 16, none, .bin .lss (.t 15) (.t 14), []⟩])
 (.seq
  (.cond (.t 16)
   .skip
   (.exit 0))
  (.seq
   (.block 1
    (.seq
     (.ops 6 [⟨some 17, none, .mv (.t 15), []⟩,
       ⟨some 5, none, .mv (.t 17), []⟩])
     (.seq
      (.ops 7 [⟨some 6, none, .mv (.c (.int .u64 0)), []⟩])
      (.seq
       (.seq
        (.ops 8 [⟨some 18, none, .mv (.c (.int .i64 0)), []⟩])
        (.block 2
         (.loop [] B177x0)))
       (.ops 16 [⟨some 38, none, .mv (.t 4), []⟩,
         ⟨some 39, none, .mv (.t 6), []⟩,
         ⟨some 40, none, .bslice [.int .u64 0] 1 1 [(0, (.t 39))] false false, []⟩,
         ⟨some 41, none, .app 1 8 (.t 38) (.t 40) false, []⟩,
         ⟨some 4, none, .mv (.t 41), []⟩])))))
   (.ops 17 [⟨some 42, none, .bin .add (.t 15) (.c (.int .i64 1)), []⟩,
     ⟨some 15, none, .mv (.t 42), []⟩]))))
/-- ticketline/keys.Pack -/
noncomputable def F177 : AFn := ⟨44, [.tmp 2, .tmp 3], (.seq
 (.ops 0 [⟨some 2, none, .mv (.c (.nils)), []⟩,
   ⟨some 3, none, .mv (.c (.int .i64 0)), []⟩])
 (.seq
  (.seq
   (.ops 1 [⟨some 9, none, .mv (.t 0), []⟩,
     ⟨some 10, none, .call 187 [.t 9], []⟩,
     ⟨some 11, none, .un .not (.t 10), []⟩])
   (.cond (.t 11)
    (.seq
     (.ops 2 [⟨some 2, none, .mv (.c (.nils)), []⟩,
       ⟨some 3, none, .mv (.c (.int .i64 5)), []⟩])
     .ret)
    .skip))
  (.seq
   (.ops 3 [⟨some 4, none, .mv (.c (.nils)), []⟩])
   (.seq
    (.seq
     (.ops 4 [⟨some 12, none, .mv (.t 0), []⟩,
       ⟨some 13, none, .len .string (.t 12), []⟩,
       ⟨some 14, none, .call 173 [.t 13], []⟩,
       ⟨some 15, none, .mv (.c (.int .i64 0)), []⟩])
     (.block 0
      (.loop [] B177x1)))
    (.seq
     (.ops 18 [⟨some 43, none, .mv (.t 4), []⟩,
       ⟨some 2, none, .mv (.t 43), []⟩,
       ⟨some 3, none, .mv (.c (.int .i64 0)), []⟩])
     .ret)))))⟩
theorem F177_code : cfgA.code 177 = some F177 := by kernel_rfl

/-- (*ticketline/arena.Arena).there -/
noncomputable def F178 : AFn := ⟨17, [.tmp 4], (.seq
 (.ops 0 [⟨some 4, none, .mv (.c (.int .i64 0)), []⟩])
 (.seq
  (.block 0
   (.seq
    (.ops 1 [⟨some 6, none, .mv (.t 0), []⟩,
      ⟨some 7, none, .call 151 [.t 6], []⟩,
      ⟨some 5, none, .mv (.t 7), []⟩])
    (.cond (.t 5)
     (.seq
      (.ops 2 [⟨some 4, none, .mv (.c (.int .i64 1)), []⟩])
      .ret)
     (.seq
      (.ops 3 [⟨some 9, none, .mv (.t 1), []⟩,
        ⟨some 10, none, .bin .lss (.t 9) (.c (.int .i64 1)), []⟩,
        ⟨some 11, none, .mv (.t 10), []⟩,
        ⟨some 12, some (11, false), .mv (.t 1), []⟩,
        ⟨some 13, some (11, false), .mv (.t 0), []⟩,
        ⟨some 14, some (11, false), .call 188 [.t 13], []⟩,
        ⟨some 15, some (11, false), .bin .gtr (.t 12) (.t 14), []⟩,
        ⟨some 16, none, .pick (.t 11) (.c (.bool true)) (.t 15), []⟩,
        ⟨some 8, none, .mv (.t 16), []⟩])
      (.cond (.t 8)
       (.seq
        (.ops 4 [⟨some 4, none, .mv (.c (.int .i64 3)), []⟩])
        .ret)
       .skip)))))
  (.seq
   (.ops 5 [⟨some 4, none, .mv (.c (.int .i64 0)), []⟩])
   .ret)))⟩
theorem F178_code : cfgA.code 178 = some F178 := by kernel_rfl

/-- (*ticketline/arena.Arena).used -/
noncomputable def F179 : AFn := ⟨15, [.tmp 4], (.seq
 (.ops 0 [⟨some 4, none, .mv (.c (.bool false)), []⟩])
 (.seq
  (.ops 1 [⟨some 6, none, .mv (.t 0), []⟩,
    ⟨some 7, none, .mv (.t 1), []⟩,
    ⟨some 8, none, .call 189 [.t 6, .t 7], []⟩,
    ⟨some 5, none, .mv (.t 8), []⟩])
  (.seq
   (.ops 2 [⟨some 9, none, .mv (.t 5), []⟩,
     ⟨some 10, none, .bin .geq (.t 9) (.c (.int .u64 1)), []⟩,
     ⟨some 11, none, .mv (.t 10), []⟩,
     ⟨some 12, some (11, true), .mv (.t 5), []⟩,
     ⟨some 13, some (11, true), .bin .leq (.t 12) (.c (.int .u64 6)), []⟩,
     ⟨some 14, none, .pick (.t 11) (.t 13) (.c (.bool false)), []⟩,
     ⟨some 4, none, .mv (.t 14), []⟩])
   .ret)))⟩
theorem F179_code : cfgA.code 179 = some F179 := by kernel_rfl

/-- (*ticketline/qnode.Nodes).zero -/
noncomputable def F181 : AFn := ⟨12, [.tmp 2], (.seq
 (.ops 0 [⟨some 2, none, .mv (.c (.bool false)), []⟩])
 (.seq
  (.ops 1 [⟨some 3, none, .mv (.t 0), []⟩,
    ⟨some 4, none, .eqn .ptr false (.t 3), []⟩,
    ⟨some 5, none, .mv (.t 4), []⟩,
    ⟨some 6, some (5, false), .mv (.t 0), []⟩,
    ⟨some 7, some (5, false), .nilc (.t 6) (mok Tryz.prog), []⟩,
    ⟨some 8, some (5, false), .fld 1 (.t 7), []⟩,
    ⟨some 9, some (5, false), .ld 1 false (.t 8), []⟩,
    ⟨some 10, some (5, false), .bin .eql (.t 9) (.c (.int .i64 0)), []⟩,
    ⟨some 11, none, .pick (.t 5) (.c (.bool true)) (.t 10), []⟩,
    ⟨some 2, none, .mv (.t 11), []⟩])
  .ret))⟩
theorem F181_code : cfgA.code 181 = some F181 := by kernel_rfl

/-- ticketline/mcs.made -/
noncomputable def F182 : AFn := ⟨52, [.cell 6 6 true, .tmp 7], (.seq
 (.ops 0 [⟨some 6, none, .alloc [.nilp, .int .i64 0, .int .i64 0, .int .i64 0, .int .u64 0, .bool false] false, []⟩,
   ⟨some 7, none, .mv (.c (.int .i64 0)), []⟩])
 (.seq
  (.seq
   (.ops 1 [⟨some 11, none, .mv (.t 0), []⟩,
     ⟨some 12, none, .call 190 [.t 11], []⟩,
     ⟨some 13, none, .bin .eql (.t 12) (.c (.int .i64 0)), []⟩])
   (.cond (.t 13)
    (.seq
     (.ops 2 [⟨some 14, none, .build [.nilp, .int .i64 0, .int .i64 0, .int .i64 0, .int .u64 0, .bool false] [], []⟩,
       ⟨none, none, .st 6 (.t 6) (.t 14), []⟩,
       ⟨some 7, none, .mv (.c (.int .i64 1)), []⟩])
     .ret)
    .skip))
  (.seq
   (.ops 3 [⟨some 15, none, .mv (.t 1), []⟩,
     ⟨some 16, none, .mv (.t 0), []⟩,
     ⟨some 17, none, .call 191 [.t 16], []⟩,
     ⟨some 18, none, .bin .geq (.t 15) (.t 17), []⟩,
     ⟨some 19, none, .mv (.t 18), []⟩,
     ⟨some 20, some (19, true), .mv (.t 1), []⟩,
     ⟨some 21, some (19, true), .mv (.t 0), []⟩,
     ⟨some 22, some (19, true), .call 191 [.t 21], []⟩,
     ⟨some 23, some (19, true), .mv (.t 0), []⟩,
     ⟨some 24, some (19, true), .call 192 [.t 23], []⟩,
     ⟨some 25, some (19, true), .bin .add (.t 22) (.t 24), []⟩,
     ⟨some 26, some (19, true), .bin .lss (.t 20) (.t 25), []⟩,
     ⟨some 27, none, .pick (.t 19) (.t 26) (.c (.bool false)), []⟩,
     ⟨some 8, none, .mv (.t 27), []⟩])
   (.seq
    (.seq
     (.ops 4 [⟨some 29, none, .mv (.t 0), []⟩,
       ⟨some 30, none, .mv (.t 2), []⟩,
       ⟨some 31, none, .call 193 [.t 29, .t 30], []⟩,
       ⟨some 28, none, .mv (.t 31), []⟩,
       ⟨some 32, none, .ext (.t 28) 0, []⟩,
       ⟨some 33, none, .ext (.t 28) 1, []⟩,
       ⟨some 9, none, .mv (.t 32), []⟩,
       ⟨some 10, none, .mv (.t 33), []⟩])
     (.seq
      (.ops 5 [⟨some 34, none, .mv (.t 1), []⟩,
        ⟨some 35, none, .bin .lss (.t 34) (.c (.int .i64 0)), []⟩,
        ⟨some 36, none, .mv (.t 35), []⟩,
        ⟨some 37, some (36, false), .mv (.t 1), []⟩,
        ⟨some 38, some (36, false), .bin .geq (.t 37) (.c (.int .i64 65536)), []⟩,
        ⟨some 39, none, .pick (.t 36) (.c (.bool true)) (.t 38), []⟩,
        ⟨some 40, none, .mv (.t 39), []⟩,
        ⟨some 41, some (40, false), .mv (.t 8), []⟩,
        ⟨some 42, none, .pick (.t 40) (.c (.bool true)) (.t 41), []⟩,
        ⟨some 43, none, .mv (.t 42), []⟩,
        ⟨some 44, some (43, false), .mv (.t 10), []⟩,
        ⟨some 45, some (43, false), .bin .neq (.t 44) (.c (.int .i64 0)), []⟩,
        ⟨some 46, none, .pick (.t 43) (.c (.bool true)) (.t 45), []⟩])
      (.cond (.t 46)
       (.seq
        (.ops 6 [⟨some 47, none, .build [.nilp, .int .i64 0, .int .i64 0, .int .i64 0, .int .u64 0, .bool false] [], []⟩,
          ⟨none, none, .st 6 (.t 6) (.t 47), []⟩,
          ⟨some 7, none, .mv (.c (.int .i64 2)), []⟩])
        .ret)
       .skip)))
    (.seq
     (.ops 7 [⟨some 48, none, .mv (.t 0), []⟩,
       ⟨some 49, none, .mv (.t 1), []⟩,
       ⟨some 50, none, .mv (.t 2), []⟩,
       ⟨some 51, none, .build [.nilp, .int .i64 0, .int .i64 0, .int .i64 0, .int .u64 0, .bool false] [(0, 1, (.t 48)), (1, 1, (.t 49)), (2, 1, (.t 50)), (3, 1, (.c (.int .i64 1)))], []⟩,
       ⟨none, none, .st 6 (.t 6) (.t 51), []⟩,
       ⟨some 7, none, .mv (.c (.int .i64 0)), []⟩])
     .ret)))))⟩
theorem F182_code : cfgA.code 182 = some F182 := by kernel_rfl

/-- (*ticketline/grow.Take).zero -/
noncomputable def F183 : AFn := ⟨12, [.tmp 2], (.seq
 (.ops 0 [⟨some 2, none, .mv (.c (.bool false)), []⟩])
 (.seq
  (.ops 1 [⟨some 3, none, .mv (.t 0), []⟩,
    ⟨some 4, none, .eqn .ptr false (.t 3), []⟩,
    ⟨some 5, none, .mv (.t 4), []⟩,
    ⟨some 6, some (5, false), .mv (.t 0), []⟩,
    ⟨some 7, some (5, false), .nilc (.t 6) (mok Tryz.prog), []⟩,
    ⟨some 8, some (5, false), .fld 3 (.t 7), []⟩,
    ⟨some 9, some (5, false), .ld 1 false (.t 8), []⟩,
    ⟨some 10, some (5, false), .bin .eql (.t 9) (.c (.int .i64 0)), []⟩,
    ⟨some 11, none, .pick (.t 5) (.c (.bool true)) (.t 10), []⟩,
    ⟨some 2, none, .mv (.t 11), []⟩])
  .ret))⟩
theorem F183_code : cfgA.code 183 = some F183 := by kernel_rfl

/-- ticketline/latch.apart -/
noncomputable def F184 : AFn := ⟨32, [.tmp 4], (.seq
 (.ops 0 [⟨some 4, none, .mv (.c (.int .i64 0)), []⟩])
 (.seq
  (.block 0
   (.seq
    (.ops 1 [⟨some 6, none, .mv (.t 0), []⟩,
      ⟨some 7, none, .call 190 [.t 6], []⟩,
      ⟨some 8, none, .bin .eql (.t 7) (.c (.int .i64 0)), []⟩,
      ⟨some 5, none, .mv (.t 8), []⟩])
    (.cond (.t 5)
     (.seq
      (.ops 2 [⟨some 4, none, .mv (.c (.int .i64 1)), []⟩])
      .ret)
     (.seq
      (.ops 3 [⟨some 10, none, .mv (.t 1), []⟩,
        ⟨some 11, none, .bin .lss (.t 10) (.c (.int .i64 0)), []⟩,
        ⟨some 12, none, .mv (.t 11), []⟩,
        ⟨some 13, some (12, false), .mv (.t 1), []⟩,
        ⟨some 14, some (12, false), .bin .gtr (.t 13) (.c (.int .i64 65533)), []⟩,
        ⟨some 15, none, .pick (.t 12) (.c (.bool true)) (.t 14), []⟩,
        ⟨some 16, none, .mv (.t 15), []⟩,
        ⟨some 17, some (16, false), .mv (.t 1), []⟩,
        ⟨some 18, some (16, false), .mv (.t 0), []⟩,
        ⟨some 19, some (16, false), .call 191 [.t 18], []⟩,
        ⟨some 20, some (16, false), .mv (.t 0), []⟩,
        ⟨some 21, some (16, false), .call 192 [.t 20], []⟩,
        ⟨some 22, some (16, false), .bin .add (.t 19) (.t 21), []⟩,
        ⟨some 23, some (16, false), .bin .lss (.t 17) (.t 22), []⟩,
        ⟨some 24, some (16, false), .mv (.t 23), []⟩,
        ⟨some 25, some (24, true), .mv (.t 1), []⟩,
        ⟨some 26, some (24, true), .bin .add (.t 25) (.c (.int .i64 3)), []⟩,
        ⟨some 27, some (24, true), .mv (.t 0), []⟩,
        ⟨some 28, some (24, true), .call 191 [.t 27], []⟩,
        ⟨some 29, some (24, true), .bin .gtr (.t 26) (.t 28), []⟩,
        ⟨some 30, some (16, false), .pick (.t 24) (.t 29) (.c (.bool false)), []⟩,
        ⟨some 31, none, .pick (.t 16) (.c (.bool true)) (.t 30), []⟩,
        ⟨some 9, none, .mv (.t 31), []⟩])
      (.cond (.t 9)
       (.seq
        (.ops 4 [⟨some 4, none, .mv (.c (.int .i64 2)), []⟩])
        .ret)
       .skip)))))
  (.seq
   (.ops 5 [⟨some 4, none, .mv (.c (.int .i64 0)), []⟩])
   .ret)))⟩
theorem F184_code : cfgA.code 184 = some F184 := by kernel_rfl

/-- ticketline/modes.Valid -/
noncomputable def F185 : AFn := ⟨9, [.tmp 2], (.seq
 (.ops 0 [⟨some 2, none, .mv (.c (.bool false)), []⟩])
 (.seq
  (.ops 1 [⟨some 3, none, .mv (.t 0), []⟩,
    ⟨some 4, none, .bin .geq (.t 3) (.c (.int .i64 1)), []⟩,
    ⟨some 5, none, .mv (.t 4), []⟩,
    ⟨some 6, some (5, true), .mv (.t 0), []⟩,
    ⟨some 7, some (5, true), .bin .leq (.t 6) (.c (.int .i64 3)), []⟩,
    ⟨some 8, none, .pick (.t 5) (.t 7) (.c (.bool false)), []⟩,
    ⟨some 2, none, .mv (.t 8), []⟩])
  .ret))⟩
theorem F185_code : cfgA.code 185 = some F185 := by kernel_rfl

/-- ticketline/keys.ValidValue -/
noncomputable def F187 : AFn := ⟨6, [.tmp 2], (.seq
 (.ops 0 [⟨some 2, none, .mv (.c (.bool false)), []⟩])
 (.seq
  (.ops 1 [⟨some 3, none, .mv (.t 0), []⟩,
    ⟨some 4, none, .len .string (.t 3), []⟩,
    ⟨some 5, none, .bin .leq (.t 4) (.c (.int .i64 40)), []⟩,
    ⟨some 2, none, .mv (.t 5), []⟩])
  .ret))⟩
theorem F187_code : cfgA.code 187 = some F187 := by kernel_rfl

/-- (*ticketline/arena.Arena).pages -/
noncomputable def F188 : AFn := ⟨9, [.tmp 2], (.seq
 (.ops 0 [⟨some 2, none, .mv (.c (.int .i64 0)), []⟩])
 (.seq
  (.ops 1 [⟨some 3, none, .mv (.t 0), []⟩,
    ⟨some 4, none, .nilc (.t 3) (mok Tryz.prog), []⟩,
    ⟨some 5, none, .fld 0 (.t 4), []⟩,
    ⟨some 6, none, .ld 1 true (.t 5), []⟩,
    ⟨some 7, none, .call 152 [.t 6, .c (.int .i64 0)], []⟩,
    ⟨some 8, none, .cvi .i64 (.t 7), []⟩,
    ⟨some 2, none, .mv (.t 8), []⟩])
  .ret))⟩
theorem F188_code : cfgA.code 188 = some F188 := by kernel_rfl

/-- (*ticketline/arena.Arena).kind -/
noncomputable def F189 : AFn := ⟨12, [.tmp 4], (.seq
 (.ops 0 [⟨some 4, none, .mv (.c (.int .u64 0)), []⟩])
 (.seq
  (.ops 1 [⟨some 5, none, .mv (.t 0), []⟩,
    ⟨some 6, none, .nilc (.t 5) (mok Tryz.prog), []⟩,
    ⟨some 7, none, .fld 0 (.t 6), []⟩,
    ⟨some 8, none, .ld 1 true (.t 7), []⟩,
    ⟨some 9, none, .mv (.t 1), []⟩,
    ⟨some 10, none, .call 146 [.t 9, .c (.int .i64 8)], [(8, .ld 1 true (.t 7))]⟩,
    ⟨some 11, none, .call 152 [.t 8, .t 10], []⟩,
    ⟨some 4, none, .mv (.t 11), []⟩])
  .ret))⟩
theorem F189_code : cfgA.code 189 = some F189 := by kernel_rfl

/-- (*ticketline/qnode.Nodes).Threads -/
noncomputable def F190 : AFn := ⟨6, [.tmp 2], (.seq
 (.ops 0 [⟨some 2, none, .mv (.c (.int .i64 0)), []⟩])
 (.seq
  (.ops 1 [⟨some 3, none, .mv (.t 0), []⟩,
    ⟨some 4, none, .call 195 [.t 3], []⟩,
    ⟨some 5, none, .bin .quo (.t 4) (.c (.int .i64 2)), []⟩,
    ⟨some 2, none, .mv (.t 5), []⟩])
  .ret))⟩
theorem F190_code : cfgA.code 190 = some F190 := by kernel_rfl

/-- (*ticketline/qnode.Nodes).Base -/
noncomputable def F191 : AFn := ⟨9, [.tmp 2], (.seq
 (.ops 0 [⟨some 2, none, .mv (.c (.int .i64 0)), []⟩])
 (.seq
  (.seq
   (.ops 1 [⟨some 3, none, .mv (.t 0), []⟩,
     ⟨some 4, none, .call 181 [.t 3], []⟩])
   (.cond (.t 4)
    (.seq
     (.ops 2 [⟨some 2, none, .mv (.c (.int .i64 0)), []⟩])
     .ret)
    .skip))
  (.seq
   (.ops 3 [⟨some 5, none, .mv (.t 0), []⟩,
     ⟨some 6, none, .nilc (.t 5) (mok Tryz.prog), []⟩,
     ⟨some 7, none, .fld 0 (.t 6), []⟩,
     ⟨some 8, none, .ld 1 false (.t 7), []⟩,
     ⟨some 2, none, .mv (.t 8), []⟩])
   .ret)))⟩
theorem F191_code : cfgA.code 191 = some F191 := by kernel_rfl

/-- (*ticketline/qnode.Nodes).Len -/
noncomputable def F192 : AFn := ⟨6, [.tmp 2], (.seq
 (.ops 0 [⟨some 2, none, .mv (.c (.int .i64 0)), []⟩])
 (.seq
  (.ops 1 [⟨some 3, none, .mv (.t 0), []⟩,
    ⟨some 4, none, .call 195 [.t 3], []⟩,
    ⟨some 5, none, .bin .mul (.t 4) (.c (.int .i64 3)), []⟩,
    ⟨some 2, none, .mv (.t 5), []⟩])
  .ret))⟩
theorem F192_code : cfgA.code 192 = some F192 := by kernel_rfl

/-- (*ticketline/qnode.Nodes).Owner -/
noncomputable def F193 : AFn := ⟨16, [.tmp 4, .tmp 5], (.seq
 (.ops 0 [⟨some 4, none, .mv (.c (.int .i64 0)), []⟩,
   ⟨some 5, none, .mv (.c (.int .i64 0)), []⟩])
 (.seq
  (.block 0
   (.seq
    (.ops 1 [⟨some 7, none, .mv (.t 0), []⟩,
      ⟨some 8, none, .call 181 [.t 7], []⟩,
      ⟨some 6, none, .mv (.t 8), []⟩])
    (.cond (.t 6)
     (.seq
      (.ops 2 [⟨some 4, none, .mv (.c (.int .i64 0)), []⟩,
        ⟨some 5, none, .mv (.c (.int .i64 1)), []⟩])
      .ret)
     (.seq
      (.ops 3 [⟨some 10, none, .mv (.t 0), []⟩,
        ⟨some 11, none, .mv (.t 1), []⟩,
        ⟨some 12, none, .call 196 [.t 10, .t 11], []⟩,
        ⟨some 13, none, .un .not (.t 12), []⟩,
        ⟨some 9, none, .mv (.t 13), []⟩])
      (.cond (.t 9)
       (.seq
        (.ops 4 [⟨some 4, none, .mv (.c (.int .i64 0)), []⟩,
          ⟨some 5, none, .mv (.c (.int .i64 9)), []⟩])
        .ret)
       .skip)))))
  (.seq
   (.ops 5 [⟨some 14, none, .mv (.t 1), []⟩,
     ⟨some 15, none, .bin .quo (.t 14) (.c (.int .i64 2)), []⟩,
     ⟨some 4, none, .mv (.t 15), []⟩,
     ⟨some 5, none, .mv (.c (.int .i64 0)), []⟩])
   .ret)))⟩
theorem F193_code : cfgA.code 193 = some F193 := by kernel_rfl

/-- (*ticketline/qnode.Nodes).many -/
noncomputable def F195 : AFn := ⟨10, [.tmp 2], (.seq
 (.ops 0 [⟨some 2, none, .mv (.c (.int .i64 0)), []⟩])
 (.seq
  (.seq
   (.ops 1 [⟨some 3, none, .mv (.t 0), []⟩,
     ⟨some 4, none, .call 181 [.t 3], []⟩])
   (.cond (.t 4)
    (.seq
     (.ops 2 [⟨some 2, none, .mv (.c (.int .i64 0)), []⟩])
     .ret)
    .skip))
  (.seq
   (.ops 3 [⟨some 5, none, .mv (.t 0), []⟩,
     ⟨some 6, none, .nilc (.t 5) (mok Tryz.prog), []⟩,
     ⟨some 7, none, .fld 1 (.t 6), []⟩,
     ⟨some 8, none, .ld 1 false (.t 7), []⟩,
     ⟨some 9, none, .bin .mul (.t 8) (.c (.int .i64 2)), []⟩,
     ⟨some 2, none, .mv (.t 9), []⟩])
   .ret)))⟩
theorem F195_code : cfgA.code 195 = some F195 := by kernel_rfl

/-- (*ticketline/qnode.Nodes).has -/
noncomputable def F196 : AFn := ⟨13, [.tmp 4], (.seq
 (.ops 0 [⟨some 4, none, .mv (.c (.bool false)), []⟩])
 (.seq
  (.ops 1 [⟨some 5, none, .mv (.t 1), []⟩,
    ⟨some 6, none, .bin .geq (.t 5) (.c (.int .i64 0)), []⟩,
    ⟨some 7, none, .mv (.t 6), []⟩,
    ⟨some 8, some (7, true), .mv (.t 1), []⟩,
    ⟨some 9, some (7, true), .mv (.t 0), []⟩,
    ⟨some 10, some (7, true), .call 195 [.t 9], []⟩,
    ⟨some 11, some (7, true), .bin .lss (.t 8) (.t 10), []⟩,
    ⟨some 12, none, .pick (.t 7) (.t 11) (.c (.bool false)), []⟩,
    ⟨some 4, none, .mv (.t 12), []⟩])
  .ret))⟩
theorem F196_code : cfgA.code 196 = some F196 := by kernel_rfl

/-- (*ticketline/mem.Once).CAS -/
noncomputable def F213 : AFn := ⟨30, [.tmp 8, .tmp 9], (.seq
 (.ops 0 [⟨some 8, none, .mv (.c (.bool false)), []⟩,
   ⟨some 9, none, .mv (.c (.int .i64 0)), []⟩])
 (.seq
  (.ops 1 [⟨some 13, none, .mv (.t 0), []⟩,
    ⟨some 14, none, .mv (.t 1), []⟩,
    ⟨some 15, none, .mv (.t 2), []⟩,
    ⟨some 16, none, .mv (.t 3), []⟩,
    ⟨some 17, none, .build [.int .i64 0, .int .i64 0, .int .u64 0, .int .u64 0] [(0, 1, (.c (.int .i64 3))), (1, 1, (.t 14)), (2, 1, (.t 15)), (3, 1, (.t 16))], []⟩,
    ⟨some 18, none, .call 218 [.t 13, .t 17], []⟩,
    ⟨some 12, none, .mv (.t 18), []⟩,
    ⟨some 19, none, .ext (.t 12) 0, []⟩,
    ⟨some 20, none, .ext (.t 12) 1, []⟩,
    ⟨some 10, none, .alloc [.int .i64 0, .int .i64 0, .int .u64 0, .int .u64 0] false, []⟩,
    ⟨none, none, .st 4 (.t 10) (.t 19), []⟩,
    ⟨some 11, none, .mv (.t 20), []⟩])
  (.seq
   (.ops 2 [⟨some 21, none, .mv (.t 11), []⟩,
     ⟨some 22, none, .bin .eql (.t 21) (.c (.int .i64 0)), []⟩,
     ⟨some 23, none, .mv (.t 22), []⟩,
     ⟨some 24, some (23, true), .fld 2 (.t 10), []⟩,
     ⟨some 25, some (23, true), .ld 1 false (.t 24), []⟩,
     ⟨some 26, some (23, true), .mv (.t 2), []⟩,
     ⟨some 27, some (23, true), .bin .eql (.t 25) (.t 26), []⟩,
     ⟨some 28, none, .pick (.t 23) (.t 27) (.c (.bool false)), []⟩,
     ⟨some 29, none, .mv (.t 11), []⟩,
     ⟨some 8, none, .mv (.t 28), []⟩,
     ⟨some 9, none, .mv (.t 29), []⟩])
   .ret)))⟩
theorem F213_code : cfgA.code 213 = some F213 := by kernel_rfl

/-- (*ticketline/mem.Once).Load -/
noncomputable def F215 : AFn := ⟨18, [.tmp 4, .tmp 5], (.seq
 (.ops 0 [⟨some 4, none, .mv (.c (.int .u64 0)), []⟩,
   ⟨some 5, none, .mv (.c (.int .i64 0)), []⟩])
 (.seq
  (.ops 1 [⟨some 9, none, .mv (.t 0), []⟩,
    ⟨some 10, none, .mv (.t 1), []⟩,
    ⟨some 11, none, .build [.int .i64 0, .int .i64 0, .int .u64 0, .int .u64 0] [(0, 1, (.c (.int .i64 1))), (1, 1, (.t 10))], []⟩,
    ⟨some 12, none, .call 218 [.t 9, .t 11], []⟩,
    ⟨some 8, none, .mv (.t 12), []⟩,
    ⟨some 13, none, .ext (.t 8) 0, []⟩,
    ⟨some 14, none, .ext (.t 8) 1, []⟩,
    ⟨some 6, none, .alloc [.int .i64 0, .int .i64 0, .int .u64 0, .int .u64 0] false, []⟩,
    ⟨none, none, .st 4 (.t 6) (.t 13), []⟩,
    ⟨some 7, none, .mv (.t 14), []⟩])
  (.seq
   (.ops 2 [⟨some 15, none, .fld 2 (.t 6), []⟩,
     ⟨some 16, none, .ld 1 false (.t 15), []⟩,
     ⟨some 17, none, .mv (.t 7), []⟩,
     ⟨some 4, none, .mv (.t 16), []⟩,
     ⟨some 5, none, .mv (.t 17), []⟩])
   .ret)))⟩
theorem F215_code : cfgA.code 215 = some F215 := by kernel_rfl

/-- (*ticketline/mem.Once).Store -/
noncomputable def F216 : AFn := ⟨18, [.tmp 6], (.seq
 (.ops 0 [⟨some 6, none, .mv (.c (.int .i64 0)), []⟩])
 (.seq
  (.ops 1 [⟨some 10, none, .mv (.t 0), []⟩,
    ⟨some 11, none, .mv (.t 1), []⟩,
    ⟨some 12, none, .mv (.t 2), []⟩,
    ⟨some 13, none, .build [.int .i64 0, .int .i64 0, .int .u64 0, .int .u64 0] [(0, 1, (.c (.int .i64 2))), (1, 1, (.t 11)), (3, 1, (.t 12))], []⟩,
    ⟨some 14, none, .call 218 [.t 10, .t 13], []⟩,
    ⟨some 9, none, .mv (.t 14), []⟩,
    ⟨some 15, none, .ext (.t 9) 0, []⟩,
    ⟨some 16, none, .ext (.t 9) 1, []⟩,
    ⟨some 7, none, .alloc [.int .i64 0, .int .i64 0, .int .u64 0, .int .u64 0] false, []⟩,
    ⟨none, none, .st 4 (.t 7) (.t 15), []⟩,
    ⟨some 8, none, .mv (.t 16), []⟩])
  (.seq
   (.ops 2 [⟨some 17, none, .mv (.t 8), []⟩,
     ⟨some 6, none, .mv (.t 17), []⟩])
   .ret)))⟩
theorem F216_code : cfgA.code 216 = some F216 := by kernel_rfl

/-- (*ticketline/mem.Once).Swap -/
noncomputable def F217 : AFn := ⟨21, [.tmp 6, .tmp 7], (.seq
 (.ops 0 [⟨some 6, none, .mv (.c (.int .u64 0)), []⟩,
   ⟨some 7, none, .mv (.c (.int .i64 0)), []⟩])
 (.seq
  (.ops 1 [⟨some 11, none, .mv (.t 0), []⟩,
    ⟨some 12, none, .mv (.t 1), []⟩,
    ⟨some 13, none, .mv (.t 2), []⟩,
    ⟨some 14, none, .build [.int .i64 0, .int .i64 0, .int .u64 0, .int .u64 0] [(0, 1, (.c (.int .i64 4))), (1, 1, (.t 12)), (3, 1, (.t 13))], []⟩,
    ⟨some 15, none, .call 218 [.t 11, .t 14], []⟩,
    ⟨some 10, none, .mv (.t 15), []⟩,
    ⟨some 16, none, .ext (.t 10) 0, []⟩,
    ⟨some 17, none, .ext (.t 10) 1, []⟩,
    ⟨some 8, none, .alloc [.int .i64 0, .int .i64 0, .int .u64 0, .int .u64 0] false, []⟩,
    ⟨none, none, .st 4 (.t 8) (.t 16), []⟩,
    ⟨some 9, none, .mv (.t 17), []⟩])
  (.seq
   (.ops 2 [⟨some 18, none, .fld 2 (.t 8), []⟩,
     ⟨some 19, none, .ld 1 false (.t 18), []⟩,
     ⟨some 20, none, .mv (.t 9), []⟩,
     ⟨some 6, none, .mv (.t 19), []⟩,
     ⟨some 7, none, .mv (.t 20), []⟩])
   .ret)))⟩
theorem F217_code : cfgA.code 217 = some F217 := by kernel_rfl

/-- (*ticketline/mem.Once).do -/
noncomputable def F218 : AFn := ⟨37, [.cell 4 4 true, .tmp 5], (.seq
 (.ops 0 [⟨some 3, none, .box 4 (.t 1) false, []⟩,
   ⟨some 4, none, .alloc [.int .i64 0, .int .i64 0, .int .u64 0, .int .u64 0] false, []⟩,
   ⟨some 5, none, .mv (.c (.int .i64 0)), []⟩])
 (.seq
  (.block 0
   (.seq
    (.ops 1 [⟨some 9, none, .mv (.t 0), []⟩,
      ⟨some 10, none, .call 155 [.t 9], []⟩,
      ⟨some 8, none, .mv (.t 10), []⟩])
    (.cond (.t 8)
     (.seq
      (.ops 2 [⟨some 11, none, .build [.int .i64 0, .int .i64 0, .int .u64 0, .int .u64 0] [], []⟩,
        ⟨none, none, .st 4 (.t 4) (.t 11), []⟩,
        ⟨some 5, none, .mv (.c (.int .i64 1)), []⟩])
      .ret)
     (.seq
      (.ops 3 [⟨some 13, none, .mv (.t 0), []⟩,
        ⟨some 14, none, .nilc (.t 13) (mok Tryz.prog), []⟩,
        ⟨some 15, none, .fld 1 (.t 14), []⟩,
        ⟨some 16, none, .fld 0 (.t 15), []⟩,
        ⟨some 17, none, .ld 1 false (.t 16), []⟩,
        ⟨some 18, none, .bin .neq (.t 17) (.c (.int .i64 0)), []⟩,
        ⟨some 12, none, .mv (.t 18), []⟩])
      (.cond (.t 12)
       (.seq
        (.ops 4 [⟨some 19, none, .build [.int .i64 0, .int .i64 0, .int .u64 0, .int .u64 0] [], []⟩,
          ⟨none, none, .st 4 (.t 4) (.t 19), []⟩,
          ⟨some 5, none, .mv (.c (.int .i64 11)), []⟩])
        .ret)
       .skip)))))
  (.seq
   (.ops 5 [⟨some 21, none, .mv (.t 0), []⟩,
     ⟨some 22, none, .nilc (.t 21) (mok Tryz.prog), []⟩,
     ⟨some 23, none, .fld 0 (.t 22), []⟩,
     ⟨some 24, none, .ld 1 false (.t 23), []⟩,
     ⟨some 25, none, .ld 4 true (.t 3), []⟩,
     ⟨some 6, none, .alloc [.int .i64 0, .int .i64 0, .int .u64 0, .int .u64 0] false, []⟩,
     ⟨some 26, none, .call 120 [.t 24, .t 25], []⟩,
     ⟨some 20, none, .mv (.t 26), []⟩,
     ⟨some 27, none, .ext (.t 20) 0, []⟩,
     ⟨some 28, none, .ext (.t 20) 1, []⟩,
     ⟨none, none, .st 4 (.t 6) (.t 27), []⟩,
     ⟨some 7, none, .mv (.t 28), []⟩])
   (.seq
    (.seq
     (.ops 6 [⟨some 29, none, .mv (.t 7), []⟩,
       ⟨some 30, none, .bin .eql (.t 29) (.c (.int .i64 0)), []⟩])
     (.cond (.t 30)
      (.ops 7 [⟨some 31, none, .mv (.t 0), []⟩,
        ⟨some 32, none, .ld 4 true (.t 6), []⟩,
        ⟨some 33, none, .nilc (.t 31) (mok Tryz.prog), []⟩,
        ⟨some 34, none, .fld 1 (.t 33), []⟩,
        ⟨none, none, .st 4 (.t 34) (.t 32), []⟩])
      .skip))
    (.seq
     (.ops 8 [⟨some 35, none, .ld 4 true (.t 6), []⟩,
       ⟨some 36, none, .mv (.t 7), []⟩,
       ⟨none, none, .st 4 (.t 4) (.t 35), []⟩,
       ⟨some 5, none, .mv (.t 36), []⟩])
     .ret)))))⟩
theorem F218_code : cfgA.code 218 = some F218 := by kernel_rfl

/-- (*ticketline/version.Write).Done -/
noncomputable def F220 : AFn := ⟨18, [.tmp 2], (.seq
 (.ops 0 [⟨some 2, none, .mv (.c (.bool false)), []⟩])
 (.seq
  (.ops 1 [⟨some 3, none, .mv (.t 0), []⟩,
    ⟨some 4, none, .eqn .ptr false (.t 3), []⟩,
    ⟨some 5, none, .mv (.t 4), []⟩,
    ⟨some 6, some (5, false), .mv (.t 0), []⟩,
    ⟨some 7, some (5, false), .nilc (.t 6) (mok Tryz.prog), []⟩,
    ⟨some 8, some (5, false), .fld 0 (.t 7), []⟩,
    ⟨some 9, some (5, false), .ld 1 false (.t 8), []⟩,
    ⟨some 10, some (5, false), .un .not (.t 9), []⟩,
    ⟨some 11, none, .pick (.t 5) (.c (.bool true)) (.t 10), []⟩,
    ⟨some 12, none, .mv (.t 11), []⟩,
    ⟨some 13, some (12, false), .mv (.t 0), []⟩,
    ⟨some 14, some (12, false), .nilc (.t 13) (mok Tryz.prog), []⟩,
    ⟨some 15, some (12, false), .fld 6 (.t 14), []⟩,
    ⟨some 16, some (12, false), .ld 1 false (.t 15), []⟩,
    ⟨some 17, none, .pick (.t 12) (.c (.bool true)) (.t 16), []⟩,
    ⟨some 2, none, .mv (.t 17), []⟩])
  .ret))⟩
theorem F220_code : cfgA.code 220 = some F220 := by kernel_rfl

/-- (*ticketline/version.Write).Step -/
noncomputable def F222 : AFn := ⟨139, [.tmp 4, .tmp 5], (.seq
 (.ops 0 [⟨some 4, none, .mv (.c (.bool false)), []⟩,
   ⟨some 5, none, .mv (.c (.int .i64 0)), []⟩])
 (.seq
  (.block 0
   (.seq
    (.ops 1 [⟨some 11, none, .mv (.t 0), []⟩,
      ⟨some 12, none, .eqn .ptr false (.t 11), []⟩,
      ⟨some 13, none, .mv (.t 12), []⟩,
      ⟨some 14, some (13, false), .mv (.t 0), []⟩,
      ⟨some 15, some (13, false), .nilc (.t 14) (mok Tryz.prog), []⟩,
      ⟨some 16, some (13, false), .fld 0 (.t 15), []⟩,
      ⟨some 17, some (13, false), .ld 1 false (.t 16), []⟩,
      ⟨some 18, some (13, false), .un .not (.t 17), []⟩,
      ⟨some 19, none, .pick (.t 13) (.c (.bool true)) (.t 18), []⟩,
      ⟨some 20, none, .mv (.t 19), []⟩,
      ⟨some 21, some (20, false), .mv (.t 1), []⟩,
      ⟨some 22, some (20, false), .eqn .iface false (.t 21), []⟩,
      ⟨some 23, none, .pick (.t 20) (.c (.bool true)) (.t 22), []⟩,
      ⟨some 10, none, .mv (.t 23), []⟩])
    (.cond (.t 10)
     (.seq
      (.ops 2 [⟨some 4, none, .mv (.c (.bool false)), []⟩,
        ⟨some 5, none, .mv (.c (.int .i64 1)), []⟩])
      .ret)
     (.seq
      (.ops 3 [⟨some 25, none, .mv (.t 0), []⟩,
        ⟨some 26, none, .nilc (.t 25) (mok Tryz.prog), []⟩,
        ⟨some 27, none, .fld 6 (.t 26), []⟩,
        ⟨some 28, none, .ld 1 false (.t 27), []⟩,
        ⟨some 24, none, .mv (.t 28), []⟩])
      (.cond (.t 24)
       (.seq
        (.ops 4 [⟨some 4, none, .mv (.c (.bool false)), []⟩,
          ⟨some 5, none, .mv (.c (.int .i64 17)), []⟩])
        .ret)
       .skip)))))
  (.seq
   (.ops 5 [⟨some 6, none, .mv (.c (.int .i64 0)), []⟩])
   (.seq
    (.seq
     (.ops 6 [⟨some 29, none, .mv (.t 0), []⟩,
       ⟨some 30, none, .nilc (.t 29) (mok Tryz.prog), []⟩,
       ⟨some 31, none, .fld 5 (.t 30), []⟩,
       ⟨some 32, none, .ld 1 false (.t 31), []⟩,
       ⟨some 33, none, .bin .sub (.t 32) (.c (.int .i64 2)), []⟩,
       ⟨some 7, none, .mv (.t 33), []⟩])
     (.block 1
      (.seq
       (.ops 9 [⟨some 54, none, .mv (.t 0), []⟩,
         ⟨some 55, none, .nilc (.t 54) (mok Tryz.prog), []⟩,
         ⟨some 56, none, .fld 5 (.t 55), []⟩,
         ⟨some 57, none, .ld 1 false (.t 56), []⟩,
         ⟨some 58, none, .bin .eql (.t 57) (.c (.int .i64 0)), []⟩,
         ⟨some 53, none, .mv (.t 58), []⟩])
       (.cond (.t 53)
        (.seq
         (.ops 10 [⟨some 60, none, .mv (.t 1), []⟩,
           ⟨some 61, none, .mv (.t 0), []⟩,
           ⟨some 62, none, .nilc (.t 61) (mok Tryz.prog), []⟩,
           ⟨some 63, none, .fld 1 (.t 62), []⟩,
           ⟨some 64, none, .ld 1 false (.t 63), []⟩,
           ⟨some 65, none, .mkv "Load" (.t 60), []⟩,
           ⟨some 66, none, .nilc (.t 65) (mok Tryz.prog), []⟩,
           ⟨some 67, none, .mv (.t 60), []⟩,
           ⟨some 68, none, .invk (.t 67) "Load" [.t 64], []⟩,
           ⟨some 59, none, .mv (.t 68), []⟩,
           ⟨some 69, none, .ext (.t 59) 0, []⟩,
           ⟨some 70, none, .ext (.t 59) 1, []⟩,
           ⟨some 8, none, .mv (.t 69), []⟩,
           ⟨some 9, none, .mv (.t 70), []⟩])
         (.seq
          (.seq
           (.ops 11 [⟨some 71, none, .mv (.t 9), []⟩,
             ⟨some 6, none, .mv (.t 71), []⟩])
           (.seq
            (.ops 12 [⟨some 72, none, .mv (.t 6), []⟩,
              ⟨some 73, none, .bin .eql (.t 72) (.c (.int .i64 0)), []⟩,
              ⟨some 74, none, .mv (.t 73), []⟩,
              ⟨some 75, some (74, true), .mv (.t 8), []⟩,
              ⟨some 76, some (74, true), .call 90 [.t 75], []⟩,
              ⟨some 77, some (74, true), .un .not (.t 76), []⟩,
              ⟨some 78, none, .pick (.t 74) (.t 77) (.c (.bool false)), []⟩])
            (.cond (.t 78)
             (.ops 13 [⟨some 6, none, .mv (.c (.int .i64 8)), []⟩])
             .skip)))
          (.ops 14 [⟨some 79, none, .mv (.t 0), []⟩,
            ⟨some 80, none, .mv (.t 8), []⟩,
            ⟨some 81, none, .nilc (.t 79) (mok Tryz.prog), []⟩,
            ⟨some 82, none, .fld 4 (.t 81), []⟩,
            ⟨none, none, .st 1 (.t 82) (.t 80), []⟩])))
        (.seq
         (.ops 15 [⟨some 84, none, .mv (.t 0), []⟩,
           ⟨some 85, none, .nilc (.t 84) (mok Tryz.prog), []⟩,
           ⟨some 86, none, .fld 5 (.t 85), []⟩,
           ⟨some 87, none, .ld 1 false (.t 86), []⟩,
           ⟨some 88, none, .bin .eql (.t 87) (.c (.int .i64 1)), []⟩,
           ⟨some 83, none, .mv (.t 88), []⟩])
         (.cond (.t 83)
          (.ops 16 [⟨some 89, none, .mv (.t 1), []⟩,
            ⟨some 90, none, .mv (.t 0), []⟩,
            ⟨some 91, none, .nilc (.t 90) (mok Tryz.prog), []⟩,
            ⟨some 92, none, .fld 1 (.t 91), []⟩,
            ⟨some 93, none, .ld 1 false (.t 92), []⟩,
            ⟨some 94, none, .mv (.t 0), []⟩,
            ⟨some 95, none, .nilc (.t 94) (mok Tryz.prog), []⟩,
            ⟨some 96, none, .fld 4 (.t 95), []⟩,
            ⟨some 97, none, .ld 1 false (.t 96), []⟩,
            ⟨some 98, none, .bin .add (.t 97) (.c (.int .u64 1)), []⟩,
            ⟨some 99, none, .mkv "Store" (.t 89), []⟩,
            ⟨some 100, none, .nilc (.t 99) (mok Tryz.prog), []⟩,
            ⟨some 101, none, .mv (.t 89), []⟩,
            ⟨some 102, none, .invk (.t 101) "Store" [.t 93, .t 98], []⟩,
            ⟨some 6, none, .mv (.t 102), []⟩])
          (.seq
           (.ops 17 [⟨some 104, none, .mv (.t 7), []⟩,
             ⟨some 105, none, .mv (.t 0), []⟩,
             ⟨some 106, none, .nilc (.t 105) (mok Tryz.prog), []⟩,
             ⟨some 107, none, .fld 3 (.t 106), []⟩,
             ⟨some 108, none, .ld 1 false (.t 107), []⟩,
             ⟨some 109, none, .len .slice (.t 108), []⟩,
             ⟨some 110, none, .bin .lss (.t 104) (.t 109), []⟩,
             ⟨some 103, none, .mv (.t 110), []⟩])
           (.cond (.t 103)
            (.ops 18 [⟨some 111, none, .mv (.t 1), []⟩,
              ⟨some 112, none, .mv (.t 0), []⟩,
              ⟨some 113, none, .nilc (.t 112) (mok Tryz.prog), []⟩,
              ⟨some 114, none, .fld 2 (.t 113), []⟩,
              ⟨some 115, none, .ld 1 false (.t 114), []⟩,
              ⟨some 116, none, .mv (.t 7), []⟩,
              ⟨some 117, none, .bin .add (.t 115) (.t 116), []⟩,
              ⟨some 118, none, .mv (.t 0), []⟩,
              ⟨some 119, none, .nilc (.t 118) (mok Tryz.prog), []⟩,
              ⟨some 120, none, .fld 3 (.t 119), []⟩,
              ⟨some 121, none, .ld 1 false (.t 120), []⟩,
              ⟨some 122, none, .mv (.t 7), []⟩,
              ⟨some 123, none, .ixa none 1 (.t 121) (.t 122), []⟩,
              ⟨some 124, none, .ld 1 false (.t 123), []⟩,
              ⟨some 125, none, .mkv "Store" (.t 111), []⟩,
              ⟨some 126, none, .nilc (.t 125) (mok Tryz.prog), []⟩,
              ⟨some 127, none, .mv (.t 111), []⟩,
              ⟨some 128, none, .invk (.t 127) "Store" [.t 117, .t 124], []⟩,
              ⟨some 6, none, .mv (.t 128), []⟩])
            (.seq
             (.ops 7 [⟨some 34, none, .mv (.t 1), []⟩,
               ⟨some 35, none, .mv (.t 0), []⟩,
               ⟨some 36, none, .nilc (.t 35) (mok Tryz.prog), []⟩,
               ⟨some 37, none, .fld 1 (.t 36), []⟩,
               ⟨some 38, none, .ld 1 false (.t 37), []⟩,
               ⟨some 39, none, .mv (.t 0), []⟩,
               ⟨some 40, none, .nilc (.t 39) (mok Tryz.prog), []⟩,
               ⟨some 41, none, .fld 4 (.t 40), []⟩,
               ⟨some 42, none, .ld 1 false (.t 41), []⟩,
               ⟨some 43, none, .bin .add (.t 42) (.c (.int .u64 2)), []⟩,
               ⟨some 44, none, .mkv "Store" (.t 34), []⟩,
               ⟨some 45, none, .nilc (.t 44) (mok Tryz.prog), []⟩,
               ⟨some 46, none, .mv (.t 34), []⟩,
               ⟨some 47, none, .invk (.t 46) "Store" [.t 38, .t 43], []⟩,
               ⟨some 6, none, .mv (.t 47), []⟩])
             (.ops 8 [⟨some 48, none, .mv (.t 0), []⟩,
               ⟨some 49, none, .mv (.t 6), []⟩,
               ⟨some 50, none, .bin .eql (.t 49) (.c (.int .i64 0)), []⟩,
               ⟨some 51, none, .nilc (.t 48) (mok Tryz.prog), []⟩,
               ⟨some 52, none, .fld 6 (.t 51), []⟩,
               ⟨none, none, .st 1 (.t 52) (.t 50), []⟩]))))))))))
    (.seq
     (.seq
      (.ops 19 [⟨some 129, none, .mv (.t 6), []⟩,
        ⟨some 130, none, .bin .eql (.t 129) (.c (.int .i64 0)), []⟩])
      (.cond (.t 130)
       (.ops 20 [⟨some 131, none, .mv (.t 0), []⟩,
         ⟨some 132, none, .nilc (.t 131) (mok Tryz.prog), []⟩,
         ⟨some 133, none, .fld 5 (.t 132), []⟩,
         ⟨some 134, none, .ld 1 false (.t 133), []⟩,
         ⟨some 135, none, .bin .add (.t 134) (.c (.int .i64 1)), []⟩,
         ⟨some 136, none, .nilc (.t 131) (mok Tryz.prog), []⟩,
         ⟨some 137, none, .fld 5 (.t 136), []⟩,
         ⟨none, none, .st 1 (.t 137) (.t 135), []⟩])
       .skip))
     (.seq
      (.ops 21 [⟨some 138, none, .mv (.t 6), []⟩,
        ⟨some 4, none, .mv (.c (.bool false)), []⟩,
        ⟨some 5, none, .mv (.t 138), []⟩])
      .ret))))))⟩
theorem F222_code : cfgA.code 222 = some F222 := by kernel_rfl

/-- (*ticketline/grow.Take).Done -/
noncomputable def F224 : AFn := ⟨12, [.tmp 2], (.seq
 (.ops 0 [⟨some 2, none, .mv (.c (.bool false)), []⟩])
 (.seq
  (.ops 1 [⟨some 3, none, .mv (.t 0), []⟩,
    ⟨some 4, none, .call 183 [.t 3], []⟩,
    ⟨some 5, none, .mv (.t 4), []⟩,
    ⟨some 6, some (5, false), .mv (.t 0), []⟩,
    ⟨some 7, some (5, false), .nilc (.t 6) (mok Tryz.prog), []⟩,
    ⟨some 8, some (5, false), .fld 3 (.t 7), []⟩,
    ⟨some 9, some (5, false), .ld 1 false (.t 8), []⟩,
    ⟨some 10, some (5, false), .bin .eql (.t 9) (.c (.int .i64 17)), []⟩,
    ⟨some 11, none, .pick (.t 5) (.c (.bool true)) (.t 10), []⟩,
    ⟨some 2, none, .mv (.t 11), []⟩])
  .ret))⟩
theorem F224_code : cfgA.code 224 = some F224 := by kernel_rfl

end Den
