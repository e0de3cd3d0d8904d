/-
  The functions of this seat as the abstract machine runs them. Printed by a program of this project.
-/
import Derived.Test.YtnojanlkminpaaaP2
import Derived.Test.YtnojanlkminpaaaProg
import Derived.KernelRfl
import Derived.Shelf.SlSortCmp.WholeK
import Derived.Ground.SlsfProg
import Derived.Shelf.SlGeneric
section
set_option maxRecDepth 100000
namespace Go.AM
open Go

/- (*redpencil/buffer.Buffer).Len -/
def a19 : AFn := ⟨10, [.t 2],
  .seq
  (.reg [⟨(some 2), .mv (.c (.int .i64 0)), none, none, false⟩])
  (.seq
   (.seq
    (.reg [⟨(some 3), .mv (.t 0), none, none, false⟩,
       ⟨(some 4), .bin .eql .np (.t 3) (.c .nilp), none, none, false⟩])
    (.cond (.t 4)
     (.seq
      (.reg [⟨(some 2), .mv (.c (.int .i64 0)), none, none, false⟩])
      (.ret))
     (.skip)))
   (.seq
    (.reg [⟨(some 5), .mv (.t 0), none, none, false⟩,
       ⟨(some 6), .nchk (.t 5), none, none, false⟩,
       ⟨(some 7), .fad 1 (.t 6), none, none, false⟩,
       ⟨(some 8), .load1 (.t 7), none, none, false⟩,
       ⟨(some 9), .len .sl (.t 8), none, none, false⟩,
       ⟨(some 2), .mv (.t 9), none, none, false⟩])
    (.ret)))⟩

/- (*redpencil/buffer.Buffer).First -/
def a20 : AFn := ⟨10, [.t 2],
  .seq
  (.reg [⟨(some 2), .mv (.c (.int .i64 0)), none, none, false⟩])
  (.seq
   (.seq
    (.reg [⟨(some 3), .mv (.t 0), none, none, false⟩,
       ⟨(some 4), .bin .eql .np (.t 3) (.c .nilp), none, none, false⟩])
    (.cond (.t 4)
     (.seq
      (.reg [⟨(some 2), .mv (.c (.int .i64 0)), none, none, false⟩])
      (.ret))
     (.skip)))
   (.seq
    (.reg [⟨(some 5), .mv (.t 0), none, none, false⟩,
       ⟨(some 6), .nchk (.t 5), none, none, false⟩,
       ⟨(some 7), .fad 0 (.t 6), none, none, false⟩,
       ⟨(some 8), .load1 (.t 7), none, none, false⟩,
       ⟨(some 9), .bin .add .no (.t 8) (.c (.int .i64 1)), none, none, false⟩,
       ⟨(some 2), .mv (.t 9), none, none, false⟩])
    (.ret)))⟩

/- (*redpencil/buffer.Buffer).Last -/
def a21 : AFn := ⟨15, [.t 2],
  .seq
  (.reg [⟨(some 2), .mv (.c (.int .i64 0)), none, none, false⟩])
  (.seq
   (.seq
    (.reg [⟨(some 3), .mv (.t 0), none, none, false⟩,
       ⟨(some 4), .bin .eql .np (.t 3) (.c .nilp), none, none, false⟩])
    (.cond (.t 4)
     (.seq
      (.reg [⟨(some 2), .mv (.c (.int .i64 0)), none, none, false⟩])
      (.ret))
     (.skip)))
   (.seq
    (.regd 0 [⟨(some 5), .mv (.t 0), none, none, false⟩,
       ⟨(some 6), .nchk (.t 5), none, none, false⟩,
       ⟨(some 7), .fad 0 (.t 6), none, none, false⟩,
       ⟨(some 8), .load1 (.t 7), none, none, false⟩,
       ⟨(some 9), .mv (.t 0), none, none, false⟩,
       ⟨(some 10), .nchk (.t 9), none, none, false⟩,
       ⟨(some 11), .fad 1 (.t 10), none, none, false⟩,
       ⟨(some 12), .load1 (.t 11), none, none, false⟩,
       ⟨(some 13), .len .sl (.t 12), none, none, false⟩,
       ⟨(some 14), .bin .add .no (.t 8) (.t 13), none, none, false⟩,
       ⟨(some 2), .mv (.t 14), none, none, false⟩])
    (.ret)))⟩

/- (*redpencil/buffer.Buffer).Between -/
def a22 : AFn := ⟨48, [.t 6, .t 7],
  .seq
  (.reg [⟨(some 6), .mv (.c .nils), none, none, false⟩,
     ⟨(some 7), .mv (.c (.int .i64 0)), none, none, false⟩])
  (.seq
   (.block 0 (.seq
     (.reg [⟨(some 9), .mv (.t 0), none, none, false⟩,
        ⟨(some 10), .bin .eql .np (.t 9) (.c .nilp), none, none, false⟩,
        ⟨(some 8), .mv (.t 10), none, none, false⟩])
     (.cond (.t 8)
      (.seq
       (.reg [⟨(some 6), .mv (.c .nils), none, none, false⟩,
          ⟨(some 7), .mv (.c (.int .i64 1)), none, none, false⟩])
       (.ret))
      (.seq
       (.reg [⟨(some 12), .mv (.t 1), none, none, false⟩,
          ⟨(some 13), .bin .lss .no (.t 12) (.c (.int .i64 1)), none, none, false⟩,
          ⟨(some 14), .mv (.t 13), none, none, false⟩,
          ⟨(some 15), .mv (.t 1), (some (14, false)), none, false⟩,
          ⟨(some 16), .mv (.t 2), (some (14, false)), none, false⟩,
          ⟨(some 17), .bin .gtr .no (.t 15) (.t 16), (some (14, false)), none, false⟩,
          ⟨(some 18), .pick (.t 14) (.c (.bool true)) (.t 17), none, none, false⟩,
          ⟨(some 11), .mv (.t 18), none, none, false⟩])
       (.cond (.t 11)
        (.seq
         (.reg [⟨(some 6), .mv (.c .nils), none, none, false⟩,
            ⟨(some 7), .mv (.c (.int .i64 2)), none, none, false⟩])
         (.ret))
        (.seq
         (.reg [⟨(some 20), .mv (.t 1), none, none, false⟩,
            ⟨(some 21), .mv (.t 0), none, none, false⟩,
            ⟨(some 22), .call 20 false [(.t 21)], none, none, false⟩,
            ⟨(some 23), .bin .lss .no (.t 20) (.t 22), none, none, false⟩,
            ⟨(some 24), .mv (.t 23), none, none, false⟩,
            ⟨(some 25), .mv (.t 2), (some (24, false)), none, false⟩,
            ⟨(some 26), .mv (.t 0), (some (24, false)), none, false⟩,
            ⟨(some 27), .call 21 false [(.t 26)], (some (24, false)), none, false⟩,
            ⟨(some 28), .bin .gtr .no (.t 25) (.t 27), (some (24, false)), none, false⟩,
            ⟨(some 29), .pick (.t 24) (.c (.bool true)) (.t 28), none, none, false⟩,
            ⟨(some 19), .mv (.t 29), none, none, false⟩])
         (.cond (.t 19)
          (.seq
           (.reg [⟨(some 6), .mv (.c .nils), none, none, false⟩,
              ⟨(some 7), .mv (.c (.int .i64 9)), none, none, false⟩])
           (.ret))
          (.skip))))))))
   (.seq
    (.regd 0 [⟨(some 30), .mv (.t 0), none, none, false⟩,
       ⟨(some 31), .nchk (.t 30), none, none, false⟩,
       ⟨(some 32), .fad 1 (.t 31), none, none, false⟩,
       ⟨(some 33), .load1 (.t 32), none, none, false⟩,
       ⟨(some 34), .mv (.t 1), none, none, false⟩,
       ⟨(some 35), .mv (.t 0), none, none, false⟩,
       ⟨(some 36), .call 20 true [(.t 35)], none, none, false⟩,
       ⟨(some 37), .bin .sub .no (.t 34) (.t 36), none, none, false⟩,
       ⟨(some 38), .mv (.t 2), none, none, false⟩,
       ⟨(some 39), .mv (.t 0), none, none, false⟩,
       ⟨(some 40), .nchk (.t 39), none, none, false⟩,
       ⟨(some 41), .fad 0 (.t 40), none, none, false⟩,
       ⟨(some 42), .load1 (.t 41), none, none, false⟩,
       ⟨(some 43), .bin .sub .no (.t 38) (.t 42), none, none, false⟩,
       ⟨(some 44), .slc 1 (.t 33) (some (.t 37)) (some (.t 43)) none, none, none, false⟩,
       ⟨(some 45), .call 25 false [(.t 44)], none, none, false⟩,
       ⟨(some 46), .ext (.t 45) 0, none, none, false⟩,
       ⟨(some 47), .ext (.t 45) 1, none, none, false⟩,
       ⟨(some 6), .mv (.t 46), none, none, false⟩,
       ⟨(some 7), .mv (.t 47), none, none, false⟩])
    (.ret)))⟩

/- redpencil/join.Join -/
def a23 : AFn := ⟨80, [.t 4, .t 5],
  .seq
  (.reg [⟨(some 4), .mv (.c .nils), none, none, false⟩,
     ⟨(some 5), .mv (.c (.int .i64 0)), none, none, false⟩])
  (.seq
   (.seq
    (.reg [⟨(some 9), .mv (.t 0), none, none, false⟩,
       ⟨(some 10), .call 35 false [(.t 9)], none, none, false⟩,
       ⟨(some 11), .un .not (.t 10), none, none, false⟩,
       ⟨(some 12), .mv (.t 11), none, none, false⟩,
       ⟨(some 13), .mv (.t 1), (some (12, false)), none, false⟩,
       ⟨(some 14), .call 35 false [(.t 13)], (some (12, false)), none, false⟩,
       ⟨(some 15), .un .not (.t 14), (some (12, false)), none, false⟩,
       ⟨(some 16), .pick (.t 12) (.c (.bool true)) (.t 15), none, none, false⟩])
    (.cond (.t 16)
     (.seq
      (.reg [⟨(some 4), .mv (.c .nils), none, none, false⟩,
         ⟨(some 5), .mv (.c (.int .i64 2)), none, none, false⟩])
      (.ret))
     (.skip)))
   (.seq
    (.reg [⟨(some 6), .mv (.c .nils), none, none, false⟩])
    (.seq
     (.block 0 (.loop (.seq
        (.seq
         (.reg [⟨(some 17), .mv (.t 0), none, none, false⟩,
            ⟨(some 18), .len .sl (.t 17), none, none, false⟩,
            ⟨(some 19), .bin .gtr .no (.t 18) (.c (.int .i64 0)), none, none, false⟩,
            ⟨(some 20), .mv (.t 19), none, none, false⟩,
            ⟨(some 21), .mv (.t 1), (some (20, true)), none, false⟩,
            ⟨(some 22), .len .sl (.t 21), (some (20, true)), none, false⟩,
            ⟨(some 23), .bin .gtr .no (.t 22) (.c (.int .i64 0)), (some (20, true)), none, false⟩,
            ⟨(some 24), .pick (.t 20) (.t 23) (.c (.bool false)), none, none, false⟩])
         (.cond (.t 24)
          (.skip)
          (.exit 0)))
        (.block 1 (.seq
          (.regd 0 [⟨(some 25), .mv (.t 0), none, none, false⟩,
             ⟨(some 26), .iad 6 (.t 25) (.c (.int .i64 0)), none, none, false⟩,
             ⟨(some 27), .fad 0 (.t 26), none, none, false⟩,
             ⟨(some 28), .loadn 2 (.t 27), none, none, false⟩,
             ⟨(some 29), .mv (.t 1), none, none, false⟩,
             ⟨(some 30), .iad 6 (.t 29) (.c (.int .i64 0)), none, none, false⟩,
             ⟨(some 31), .fad 0 (.t 30), none, none, false⟩,
             ⟨(some 32), .loadn 2 (.t 31), none, none, false⟩,
             ⟨(some 33), .call 38 false [(.t 28), (.t 32)], none, none, false⟩])
          (.block 2 (.seq
            (.reg [⟨(some 56), .bin .eql .no (.t 33) (.c (.int .i64 (-1))), none, none, false⟩,
               ⟨(some 55), .mv (.t 56), none, none, false⟩])
            (.cond (.t 55)
             (.regd 1 [⟨(some 57), .mv (.t 6), none, none, false⟩,
                ⟨(some 58), .mv (.t 0), none, none, false⟩,
                ⟨(some 59), .iad 6 (.t 58) (.c (.int .i64 0)), none, none, false⟩,
                ⟨(some 60), .loadn 6 (.t 59), none, none, false⟩,
                ⟨(some 61), .bsl [(.int .i64 0), (.int .i64 0), (.int .i64 0), (.int .i64 0), (.int .i64 0), (.int .i32 0)] 1 6 [(0, (.t 60))], none, (some 0), false⟩,
                ⟨(some 62), .app 6 48 [(.int .i64 0), (.int .i64 0), (.int .i64 0), (.int .i64 0), (.int .i64 0), (.int .i32 0)] (.t 57) (.t 61), none, none, false⟩,
                ⟨(some 63), .mv (.t 0), none, none, false⟩,
                ⟨(some 64), .slc 6 (.t 63) (some (.c (.int .i64 1))) none none, none, none, false⟩,
                ⟨(some 6), .mv (.t 62), none, none, false⟩,
                ⟨(some 0), .mv (.t 64), none, none, false⟩])
             (.seq
              (.reg [⟨(some 66), .bin .eql .no (.t 33) (.c (.int .i64 1)), none, none, false⟩,
                 ⟨(some 65), .mv (.t 66), none, none, false⟩])
              (.cond (.t 65)
               (.regd 1 [⟨(some 67), .mv (.t 6), none, none, false⟩,
                  ⟨(some 68), .mv (.t 1), none, none, false⟩,
                  ⟨(some 69), .iad 6 (.t 68) (.c (.int .i64 0)), none, none, false⟩,
                  ⟨(some 70), .loadn 6 (.t 69), none, none, false⟩,
                  ⟨(some 71), .bsl [(.int .i64 0), (.int .i64 0), (.int .i64 0), (.int .i64 0), (.int .i64 0), (.int .i32 0)] 1 6 [(0, (.t 70))], none, (some 0), false⟩,
                  ⟨(some 72), .app 6 48 [(.int .i64 0), (.int .i64 0), (.int .i64 0), (.int .i64 0), (.int .i64 0), (.int .i32 0)] (.t 67) (.t 71), none, none, false⟩,
                  ⟨(some 73), .mv (.t 1), none, none, false⟩,
                  ⟨(some 74), .slc 6 (.t 73) (some (.c (.int .i64 1))) none none, none, none, false⟩,
                  ⟨(some 6), .mv (.t 72), none, none, false⟩,
                  ⟨(some 1), .mv (.t 74), none, none, false⟩])
               (.seq
                (.regd 1 [⟨(some 35), .mv (.t 0), none, none, false⟩,
                   ⟨(some 36), .iad 6 (.t 35) (.c (.int .i64 0)), none, none, false⟩,
                   ⟨(some 37), .loadn 6 (.t 36), none, none, false⟩,
                   ⟨(some 38), .mv (.t 1), none, none, false⟩,
                   ⟨(some 39), .iad 6 (.t 38) (.c (.int .i64 0)), none, none, false⟩,
                   ⟨(some 40), .loadn 6 (.t 39), none, none, false⟩,
                   ⟨(some 41), .call 39 false [(.t 37), (.t 40)], none, none, false⟩,
                   ⟨(some 34), .mv (.t 41), none, none, false⟩,
                   ⟨(some 42), .ext (.t 34) 0, none, none, false⟩,
                   ⟨(some 43), .ext (.t 34) 1, none, none, false⟩,
                   ⟨(some 7), .alloc [(.int .i64 0), (.int .i64 0), (.int .i64 0), (.int .i64 0), (.int .i64 0), (.int .i32 0)], none, (some 0), false⟩,
                   ⟨none, .store 6 (.t 7) (.t 42), none, none, false⟩,
                   ⟨(some 8), .mv (.t 43), none, none, false⟩])
                (.seq
                 (.seq
                  (.reg [⟨(some 44), .mv (.t 8), none, none, false⟩,
                     ⟨(some 45), .bin .neq .no (.t 44) (.c (.int .i64 0)), none, none, false⟩])
                  (.cond (.t 45)
                   (.seq
                    (.reg [⟨(some 46), .mv (.t 8), none, none, false⟩,
                       ⟨(some 4), .mv (.c .nils), none, none, false⟩,
                       ⟨(some 5), .mv (.t 46), none, none, false⟩])
                    (.ret))
                   (.skip)))
                 (.regd 1 [⟨(some 47), .mv (.t 6), none, none, false⟩,
                    ⟨(some 48), .loadn 6 (.t 7), none, none, false⟩,
                    ⟨(some 49), .bsl [(.int .i64 0), (.int .i64 0), (.int .i64 0), (.int .i64 0), (.int .i64 0), (.int .i32 0)] 1 6 [(0, (.t 48))], none, (some 0), false⟩,
                    ⟨(some 50), .app 6 48 [(.int .i64 0), (.int .i64 0), (.int .i64 0), (.int .i64 0), (.int .i64 0), (.int .i32 0)] (.t 47) (.t 49), none, none, false⟩,
                    ⟨(some 51), .mv (.t 0), none, none, false⟩,
                    ⟨(some 52), .slc 6 (.t 51) (some (.c (.int .i64 1))) none none, none, none, false⟩,
                    ⟨(some 53), .mv (.t 1), none, none, false⟩,
                    ⟨(some 54), .slc 6 (.t 53) (some (.c (.int .i64 1))) none none, none, none, false⟩,
                    ⟨(some 6), .mv (.t 50), none, none, false⟩,
                    ⟨(some 0), .mv (.t 52), none, none, false⟩,
                    ⟨(some 1), .mv (.t 54), none, none, false⟩])))))))))))))
     (.seq
      (.reg [⟨(some 75), .mv (.t 6), none, none, false⟩,
         ⟨(some 76), .mv (.t 0), none, none, false⟩,
         ⟨(some 77), .app 6 48 [(.int .i64 0), (.int .i64 0), (.int .i64 0), (.int .i64 0), (.int .i64 0), (.int .i32 0)] (.t 75) (.t 76), none, none, false⟩,
         ⟨(some 78), .mv (.t 1), none, none, false⟩,
         ⟨(some 79), .app 6 48 [(.int .i64 0), (.int .i64 0), (.int .i64 0), (.int .i64 0), (.int .i64 0), (.int .i32 0)] (.t 77) (.t 78), none, none, false⟩,
         ⟨(some 4), .mv (.t 79), none, none, false⟩,
         ⟨(some 5), .mv (.c (.int .i64 0)), none, none, false⟩])
      (.ret)))))⟩

/- redpencil/redpencilref14.Same -/
def a24 : AFn := ⟨26, [.t 4],
  .seq
  (.reg [⟨(some 4), .mv (.c (.bool false)), none, none, false⟩])
  (.seq
   (.seq
    (.reg [⟨(some 6), .mv (.t 0), none, none, false⟩,
       ⟨(some 7), .len .sl (.t 6), none, none, false⟩,
       ⟨(some 8), .mv (.t 1), none, none, false⟩,
       ⟨(some 9), .len .sl (.t 8), none, none, false⟩,
       ⟨(some 10), .bin .neq .no (.t 7) (.t 9), none, none, false⟩])
    (.cond (.t 10)
     (.seq
      (.reg [⟨(some 4), .mv (.c (.bool false)), none, none, false⟩])
      (.ret))
     (.skip)))
   (.seq
    (.seq
     (.reg [⟨(some 5), .mv (.c (.int .i64 0)), none, none, false⟩])
     (.block 0 (.loop (.seq
        (.seq
         (.reg [⟨(some 11), .mv (.t 5), none, none, false⟩,
            ⟨(some 12), .mv (.t 0), none, none, false⟩,
            ⟨(some 13), .len .sl (.t 12), none, none, false⟩,
            ⟨(some 14), .bin .lss .no (.t 11) (.t 13), none, none, false⟩])
         (.cond (.t 14)
          (.skip)
          (.exit 0)))
        (.seq
         (.block 1 (.seq
           (.regd 0 [⟨(some 17), .mv (.t 0), none, none, false⟩,
              ⟨(some 18), .mv (.t 5), none, none, false⟩,
              ⟨(some 19), .iad 6 (.t 17) (.t 18), none, none, false⟩,
              ⟨(some 20), .loadn 6 (.t 19), none, none, false⟩,
              ⟨(some 21), .mv (.t 1), none, none, false⟩,
              ⟨(some 22), .mv (.t 5), none, none, false⟩,
              ⟨(some 23), .iad 6 (.t 21) (.t 22), none, none, false⟩,
              ⟨(some 24), .loadn 6 (.t 23), none, none, false⟩,
              ⟨(some 25), .bin .neq (.fl [.i, .i, .i, .i, .i, .i]) (.t 20) (.t 24), none, none, false⟩])
           (.cond (.t 25)
            (.seq
             (.reg [⟨(some 4), .mv (.c (.bool false)), none, none, false⟩])
             (.ret))
            (.skip))))
         (.reg [⟨(some 15), .mv (.t 5), none, none, false⟩,
            ⟨(some 16), .bin .add .no (.t 15) (.c (.int .i64 1)), none, none, false⟩,
            ⟨(some 5), .mv (.t 16), none, none, false⟩]))))))
    (.seq
     (.reg [⟨(some 4), .mv (.c (.bool true)), none, none, false⟩])
     (.ret))))⟩

/- redpencil/join.All -/
def a25 : AFn := ⟨24, [.t 2, .t 3],
  .seq
  (.reg [⟨(some 2), .mv (.c .nils), none, none, false⟩,
     ⟨(some 3), .mv (.c (.int .i64 0)), none, none, false⟩])
  (.seq
   (.reg [⟨(some 4), .mv (.c .nils), none, none, false⟩])
   (.seq
    (.seq
     (.reg [⟨(some 7), .mv (.t 0), none, none, false⟩,
        ⟨(some 8), .len .sl (.t 7), none, none, false⟩,
        ⟨(some 9), .mv (.c (.int .i64 0)), none, none, false⟩])
     (.block 0 (.loop (.seq
        (.reg [⟨(some 10), .bin .lss .no (.t 9) (.t 8), none, none, false⟩])
        (.seq
         (.cond (.t 10)
          (.skip)
          (.exit 0))
         (.seq
          (.block 1 (.seq
            (.reg [⟨(some 11), .iad 1 (.t 7) (.t 9), none, none, false⟩,
               ⟨(some 12), .load1 (.t 11), none, none, false⟩,
               ⟨(some 6), .mv (.t 12), none, none, false⟩])
            (.seq
             (.seq
              (.reg [⟨(some 13), .mv (.t 6), none, none, false⟩,
                 ⟨(some 14), .call 35 false [(.t 13)], none, none, false⟩,
                 ⟨(some 15), .un .not (.t 14), none, none, false⟩])
              (.cond (.t 15)
               (.seq
                (.reg [⟨(some 2), .mv (.c .nils), none, none, false⟩,
                   ⟨(some 3), .mv (.c (.int .i64 2)), none, none, false⟩])
                (.ret))
               (.skip)))
             (.reg [⟨(some 16), .mv (.t 4), none, none, false⟩,
                ⟨(some 17), .mv (.t 6), none, none, false⟩,
                ⟨(some 18), .app 6 48 [(.int .i64 0), (.int .i64 0), (.int .i64 0), (.int .i64 0), (.int .i64 0), (.int .i32 0)] (.t 16) (.t 17), none, none, false⟩,
                ⟨(some 4), .mv (.t 18), none, none, false⟩]))))
          (.reg [⟨(some 19), .bin .add .no (.t 9) (.c (.int .i64 1)), none, none, false⟩,
             ⟨(some 9), .mv (.t 19), none, none, false⟩])))))))
    (.seq
     (.reg [⟨(some 20), .mv (.t 4), none, none, false⟩,
        ⟨(some 21), .call 40 false [(.t 20)], none, none, false⟩,
        ⟨(some 22), .ext (.t 21) 0, none, none, false⟩,
        ⟨(some 23), .ext (.t 21) 1, none, none, false⟩,
        ⟨(some 2), .mv (.t 22), none, none, false⟩,
        ⟨(some 3), .mv (.t 23), none, none, false⟩])
     (.ret))))⟩

/- (*redpencil/buffer.Buffer).Forget -/
def a26 : AFn := ⟨61, [.t 4, .t 5],
  .seq
  (.reg [⟨(some 4), .mv (.c (.int .i64 0)), none, none, false⟩,
     ⟨(some 5), .mv (.c (.int .i64 0)), none, none, false⟩])
  (.seq
   (.block 0 (.seq
     (.reg [⟨(some 9), .mv (.t 0), none, none, false⟩,
        ⟨(some 10), .bin .eql .np (.t 9) (.c .nilp), none, none, false⟩,
        ⟨(some 8), .mv (.t 10), none, none, false⟩])
     (.cond (.t 8)
      (.seq
       (.reg [⟨(some 4), .mv (.c (.int .i64 0)), none, none, false⟩,
          ⟨(some 5), .mv (.c (.int .i64 1)), none, none, false⟩])
       (.ret))
      (.seq
       (.reg [⟨(some 12), .mv (.t 1), none, none, false⟩,
          ⟨(some 13), .bin .lss .no (.t 12) (.c (.int .i64 0)), none, none, false⟩,
          ⟨(some 11), .mv (.t 13), none, none, false⟩])
       (.cond (.t 11)
        (.seq
         (.reg [⟨(some 4), .mv (.c (.int .i64 0)), none, none, false⟩,
            ⟨(some 5), .mv (.c (.int .i64 2)), none, none, false⟩])
         (.ret))
        (.seq
         (.reg [⟨(some 15), .mv (.t 1), none, none, false⟩,
            ⟨(some 16), .mv (.t 0), none, none, false⟩,
            ⟨(some 17), .call 21 false [(.t 16)], none, none, false⟩,
            ⟨(some 18), .bin .gtr .no (.t 15) (.t 17), none, none, false⟩,
            ⟨(some 14), .mv (.t 18), none, none, false⟩])
         (.cond (.t 14)
          (.seq
           (.reg [⟨(some 4), .mv (.c (.int .i64 0)), none, none, false⟩,
              ⟨(some 5), .mv (.c (.int .i64 3)), none, none, false⟩])
           (.ret))
          (.skip))))))))
   (.seq
    (.reg [⟨(some 19), .mv (.t 1), none, none, false⟩,
       ⟨(some 20), .mv (.t 0), none, none, false⟩,
       ⟨(some 21), .nchk (.t 20), none, none, false⟩,
       ⟨(some 22), .fad 0 (.t 21), none, none, false⟩,
       ⟨(some 23), .load1 (.t 22), none, none, false⟩,
       ⟨(some 24), .bin .sub .no (.t 19) (.t 23), none, none, false⟩,
       ⟨(some 25), .mm true [(.c (.int .i64 0)), (.t 24)], none, none, false⟩,
       ⟨(some 6), .mv (.t 25), none, none, false⟩])
    (.seq
     (.reg [⟨(some 26), .mv (.t 0), none, none, false⟩,
        ⟨(some 27), .nchk (.t 26), none, none, false⟩,
        ⟨(some 28), .fad 1 (.t 27), none, none, false⟩,
        ⟨(some 29), .load1 (.t 28), none, none, false⟩,
        ⟨(some 30), .len .sl (.t 29), none, none, false⟩,
        ⟨(some 31), .mv (.t 6), none, none, false⟩,
        ⟨(some 32), .bin .sub .no (.t 30) (.t 31), none, none, false⟩,
        ⟨(some 33), .mksl [.nils] 24 (.t 32) (.t 32), none, none, false⟩,
        ⟨(some 7), .mv (.t 33), none, none, false⟩])
     (.seq
      (.reg [⟨(some 34), .mv (.t 7), none, none, false⟩,
         ⟨(some 35), .mv (.t 0), none, none, false⟩,
         ⟨(some 36), .nchk (.t 35), none, none, false⟩,
         ⟨(some 37), .fad 1 (.t 36), none, none, false⟩,
         ⟨(some 38), .load1 (.t 37), none, none, false⟩,
         ⟨(some 39), .mv (.t 6), none, none, false⟩,
         ⟨(some 40), .slc 1 (.t 38) (some (.t 39)) none none, none, none, false⟩,
         ⟨(some 41), .copy 1 (.t 34) (.t 40), none, none, false⟩])
      (.seq
       (.regd 0 [⟨(some 42), .mv (.t 0), none, none, false⟩,
          ⟨(some 43), .mv (.t 0), none, none, false⟩,
          ⟨(some 44), .mv (.t 7), none, none, false⟩,
          ⟨(some 45), .mv (.t 7), none, none, false⟩,
          ⟨(some 46), .len .sl (.t 45), none, none, false⟩,
          ⟨(some 47), .mv (.t 7), none, none, false⟩,
          ⟨(some 48), .len .sl (.t 47), none, none, false⟩,
          ⟨(some 49), .slc 1 (.t 44) none (some (.t 46)) (some (.t 48)), none, none, false⟩,
          ⟨(some 50), .mv (.t 0), none, none, false⟩,
          ⟨(some 51), .nchk (.t 50), none, none, false⟩,
          ⟨(some 52), .fad 0 (.t 51), none, none, false⟩,
          ⟨(some 53), .load1 (.t 52), none, none, false⟩,
          ⟨(some 54), .mv (.t 6), none, none, false⟩,
          ⟨(some 55), .bin .add .no (.t 53) (.t 54), none, none, false⟩,
          ⟨(some 56), .nchk (.t 42), none, none, false⟩,
          ⟨(some 57), .fad 1 (.t 56), none, none, false⟩,
          ⟨none, .store 1 (.t 57) (.t 49), none, none, false⟩,
          ⟨(some 58), .nchk (.t 43), none, none, false⟩,
          ⟨(some 59), .fad 0 (.t 58), none, none, false⟩,
          ⟨none, .store 1 (.t 59) (.t 55), none, none, false⟩])
       (.seq
        (.reg [⟨(some 60), .mv (.t 6), none, none, false⟩,
           ⟨(some 4), .mv (.t 60), none, none, false⟩,
           ⟨(some 5), .mv (.c (.int .i64 0)), none, none, false⟩])
        (.ret)))))))⟩

/- redpencil/redpencilref14.Copy -/
def a27 : AFn := ⟨5, [.t 2],
  .seq
  (.reg [⟨(some 2), .mv (.c .nils), none, none, false⟩])
  (.seq
   (.reg [⟨(some 3), .mv (.t 0), none, none, false⟩,
      ⟨(some 4), .app 6 48 [(.int .i64 0), (.int .i64 0), (.int .i64 0), (.int .i64 0), (.int .i64 0), (.int .i32 0)] (.c .nils) (.t 3), none, none, false⟩,
      ⟨(some 2), .mv (.t 4), none, none, false⟩])
   (.ret))⟩

/- redpencil/redpencilref14.Stain -/
def a28 : AFn := ⟨21, [],
  .seq
  (.reg [⟨(some 2), .mv (.c (.int .i64 0)), none, none, false⟩])
  (.block 0 (.loop (.seq
     (.seq
      (.reg [⟨(some 3), .mv (.t 2), none, none, false⟩,
         ⟨(some 4), .mv (.t 0), none, none, false⟩,
         ⟨(some 5), .len .sl (.t 4), none, none, false⟩,
         ⟨(some 6), .bin .lss .no (.t 3) (.t 5), none, none, false⟩])
      (.cond (.t 6)
       (.skip)
       (.exit 0)))
     (.seq
      (.block 1 (.seq
        (.reg [⟨(some 9), .mv (.t 0), none, none, false⟩,
           ⟨(some 10), .mv (.t 2), none, none, false⟩,
           ⟨(some 11), .iad 6 (.t 9) (.t 10), none, none, false⟩,
           ⟨(some 12), .fad 4 (.t 11), none, none, false⟩,
           ⟨(some 13), .load1 (.t 12), none, none, false⟩,
           ⟨(some 14), .bin .add .no (.t 13) (.c (.int .i64 1)), none, none, false⟩,
           ⟨(some 15), .iad 6 (.t 9) (.t 10), none, none, false⟩,
           ⟨(some 16), .fad 4 (.t 15), none, none, false⟩,
           ⟨none, .store 1 (.t 16) (.t 14), none, none, false⟩])
        (.reg [⟨(some 17), .mv (.t 0), none, none, false⟩,
           ⟨(some 18), .mv (.t 2), none, none, false⟩,
           ⟨(some 19), .iad 6 (.t 17) (.t 18), none, none, false⟩,
           ⟨(some 20), .fad 5 (.t 19), none, none, false⟩,
           ⟨none, .store 1 (.t 20) (.c (.int .i32 88)), none, none, false⟩])))
      (.reg [⟨(some 7), .mv (.t 2), none, none, false⟩,
         ⟨(some 8), .bin .add .no (.t 7) (.c (.int .i64 1)), none, none, false⟩,
         ⟨(some 2), .mv (.t 8), none, none, false⟩])))))⟩

/- (*redpencil/buffer.Buffer).Copy -/
def a29 : AFn := ⟨16, [.t 2],
  .seq
  (.reg [⟨(some 2), .mv (.c .nilp), none, none, false⟩])
  (.seq
   (.seq
    (.reg [⟨(some 3), .mv (.t 0), none, none, false⟩,
       ⟨(some 4), .bin .eql .np (.t 3) (.c .nilp), none, none, false⟩])
    (.cond (.t 4)
     (.seq
      (.reg [⟨(some 2), .mv (.c .nilp), none, none, false⟩])
      (.ret))
     (.skip)))
   (.seq
    (.regd 1 [⟨(some 5), .mv (.t 0), none, none, false⟩,
       ⟨(some 6), .nchk (.t 5), none, none, false⟩,
       ⟨(some 7), .fad 0 (.t 6), none, none, false⟩,
       ⟨(some 8), .load1 (.t 7), none, none, false⟩,
       ⟨(some 9), .mv (.t 0), none, none, false⟩,
       ⟨(some 10), .nchk (.t 9), none, none, false⟩,
       ⟨(some 11), .fad 1 (.t 10), none, none, false⟩,
       ⟨(some 12), .load1 (.t 11), none, none, false⟩,
       ⟨(some 13), .call 41 false [(.t 12)], none, none, true⟩,
       ⟨(some 14), .build [(.int .i64 0), .nils] [(0, 1, (.t 8)), (1, 1, (.t 13))], none, none, false⟩,
       ⟨(some 15), .box 2 (.t 14), none, (some 0), false⟩,
       ⟨(some 2), .mv (.t 15), none, none, false⟩])
    (.ret)))⟩

/- redpencil/redpencillaw24.alike -/
def a30 : AFn := ⟨93, [.t 4],
  .seq
  (.reg [⟨(some 4), .mv (.c (.bool false)), none, none, false⟩])
  (.seq
   (.seq
    (.regd 0 [⟨(some 11), .mv (.t 0), none, none, false⟩,
       ⟨(some 12), .bin .eql .np (.t 11) (.c .nilp), none, none, false⟩,
       ⟨(some 13), .mv (.t 12), none, none, false⟩,
       ⟨(some 14), .mv (.t 0), (some (13, false)), none, false⟩,
       ⟨(some 15), .call 20 true [(.t 14)], (some (13, false)), none, false⟩,
       ⟨(some 16), .mv (.t 1), (some (13, false)), none, false⟩,
       ⟨(some 17), .nchk (.t 16), (some (13, false)), none, false⟩,
       ⟨(some 18), .fad 1 (.t 17), (some (13, false)), none, false⟩,
       ⟨(some 19), .load1 (.t 18), (some (13, false)), none, false⟩,
       ⟨(some 20), .bin .add .no (.t 19) (.c (.int .i64 1)), (some (13, false)), none, false⟩,
       ⟨(some 21), .bin .neq .no (.t 15) (.t 20), (some (13, false)), none, false⟩,
       ⟨(some 22), .pick (.t 13) (.c (.bool true)) (.t 21), none, none, false⟩,
       ⟨(some 23), .mv (.t 22), none, none, false⟩,
       ⟨(some 24), .mv (.t 0), (some (23, false)), none, false⟩,
       ⟨(some 25), .call 21 true [(.t 24)], (some (23, false)), none, false⟩,
       ⟨(some 26), .mv (.t 1), (some (23, false)), none, false⟩,
       ⟨(some 27), .nchk (.t 26), (some (23, false)), none, false⟩,
       ⟨(some 28), .fad 0 (.t 27), (some (23, false)), none, false⟩,
       ⟨(some 29), .load1 (.t 28), (some (23, false)), none, false⟩,
       ⟨(some 30), .len .sl (.t 29), (some (23, false)), none, false⟩,
       ⟨(some 31), .bin .neq .no (.t 25) (.t 30), (some (23, false)), none, false⟩,
       ⟨(some 32), .pick (.t 23) (.c (.bool true)) (.t 31), none, none, false⟩,
       ⟨(some 33), .mv (.t 32), none, none, false⟩,
       ⟨(some 34), .mv (.t 0), (some (33, false)), none, false⟩,
       ⟨(some 35), .call 19 true [(.t 34)], (some (33, false)), none, false⟩,
       ⟨(some 36), .mv (.t 1), (some (33, false)), none, false⟩,
       ⟨(some 37), .nchk (.t 36), (some (33, false)), none, false⟩,
       ⟨(some 38), .fad 0 (.t 37), (some (33, false)), none, false⟩,
       ⟨(some 39), .load1 (.t 38), (some (33, false)), none, false⟩,
       ⟨(some 40), .len .sl (.t 39), (some (33, false)), none, false⟩,
       ⟨(some 41), .mv (.t 1), (some (33, false)), none, false⟩,
       ⟨(some 42), .nchk (.t 41), (some (33, false)), none, false⟩,
       ⟨(some 43), .fad 1 (.t 42), (some (33, false)), none, false⟩,
       ⟨(some 44), .load1 (.t 43), (some (33, false)), none, false⟩,
       ⟨(some 45), .bin .sub .no (.t 40) (.t 44), (some (33, false)), none, false⟩,
       ⟨(some 46), .bin .neq .no (.t 35) (.t 45), (some (33, false)), none, false⟩,
       ⟨(some 47), .pick (.t 33) (.c (.bool true)) (.t 46), none, none, false⟩])
    (.cond (.t 47)
     (.seq
      (.reg [⟨(some 4), .mv (.c (.bool false)), none, none, false⟩])
      (.ret))
     (.skip)))
   (.seq
    (.reg [⟨(some 49), .mv (.t 1), none, none, false⟩,
       ⟨(some 50), .mv (.t 1), none, none, false⟩,
       ⟨(some 51), .nchk (.t 50), none, none, false⟩,
       ⟨(some 52), .fad 1 (.t 51), none, none, false⟩,
       ⟨(some 53), .load1 (.t 52), none, none, false⟩,
       ⟨(some 54), .bin .add .no (.t 53) (.c (.int .i64 1)), none, none, false⟩,
       ⟨(some 55), .call 13 false [(.t 49), (.t 54)], none, none, false⟩,
       ⟨(some 48), .mv (.t 55), none, none, false⟩,
       ⟨(some 56), .ext (.t 48) 0, none, none, false⟩,
       ⟨(some 57), .ext (.t 48) 1, none, none, false⟩,
       ⟨(some 58), .ext (.t 48) 2, none, none, false⟩,
       ⟨(some 5), .mv (.t 56), none, none, false⟩,
       ⟨(some 6), .mv (.t 57), none, none, false⟩,
       ⟨(some 7), .mv (.t 58), none, none, false⟩])
    (.seq
     (.seq
      (.reg [⟨(some 59), .mv (.t 0), none, none, false⟩,
         ⟨(some 60), .mv (.t 1), none, none, false⟩,
         ⟨(some 61), .nchk (.t 60), none, none, false⟩,
         ⟨(some 62), .fad 1 (.t 61), none, none, false⟩,
         ⟨(some 63), .load1 (.t 62), none, none, false⟩,
         ⟨(some 64), .bin .add .no (.t 63) (.c (.int .i64 1)), none, none, false⟩,
         ⟨(some 65), .mv (.t 5), none, none, false⟩,
         ⟨(some 66), .mv (.t 6), none, none, false⟩,
         ⟨(some 67), .mv (.t 7), none, none, false⟩,
         ⟨(some 68), .call 14 false [(.t 59), (.t 64), (.t 65), (.t 66), (.t 67)], none, none, false⟩,
         ⟨(some 69), .un .not (.t 68), none, none, false⟩])
      (.cond (.t 69)
       (.seq
        (.reg [⟨(some 4), .mv (.c (.bool false)), none, none, false⟩])
        (.ret))
       (.skip)))
     (.seq
      (.reg [⟨(some 71), .mv (.t 0), none, none, false⟩,
         ⟨(some 72), .mv (.t 1), none, none, false⟩,
         ⟨(some 73), .nchk (.t 72), none, none, false⟩,
         ⟨(some 74), .fad 1 (.t 73), none, none, false⟩,
         ⟨(some 75), .load1 (.t 74), none, none, false⟩,
         ⟨(some 76), .bin .add .no (.t 75) (.c (.int .i64 1)), none, none, false⟩,
         ⟨(some 77), .call 34 false [(.t 71), (.t 76)], none, none, false⟩,
         ⟨(some 70), .mv (.t 77), none, none, false⟩,
         ⟨(some 78), .ext (.t 70) 0, none, none, false⟩,
         ⟨(some 79), .ext (.t 70) 1, none, none, false⟩,
         ⟨(some 80), .ext (.t 70) 2, none, none, false⟩,
         ⟨(some 8), .mv (.t 78), none, none, false⟩,
         ⟨(some 9), .mv (.t 79), none, none, false⟩,
         ⟨(some 10), .mv (.t 80), none, none, false⟩])
      (.seq
       (.reg [⟨(some 81), .mv (.t 8), none, none, false⟩,
          ⟨(some 82), .call 28 false [(.t 81)], none, none, false⟩])
       (.seq
        (.reg [⟨(some 83), .mv (.t 0), none, none, false⟩,
           ⟨(some 84), .mv (.t 1), none, none, false⟩,
           ⟨(some 85), .nchk (.t 84), none, none, false⟩,
           ⟨(some 86), .fad 1 (.t 85), none, none, false⟩,
           ⟨(some 87), .load1 (.t 86), none, none, false⟩,
           ⟨(some 88), .bin .add .no (.t 87) (.c (.int .i64 1)), none, none, false⟩,
           ⟨(some 89), .mv (.t 5), none, none, false⟩,
           ⟨(some 90), .mv (.t 6), none, none, false⟩,
           ⟨(some 91), .mv (.t 7), none, none, false⟩,
           ⟨(some 92), .call 14 false [(.t 83), (.t 88), (.t 89), (.t 90), (.t 91)], none, none, false⟩,
           ⟨(some 4), .mv (.t 92), none, none, false⟩])
        (.ret)))))))⟩

/- redpencil/redpencilref14.Store -/
def a31 : AFn := ⟨35, [.t 2],
  .seq
  (.reg [⟨(some 2), .mv (.c (.bool false)), none, none, false⟩])
  (.seq
   (.seq
    (.reg [⟨(some 3), .mv (.c (.int .i64 0)), none, none, false⟩])
    (.block 0 (.loop (.seq
       (.seq
        (.reg [⟨(some 4), .mv (.t 3), none, none, false⟩,
           ⟨(some 5), .mv (.t 0), none, none, false⟩,
           ⟨(some 6), .len .sl (.t 5), none, none, false⟩,
           ⟨(some 7), .bin .lss .no (.t 4) (.t 6), none, none, false⟩])
        (.cond (.t 7)
         (.skip)
         (.exit 0)))
       (.seq
        (.block 1 (.seq
          (.regd 0 [⟨(some 10), .mv (.t 0), none, none, false⟩,
             ⟨(some 11), .mv (.t 3), none, none, false⟩,
             ⟨(some 12), .iad 6 (.t 10) (.t 11), none, none, false⟩,
             ⟨(some 13), .loadn 6 (.t 12), none, none, false⟩,
             ⟨(some 14), .call 42 false [(.t 13)], none, none, false⟩,
             ⟨(some 15), .un .not (.t 14), none, none, false⟩,
             ⟨(some 16), .mv (.t 15), none, none, false⟩,
             ⟨(some 17), .mv (.t 3), (some (16, false)), none, false⟩,
             ⟨(some 18), .bin .gtr .no (.t 17) (.c (.int .i64 0)), (some (16, false)), none, false⟩,
             ⟨(some 19), .mv (.t 18), (some (16, false)), none, false⟩,
             ⟨(some 20), .mv (.t 0), (some (19, true)), none, false⟩,
             ⟨(some 21), .mv (.t 3), (some (19, true)), none, false⟩,
             ⟨(some 22), .bin .sub .no (.t 21) (.c (.int .i64 1)), (some (19, true)), none, false⟩,
             ⟨(some 23), .iad 6 (.t 20) (.t 22), (some (19, true)), none, false⟩,
             ⟨(some 24), .fad 0 (.t 23), (some (19, true)), none, false⟩,
             ⟨(some 25), .loadn 2 (.t 24), (some (19, true)), none, false⟩,
             ⟨(some 26), .mv (.t 0), (some (19, true)), none, false⟩,
             ⟨(some 27), .mv (.t 3), (some (19, true)), none, false⟩,
             ⟨(some 28), .iad 6 (.t 26) (.t 27), (some (19, true)), none, false⟩,
             ⟨(some 29), .fad 0 (.t 28), (some (19, true)), none, false⟩,
             ⟨(some 30), .loadn 2 (.t 29), (some (19, true)), none, false⟩,
             ⟨(some 31), .call 43 false [(.t 25), (.t 30)], (some (19, true)), none, false⟩,
             ⟨(some 32), .un .not (.t 31), (some (19, true)), none, false⟩,
             ⟨(some 33), .pick (.t 19) (.t 32) (.c (.bool false)), (some (16, false)), none, false⟩,
             ⟨(some 34), .pick (.t 16) (.c (.bool true)) (.t 33), none, none, false⟩])
          (.cond (.t 34)
           (.seq
            (.reg [⟨(some 2), .mv (.c (.bool false)), none, none, false⟩])
            (.ret))
           (.skip))))
        (.reg [⟨(some 8), .mv (.t 3), none, none, false⟩,
           ⟨(some 9), .bin .add .no (.t 8) (.c (.int .i64 1)), none, none, false⟩,
           ⟨(some 3), .mv (.t 9), none, none, false⟩]))))))
   (.seq
    (.reg [⟨(some 2), .mv (.c (.bool true)), none, none, false⟩])
    (.ret)))⟩

/- redpencil/redpencilref14.Agree -/
def a32 : AFn := ⟨38, [.t 4],
  .seq
  (.reg [⟨(some 4), .mv (.c (.bool false)), none, none, false⟩])
  (.seq
   (.seq
    (.reg [⟨(some 5), .mv (.c (.int .i64 0)), none, none, false⟩])
    (.block 0 (.loop (.seq
       (.seq
        (.reg [⟨(some 9), .mv (.t 5), none, none, false⟩,
           ⟨(some 10), .mv (.t 0), none, none, false⟩,
           ⟨(some 11), .len .sl (.t 10), none, none, false⟩,
           ⟨(some 12), .bin .lss .no (.t 9) (.t 11), none, none, false⟩])
        (.cond (.t 12)
         (.skip)
         (.exit 0)))
       (.seq
        (.block 1 (.seq
          (.reg [⟨(some 15), .mv (.t 1), none, none, false⟩,
             ⟨(some 16), .mv (.t 0), none, none, false⟩,
             ⟨(some 17), .mv (.t 5), none, none, false⟩,
             ⟨(some 18), .iad 6 (.t 16) (.t 17), none, none, false⟩,
             ⟨(some 19), .fad 0 (.t 18), none, none, false⟩,
             ⟨(some 20), .loadn 2 (.t 19), none, none, false⟩,
             ⟨(some 21), .call 44 false [(.t 15), (.t 20)], none, none, false⟩,
             ⟨(some 6), .mv (.t 21), none, none, false⟩])
          (.seq
           (.reg [⟨(some 22), .mv (.t 6), none, none, false⟩,
              ⟨(some 23), .bin .geq .no (.t 22) (.c (.int .i64 0)), none, none, false⟩])
           (.cond (.t 23)
            (.seq
             (.regd 1 [⟨(some 25), .mv (.t 0), none, none, false⟩,
                ⟨(some 26), .mv (.t 5), none, none, false⟩,
                ⟨(some 27), .iad 6 (.t 25) (.t 26), none, none, false⟩,
                ⟨(some 28), .loadn 6 (.t 27), none, none, false⟩,
                ⟨(some 29), .mv (.t 1), none, none, false⟩,
                ⟨(some 30), .mv (.t 6), none, none, false⟩,
                ⟨(some 31), .iad 6 (.t 29) (.t 30), none, none, false⟩,
                ⟨(some 32), .loadn 6 (.t 31), none, none, false⟩,
                ⟨(some 33), .call 45 false [(.t 28), (.t 32)], none, none, false⟩,
                ⟨(some 24), .mv (.t 33), none, none, false⟩,
                ⟨(some 34), .ext (.t 24) 0, none, none, false⟩,
                ⟨(some 35), .ext (.t 24) 1, none, none, false⟩,
                ⟨(some 7), .alloc [(.int .i64 0), (.int .i64 0), (.int .i64 0), (.int .i64 0), (.int .i64 0), (.int .i32 0)], none, (some 0), false⟩,
                ⟨none, .store 6 (.t 7) (.t 34), none, none, false⟩,
                ⟨(some 8), .mv (.t 35), none, none, false⟩])
             (.seq
              (.reg [⟨(some 36), .mv (.t 8), none, none, false⟩,
                 ⟨(some 37), .un .not (.t 36), none, none, false⟩])
              (.cond (.t 37)
               (.seq
                (.reg [⟨(some 4), .mv (.c (.bool false)), none, none, false⟩])
                (.ret))
               (.skip))))
            (.skip)))))
        (.reg [⟨(some 13), .mv (.t 5), none, none, false⟩,
           ⟨(some 14), .bin .add .no (.t 13) (.c (.int .i64 1)), none, none, false⟩,
           ⟨(some 5), .mv (.t 14), none, none, false⟩]))))))
   (.seq
    (.reg [⟨(some 4), .mv (.c (.bool true)), none, none, false⟩])
    (.ret)))⟩

/- redpencil/redpencilref14.Join -/
def a33 : AFn := ⟨47, [.t 4],
  .seq
  (.reg [⟨(some 4), .mv (.c .nils), none, none, false⟩])
  (.seq
   (.reg [⟨(some 8), .mv (.t 0), none, none, false⟩,
      ⟨(some 9), .app 6 48 [(.int .i64 0), (.int .i64 0), (.int .i64 0), (.int .i64 0), (.int .i64 0), (.int .i32 0)] (.c .nils) (.t 8), none, none, false⟩,
      ⟨(some 5), .mv (.t 9), none, none, false⟩])
   (.seq
    (.seq
     (.reg [⟨(some 6), .mv (.c (.int .i64 0)), none, none, false⟩])
     (.block 0 (.loop (.seq
        (.seq
         (.reg [⟨(some 10), .mv (.t 6), none, none, false⟩,
            ⟨(some 11), .mv (.t 1), none, none, false⟩,
            ⟨(some 12), .len .sl (.t 11), none, none, false⟩,
            ⟨(some 13), .bin .lss .no (.t 10) (.t 12), none, none, false⟩])
         (.cond (.t 13)
          (.skip)
          (.exit 0)))
        (.seq
         (.block 1 (.seq
           (.reg [⟨(some 16), .mv (.t 5), none, none, false⟩,
              ⟨(some 17), .mv (.t 1), none, none, false⟩,
              ⟨(some 18), .mv (.t 6), none, none, false⟩,
              ⟨(some 19), .iad 6 (.t 17) (.t 18), none, none, false⟩,
              ⟨(some 20), .fad 0 (.t 19), none, none, false⟩,
              ⟨(some 21), .loadn 2 (.t 20), none, none, false⟩,
              ⟨(some 22), .call 44 false [(.t 16), (.t 21)], none, none, false⟩,
              ⟨(some 7), .mv (.t 22), none, none, false⟩])
           (.seq
            (.reg [⟨(some 23), .mv (.t 7), none, none, false⟩,
               ⟨(some 24), .bin .geq .no (.t 23) (.c (.int .i64 0)), none, none, false⟩])
            (.cond (.t 24)
             (.regd 0 [⟨(some 26), .mv (.t 5), none, none, false⟩,
                ⟨(some 27), .mv (.t 7), none, none, false⟩,
                ⟨(some 28), .mv (.t 5), none, none, false⟩,
                ⟨(some 29), .mv (.t 7), none, none, false⟩,
                ⟨(some 30), .iad 6 (.t 28) (.t 29), none, none, false⟩,
                ⟨(some 31), .loadn 6 (.t 30), none, none, false⟩,
                ⟨(some 32), .mv (.t 1), none, none, false⟩,
                ⟨(some 33), .mv (.t 6), none, none, false⟩,
                ⟨(some 34), .iad 6 (.t 32) (.t 33), none, none, false⟩,
                ⟨(some 35), .loadn 6 (.t 34), none, none, false⟩,
                ⟨(some 36), .call 45 false [(.t 31), (.t 35)], none, none, false⟩,
                ⟨(some 25), .mv (.t 36), none, none, false⟩,
                ⟨(some 37), .ext (.t 25) 0, none, none, false⟩,
                ⟨(some 38), .ext (.t 25) 1, none, none, false⟩,
                ⟨(some 39), .iad 6 (.t 26) (.t 27), none, none, false⟩,
                ⟨none, .store 6 (.t 39) (.t 37), none, none, false⟩])
             (.reg [⟨(some 40), .mv (.t 5), none, none, false⟩,
                ⟨(some 41), .mv (.t 1), none, none, false⟩,
                ⟨(some 42), .mv (.t 6), none, none, false⟩,
                ⟨(some 43), .iad 6 (.t 41) (.t 42), none, none, false⟩,
                ⟨(some 44), .loadn 6 (.t 43), none, none, false⟩,
                ⟨(some 45), .call 46 false [(.t 40), (.t 44)], none, none, false⟩,
                ⟨(some 5), .mv (.t 45), none, none, false⟩])))))
         (.reg [⟨(some 14), .mv (.t 6), none, none, false⟩,
            ⟨(some 15), .bin .add .no (.t 14) (.c (.int .i64 1)), none, none, false⟩,
            ⟨(some 6), .mv (.t 15), none, none, false⟩]))))))
    (.seq
     (.reg [⟨(some 46), .mv (.t 5), none, none, false⟩,
        ⟨(some 4), .mv (.t 46), none, none, false⟩])
     (.ret))))⟩

/- (*redpencil/buffer.Buffer).From -/
def a34 : AFn := ⟨34, [.t 4, .t 5, .t 6],
  .seq
  (.reg [⟨(some 4), .mv (.c .nils), none, none, false⟩,
     ⟨(some 5), .mv (.c (.int .i64 0)), none, none, false⟩,
     ⟨(some 6), .mv (.c (.int .i64 0)), none, none, false⟩])
  (.seq
   (.block 0 (.seq
     (.reg [⟨(some 10), .mv (.t 0), none, none, false⟩,
        ⟨(some 11), .bin .eql .np (.t 10) (.c .nilp), none, none, false⟩,
        ⟨(some 9), .mv (.t 11), none, none, false⟩])
     (.cond (.t 9)
      (.seq
       (.reg [⟨(some 4), .mv (.c .nils), none, none, false⟩,
          ⟨(some 5), .mv (.c (.int .i64 0)), none, none, false⟩,
          ⟨(some 6), .mv (.c (.int .i64 1)), none, none, false⟩])
       (.ret))
      (.seq
       (.reg [⟨(some 13), .mv (.t 1), none, none, false⟩,
          ⟨(some 14), .bin .lss .no (.t 13) (.c (.int .i64 1)), none, none, false⟩,
          ⟨(some 12), .mv (.t 14), none, none, false⟩])
       (.cond (.t 12)
        (.seq
         (.reg [⟨(some 4), .mv (.c .nils), none, none, false⟩,
            ⟨(some 5), .mv (.c (.int .i64 0)), none, none, false⟩,
            ⟨(some 6), .mv (.c (.int .i64 2)), none, none, false⟩])
         (.ret))
        (.seq
         (.reg [⟨(some 16), .mv (.t 1), none, none, false⟩,
            ⟨(some 17), .mv (.t 0), none, none, false⟩,
            ⟨(some 18), .call 21 false [(.t 17)], none, none, false⟩,
            ⟨(some 19), .bin .gtr .no (.t 16) (.t 18), none, none, false⟩,
            ⟨(some 15), .mv (.t 19), none, none, false⟩])
         (.cond (.t 15)
          (.seq
           (.reg [⟨(some 4), .mv (.c .nils), none, none, false⟩,
              ⟨(some 5), .mv (.c (.int .i64 0)), none, none, false⟩,
              ⟨(some 6), .mv (.c (.int .i64 9)), none, none, false⟩])
           (.ret))
          (.skip))))))))
   (.seq
    (.reg [⟨(some 21), .mv (.t 0), none, none, false⟩,
       ⟨(some 22), .mv (.t 1), none, none, false⟩,
       ⟨(some 23), .mv (.t 0), none, none, false⟩,
       ⟨(some 24), .call 21 false [(.t 23)], none, none, false⟩,
       ⟨(some 25), .call 22 false [(.t 21), (.t 22), (.t 24)], none, none, false⟩,
       ⟨(some 20), .mv (.t 25), none, none, false⟩,
       ⟨(some 26), .ext (.t 20) 0, none, none, false⟩,
       ⟨(some 27), .ext (.t 20) 1, none, none, false⟩,
       ⟨(some 7), .mv (.t 26), none, none, false⟩,
       ⟨(some 8), .mv (.t 27), none, none, false⟩])
    (.seq
     (.seq
      (.reg [⟨(some 28), .mv (.t 8), none, none, false⟩,
         ⟨(some 29), .bin .neq .no (.t 28) (.c (.int .i64 0)), none, none, false⟩])
      (.cond (.t 29)
       (.seq
        (.reg [⟨(some 30), .mv (.t 8), none, none, false⟩,
           ⟨(some 4), .mv (.c .nils), none, none, false⟩,
           ⟨(some 5), .mv (.c (.int .i64 0)), none, none, false⟩,
           ⟨(some 6), .mv (.t 30), none, none, false⟩])
        (.ret))
       (.skip)))
     (.seq
      (.reg [⟨(some 31), .mv (.t 7), none, none, false⟩,
         ⟨(some 32), .mv (.t 0), none, none, false⟩,
         ⟨(some 33), .call 21 false [(.t 32)], none, none, false⟩,
         ⟨(some 4), .mv (.t 31), none, none, false⟩,
         ⟨(some 5), .mv (.t 33), none, none, false⟩,
         ⟨(some 6), .mv (.c (.int .i64 0)), none, none, false⟩])
      (.ret)))))⟩

/- redpencil/join.Valid -/
def a35 : AFn := ⟨5, [.t 2],
  .seq
  (.reg [⟨(some 2), .mv (.c (.bool false)), none, none, false⟩])
  (.seq
   (.reg [⟨(some 3), .mv (.t 0), none, none, false⟩,
      ⟨(some 4), .call 47 false [(.t 3)], none, none, false⟩,
      ⟨(some 2), .mv (.t 4), none, none, false⟩])
   (.ret))⟩

/- redpencil/join.Agree -/
def a36 : AFn := ⟨20, [.t 4, .t 5],
  .seq
  (.reg [⟨(some 4), .mv (.c (.bool false)), none, none, false⟩,
     ⟨(some 5), .mv (.c (.int .i64 0)), none, none, false⟩])
  (.seq
   (.reg [⟨(some 9), .mv (.t 0), none, none, false⟩,
      ⟨(some 10), .mv (.t 1), none, none, false⟩,
      ⟨(some 11), .call 23 false [(.t 9), (.t 10)], none, none, false⟩,
      ⟨(some 8), .mv (.t 11), none, none, false⟩,
      ⟨(some 12), .ext (.t 8) 0, none, none, false⟩,
      ⟨(some 13), .ext (.t 8) 1, none, none, false⟩,
      ⟨(some 6), .mv (.t 12), none, none, false⟩,
      ⟨(some 7), .mv (.t 13), none, none, false⟩])
   (.seq
    (.reg [⟨(some 14), .mv (.t 7), none, none, false⟩])
    (.block 0 (.seq
      (.reg [⟨(some 17), .bin .eql .no (.t 14) (.c (.int .i64 0)), none, none, false⟩,
         ⟨(some 16), .mv (.t 17), none, none, false⟩])
      (.cond (.t 16)
       (.seq
        (.reg [⟨(some 4), .mv (.c (.bool true)), none, none, false⟩,
           ⟨(some 5), .mv (.c (.int .i64 0)), none, none, false⟩])
        (.ret))
       (.seq
        (.reg [⟨(some 19), .bin .eql .no (.t 14) (.c (.int .i64 15)), none, none, false⟩,
           ⟨(some 18), .mv (.t 19), none, none, false⟩])
        (.cond (.t 18)
         (.seq
          (.reg [⟨(some 4), .mv (.c (.bool false)), none, none, false⟩,
             ⟨(some 5), .mv (.c (.int .i64 0)), none, none, false⟩])
          (.ret))
         (.seq
          (.reg [⟨(some 15), .mv (.t 7), none, none, false⟩,
             ⟨(some 4), .mv (.c (.bool false)), none, none, false⟩,
             ⟨(some 5), .mv (.t 15), none, none, false⟩])
          (.ret)))))))))⟩

/- redpencil/join.Copy -/
def a37 : AFn := ⟨5, [.t 2],
  .seq
  (.reg [⟨(some 2), .mv (.c .nils), none, none, false⟩])
  (.seq
   (.reg [⟨(some 3), .mv (.t 0), none, none, false⟩,
      ⟨(some 4), .call 48 false [(.t 3)], none, none, false⟩,
      ⟨(some 2), .mv (.t 4), none, none, false⟩])
   (.ret))⟩

/- redpencil/dot.Compare -/
def a38 : AFn := ⟨17, [.t 4],
  .seq
  (.reg [⟨(some 2), .box 2 (.t 0), none, none, false⟩,
     ⟨(some 3), .box 2 (.t 1), none, none, false⟩,
     ⟨(some 4), .mv (.c (.int .i64 0)), none, none, false⟩])
  (.seq
   (.regd 1 [⟨(some 5), .fad 1 (.t 2), none, none, false⟩,
      ⟨(some 6), .load1 (.t 5), none, none, false⟩,
      ⟨(some 7), .fad 1 (.t 3), none, none, false⟩,
      ⟨(some 8), .load1 (.t 7), none, none, false⟩,
      ⟨(some 9), .call 50 true [(.t 6), (.t 8)], none, none, false⟩,
      ⟨(some 10), .fad 0 (.t 2), none, none, false⟩,
      ⟨(some 11), .load1 (.t 10), none, none, false⟩,
      ⟨(some 12), .fad 0 (.t 3), none, none, false⟩,
      ⟨(some 13), .load1 (.t 12), none, none, false⟩,
      ⟨(some 14), .call 50 false [(.t 11), (.t 13)], none, none, false⟩,
      ⟨(some 15), .bsl [(.int .i64 0), (.int .i64 0)] 2 1 [(0, (.t 9)), (1, (.t 14))], none, (some 0), false⟩,
      ⟨(some 16), .call 49 false [(.t 15)], none, none, false⟩,
      ⟨(some 4), .mv (.t 16), none, none, false⟩])
   (.ret))⟩

/- redpencil/node.Merge -/
def a39 : AFn := ⟨43, [.celln 4 6, .t 5],
  .seq
  (.reg [⟨(some 2), .box 6 (.t 0), none, none, false⟩,
     ⟨(some 3), .box 6 (.t 1), none, none, false⟩,
     ⟨(some 4), .alloc [(.int .i64 0), (.int .i64 0), (.int .i64 0), (.int .i64 0), (.int .i64 0), (.int .i32 0)], none, none, false⟩,
     ⟨(some 5), .mv (.c (.int .i64 0)), none, none, false⟩])
  (.seq
   (.block 0 (.seq
     (.reg [⟨(some 7), .loadn 6 (.t 2), none, none, false⟩,
        ⟨(some 8), .call 51 false [(.t 7)], none, none, false⟩,
        ⟨(some 9), .un .not (.t 8), none, none, false⟩,
        ⟨(some 10), .mv (.t 9), none, none, false⟩,
        ⟨(some 11), .loadn 6 (.t 3), (some (10, false)), none, false⟩,
        ⟨(some 12), .call 51 false [(.t 11)], (some (10, false)), none, false⟩,
        ⟨(some 13), .un .not (.t 12), (some (10, false)), none, false⟩,
        ⟨(some 14), .pick (.t 10) (.c (.bool true)) (.t 13), none, none, false⟩,
        ⟨(some 6), .mv (.t 14), none, none, false⟩])
     (.cond (.t 6)
      (.seq
       (.reg [⟨(some 15), .build [(.int .i64 0), (.int .i64 0), (.int .i64 0), (.int .i64 0), (.int .i64 0), (.int .i32 0)] [], none, none, false⟩,
          ⟨none, .store 6 (.t 4) (.t 15), none, none, false⟩,
          ⟨(some 5), .mv (.c (.int .i64 2)), none, none, false⟩])
       (.ret))
      (.seq
       (.regd 0 [⟨(some 17), .loadn 6 (.t 2), none, none, false⟩,
          ⟨(some 18), .call 52 true [(.t 17)], none, none, false⟩,
          ⟨(some 19), .loadn 6 (.t 3), none, none, false⟩,
          ⟨(some 20), .call 52 false [(.t 19)], none, none, false⟩,
          ⟨(some 21), .bin .neq (.fl [.i, .i, .i, .i, .i, .i]) (.t 18) (.t 20), none, none, false⟩,
          ⟨(some 22), .mv (.t 21), none, none, false⟩,
          ⟨(some 23), .loadn 6 (.t 2), (some (22, false)), none, false⟩,
          ⟨(some 24), .loadn 6 (.t 3), (some (22, false)), none, false⟩,
          ⟨(some 25), .bin .neq (.fl [.i, .i, .i, .i, .i, .i]) (.t 23) (.t 24), (some (22, false)), none, false⟩,
          ⟨(some 26), .mv (.t 25), (some (22, false)), none, false⟩,
          ⟨(some 27), .loadn 6 (.t 2), (some (26, true)), none, false⟩,
          ⟨(some 28), .call 53 false [(.t 27)], (some (26, true)), none, false⟩,
          ⟨(some 29), .un .not (.t 28), (some (26, true)), none, false⟩,
          ⟨(some 30), .pick (.t 26) (.t 29) (.c (.bool false)), (some (22, false)), none, false⟩,
          ⟨(some 31), .mv (.t 30), (some (22, false)), none, false⟩,
          ⟨(some 32), .loadn 6 (.t 3), (some (31, true)), none, false⟩,
          ⟨(some 33), .call 53 false [(.t 32)], (some (31, true)), none, false⟩,
          ⟨(some 34), .un .not (.t 33), (some (31, true)), none, false⟩,
          ⟨(some 35), .pick (.t 31) (.t 34) (.c (.bool false)), (some (22, false)), none, false⟩,
          ⟨(some 36), .pick (.t 22) (.c (.bool true)) (.t 35), none, none, false⟩,
          ⟨(some 16), .mv (.t 36), none, none, false⟩])
       (.cond (.t 16)
        (.seq
         (.reg [⟨(some 37), .build [(.int .i64 0), (.int .i64 0), (.int .i64 0), (.int .i64 0), (.int .i64 0), (.int .i32 0)] [], none, none, false⟩,
            ⟨none, .store 6 (.t 4) (.t 37), none, none, false⟩,
            ⟨(some 5), .mv (.c (.int .i64 15)), none, none, false⟩])
         (.ret))
        (.seq
         (.reg [⟨(some 39), .loadn 6 (.t 3), none, none, false⟩,
            ⟨(some 40), .call 53 false [(.t 39)], none, none, false⟩,
            ⟨(some 38), .mv (.t 40), none, none, false⟩])
         (.cond (.t 38)
          (.seq
           (.reg [⟨(some 41), .loadn 6 (.t 3), none, none, false⟩,
              ⟨none, .store 6 (.t 4) (.t 41), none, none, false⟩,
              ⟨(some 5), .mv (.c (.int .i64 0)), none, none, false⟩])
           (.ret))
          (.skip))))))))
   (.seq
    (.reg [⟨(some 42), .loadn 6 (.t 2), none, none, false⟩,
       ⟨none, .store 6 (.t 4) (.t 42), none, none, false⟩,
       ⟨(some 5), .mv (.c (.int .i64 0)), none, none, false⟩])
    (.ret)))⟩

/- redpencil/store.Of -/
def a40 : AFn := ⟨89, [.t 2, .t 3],
  .seq
  (.reg [⟨(some 2), .mv (.c .nils), none, none, false⟩,
     ⟨(some 3), .mv (.c (.int .i64 0)), none, none, false⟩])
  (.seq
   (.seq
    (.reg [⟨(some 19), .mv (.t 0), none, none, false⟩,
       ⟨(some 20), .call 54 false [(.t 19), (.f 55)], none, none, false⟩])
    (.cond (.t 20)
     (.seq
      (.reg [⟨(some 2), .mv (.c .nils), none, none, false⟩,
         ⟨(some 3), .mv (.c (.int .i64 2)), none, none, false⟩])
      (.ret))
     (.skip)))
   (.seq
    (.reg [⟨(some 21), .mkmap none, none, none, false⟩,
       ⟨(some 22), .mkmap none, none, none, false⟩,
       ⟨(some 4), .mv (.t 21), none, none, false⟩,
       ⟨(some 5), .mv (.t 22), none, none, false⟩])
    (.seq
     (.seq
      (.reg [⟨(some 23), .mv (.t 0), none, none, false⟩,
         ⟨(some 24), .len .sl (.t 23), none, none, false⟩,
         ⟨(some 25), .mv (.c (.int .i64 0)), none, none, false⟩])
      (.block 0 (.loop (.seq
         (.reg [⟨(some 26), .bin .lss .no (.t 25) (.t 24), none, none, false⟩])
         (.seq
          (.cond (.t 26)
           (.skip)
           (.exit 0))
          (.seq
           (.block 1 (.seq
             (.reg [⟨(some 27), .iad 6 (.t 23) (.t 25), none, none, false⟩,
                ⟨(some 28), .loadn 6 (.t 27), none, none, false⟩,
                ⟨(some 7), .alloc [(.int .i64 0), (.int .i64 0), (.int .i64 0), (.int .i64 0), (.int .i64 0), (.int .i32 0)], none, none, false⟩,
                ⟨none, .store 6 (.t 7) (.t 28), none, none, false⟩])
             (.seq
              (.seq
               (.reg [⟨(some 30), .mv (.t 5), none, none, false⟩,
                  ⟨(some 31), .fad 0 (.t 7), none, none, false⟩,
                  ⟨(some 32), .loadn 2 (.t 31), none, none, false⟩,
                  ⟨(some 33), .look (.agg [(.int .i64 0), (.int .i64 0), (.int .i64 0), (.int .i64 0), (.int .i64 0), (.int .i32 0)]) (.fl [.i, .i]) true (.t 30) (.t 32), none, none, false⟩,
                  ⟨(some 29), .mv (.t 33), none, none, false⟩,
                  ⟨(some 34), .ext (.t 29) 0, none, none, false⟩,
                  ⟨(some 35), .ext (.t 29) 1, none, none, false⟩,
                  ⟨(some 8), .alloc [(.int .i64 0), (.int .i64 0), (.int .i64 0), (.int .i64 0), (.int .i64 0), (.int .i32 0)], none, none, false⟩,
                  ⟨none, .store 6 (.t 8) (.t 34), none, none, false⟩,
                  ⟨(some 9), .mv (.t 35), none, none, false⟩])
               (.seq
                (.reg [⟨(some 36), .mv (.t 9), none, none, false⟩])
                (.cond (.t 36)
                 (.seq
                  (.reg [⟨(some 38), .loadn 6 (.t 8), none, none, false⟩,
                     ⟨(some 39), .loadn 6 (.t 7), none, none, false⟩,
                     ⟨(some 40), .call 39 false [(.t 38), (.t 39)], none, none, false⟩,
                     ⟨(some 37), .mv (.t 40), none, none, false⟩,
                     ⟨(some 41), .ext (.t 37) 0, none, none, false⟩,
                     ⟨(some 42), .ext (.t 37) 1, none, none, false⟩,
                     ⟨(some 10), .alloc [(.int .i64 0), (.int .i64 0), (.int .i64 0), (.int .i64 0), (.int .i64 0), (.int .i32 0)], none, none, false⟩,
                     ⟨none, .store 6 (.t 10) (.t 41), none, none, false⟩,
                     ⟨(some 11), .mv (.t 42), none, none, false⟩])
                  (.seq
                   (.reg [⟨(some 43), .mv (.t 11), none, none, false⟩,
                      ⟨(some 44), .bin .neq .no (.t 43) (.c (.int .i64 0)), none, none, false⟩])
                   (.cond (.t 44)
                    (.seq
                     (.reg [⟨(some 45), .mv (.t 11), none, none, false⟩,
                        ⟨(some 2), .mv (.c .nils), none, none, false⟩,
                        ⟨(some 3), .mv (.t 45), none, none, false⟩])
                     (.ret))
                    (.skip))))
                 (.skip))))
              (.seq
               (.seq
                (.reg [⟨(some 46), .loadn 6 (.t 7), none, none, false⟩,
                   ⟨(some 47), .call 53 false [(.t 46)], none, none, false⟩,
                   ⟨(some 48), .un .not (.t 47), none, none, false⟩])
                (.cond (.t 48)
                 (.reg [⟨(some 49), .mv (.t 5), none, none, false⟩,
                    ⟨(some 50), .fad 0 (.t 7), none, none, false⟩,
                    ⟨(some 51), .loadn 2 (.t 50), none, none, false⟩,
                    ⟨(some 52), .loadn 6 (.t 7), none, none, false⟩,
                    ⟨none, .mset (.fl [.i, .i]) (.t 49) (.t 51) (.t 52), none, none, false⟩])
                 (.skip)))
               (.seq
                (.seq
                 (.reg [⟨(some 54), .mv (.t 4), none, none, false⟩,
                    ⟨(some 55), .fad 0 (.t 7), none, none, false⟩,
                    ⟨(some 56), .loadn 2 (.t 55), none, none, false⟩,
                    ⟨(some 57), .look (.agg [(.int .i64 0), (.int .i64 0), (.int .i64 0), (.int .i64 0), (.int .i64 0), (.int .i32 0)]) (.fl [.i, .i]) true (.t 54) (.t 56), none, none, false⟩,
                    ⟨(some 53), .mv (.t 57), none, none, false⟩,
                    ⟨(some 58), .ext (.t 53) 0, none, none, false⟩,
                    ⟨(some 59), .ext (.t 53) 1, none, none, false⟩,
                    ⟨(some 12), .alloc [(.int .i64 0), (.int .i64 0), (.int .i64 0), (.int .i64 0), (.int .i64 0), (.int .i32 0)], none, none, false⟩,
                    ⟨none, .store 6 (.t 12) (.t 58), none, none, false⟩,
                    ⟨(some 13), .mv (.t 59), none, none, false⟩])
                 (.seq
                  (.reg [⟨(some 60), .mv (.t 13), none, none, false⟩])
                  (.cond (.t 60)
                   (.seq
                    (.reg [⟨(some 62), .loadn 6 (.t 12), none, none, false⟩,
                       ⟨(some 63), .loadn 6 (.t 7), none, none, false⟩,
                       ⟨(some 64), .call 39 false [(.t 62), (.t 63)], none, none, false⟩,
                       ⟨(some 61), .mv (.t 64), none, none, false⟩,
                       ⟨(some 65), .ext (.t 61) 0, none, none, false⟩,
                       ⟨(some 66), .ext (.t 61) 1, none, none, false⟩,
                       ⟨(some 14), .alloc [(.int .i64 0), (.int .i64 0), (.int .i64 0), (.int .i64 0), (.int .i64 0), (.int .i32 0)], none, none, false⟩,
                       ⟨none, .store 6 (.t 14) (.t 65), none, none, false⟩,
                       ⟨(some 15), .mv (.t 66), none, none, false⟩])
                    (.seq
                     (.seq
                      (.reg [⟨(some 67), .mv (.t 15), none, none, false⟩,
                         ⟨(some 68), .bin .neq .no (.t 67) (.c (.int .i64 0)), none, none, false⟩])
                      (.cond (.t 68)
                       (.seq
                        (.reg [⟨(some 69), .mv (.t 15), none, none, false⟩,
                           ⟨(some 2), .mv (.c .nils), none, none, false⟩,
                           ⟨(some 3), .mv (.t 69), none, none, false⟩])
                        (.ret))
                       (.skip)))
                     (.reg [⟨(some 70), .loadn 6 (.t 14), none, none, false⟩,
                        ⟨none, .store 6 (.t 7) (.t 70), none, none, false⟩])))
                   (.skip))))
                (.reg [⟨(some 71), .mv (.t 4), none, none, false⟩,
                   ⟨(some 72), .fad 0 (.t 7), none, none, false⟩,
                   ⟨(some 73), .loadn 2 (.t 72), none, none, false⟩,
                   ⟨(some 74), .loadn 6 (.t 7), none, none, false⟩,
                   ⟨none, .mset (.fl [.i, .i]) (.t 71) (.t 73) (.t 74), none, none, false⟩]))))))
           (.reg [⟨(some 75), .bin .add .no (.t 25) (.c (.int .i64 1)), none, none, false⟩,
              ⟨(some 25), .mv (.t 75), none, none, false⟩])))))))
     (.seq
      (.reg [⟨(some 16), .mv (.c .nils), none, none, false⟩])
      (.seq
       (.seq
        (.reg [⟨(some 76), .mv (.t 4), none, none, false⟩,
           ⟨(some 77), .rng (.t 76), none, none, false⟩])
        (.block 2 (.loop (.seq
           (.reg [⟨(some 78), .nxt (.t 77), none, none, false⟩,
              ⟨(some 79), .ext (.t 78) 0, none, none, false⟩])
           (.seq
            (.cond (.t 79)
             (.skip)
             (.exit 2))
            (.block 3 (.seq
              (.reg [⟨(some 80), .ent (.t 77), none, none, false⟩,
                 ⟨(some 81), .ext (.t 80) 1, none, none, false⟩,
                 ⟨(some 18), .alloc [(.int .i64 0), (.int .i64 0), (.int .i64 0), (.int .i64 0), (.int .i64 0), (.int .i32 0)], none, none, false⟩,
                 ⟨none, .store 6 (.t 18) (.t 81), none, none, false⟩])
              (.reg [⟨(some 82), .mv (.t 16), none, none, false⟩,
                 ⟨(some 83), .loadn 6 (.t 18), none, none, false⟩,
                 ⟨(some 84), .bsl [(.int .i64 0), (.int .i64 0), (.int .i64 0), (.int .i64 0), (.int .i64 0), (.int .i32 0)] 1 6 [(0, (.t 83))], none, none, false⟩,
                 ⟨(some 85), .app 6 48 [(.int .i64 0), (.int .i64 0), (.int .i64 0), (.int .i64 0), (.int .i64 0), (.int .i32 0)] (.t 82) (.t 84), none, none, false⟩,
                 ⟨(some 16), .mv (.t 85), none, none, false⟩]))))))))
       (.seq
        (.reg [⟨(some 86), .mv (.t 16), none, none, false⟩,
           ⟨(some 87), .call 56 false [(.t 86), (.f 57)], none, none, false⟩])
        (.seq
         (.reg [⟨(some 88), .mv (.t 16), none, none, false⟩,
            ⟨(some 2), .mv (.t 88), none, none, false⟩,
            ⟨(some 3), .mv (.c (.int .i64 0)), none, none, false⟩])
         (.ret))))))))⟩

/- slices.Clone[[]redpencil/api.State,redpencil/api.State] -/
def a41 : AFn := ⟨8, [.t 2],
  .seq
  (.reg [⟨(some 2), .mv (.c .nils), none, none, false⟩])
  (.seq
   (.seq
    (.reg [⟨(some 3), .mv (.t 0), none, none, false⟩,
       ⟨(some 4), .bin .eql .ns (.t 3) (.c .nils), none, none, false⟩])
    (.cond (.t 4)
     (.seq
      (.reg [⟨(some 2), .mv (.c .nils), none, none, false⟩])
      (.ret))
     (.skip)))
   (.seq
    (.reg [⟨(some 5), .bsl [] 0 1 [], none, none, false⟩,
       ⟨(some 6), .mv (.t 0), none, none, false⟩,
       ⟨(some 7), .app 1 24 [.nils] (.t 5) (.t 6), none, none, false⟩,
       ⟨(some 2), .mv (.t 7), none, none, false⟩])
    (.ret)))⟩

/- redpencil/redpencilref14.IsNode -/
def a42 : AFn := ⟨44, [.t 2],
  .seq
  (.reg [⟨(some 1), .box 6 (.t 0), none, none, false⟩,
     ⟨(some 2), .mv (.c (.bool false)), none, none, false⟩])
  (.seq
   (.reg [⟨(some 3), .fad 0 (.t 1), none, none, false⟩,
      ⟨(some 4), .loadn 2 (.t 3), none, none, false⟩,
      ⟨(some 5), .call 58 false [(.t 4)], none, none, false⟩,
      ⟨(some 6), .mv (.t 5), none, none, false⟩,
      ⟨(some 7), .fad 2 (.t 1), (some (6, true)), none, false⟩,
      ⟨(some 8), .loadn 2 (.t 7), (some (6, true)), none, false⟩,
      ⟨(some 9), .build [(.int .i64 0), (.int .i64 0)] [], (some (6, true)), none, false⟩,
      ⟨(some 10), .bin .eql (.fl [.i, .i]) (.t 8) (.t 9), (some (6, true)), none, false⟩,
      ⟨(some 11), .mv (.t 10), (some (6, true)), none, false⟩,
      ⟨(some 12), .fad 2 (.t 1), (some (11, false)), none, false⟩,
      ⟨(some 13), .loadn 2 (.t 12), (some (11, false)), none, false⟩,
      ⟨(some 14), .call 58 false [(.t 13)], (some (11, false)), none, false⟩,
      ⟨(some 15), .pick (.t 11) (.c (.bool true)) (.t 14), (some (6, true)), none, false⟩,
      ⟨(some 16), .pick (.t 6) (.t 15) (.c (.bool false)), none, none, false⟩,
      ⟨(some 17), .mv (.t 16), none, none, false⟩,
      ⟨(some 18), .fad 2 (.t 1), (some (17, true)), none, false⟩,
      ⟨(some 19), .loadn 2 (.t 18), (some (17, true)), none, false⟩,
      ⟨(some 20), .fad 0 (.t 1), (some (17, true)), none, false⟩,
      ⟨(some 21), .loadn 2 (.t 20), (some (17, true)), none, false⟩,
      ⟨(some 22), .bin .neq (.fl [.i, .i]) (.t 19) (.t 21), (some (17, true)), none, false⟩,
      ⟨(some 23), .pick (.t 17) (.t 22) (.c (.bool false)), none, none, false⟩,
      ⟨(some 24), .mv (.t 23), none, none, false⟩,
      ⟨(some 25), .fad 4 (.t 1), (some (24, true)), none, false⟩,
      ⟨(some 26), .load1 (.t 25), (some (24, true)), none, false⟩,
      ⟨(some 27), .bin .geq .no (.t 26) (.c (.int .i64 1)), (some (24, true)), none, false⟩,
      ⟨(some 28), .pick (.t 24) (.t 27) (.c (.bool false)), none, none, false⟩,
      ⟨(some 29), .mv (.t 28), none, none, false⟩,
      ⟨(some 30), .fad 4 (.t 1), (some (29, true)), none, false⟩,
      ⟨(some 31), .load1 (.t 30), (some (29, true)), none, false⟩,
      ⟨(some 32), .bin .leq .no (.t 31) (.c (.int .i64 4611686018427387904)), (some (29, true)), none, false⟩,
      ⟨(some 33), .pick (.t 29) (.t 32) (.c (.bool false)), none, none, false⟩,
      ⟨(some 34), .mv (.t 33), none, none, false⟩,
      ⟨(some 35), .fad 5 (.t 1), (some (34, true)), none, false⟩,
      ⟨(some 36), .load1 (.t 35), (some (34, true)), none, false⟩,
      ⟨(some 37), .bin .eql .no (.t 36) (.c (.int .i32 0)), (some (34, true)), none, false⟩,
      ⟨(some 38), .mv (.t 37), (some (34, true)), none, false⟩,
      ⟨(some 39), .fad 5 (.t 1), (some (38, false)), none, false⟩,
      ⟨(some 40), .load1 (.t 39), (some (38, false)), none, false⟩,
      ⟨(some 41), .call 59 false [(.t 40)], (some (38, false)), none, false⟩,
      ⟨(some 42), .pick (.t 38) (.c (.bool true)) (.t 41), (some (34, true)), none, false⟩,
      ⟨(some 43), .pick (.t 34) (.t 42) (.c (.bool false)), none, none, false⟩,
      ⟨(some 2), .mv (.t 43), none, none, false⟩])
   (.ret))⟩

/- redpencil/redpencilref14.Before -/
def a43 : AFn := ⟨24, [.t 4],
  .seq
  (.reg [⟨(some 2), .box 2 (.t 0), none, none, false⟩,
     ⟨(some 3), .box 2 (.t 1), none, none, false⟩,
     ⟨(some 4), .mv (.c (.bool false)), none, none, false⟩])
  (.seq
   (.reg [⟨(some 5), .fad 1 (.t 2), none, none, false⟩,
      ⟨(some 6), .load1 (.t 5), none, none, false⟩,
      ⟨(some 7), .fad 1 (.t 3), none, none, false⟩,
      ⟨(some 8), .load1 (.t 7), none, none, false⟩,
      ⟨(some 9), .bin .lss .no (.t 6) (.t 8), none, none, false⟩,
      ⟨(some 10), .mv (.t 9), none, none, false⟩,
      ⟨(some 11), .fad 1 (.t 2), (some (10, false)), none, false⟩,
      ⟨(some 12), .load1 (.t 11), (some (10, false)), none, false⟩,
      ⟨(some 13), .fad 1 (.t 3), (some (10, false)), none, false⟩,
      ⟨(some 14), .load1 (.t 13), (some (10, false)), none, false⟩,
      ⟨(some 15), .bin .eql .no (.t 12) (.t 14), (some (10, false)), none, false⟩,
      ⟨(some 16), .mv (.t 15), (some (10, false)), none, false⟩,
      ⟨(some 17), .fad 0 (.t 2), (some (16, true)), none, false⟩,
      ⟨(some 18), .load1 (.t 17), (some (16, true)), none, false⟩,
      ⟨(some 19), .fad 0 (.t 3), (some (16, true)), none, false⟩,
      ⟨(some 20), .load1 (.t 19), (some (16, true)), none, false⟩,
      ⟨(some 21), .bin .lss .no (.t 18) (.t 20), (some (16, true)), none, false⟩,
      ⟨(some 22), .pick (.t 16) (.t 21) (.c (.bool false)), (some (10, false)), none, false⟩,
      ⟨(some 23), .pick (.t 10) (.c (.bool true)) (.t 22), none, none, false⟩,
      ⟨(some 4), .mv (.t 23), none, none, false⟩])
   (.ret))⟩

/- redpencil/redpencilref14.Find -/
def a44 : AFn := ⟨20, [.t 4],
  .seq
  (.reg [⟨(some 3), .box 2 (.t 1), none, none, false⟩,
     ⟨(some 4), .mv (.c (.int .i64 0)), none, none, false⟩])
  (.seq
   (.seq
    (.reg [⟨(some 5), .mv (.c (.int .i64 0)), none, none, false⟩])
    (.block 0 (.loop (.seq
       (.seq
        (.reg [⟨(some 6), .mv (.t 5), none, none, false⟩,
           ⟨(some 7), .mv (.t 0), none, none, false⟩,
           ⟨(some 8), .len .sl (.t 7), none, none, false⟩,
           ⟨(some 9), .bin .lss .no (.t 6) (.t 8), none, none, false⟩])
        (.cond (.t 9)
         (.skip)
         (.exit 0)))
       (.seq
        (.block 1 (.seq
          (.regd 0 [⟨(some 12), .mv (.t 0), none, none, false⟩,
             ⟨(some 13), .mv (.t 5), none, none, false⟩,
             ⟨(some 14), .iad 6 (.t 12) (.t 13), none, none, false⟩,
             ⟨(some 15), .fad 0 (.t 14), none, none, false⟩,
             ⟨(some 16), .loadn 2 (.t 15), none, none, false⟩,
             ⟨(some 17), .loadn 2 (.t 3), none, none, false⟩,
             ⟨(some 18), .bin .eql (.fl [.i, .i]) (.t 16) (.t 17), none, none, false⟩])
          (.cond (.t 18)
           (.seq
            (.reg [⟨(some 19), .mv (.t 5), none, none, false⟩,
               ⟨(some 4), .mv (.t 19), none, none, false⟩])
            (.ret))
           (.skip))))
        (.reg [⟨(some 10), .mv (.t 5), none, none, false⟩,
           ⟨(some 11), .bin .add .no (.t 10) (.c (.int .i64 1)), none, none, false⟩,
           ⟨(some 5), .mv (.t 11), none, none, false⟩]))))))
   (.seq
    (.reg [⟨(some 4), .mv (.c (.int .i64 (-1))), none, none, false⟩])
    (.ret)))⟩

/- redpencil/redpencilref14.Merge -/
def a45 : AFn := ⟨48, [.celln 4 6, .t 5],
  .seq
  (.reg [⟨(some 2), .box 6 (.t 0), none, none, false⟩,
     ⟨(some 3), .box 6 (.t 1), none, none, false⟩,
     ⟨(some 4), .alloc [(.int .i64 0), (.int .i64 0), (.int .i64 0), (.int .i64 0), (.int .i64 0), (.int .i32 0)], none, none, false⟩,
     ⟨(some 5), .mv (.c (.bool false)), none, none, false⟩])
  (.seq
   (.seq
    (.reg [⟨(some 6), .fad 0 (.t 2), none, none, false⟩,
       ⟨(some 7), .loadn 2 (.t 6), none, none, false⟩,
       ⟨(some 8), .fad 0 (.t 3), none, none, false⟩,
       ⟨(some 9), .loadn 2 (.t 8), none, none, false⟩,
       ⟨(some 10), .bin .neq (.fl [.i, .i]) (.t 7) (.t 9), none, none, false⟩,
       ⟨(some 11), .mv (.t 10), none, none, false⟩,
       ⟨(some 12), .fad 2 (.t 2), (some (11, false)), none, false⟩,
       ⟨(some 13), .loadn 2 (.t 12), (some (11, false)), none, false⟩,
       ⟨(some 14), .fad 2 (.t 3), (some (11, false)), none, false⟩,
       ⟨(some 15), .loadn 2 (.t 14), (some (11, false)), none, false⟩,
       ⟨(some 16), .bin .neq (.fl [.i, .i]) (.t 13) (.t 15), (some (11, false)), none, false⟩,
       ⟨(some 17), .pick (.t 11) (.c (.bool true)) (.t 16), none, none, false⟩,
       ⟨(some 18), .mv (.t 17), none, none, false⟩,
       ⟨(some 19), .fad 4 (.t 2), (some (18, false)), none, false⟩,
       ⟨(some 20), .load1 (.t 19), (some (18, false)), none, false⟩,
       ⟨(some 21), .fad 4 (.t 3), (some (18, false)), none, false⟩,
       ⟨(some 22), .load1 (.t 21), (some (18, false)), none, false⟩,
       ⟨(some 23), .bin .neq .no (.t 20) (.t 22), (some (18, false)), none, false⟩,
       ⟨(some 24), .pick (.t 18) (.c (.bool true)) (.t 23), none, none, false⟩,
       ⟨(some 25), .mv (.t 24), none, none, false⟩,
       ⟨(some 26), .fad 5 (.t 2), (some (25, false)), none, false⟩,
       ⟨(some 27), .load1 (.t 26), (some (25, false)), none, false⟩,
       ⟨(some 28), .bin .neq .no (.t 27) (.c (.int .i32 0)), (some (25, false)), none, false⟩,
       ⟨(some 29), .mv (.t 28), (some (25, false)), none, false⟩,
       ⟨(some 30), .fad 5 (.t 3), (some (29, true)), none, false⟩,
       ⟨(some 31), .load1 (.t 30), (some (29, true)), none, false⟩,
       ⟨(some 32), .bin .neq .no (.t 31) (.c (.int .i32 0)), (some (29, true)), none, false⟩,
       ⟨(some 33), .pick (.t 29) (.t 32) (.c (.bool false)), (some (25, false)), none, false⟩,
       ⟨(some 34), .mv (.t 33), (some (25, false)), none, false⟩,
       ⟨(some 35), .fad 5 (.t 2), (some (34, true)), none, false⟩,
       ⟨(some 36), .load1 (.t 35), (some (34, true)), none, false⟩,
       ⟨(some 37), .fad 5 (.t 3), (some (34, true)), none, false⟩,
       ⟨(some 38), .load1 (.t 37), (some (34, true)), none, false⟩,
       ⟨(some 39), .bin .neq .no (.t 36) (.t 38), (some (34, true)), none, false⟩,
       ⟨(some 40), .pick (.t 34) (.t 39) (.c (.bool false)), (some (25, false)), none, false⟩,
       ⟨(some 41), .pick (.t 25) (.c (.bool true)) (.t 40), none, none, false⟩])
    (.cond (.t 41)
     (.seq
      (.reg [⟨(some 42), .build [(.int .i64 0), (.int .i64 0), (.int .i64 0), (.int .i64 0), (.int .i64 0), (.int .i32 0)] [], none, none, false⟩,
         ⟨none, .store 6 (.t 4) (.t 42), none, none, false⟩,
         ⟨(some 5), .mv (.c (.bool false)), none, none, false⟩])
      (.ret))
     (.skip)))
   (.seq
    (.seq
     (.reg [⟨(some 43), .fad 5 (.t 3), none, none, false⟩,
        ⟨(some 44), .load1 (.t 43), none, none, false⟩,
        ⟨(some 45), .bin .eql .no (.t 44) (.c (.int .i32 0)), none, none, false⟩])
     (.cond (.t 45)
      (.seq
       (.reg [⟨(some 46), .loadn 6 (.t 3), none, none, false⟩,
          ⟨none, .store 6 (.t 4) (.t 46), none, none, false⟩,
          ⟨(some 5), .mv (.c (.bool true)), none, none, false⟩])
       (.ret))
      (.skip)))
    (.seq
     (.reg [⟨(some 47), .loadn 6 (.t 2), none, none, false⟩,
        ⟨none, .store 6 (.t 4) (.t 47), none, none, false⟩,
        ⟨(some 5), .mv (.c (.bool true)), none, none, false⟩])
     (.ret))))⟩

/- redpencil/redpencilref14.put -/
def a46 : AFn := ⟨35, [.t 4],
  .seq
  (.reg [⟨(some 3), .box 6 (.t 1), none, none, false⟩,
     ⟨(some 4), .mv (.c .nils), none, none, false⟩])
  (.seq
   (.reg [⟨(some 5), .mv (.c (.int .i64 0)), none, none, false⟩])
   (.seq
    (.block 0 (.loop (.seq
       (.seq
        (.regd 0 [⟨(some 7), .mv (.t 5), none, none, false⟩,
           ⟨(some 8), .mv (.t 0), none, none, false⟩,
           ⟨(some 9), .len .sl (.t 8), none, none, false⟩,
           ⟨(some 10), .bin .lss .no (.t 7) (.t 9), none, none, false⟩,
           ⟨(some 11), .mv (.t 10), none, none, false⟩,
           ⟨(some 12), .mv (.t 0), (some (11, true)), none, false⟩,
           ⟨(some 13), .mv (.t 5), (some (11, true)), none, false⟩,
           ⟨(some 14), .iad 6 (.t 12) (.t 13), (some (11, true)), none, false⟩,
           ⟨(some 15), .fad 0 (.t 14), (some (11, true)), none, false⟩,
           ⟨(some 16), .loadn 2 (.t 15), (some (11, true)), none, false⟩,
           ⟨(some 17), .fad 0 (.t 3), (some (11, true)), none, false⟩,
           ⟨(some 18), .loadn 2 (.t 17), (some (11, true)), none, false⟩,
           ⟨(some 19), .call 43 false [(.t 16), (.t 18)], (some (11, true)), none, false⟩,
           ⟨(some 20), .pick (.t 11) (.t 19) (.c (.bool false)), none, none, false⟩])
        (.cond (.t 20)
         (.skip)
         (.exit 0)))
       (.block 1 (.reg [⟨(some 21), .mv (.t 5), none, none, false⟩,
           ⟨(some 22), .bin .add .no (.t 21) (.c (.int .i64 1)), none, none, false⟩,
           ⟨(some 5), .mv (.t 22), none, none, false⟩])))))
    (.seq
     (.regd 1 [⟨(some 23), .loadn 6 (.t 3), none, none, false⟩,
        ⟨(some 24), .bsl [(.int .i64 0), (.int .i64 0), (.int .i64 0), (.int .i64 0), (.int .i64 0), (.int .i32 0)] 1 6 [(0, (.t 23))], none, (some 0), false⟩,
        ⟨(some 25), .mv (.t 0), none, none, false⟩,
        ⟨(some 26), .mv (.t 5), none, none, false⟩,
        ⟨(some 27), .slc 6 (.t 25) (some (.t 26)) none none, none, none, false⟩,
        ⟨(some 28), .app 6 48 [(.int .i64 0), (.int .i64 0), (.int .i64 0), (.int .i64 0), (.int .i64 0), (.int .i32 0)] (.t 24) (.t 27), none, none, false⟩,
        ⟨(some 6), .mv (.t 28), none, none, false⟩])
     (.seq
      (.reg [⟨(some 29), .mv (.t 0), none, none, false⟩,
         ⟨(some 30), .mv (.t 5), none, none, false⟩,
         ⟨(some 31), .slc 6 (.t 29) none (some (.t 30)) none, none, none, false⟩,
         ⟨(some 32), .app 6 48 [(.int .i64 0), (.int .i64 0), (.int .i64 0), (.int .i64 0), (.int .i64 0), (.int .i32 0)] (.c .nils) (.t 31), none, none, false⟩,
         ⟨(some 33), .mv (.t 6), none, none, false⟩,
         ⟨(some 34), .app 6 48 [(.int .i64 0), (.int .i64 0), (.int .i64 0), (.int .i64 0), (.int .i64 0), (.int .i32 0)] (.t 32) (.t 33), none, none, false⟩,
         ⟨(some 4), .mv (.t 34), none, none, false⟩])
      (.ret)))))⟩

/- redpencil/store.Valid -/
def a47 : AFn := ⟨11, [.t 2],
  .seq
  (.reg [⟨(some 2), .mv (.c (.bool false)), none, none, false⟩])
  (.seq
   (.reg [⟨(some 3), .mv (.t 0), none, none, false⟩,
      ⟨(some 4), .call 54 false [(.t 3), (.f 55)], none, none, false⟩,
      ⟨(some 5), .un .not (.t 4), none, none, false⟩,
      ⟨(some 6), .mv (.t 5), none, none, false⟩,
      ⟨(some 7), .mv (.t 0), (some (6, true)), none, false⟩,
      ⟨(some 8), .call 61 false [(.t 7)], (some (6, true)), none, false⟩,
      ⟨(some 9), .call 60 false [(.t 8)], (some (6, true)), none, false⟩,
      ⟨(some 10), .pick (.t 6) (.t 9) (.c (.bool false)), none, none, false⟩,
      ⟨(some 2), .mv (.t 10), none, none, false⟩])
   (.ret))⟩

/- slices.Clone[redpencil/api.State,redpencil/api.Node] -/
def a48 : AFn := ⟨8, [.t 2],
  .seq
  (.reg [⟨(some 2), .mv (.c .nils), none, none, false⟩])
  (.seq
   (.seq
    (.reg [⟨(some 3), .mv (.t 0), none, none, false⟩,
       ⟨(some 4), .bin .eql .ns (.t 3) (.c .nils), none, none, false⟩])
    (.cond (.t 4)
     (.seq
      (.reg [⟨(some 2), .mv (.c .nils), none, none, false⟩])
      (.ret))
     (.skip)))
   (.seq
    (.reg [⟨(some 5), .bsl [] 0 6 [], none, none, false⟩,
       ⟨(some 6), .mv (.t 0), none, none, false⟩,
       ⟨(some 7), .app 6 48 [(.int .i64 0), (.int .i64 0), (.int .i64 0), (.int .i64 0), (.int .i64 0), (.int .i32 0)] (.t 5) (.t 6), none, none, false⟩,
       ⟨(some 2), .mv (.t 7), none, none, false⟩])
    (.ret)))⟩

/- cmp.Or[int] -/
def a49 : AFn := ⟨18, [.t 2],
  .seq
  (.reg [⟨(some 2), .mv (.c (.int .i64 0)), none, none, false⟩])
  (.seq
   (.reg [⟨(some 3), .mv (.c (.int .i64 0)), none, none, false⟩])
   (.seq
    (.seq
     (.reg [⟨(some 6), .mv (.t 0), none, none, false⟩,
        ⟨(some 7), .len .sl (.t 6), none, none, false⟩,
        ⟨(some 8), .mv (.c (.int .i64 0)), none, none, false⟩])
     (.block 0 (.loop (.seq
        (.reg [⟨(some 9), .bin .lss .no (.t 8) (.t 7), none, none, false⟩])
        (.seq
         (.cond (.t 9)
          (.skip)
          (.exit 0))
         (.seq
          (.block 1 (.seq
            (.reg [⟨(some 10), .iad 1 (.t 6) (.t 8), none, none, false⟩,
               ⟨(some 11), .load1 (.t 10), none, none, false⟩,
               ⟨(some 5), .mv (.t 11), none, none, false⟩])
            (.seq
             (.reg [⟨(some 12), .mv (.t 5), none, none, false⟩,
                ⟨(some 13), .mv (.t 3), none, none, false⟩,
                ⟨(some 14), .bin .neq .no (.t 12) (.t 13), none, none, false⟩])
             (.cond (.t 14)
              (.seq
               (.reg [⟨(some 15), .mv (.t 5), none, none, false⟩,
                  ⟨(some 2), .mv (.t 15), none, none, false⟩])
               (.ret))
              (.skip)))))
          (.reg [⟨(some 16), .bin .add .no (.t 8) (.c (.int .i64 1)), none, none, false⟩,
             ⟨(some 8), .mv (.t 16), none, none, false⟩])))))))
    (.seq
     (.reg [⟨(some 17), .mv (.t 3), none, none, false⟩,
        ⟨(some 2), .mv (.t 17), none, none, false⟩])
     (.ret))))⟩

/- cmp.Compare[int] -/
def a50 : AFn := ⟨20, [.t 4],
  .seq
  (.reg [⟨(some 4), .mv (.c (.int .i64 0)), none, none, false⟩])
  (.seq
   (.reg [⟨(some 7), .mv (.t 0), none, none, false⟩,
      ⟨(some 8), .call 62 false [(.t 7)], none, none, false⟩,
      ⟨(some 5), .mv (.t 8), none, none, false⟩])
   (.seq
    (.reg [⟨(some 9), .mv (.t 1), none, none, false⟩,
       ⟨(some 10), .call 62 false [(.t 9)], none, none, false⟩,
       ⟨(some 6), .mv (.t 10), none, none, false⟩])
    (.seq
     (.seq
      (.reg [⟨(some 11), .mv (.t 5), none, none, false⟩])
      (.cond (.t 11)
       (.seq
        (.seq
         (.reg [⟨(some 12), .mv (.t 6), none, none, false⟩])
         (.cond (.t 12)
          (.seq
           (.reg [⟨(some 4), .mv (.c (.int .i64 0)), none, none, false⟩])
           (.ret))
          (.skip)))
        (.seq
         (.reg [⟨(some 4), .mv (.c (.int .i64 (-1))), none, none, false⟩])
         (.ret)))
       (.skip)))
     (.seq
      (.seq
       (.reg [⟨(some 13), .mv (.t 6), none, none, false⟩])
       (.cond (.t 13)
        (.seq
         (.reg [⟨(some 4), .mv (.c (.int .i64 1)), none, none, false⟩])
         (.ret))
        (.skip)))
      (.seq
       (.seq
        (.reg [⟨(some 14), .mv (.t 0), none, none, false⟩,
           ⟨(some 15), .mv (.t 1), none, none, false⟩,
           ⟨(some 16), .bin .lss .no (.t 14) (.t 15), none, none, false⟩])
        (.cond (.t 16)
         (.seq
          (.reg [⟨(some 4), .mv (.c (.int .i64 (-1))), none, none, false⟩])
          (.ret))
         (.skip)))
       (.seq
        (.seq
         (.reg [⟨(some 17), .mv (.t 0), none, none, false⟩,
            ⟨(some 18), .mv (.t 1), none, none, false⟩,
            ⟨(some 19), .bin .gtr .no (.t 17) (.t 18), none, none, false⟩])
         (.cond (.t 19)
          (.seq
           (.reg [⟨(some 4), .mv (.c (.int .i64 1)), none, none, false⟩])
           (.ret))
          (.skip)))
        (.seq
         (.reg [⟨(some 4), .mv (.c (.int .i64 0)), none, none, false⟩])
         (.ret))))))))⟩

/- redpencil/node.Valid -/
def a51 : AFn := ⟨42, [.t 2],
  .seq
  (.reg [⟨(some 1), .box 6 (.t 0), none, none, false⟩,
     ⟨(some 2), .mv (.c (.bool false)), none, none, false⟩])
  (.seq
   (.reg [⟨(some 3), .fad 0 (.t 1), none, none, false⟩,
      ⟨(some 4), .loadn 2 (.t 3), none, none, false⟩,
      ⟨(some 5), .call 63 false [(.t 4)], none, none, false⟩,
      ⟨(some 6), .mv (.t 5), none, none, false⟩,
      ⟨(some 7), .fad 2 (.t 1), (some (6, true)), none, false⟩,
      ⟨(some 8), .loadn 2 (.t 7), (some (6, true)), none, false⟩,
      ⟨(some 9), .call 64 false [(.t 8)], (some (6, true)), none, false⟩,
      ⟨(some 10), .mv (.t 9), (some (6, true)), none, false⟩,
      ⟨(some 11), .fad 2 (.t 1), (some (10, false)), none, false⟩,
      ⟨(some 12), .loadn 2 (.t 11), (some (10, false)), none, false⟩,
      ⟨(some 13), .call 63 false [(.t 12)], (some (10, false)), none, false⟩,
      ⟨(some 14), .pick (.t 10) (.c (.bool true)) (.t 13), (some (6, true)), none, false⟩,
      ⟨(some 15), .pick (.t 6) (.t 14) (.c (.bool false)), none, none, false⟩,
      ⟨(some 16), .mv (.t 15), none, none, false⟩,
      ⟨(some 17), .fad 2 (.t 1), (some (16, true)), none, false⟩,
      ⟨(some 18), .loadn 2 (.t 17), (some (16, true)), none, false⟩,
      ⟨(some 19), .fad 0 (.t 1), (some (16, true)), none, false⟩,
      ⟨(some 20), .loadn 2 (.t 19), (some (16, true)), none, false⟩,
      ⟨(some 21), .bin .neq (.fl [.i, .i]) (.t 18) (.t 20), (some (16, true)), none, false⟩,
      ⟨(some 22), .pick (.t 16) (.t 21) (.c (.bool false)), none, none, false⟩,
      ⟨(some 23), .mv (.t 22), none, none, false⟩,
      ⟨(some 24), .fad 4 (.t 1), (some (23, true)), none, false⟩,
      ⟨(some 25), .load1 (.t 24), (some (23, true)), none, false⟩,
      ⟨(some 26), .bin .geq .no (.t 25) (.c (.int .i64 1)), (some (23, true)), none, false⟩,
      ⟨(some 27), .pick (.t 23) (.t 26) (.c (.bool false)), none, none, false⟩,
      ⟨(some 28), .mv (.t 27), none, none, false⟩,
      ⟨(some 29), .fad 4 (.t 1), (some (28, true)), none, false⟩,
      ⟨(some 30), .load1 (.t 29), (some (28, true)), none, false⟩,
      ⟨(some 31), .bin .leq .no (.t 30) (.c (.int .i64 4611686018427387904)), (some (28, true)), none, false⟩,
      ⟨(some 32), .pick (.t 28) (.t 31) (.c (.bool false)), none, none, false⟩,
      ⟨(some 33), .mv (.t 32), none, none, false⟩,
      ⟨(some 34), .loadn 6 (.t 1), (some (33, true)), none, false⟩,
      ⟨(some 35), .call 53 false [(.t 34)], (some (33, true)), none, false⟩,
      ⟨(some 36), .mv (.t 35), (some (33, true)), none, false⟩,
      ⟨(some 37), .fad 5 (.t 1), (some (36, false)), none, false⟩,
      ⟨(some 38), .load1 (.t 37), (some (36, false)), none, false⟩,
      ⟨(some 39), .call 65 false [(.t 38)], (some (36, false)), none, false⟩,
      ⟨(some 40), .pick (.t 36) (.c (.bool true)) (.t 39), (some (33, true)), none, false⟩,
      ⟨(some 41), .pick (.t 33) (.t 40) (.c (.bool false)), none, none, false⟩,
      ⟨(some 2), .mv (.t 41), none, none, false⟩])
   (.ret))⟩

/- redpencil/node.Kill -/
def a52 : AFn := ⟨5, [.celln 2 6],
  .seq
  (.reg [⟨(some 1), .box 6 (.t 0), none, none, false⟩,
     ⟨(some 2), .alloc [(.int .i64 0), (.int .i64 0), (.int .i64 0), (.int .i64 0), (.int .i64 0), (.int .i32 0)], none, none, false⟩])
  (.seq
   (.reg [⟨(some 3), .fad 5 (.t 1), none, none, false⟩,
      ⟨none, .store 1 (.t 3) (.c (.int .i32 0)), none, none, false⟩])
   (.seq
    (.reg [⟨(some 4), .loadn 6 (.t 1), none, none, false⟩,
       ⟨none, .store 6 (.t 2) (.t 4), none, none, false⟩])
    (.ret)))⟩

/- redpencil/node.Dead -/
def a53 : AFn := ⟨6, [.t 2],
  .seq
  (.reg [⟨(some 1), .box 6 (.t 0), none, none, false⟩,
     ⟨(some 2), .mv (.c (.bool false)), none, none, false⟩])
  (.seq
   (.reg [⟨(some 3), .fad 5 (.t 1), none, none, false⟩,
      ⟨(some 4), .load1 (.t 3), none, none, false⟩,
      ⟨(some 5), .bin .eql .no (.t 4) (.c (.int .i32 0)), none, none, false⟩,
      ⟨(some 2), .mv (.t 5), none, none, false⟩])
   (.ret))⟩

/- slices.ContainsFunc[[]redpencil/api.Node,redpencil/api.Node] -/
def a54 : AFn := ⟨9, [.t 4],
  .seq
  (.reg [⟨(some 4), .mv (.c (.bool false)), none, none, false⟩])
  (.seq
   (.reg [⟨(some 5), .mv (.t 0), none, none, false⟩,
      ⟨(some 6), .mv (.t 1), none, none, false⟩,
      ⟨(some 7), .call 66 false [(.t 5), (.t 6)], none, none, false⟩,
      ⟨(some 8), .bin .geq .no (.t 7) (.c (.int .i64 0)), none, none, false⟩,
      ⟨(some 4), .mv (.t 8), none, none, false⟩])
   (.ret))⟩

/- redpencil/store.invalid -/
def a55 : AFn := ⟨6, [.t 2],
  .seq
  (.reg [⟨(some 1), .box 6 (.t 0), none, none, false⟩,
     ⟨(some 2), .mv (.c (.bool false)), none, none, false⟩])
  (.seq
   (.reg [⟨(some 3), .loadn 6 (.t 1), none, none, false⟩,
      ⟨(some 4), .call 51 false [(.t 3)], none, none, false⟩,
      ⟨(some 5), .un .not (.t 4), none, none, false⟩,
      ⟨(some 2), .mv (.t 5), none, none, false⟩])
   (.ret))⟩

/- redpencil/store.Of$1 -/
def a57 : AFn := ⟨10, [.t 4],
  .seq
  (.reg [⟨(some 2), .box 6 (.t 0), none, none, false⟩,
     ⟨(some 3), .box 6 (.t 1), none, none, false⟩,
     ⟨(some 4), .mv (.c (.int .i64 0)), none, none, false⟩])
  (.seq
   (.reg [⟨(some 5), .fad 0 (.t 2), none, none, false⟩,
      ⟨(some 6), .loadn 2 (.t 5), none, none, false⟩,
      ⟨(some 7), .fad 0 (.t 3), none, none, false⟩,
      ⟨(some 8), .loadn 2 (.t 7), none, none, false⟩,
      ⟨(some 9), .call 38 false [(.t 6), (.t 8)], none, none, false⟩,
      ⟨(some 4), .mv (.t 9), none, none, false⟩])
   (.ret))⟩

/- redpencil/redpencilref14.IsDot -/
def a58 : AFn := ⟨21, [.t 2],
  .seq
  (.reg [⟨(some 1), .box 2 (.t 0), none, none, false⟩,
     ⟨(some 2), .mv (.c (.bool false)), none, none, false⟩])
  (.seq
   (.reg [⟨(some 3), .fad 0 (.t 1), none, none, false⟩,
      ⟨(some 4), .load1 (.t 3), none, none, false⟩,
      ⟨(some 5), .bin .geq .no (.t 4) (.c (.int .i64 1)), none, none, false⟩,
      ⟨(some 6), .mv (.t 5), none, none, false⟩,
      ⟨(some 7), .fad 0 (.t 1), (some (6, true)), none, false⟩,
      ⟨(some 8), .load1 (.t 7), (some (6, true)), none, false⟩,
      ⟨(some 9), .bin .leq .no (.t 8) (.c (.int .i64 64)), (some (6, true)), none, false⟩,
      ⟨(some 10), .pick (.t 6) (.t 9) (.c (.bool false)), none, none, false⟩,
      ⟨(some 11), .mv (.t 10), none, none, false⟩,
      ⟨(some 12), .fad 1 (.t 1), (some (11, true)), none, false⟩,
      ⟨(some 13), .load1 (.t 12), (some (11, true)), none, false⟩,
      ⟨(some 14), .bin .geq .no (.t 13) (.c (.int .i64 1)), (some (11, true)), none, false⟩,
      ⟨(some 15), .pick (.t 11) (.t 14) (.c (.bool false)), none, none, false⟩,
      ⟨(some 16), .mv (.t 15), none, none, false⟩,
      ⟨(some 17), .fad 1 (.t 1), (some (16, true)), none, false⟩,
      ⟨(some 18), .load1 (.t 17), (some (16, true)), none, false⟩,
      ⟨(some 19), .bin .leq .no (.t 18) (.c (.int .i64 4294967295)), (some (16, true)), none, false⟩,
      ⟨(some 20), .pick (.t 16) (.t 19) (.c (.bool false)), none, none, false⟩,
      ⟨(some 2), .mv (.t 20), none, none, false⟩])
   (.ret))⟩

/- redpencil/redpencilref14.IsRune -/
def a59 : AFn := ⟨17, [.t 2],
  .seq
  (.reg [⟨(some 2), .mv (.c (.bool false)), none, none, false⟩])
  (.seq
   (.reg [⟨(some 3), .mv (.t 0), none, none, false⟩,
      ⟨(some 4), .bin .geq .no (.t 3) (.c (.int .i32 1)), none, none, false⟩,
      ⟨(some 5), .mv (.t 4), none, none, false⟩,
      ⟨(some 6), .mv (.t 0), (some (5, true)), none, false⟩,
      ⟨(some 7), .bin .leq .no (.t 6) (.c (.int .i32 1114111)), (some (5, true)), none, false⟩,
      ⟨(some 8), .pick (.t 5) (.t 7) (.c (.bool false)), none, none, false⟩,
      ⟨(some 9), .mv (.t 8), none, none, false⟩,
      ⟨(some 10), .mv (.t 0), (some (9, true)), none, false⟩,
      ⟨(some 11), .bin .lss .no (.t 10) (.c (.int .i32 55296)), (some (9, true)), none, false⟩,
      ⟨(some 12), .mv (.t 11), (some (9, true)), none, false⟩,
      ⟨(some 13), .mv (.t 0), (some (12, false)), none, false⟩,
      ⟨(some 14), .bin .gtr .no (.t 13) (.c (.int .i32 57343)), (some (12, false)), none, false⟩,
      ⟨(some 15), .pick (.t 12) (.c (.bool true)) (.t 14), (some (9, true)), none, false⟩,
      ⟨(some 16), .pick (.t 9) (.t 15) (.c (.bool false)), none, none, false⟩,
      ⟨(some 2), .mv (.t 16), none, none, false⟩])
   (.ret))⟩

/- redpencil/dot.IsSet -/
def a60 : AFn := ⟨21, [.t 2],
  .seq
  (.reg [⟨(some 2), .mv (.c (.bool false)), none, none, false⟩])
  (.seq
   (.seq
    (.reg [⟨(some 3), .mv (.c (.int .i64 1)), none, none, false⟩])
    (.block 0 (.loop (.seq
       (.seq
        (.reg [⟨(some 4), .mv (.t 3), none, none, false⟩,
           ⟨(some 5), .mv (.t 0), none, none, false⟩,
           ⟨(some 6), .len .sl (.t 5), none, none, false⟩,
           ⟨(some 7), .bin .lss .no (.t 4) (.t 6), none, none, false⟩])
        (.cond (.t 7)
         (.skip)
         (.exit 0)))
       (.seq
        (.block 1 (.seq
          (.regd 0 [⟨(some 10), .mv (.t 0), none, none, false⟩,
             ⟨(some 11), .mv (.t 3), none, none, false⟩,
             ⟨(some 12), .bin .sub .no (.t 11) (.c (.int .i64 1)), none, none, false⟩,
             ⟨(some 13), .iad 2 (.t 10) (.t 12), none, none, false⟩,
             ⟨(some 14), .loadn 2 (.t 13), none, none, false⟩,
             ⟨(some 15), .mv (.t 0), none, none, false⟩,
             ⟨(some 16), .mv (.t 3), none, none, false⟩,
             ⟨(some 17), .iad 2 (.t 15) (.t 16), none, none, false⟩,
             ⟨(some 18), .loadn 2 (.t 17), none, none, false⟩,
             ⟨(some 19), .call 38 false [(.t 14), (.t 18)], none, none, false⟩,
             ⟨(some 20), .bin .geq .no (.t 19) (.c (.int .i64 0)), none, none, false⟩])
          (.cond (.t 20)
           (.seq
            (.reg [⟨(some 2), .mv (.c (.bool false)), none, none, false⟩])
            (.ret))
           (.skip))))
        (.reg [⟨(some 8), .mv (.t 3), none, none, false⟩,
           ⟨(some 9), .bin .add .no (.t 8) (.c (.int .i64 1)), none, none, false⟩,
           ⟨(some 3), .mv (.t 9), none, none, false⟩]))))))
   (.seq
    (.reg [⟨(some 2), .mv (.c (.bool true)), none, none, false⟩])
    (.ret)))⟩

/- redpencil/store.dots -/
def a61 : AFn := ⟨19, [.t 2],
  .seq
  (.reg [⟨(some 2), .mv (.c .nils), none, none, false⟩])
  (.seq
   (.reg [⟨(some 3), .mv (.c .nils), none, none, false⟩])
   (.seq
    (.seq
     (.reg [⟨(some 6), .mv (.t 0), none, none, false⟩,
        ⟨(some 7), .len .sl (.t 6), none, none, false⟩,
        ⟨(some 8), .mv (.c (.int .i64 0)), none, none, false⟩])
     (.block 0 (.loop (.seq
        (.reg [⟨(some 9), .bin .lss .no (.t 8) (.t 7), none, none, false⟩])
        (.seq
         (.cond (.t 9)
          (.skip)
          (.exit 0))
         (.seq
          (.block 1 (.seq
            (.reg [⟨(some 10), .iad 6 (.t 6) (.t 8), none, none, false⟩,
               ⟨(some 11), .loadn 6 (.t 10), none, none, false⟩,
               ⟨(some 5), .alloc [(.int .i64 0), (.int .i64 0), (.int .i64 0), (.int .i64 0), (.int .i64 0), (.int .i32 0)], none, none, false⟩,
               ⟨none, .store 6 (.t 5) (.t 11), none, none, false⟩])
            (.reg [⟨(some 12), .mv (.t 3), none, none, false⟩,
               ⟨(some 13), .fad 0 (.t 5), none, none, false⟩,
               ⟨(some 14), .loadn 2 (.t 13), none, none, false⟩,
               ⟨(some 15), .bsl [(.int .i64 0), (.int .i64 0)] 1 2 [(0, (.t 14))], none, none, false⟩,
               ⟨(some 16), .app 2 16 [(.int .i64 0), (.int .i64 0)] (.t 12) (.t 15), none, none, false⟩,
               ⟨(some 3), .mv (.t 16), none, none, false⟩])))
          (.reg [⟨(some 17), .bin .add .no (.t 8) (.c (.int .i64 1)), none, none, false⟩,
             ⟨(some 8), .mv (.t 17), none, none, false⟩])))))))
    (.seq
     (.reg [⟨(some 18), .mv (.t 3), none, none, false⟩,
        ⟨(some 2), .mv (.t 18), none, none, false⟩])
     (.ret))))⟩

/- cmp.isNaN[int] -/
def a62 : AFn := ⟨6, [.t 2],
  .seq
  (.reg [⟨(some 2), .mv (.c (.bool false)), none, none, false⟩])
  (.seq
   (.reg [⟨(some 3), .mv (.t 0), none, none, false⟩,
      ⟨(some 4), .mv (.t 0), none, none, false⟩,
      ⟨(some 5), .bin .neq .no (.t 3) (.t 4), none, none, false⟩,
      ⟨(some 2), .mv (.t 5), none, none, false⟩])
   (.ret))⟩

/- redpencil/dot.Valid -/
def a63 : AFn := ⟨21, [.t 2],
  .seq
  (.reg [⟨(some 1), .box 2 (.t 0), none, none, false⟩,
     ⟨(some 2), .mv (.c (.bool false)), none, none, false⟩])
  (.seq
   (.reg [⟨(some 3), .fad 0 (.t 1), none, none, false⟩,
      ⟨(some 4), .load1 (.t 3), none, none, false⟩,
      ⟨(some 5), .bin .geq .no (.t 4) (.c (.int .i64 1)), none, none, false⟩,
      ⟨(some 6), .mv (.t 5), none, none, false⟩,
      ⟨(some 7), .fad 0 (.t 1), (some (6, true)), none, false⟩,
      ⟨(some 8), .load1 (.t 7), (some (6, true)), none, false⟩,
      ⟨(some 9), .bin .leq .no (.t 8) (.c (.int .i64 64)), (some (6, true)), none, false⟩,
      ⟨(some 10), .pick (.t 6) (.t 9) (.c (.bool false)), none, none, false⟩,
      ⟨(some 11), .mv (.t 10), none, none, false⟩,
      ⟨(some 12), .fad 1 (.t 1), (some (11, true)), none, false⟩,
      ⟨(some 13), .load1 (.t 12), (some (11, true)), none, false⟩,
      ⟨(some 14), .bin .geq .no (.t 13) (.c (.int .i64 1)), (some (11, true)), none, false⟩,
      ⟨(some 15), .pick (.t 11) (.t 14) (.c (.bool false)), none, none, false⟩,
      ⟨(some 16), .mv (.t 15), none, none, false⟩,
      ⟨(some 17), .fad 1 (.t 1), (some (16, true)), none, false⟩,
      ⟨(some 18), .load1 (.t 17), (some (16, true)), none, false⟩,
      ⟨(some 19), .bin .leq .no (.t 18) (.c (.int .i64 4294967295)), (some (16, true)), none, false⟩,
      ⟨(some 20), .pick (.t 16) (.t 19) (.c (.bool false)), none, none, false⟩,
      ⟨(some 2), .mv (.t 20), none, none, false⟩])
   (.ret))⟩

/- redpencil/dot.Root -/
def a64 : AFn := ⟨6, [.t 2],
  .seq
  (.reg [⟨(some 1), .box 2 (.t 0), none, none, false⟩,
     ⟨(some 2), .mv (.c (.bool false)), none, none, false⟩])
  (.seq
   (.reg [⟨(some 3), .loadn 2 (.t 1), none, none, false⟩,
      ⟨(some 4), .build [(.int .i64 0), (.int .i64 0)] [], none, none, false⟩,
      ⟨(some 5), .bin .eql (.fl [.i, .i]) (.t 3) (.t 4), none, none, false⟩,
      ⟨(some 2), .mv (.t 5), none, none, false⟩])
   (.ret))⟩

/- redpencil/runes.Valid -/
def a65 : AFn := ⟨9, [.t 2],
  .seq
  (.reg [⟨(some 2), .mv (.c (.bool false)), none, none, false⟩])
  (.seq
   (.reg [⟨(some 3), .mv (.t 0), none, none, false⟩,
      ⟨(some 4), .bin .neq .no (.t 3) (.c (.int .i32 0)), none, none, false⟩,
      ⟨(some 5), .mv (.t 4), none, none, false⟩,
      ⟨(some 6), .mv (.t 0), (some (5, true)), none, false⟩,
      ⟨(some 7), .call 69 false [(.t 6)], (some (5, true)), none, false⟩,
      ⟨(some 8), .pick (.t 5) (.t 7) (.c (.bool false)), none, none, false⟩,
      ⟨(some 2), .mv (.t 8), none, none, false⟩])
   (.ret))⟩

/- slices.IndexFunc[[]redpencil/api.Node,redpencil/api.Node] -/
def a66 : AFn := ⟨19, [.t 4],
  .seq
  (.reg [⟨(some 4), .mv (.c (.int .i64 0)), none, none, false⟩])
  (.seq
   (.seq
    (.reg [⟨(some 6), .mv (.t 0), none, none, false⟩,
       ⟨(some 7), .len .sl (.t 6), none, none, false⟩,
       ⟨(some 8), .mv (.c (.int .i64 0)), none, none, false⟩])
    (.block 0 (.loop (.seq
       (.reg [⟨(some 9), .bin .lss .no (.t 8) (.t 7), none, none, false⟩])
       (.seq
        (.cond (.t 9)
         (.skip)
         (.exit 0))
        (.seq
         (.block 1 (.seq
           (.reg [⟨(some 10), .mv (.t 8), none, none, false⟩,
              ⟨(some 5), .mv (.t 10), none, none, false⟩])
           (.seq
            (.reg [⟨(some 11), .mv (.t 1), none, none, false⟩,
               ⟨(some 12), .mv (.t 0), none, none, false⟩,
               ⟨(some 13), .mv (.t 5), none, none, false⟩,
               ⟨(some 14), .iad 6 (.t 12) (.t 13), none, none, false⟩,
               ⟨(some 15), .loadn 6 (.t 14), none, none, false⟩,
               ⟨(some 16), .callv (.t 11) false [(.t 15)], none, none, false⟩])
            (.cond (.t 16)
             (.seq
              (.reg [⟨(some 17), .mv (.t 5), none, none, false⟩,
                 ⟨(some 4), .mv (.t 17), none, none, false⟩])
              (.ret))
             (.skip)))))
         (.reg [⟨(some 18), .bin .add .no (.t 8) (.c (.int .i64 1)), none, none, false⟩,
            ⟨(some 8), .mv (.t 18), none, none, false⟩])))))))
   (.seq
    (.reg [⟨(some 4), .mv (.c (.int .i64 (-1))), none, none, false⟩])
    (.ret)))⟩

/- unicode/utf8.ValidRune -/
def a69 : AFn := ⟨17, [.t 2],
  .seq
  (.reg [⟨(some 2), .mv (.c (.bool false)), none, none, false⟩])
  (.seq
   (.block 0 (.seq
     (.reg [⟨(some 4), .mv (.t 0), none, none, false⟩,
        ⟨(some 5), .bin .leq .no (.c (.int .i32 0)) (.t 4), none, none, false⟩,
        ⟨(some 6), .mv (.t 5), none, none, false⟩,
        ⟨(some 7), .mv (.t 0), (some (6, true)), none, false⟩,
        ⟨(some 8), .bin .lss .no (.t 7) (.c (.int .i32 55296)), (some (6, true)), none, false⟩,
        ⟨(some 9), .pick (.t 6) (.t 8) (.c (.bool false)), none, none, false⟩,
        ⟨(some 3), .mv (.t 9), none, none, false⟩])
     (.cond (.t 3)
      (.seq
       (.reg [⟨(some 2), .mv (.c (.bool true)), none, none, false⟩])
       (.ret))
      (.seq
       (.reg [⟨(some 11), .mv (.t 0), none, none, false⟩,
          ⟨(some 12), .bin .lss .no (.c (.int .i32 57343)) (.t 11), none, none, false⟩,
          ⟨(some 13), .mv (.t 12), none, none, false⟩,
          ⟨(some 14), .mv (.t 0), (some (13, true)), none, false⟩,
          ⟨(some 15), .bin .leq .no (.t 14) (.c (.int .i32 1114111)), (some (13, true)), none, false⟩,
          ⟨(some 16), .pick (.t 13) (.t 15) (.c (.bool false)), none, none, false⟩,
          ⟨(some 10), .mv (.t 16), none, none, false⟩])
       (.cond (.t 10)
        (.seq
         (.reg [⟨(some 2), .mv (.c (.bool true)), none, none, false⟩])
         (.ret))
        (.skip))))))
   (.seq
    (.reg [⟨(some 2), .mv (.c (.bool false)), none, none, false⟩])
    (.ret)))⟩

end Go.AM
end
/-
  They are what the compiler makes of the loaded program. Printed by a program of this project.
-/
section
namespace Go.AM
open Go Go.Proofs

theorem c19 : cfn Try.prog Try.f19 = some a19 := by kernel_rfl
theorem k19 : callable Try.prog 19 = true := by kernel_rfl
theorem c20 : cfn Try.prog Try.f20 = some a20 := by kernel_rfl
theorem k20 : callable Try.prog 20 = true := by kernel_rfl
theorem c21 : cfn Try.prog Try.f21 = some a21 := by kernel_rfl
theorem k21 : callable Try.prog 21 = true := by kernel_rfl
theorem c22 : cfn Try.prog Try.f22 = some a22 := by kernel_rfl
theorem k22 : callable Try.prog 22 = true := by kernel_rfl
theorem c23 : cfn Try.prog Try.f23 = some a23 := by kernel_rfl
theorem k23 : callable Try.prog 23 = true := by kernel_rfl
theorem c24 : cfn Try.prog Try.f24 = some a24 := by kernel_rfl
theorem k24 : callable Try.prog 24 = true := by kernel_rfl
theorem c25 : cfn Try.prog Try.f25 = some a25 := by kernel_rfl
theorem k25 : callable Try.prog 25 = true := by kernel_rfl
theorem c26 : cfn Try.prog Try.f26 = some a26 := by kernel_rfl
theorem k26 : callable Try.prog 26 = true := by kernel_rfl
theorem c27 : cfn Try.prog Try.f27 = some a27 := by kernel_rfl
theorem k27 : callable Try.prog 27 = true := by kernel_rfl
theorem c28 : cfn Try.prog Try.f28 = some a28 := by kernel_rfl
theorem k28 : callable Try.prog 28 = true := by kernel_rfl
theorem c29 : cfn Try.prog Try.f29 = some a29 := by kernel_rfl
theorem k29 : callable Try.prog 29 = true := by kernel_rfl
theorem c30 : cfn Try.prog Try.f30 = some a30 := by kernel_rfl
theorem k30 : callable Try.prog 30 = true := by kernel_rfl
theorem c31 : cfn Try.prog Try.f31 = some a31 := by kernel_rfl
theorem k31 : callable Try.prog 31 = true := by kernel_rfl
theorem c32 : cfn Try.prog Try.f32 = some a32 := by kernel_rfl
theorem k32 : callable Try.prog 32 = true := by kernel_rfl
theorem c33 : cfn Try.prog Try.f33 = some a33 := by kernel_rfl
theorem k33 : callable Try.prog 33 = true := by kernel_rfl
theorem c34 : cfn Try.prog Try.f34 = some a34 := by kernel_rfl
theorem k34 : callable Try.prog 34 = true := by kernel_rfl
theorem c35 : cfn Try.prog Try.f35 = some a35 := by kernel_rfl
theorem k35 : callable Try.prog 35 = true := by kernel_rfl
theorem c36 : cfn Try.prog Try.f36 = some a36 := by kernel_rfl
theorem k36 : callable Try.prog 36 = true := by kernel_rfl
theorem c37 : cfn Try.prog Try.f37 = some a37 := by kernel_rfl
theorem k37 : callable Try.prog 37 = true := by kernel_rfl
theorem c38 : cfn Try.prog Try.f38 = some a38 := by kernel_rfl
theorem k38 : callable Try.prog 38 = true := by kernel_rfl
theorem c39 : cfn Try.prog Try.f39 = some a39 := by kernel_rfl
theorem k39 : callable Try.prog 39 = true := by kernel_rfl
theorem c40 : cfn Try.prog Try.f40 = some a40 := by kernel_rfl
theorem k40 : callable Try.prog 40 = true := by kernel_rfl
theorem c41 : cfn Try.prog Try.f41 = some a41 := by kernel_rfl
theorem k41 : callable Try.prog 41 = true := by kernel_rfl
theorem c42 : cfn Try.prog Try.f42 = some a42 := by kernel_rfl
theorem k42 : callable Try.prog 42 = true := by kernel_rfl
theorem c43 : cfn Try.prog Try.f43 = some a43 := by kernel_rfl
theorem k43 : callable Try.prog 43 = true := by kernel_rfl
theorem c44 : cfn Try.prog Try.f44 = some a44 := by kernel_rfl
theorem k44 : callable Try.prog 44 = true := by kernel_rfl
theorem c45 : cfn Try.prog Try.f45 = some a45 := by kernel_rfl
theorem k45 : callable Try.prog 45 = true := by kernel_rfl
theorem c46 : cfn Try.prog Try.f46 = some a46 := by kernel_rfl
theorem k46 : callable Try.prog 46 = true := by kernel_rfl
theorem c47 : cfn Try.prog Try.f47 = some a47 := by kernel_rfl
theorem k47 : callable Try.prog 47 = true := by kernel_rfl
theorem c48 : cfn Try.prog Try.f48 = some a48 := by kernel_rfl
theorem k48 : callable Try.prog 48 = true := by kernel_rfl
theorem c49 : cfn Try.prog Try.f49 = some a49 := by kernel_rfl
theorem k49 : callable Try.prog 49 = true := by kernel_rfl
theorem c50 : cfn Try.prog Try.f50 = some a50 := by kernel_rfl
theorem k50 : callable Try.prog 50 = true := by kernel_rfl
theorem c51 : cfn Try.prog Try.f51 = some a51 := by kernel_rfl
theorem k51 : callable Try.prog 51 = true := by kernel_rfl
theorem c52 : cfn Try.prog Try.f52 = some a52 := by kernel_rfl
theorem k52 : callable Try.prog 52 = true := by kernel_rfl
theorem c53 : cfn Try.prog Try.f53 = some a53 := by kernel_rfl
theorem k53 : callable Try.prog 53 = true := by kernel_rfl
theorem c54 : cfn Try.prog Try.f54 = some a54 := by kernel_rfl
theorem k54 : callable Try.prog 54 = true := by kernel_rfl
theorem c55 : cfn Try.prog Try.f55 = some a55 := by kernel_rfl
theorem k55 : callable Try.prog 55 = true := by kernel_rfl
theorem c57 : cfn Try.prog Try.f57 = some a57 := by kernel_rfl
theorem k57 : callable Try.prog 57 = true := by kernel_rfl
theorem c58 : cfn Try.prog Try.f58 = some a58 := by kernel_rfl
theorem k58 : callable Try.prog 58 = true := by kernel_rfl
theorem c59 : cfn Try.prog Try.f59 = some a59 := by kernel_rfl
theorem k59 : callable Try.prog 59 = true := by kernel_rfl
theorem c60 : cfn Try.prog Try.f60 = some a60 := by kernel_rfl
theorem k60 : callable Try.prog 60 = true := by kernel_rfl
theorem c61 : cfn Try.prog Try.f61 = some a61 := by kernel_rfl
theorem k61 : callable Try.prog 61 = true := by kernel_rfl
theorem c62 : cfn Try.prog Try.f62 = some a62 := by kernel_rfl
theorem k62 : callable Try.prog 62 = true := by kernel_rfl
theorem c63 : cfn Try.prog Try.f63 = some a63 := by kernel_rfl
theorem k63 : callable Try.prog 63 = true := by kernel_rfl
theorem c64 : cfn Try.prog Try.f64 = some a64 := by kernel_rfl
theorem k64 : callable Try.prog 64 = true := by kernel_rfl
theorem c65 : cfn Try.prog Try.f65 = some a65 := by kernel_rfl
theorem k65 : callable Try.prog 65 = true := by kernel_rfl
theorem c66 : cfn Try.prog Try.f66 = some a66 := by kernel_rfl
theorem k66 : callable Try.prog 66 = true := by kernel_rfl
theorem c69 : cfn Try.prog Try.f69 = some a69 := by kernel_rfl
theorem k69 : callable Try.prog 69 = true := by kernel_rfl

end Go.AM
end
/-
  dot.Compare and what it calls. Own work of this project.
-/
section
set_option linter.unusedVariables false
set_option linter.unusedSimpArgs false
namespace Go.AM
open Go Go.Proofs

theorem mixed : Try.prog.follows .mixedOrders = true := by kernel_rfl

set_option maxHeartbeats 2000000 in
theorem s_isNaN : SoundAt Try.prog 62 cIsNaNInt :=
  pure_of (fn_sound (tb_sound (l := []) (by simp)) mixed Try.func62 k62 c62 20) fun xs s r s' h => by
    unfold cIsNaNInt at h
    split at h
    · injection h with h
      obtain ⟨rfl, rfl⟩ := Prod.mk.inj h
      refine ⟨rfl, rfl, rfl, ?_⟩
      simp [acallFn, a62, aexec, aops, aop, aalloc, apure, aread, aeff, wanted, putE, aev, acall, binOp, intOp, aresults, aresult]
    · cases h
set_option maxHeartbeats 2000000 in
theorem s_cmpInt : SoundAt Try.prog 50 cCmpInt :=
  pure_of (fn_sound (tb_sound (l := [(62, cIsNaNInt)]) (by simpa using s_isNaN)) mixed Try.func50 k50 c50 30) fun xs s r s' h => by
    unfold cCmpInt at h
    split at h
    · rename_i a b
      injection h with h
      obtain ⟨rfl, rfl⟩ := Prod.mk.inj h
      refine ⟨rfl, rfl, rfl, ?_⟩
      by_cases h1 : a < b
      · simp [tb, cIsNaNInt, acallFn, a50, aexec, aops, aop, aalloc, apure, aread, aeff, wanted, putE, aev, acall, binOp, intOp, aresults, aresult, AV.ground, AV.plains, AV.plain, cmpI, h1]
      · by_cases h2 : b < a <;> simp [tb, cIsNaNInt, acallFn, a50, aexec, aops, aop, aalloc, apure, aread, aeff, wanted, putE, aev, acall, binOp, intOp, aresults, aresult, AV.ground, AV.plains, AV.plain, cmpI, h1, h2]
    · cases h

set_option maxHeartbeats 4000000 in
theorem s_or2 : SoundAt Try.prog 49 cOr2 :=
  (fn_sound (tb_sound (l := []) (by simp)) mixed Try.func49 k49 c49 16).weaken fun xs s r s' h => by
    unfold cOr2 at h
    split at h
    · rename_i id off cap
      split at h
      · rename_i cs own hg
        split at h
        · rename_i a b ha hb
          injection h with h
          obtain ⟨rfl, rfl⟩ := Prod.mk.inj h
          by_cases h0 : a = 0
          · subst h0
            by_cases h1 : b = 0
            · subst h1
              simp [tb, acallFn, a49, aexec, aops, aop, aalloc, apure, aread, aeff, wanted, putE, aev, acall, binOp, intOp, aresults, aresult, hg, ha, hb, IntKind.wrap, IntKind.bits, IntKind.signed]
            · have e1 : (b != 0) = true := by simpa using h1
              simp [e1, tb, acallFn, a49, aexec, aops, aop, aalloc, apure, aread, aeff, wanted, putE, aev, acall, binOp, intOp, aresults, aresult, hg, ha, hb, IntKind.wrap, IntKind.bits, IntKind.signed]
          · have e0 : (a != 0) = true := by simpa using h0
            simp [e0, h0, tb, acallFn, a49, aexec, aops, aop, aalloc, apure, aread, aeff, wanted, putE, aev, acall, binOp, intOp, aresults, aresult, hg, ha, hb, IntKind.wrap, IntKind.bits, IntKind.signed]
        · cases h
      · cases h
    · cases h
set_option maxHeartbeats 4000000 in
theorem s_dotCmp : SoundAt Try.prog 38 cDotCmp :=
  pure_of (fn_sound (tb_sound (l := [(50, cCmpInt), (49, cOr2)]) (by simpa using ⟨s_cmpInt, s_or2⟩)) mixed Try.func38 k38 c38 60) fun xs s r s' h => by
    unfold cDotCmp at h
    split at h
    · rename_i a b c d
      injection h with h
      obtain ⟨rfl, rfl⟩ := Prod.mk.inj h
      refine ⟨rfl, rfl, rfl, ?_⟩
      simp [dcmp, tb, cCmpInt, cOr2, acallFn, a38, aexec, aops, aop, aalloc, apure, aread, aeff, wanted, putE, aev, acall, binOp, intOp, aresults, aresult, AV.ground, AV.plains, AV.plain, St.empty, St.push, St.get, St.reserve, St.born, AV.cells, AV.one, fillP, setAt]
    · cases h
set_option maxHeartbeats 4000000 in
theorem s_nodeCmp : SoundAt Try.prog 57 cNodeCmp :=
  pure_of (fn_sound (tb_sound (l := [(38, cDotCmp)]) (by simpa using s_dotCmp)) mixed Try.func57 k57 c57 60) fun xs s r s' h => by
    unfold cNodeCmp at h
    split at h
    · injection h with h
      obtain ⟨rfl, rfl⟩ := Prod.mk.inj h
      refine ⟨rfl, rfl, rfl, ?_⟩
      simp [dcmp, tb, cDotCmp, acallFn, a57, aexec, aops, aop, aalloc, apure, aread, aeff, wanted, putE, aev, acall, binOp, intOp, aresults, aresult, AV.ground, AV.plains, AV.plain, St.empty, St.push, St.get, St.reserve, St.born, AV.cells, AV.one, fillP, setAt]
    · cases h

end Go.AM
end
/-
  Runes, dots and nodes: what the program's small functions answer. Own work of this project; in part printed by a program of it.
-/
section
set_option linter.unusedVariables false
set_option linter.unusedSimpArgs false
namespace Go.AM
open Go Go.Proofs

def validRune (x : Int) : Bool := decide (0 ≤ x) && decide (x < 55296) || decide (57343 < x) && decide (x ≤ 1114111)
def goodRune (x : Int) : Bool := decide (x ≠ 0) && validRune x
def Dot.valid (d : Dot) : Bool := decide (1 ≤ d.r) && decide (d.r ≤ 64) && decide (1 ≤ d.c) && decide (d.c ≤ 4294967295)
def Dot.root (d : Dot) : Bool := decide (d.r = 0) && decide (d.c = 0)
def cValidRune : Con := fun xs s => match xs with
  | [.int .i32 x] => some (.bool (validRune x), s)
  | _ => none
def cGoodRune : Con := fun xs s => match xs with
  | [.int .i32 x] => some (.bool (goodRune x), s)
  | _ => none
def cDotValid : Con := fun xs s => match xs with
  | [.agg [.int .i64 a, .int .i64 b]] => some (.bool (Dot.valid ⟨a, b⟩), s)
  | _ => none
def cDotRoot : Con := fun xs s => match xs with
  | [.agg [.int .i64 a, .int .i64 b]] => some (.bool (Dot.root ⟨a, b⟩), s)
  | _ => none
def cNodeDead : Con := fun xs s => match xs with
  | [.agg [.int .i64 _, .int .i64 _, .int .i64 _, .int .i64 _, .int .i64 _, .int .i32 x]] => some (.bool (x == 0), s)
  | _ => none
def cNodeKill : Con := fun xs s => match xs with
  | [.agg [.int .i64 a, .int .i64 b, .int .i64 c, .int .i64 d, .int .i64 e, .int .i32 _]] => some (.agg [.int .i64 a, .int .i64 b, .int .i64 c, .int .i64 d, .int .i64 e, .int .i32 0], s)
  | _ => none

set_option maxHeartbeats 4000000 in
theorem s_validRune : SoundAt Try.prog 69 cValidRune :=
  pure_of (fn_sound (tb_sound (l := []) (by simp)) mixed Try.func69 k69 c69 40) fun xs s r s' h => by
    unfold cValidRune at h
    split at h
    · rename_i x
      injection h with h
      obtain ⟨rfl, rfl⟩ := Prod.mk.inj h
      refine ⟨rfl, rfl, rfl, ?_⟩
      by_cases h1 : 0 ≤ x <;> by_cases h2 : x < 55296 <;> by_cases h3 : 57343 < x <;> by_cases h4 : x ≤ 1114111 <;> simp [h1, h2, h3, h4, tb, acallFn, a69, aexec, aops, aop, aalloc, apure, aread, aeff, wanted, putE, aev, acall, binOp, intOp, aresults, aresult, AV.ground, AV.plains, AV.plain, St.empty, St.push, St.put, St.get, St.reserve, St.born, AV.cells, AV.one, fillP, setAt, eqV, eqL, eqF, isNil, beq_dec, bne_dec, validRune]
    · cases h
set_option maxHeartbeats 4000000 in
theorem s_goodRune : SoundAt Try.prog 65 cGoodRune :=
  pure_of (fn_sound (tb_sound (l := [(69, cValidRune)]) (by simpa using s_validRune)) mixed Try.func65 k65 c65 40) fun xs s r s' h => by
    unfold cGoodRune at h
    split at h
    · rename_i x
      injection h with h
      obtain ⟨rfl, rfl⟩ := Prod.mk.inj h
      refine ⟨rfl, rfl, rfl, ?_⟩
      by_cases h1 : x = 0 <;> simp [h1, tb, cValidRune, acallFn, a65, aexec, aops, aop, aalloc, apure, aread, aeff, wanted, putE, aev, acall, binOp, intOp, aresults, aresult, AV.ground, AV.plains, AV.plain, St.empty, St.push, St.put, St.get, St.reserve, St.born, AV.cells, AV.one, fillP, setAt, eqV, eqL, eqF, isNil, beq_dec, bne_dec, goodRune]
    · cases h
set_option maxHeartbeats 4000000 in
theorem s_dotValid : SoundAt Try.prog 63 cDotValid :=
  pure_of (fn_sound (tb_sound (l := []) (by simp)) mixed Try.func63 k63 c63 40) fun xs s r s' h => by
    unfold cDotValid at h
    split at h
    · rename_i a b
      injection h with h
      obtain ⟨rfl, rfl⟩ := Prod.mk.inj h
      refine ⟨rfl, rfl, rfl, ?_⟩
      by_cases h1 : 1 ≤ a
      · by_cases h2 : a ≤ 64
        · by_cases h3 : 1 ≤ b
          · by_cases h4 : b ≤ 4294967295
            · simp [h1, h2, h3, h4, tb, acallFn, a63, aexec, aops, aop, aalloc, apure, aread, aeff, wanted, putE, aev, acall, binOp, intOp, aresults, aresult, AV.ground, AV.plains, AV.plain, St.empty, St.push, St.put, St.get, St.reserve, St.born, AV.cells, AV.one, fillP, setAt, eqV, eqL, eqF, isNil, beq_dec, bne_dec, Dot.valid]
            · simp [h1, h2, h3, h4, tb, acallFn, a63, aexec, aops, aop, aalloc, apure, aread, aeff, wanted, putE, aev, acall, binOp, intOp, aresults, aresult, AV.ground, AV.plains, AV.plain, St.empty, St.push, St.put, St.get, St.reserve, St.born, AV.cells, AV.one, fillP, setAt, eqV, eqL, eqF, isNil, beq_dec, bne_dec, Dot.valid]
          · simp [h1, h2, h3, tb, acallFn, a63, aexec, aops, aop, aalloc, apure, aread, aeff, wanted, putE, aev, acall, binOp, intOp, aresults, aresult, AV.ground, AV.plains, AV.plain, St.empty, St.push, St.put, St.get, St.reserve, St.born, AV.cells, AV.one, fillP, setAt, eqV, eqL, eqF, isNil, beq_dec, bne_dec, Dot.valid]
        · simp [h1, h2, tb, acallFn, a63, aexec, aops, aop, aalloc, apure, aread, aeff, wanted, putE, aev, acall, binOp, intOp, aresults, aresult, AV.ground, AV.plains, AV.plain, St.empty, St.push, St.put, St.get, St.reserve, St.born, AV.cells, AV.one, fillP, setAt, eqV, eqL, eqF, isNil, beq_dec, bne_dec, Dot.valid]
      · simp [h1, tb, acallFn, a63, aexec, aops, aop, aalloc, apure, aread, aeff, wanted, putE, aev, acall, binOp, intOp, aresults, aresult, AV.ground, AV.plains, AV.plain, St.empty, St.push, St.put, St.get, St.reserve, St.born, AV.cells, AV.one, fillP, setAt, eqV, eqL, eqF, isNil, beq_dec, bne_dec, Dot.valid]
    · cases h
set_option maxHeartbeats 4000000 in
theorem s_dotRoot : SoundAt Try.prog 64 cDotRoot :=
  pure_of (fn_sound (tb_sound (l := []) (by simp)) mixed Try.func64 k64 c64 40) fun xs s r s' h => by
    unfold cDotRoot at h
    split at h
    · rename_i a b
      injection h with h
      obtain ⟨rfl, rfl⟩ := Prod.mk.inj h
      refine ⟨rfl, rfl, rfl, ?_⟩
      simp [tb, acallFn, a64, aexec, aops, aop, aalloc, apure, aread, aeff, wanted, putE, aev, acall, binOp, intOp, aresults, aresult, AV.ground, AV.plains, AV.plain, St.empty, St.push, St.put, St.get, St.reserve, St.born, AV.cells, AV.one, fillP, setAt, eqV, eqL, eqF, isNil, beq_dec, bne_dec, Dot.root]
    · cases h
set_option maxHeartbeats 4000000 in
theorem s_nodeDead : SoundAt Try.prog 53 cNodeDead :=
  pure_of (fn_sound (tb_sound (l := []) (by simp)) mixed Try.func53 k53 c53 40) fun xs s r s' h => by
    unfold cNodeDead at h
    split at h
    · rename_i a b c d e x
      injection h with h
      obtain ⟨rfl, rfl⟩ := Prod.mk.inj h
      refine ⟨rfl, rfl, rfl, ?_⟩
      simp [tb, acallFn, a53, aexec, aops, aop, aalloc, apure, aread, aeff, wanted, putE, aev, acall, binOp, intOp, aresults, aresult, AV.ground, AV.plains, AV.plain, St.empty, St.push, St.put, St.get, St.reserve, St.born, AV.cells, AV.one, fillP, setAt, eqV, eqL, eqF, isNil, beq_dec, bne_dec]
    · cases h
set_option maxHeartbeats 4000000 in
theorem s_nodeKill : SoundAt Try.prog 52 cNodeKill :=
  pure_of (fn_sound (tb_sound (l := []) (by simp)) mixed Try.func52 k52 c52 40) fun xs s r s' h => by
    unfold cNodeKill at h
    split at h
    · rename_i a b c d e x
      injection h with h
      obtain ⟨rfl, rfl⟩ := Prod.mk.inj h
      refine ⟨rfl, rfl, rfl, ?_⟩
      simp [tb, acallFn, a52, aexec, aops, aop, aalloc, apure, aread, aeff, wanted, putE, aev, acall, binOp, intOp, aresults, aresult, AV.ground, AV.plains, AV.plain, St.empty, St.push, St.put, St.get, St.reserve, St.born, AV.cells, AV.one, fillP, setAt, eqV, eqL, eqF, isNil, beq_dec, bne_dec]
    · cases h

end Go.AM
end
/-
  The program's and the reference's small functions of dots and nodes. Own work of this project; in part printed by a program of it.
-/
section
set_option linter.unusedVariables false
set_option linter.unusedSimpArgs false
set_option maxRecDepth 100000
namespace Go.AM
open Go Go.Proofs

def Dot.before (a b : Dot) : Bool := decide (a.c < b.c) || decide (a.c = b.c) && decide (a.r < b.r)
def asDot : AV → Option Dot
  | .agg cs => dotC.dec cs
  | _ => none
def asNd : AV → Option Nd
  | .agg cs => ndC.dec cs
  | _ => none
theorem asDot_some {v : AV} {d : Dot} (h : asDot v = some d) : v = .agg (Dot.av d) := by
  cases v <;> simp only [asDot] at h <;> first | (cases h; done) | exact congrArg AV.agg (dotC.enc_dec _ _ h)
theorem asNd_some {v : AV} {d : Nd} (h : asNd v = some d) : v = .agg (Nd.av d) := by
  cases v <;> simp only [asNd] at h <;> first | (cases h; done) | exact congrArg AV.agg (ndC.enc_dec _ _ h)
theorem asDot_av (d : Dot) : asDot (.agg (Dot.av d)) = some d := rfl
theorem asNd_av (d : Nd) : asNd (.agg (Nd.av d)) = some d := rfl
/-- Functions of a dot, of two, of a node, of two. -/
def conD (f : Dot → AV) : Con := fun xs s => match xs with
  | [.agg cs] => match dotC.dec cs with
    | some d => some (f d, s.lowed)
    | none => none
  | _ => none
def conDD (f : Dot → Dot → AV) : Con := fun xs s => match xs with
  | [.agg a, .agg b] => match dotC.dec a, dotC.dec b with
    | some d, some e => some (f d e, s.lowed)
    | _, _ => none
  | _ => none
def conN (f : Nd → AV) : Con := fun xs s => match xs with
  | [.agg cs] => match ndC.dec cs with
    | some d => some (f d, s.lowed)
    | none => none
  | _ => none
def conNN (f : Nd → Nd → AV) : Con := fun xs s => match xs with
  | [.agg a, .agg b] => match ndC.dec a, ndC.dec b with
    | some d, some e => some (f d e, s.lowed)
    | _, _ => none
  | _ => none
theorem conD_some {f : Dot → AV} {xs : List AV} {s : St} {r : AV} {s' : St} (h : conD f xs s = some (r, s')) : ∃ d, xs = [.agg (Dot.av d)] ∧ r = f d ∧ s' = s.lowed := by
  unfold conD at h
  split at h
  · split at h
    · rename_i cs d hd
      injection h with h
      obtain ⟨rfl, rfl⟩ := Prod.mk.inj h
      have := dotC.enc_dec _ _ hd
      exact ⟨d, by rw [this]; rfl, rfl, rfl⟩
    · cases h
  · cases h
theorem conN_some {f : Nd → AV} {xs : List AV} {s : St} {r : AV} {s' : St} (h : conN f xs s = some (r, s')) : ∃ d, xs = [.agg (Nd.av d)] ∧ r = f d ∧ s' = s.lowed := by
  unfold conN at h
  split at h
  · split at h
    · rename_i cs d hd
      injection h with h
      obtain ⟨rfl, rfl⟩ := Prod.mk.inj h
      have := ndC.enc_dec _ _ hd
      exact ⟨d, by rw [this]; rfl, rfl, rfl⟩
    · cases h
  · cases h
theorem conDD_some {f : Dot → Dot → AV} {xs : List AV} {s : St} {r : AV} {s' : St} (h : conDD f xs s = some (r, s')) : ∃ d e, xs = [.agg (Dot.av d), .agg (Dot.av e)] ∧ r = f d e ∧ s' = s.lowed := by
  unfold conDD at h
  split at h
  · split at h
    · rename_i a b d e hd he
      injection h with h
      obtain ⟨rfl, rfl⟩ := Prod.mk.inj h
      have h1 := dotC.enc_dec _ _ hd
      have h2 := dotC.enc_dec _ _ he
      exact ⟨d, e, by rw [h1, h2]; rfl, rfl, rfl⟩
    · cases h
  · cases h
theorem conNN_some {f : Nd → Nd → AV} {xs : List AV} {s : St} {r : AV} {s' : St} (h : conNN f xs s = some (r, s')) : ∃ d e, xs = [.agg (Nd.av d), .agg (Nd.av e)] ∧ r = f d e ∧ s' = s.lowed := by
  unfold conNN at h
  split at h
  · split at h
    · rename_i a b d e hd he
      injection h with h
      obtain ⟨rfl, rfl⟩ := Prod.mk.inj h
      have h1 := ndC.enc_dec _ _ hd
      have h2 := ndC.enc_dec _ _ he
      exact ⟨d, e, by rw [h1, h2]; rfl, rfl, rfl⟩
    · cases h
  · cases h
theorem conD_call (f : Dot → AV) (hf : ∀ d, (f d).ground = true) (cl : Bool) (d : Dot) (s : St) : acall (conD f) cl [.agg (Dot.av d)] s = some (f d, s) := acall_rol rfl (hf d)
theorem conN_call (f : Nd → AV) (hf : ∀ d, (f d).ground = true) (cl : Bool) (d : Nd) (s : St) : acall (conN f) cl [.agg (Nd.av d)] s = some (f d, s) := acall_rol rfl (hf d)
theorem conDD_call (f : Dot → Dot → AV) (hf : ∀ d e, (f d e).ground = true) (cl : Bool) (d e : Dot) (s : St) : acall (conDD f) cl [.agg (Dot.av d), .agg (Dot.av e)] s = some (f d e, s) := acall_rol rfl (hf d e)
theorem conNN_call (f : Nd → Nd → AV) (hf : ∀ d e, (f d e).ground = true) (cl : Bool) (d e : Nd) (s : St) : acall (conNN f) cl [.agg (Nd.av d), .agg (Nd.av e)] s = some (f d e, s) := acall_rol rfl (hf d e)

theorem Dot.mk_eq (d : Dot) (a b : Int) : (d = ⟨a, b⟩) = (d.r = a ∧ d.c = b) := by cases d; simp
def conR (f : Int → AV) : Con := fun xs s => match xs with
  | [.int .i32 x] => some (f x, s.lowed)
  | _ => none
theorem conR_some {f : Int → AV} {xs : List AV} {s : St} {r : AV} {s' : St} (h : conR f xs s = some (r, s')) : ∃ x, xs = [.int .i32 x] ∧ r = f x ∧ s' = s.lowed := by
  unfold conR at h
  split at h
  · injection h with h
    obtain ⟨rfl, rfl⟩ := Prod.mk.inj h
    exact ⟨_, rfl, rfl, rfl⟩
  · cases h
theorem conR_call (f : Int → AV) (hf : ∀ d, (f d).ground = true) (cl : Bool) (d : Int) (s : St) : acall (conR f) cl [.int .i32 d] s = some (f d, s) := acall_rol rfl (hf d)
set_option maxHeartbeats 4000000
def fBefore (a b : Dot) : AV := .bool (a.before b)
theorem q_Before (cl : Bool) (a b : Dot) (s : St) : acall (conDD fBefore) cl [.agg (Dot.av a), .agg (Dot.av b)] s = some (.bool (a.before b), s) := conDD_call fBefore (fun _ _ => by first | rfl | (unfold fBefore; split <;> rfl)) cl a b s
set_option maxHeartbeats 4000000 in
theorem s_Before : SoundAt Try.prog 43 (conDD fBefore) :=
  con_keep (tb_sound (l := []) (by simp)) mixed Try.func43 k43 c43 fun args s r s' h => by
    obtain ⟨a, b, rfl, rfl, rfl⟩ := conDD_some h
    refine ⟨rfl, rfl, by simp [a43], fun env hlen ha => ?_⟩
    have h0 : E env 0 = _ := ha 0 _ rfl
    have h1 : E env 1 = _ := ha 1 _ rfl
    have hlen : elen env = _ := hlen
    simp only [a43] at hlen
    unfold a43
    simp (config := {contextual := true, maxDischargeDepth := 12}) only [tb, h0, h1, hlen, ↓bD0, ↓bD1, ↓bD2, ↓bD3, ↓bD4, ↓bD5, ↓bD6, bU0, bU1, bU2, bU3, bU4, bU5, bU6, bU7, bU8, bU9, bU10, bU11, bU12, bU13, forall_const, List.all_cons, List.all_nil, Option.map_some, List.map_cons, List.map_nil, ne_eq, implies_true, isNx, cstep_bool, ↓wp_cond, ↓reduceIte, reduceCtorEq, Nat.reduceEqDiff, Nat.reduceLT, Nat.reduceAdd, Nat.reduceMul]
    simp [fBefore, Dot.before]
def fIsDot (d : Dot) : AV := .bool d.valid
theorem q_IsDot (cl : Bool) (d : Dot) (s : St) : acall (conD fIsDot) cl [.agg (Dot.av d)] s = some (.bool d.valid, s) := conD_call fIsDot (fun _ => by first | rfl | (unfold fIsDot; split <;> rfl)) cl d s
set_option maxHeartbeats 4000000 in
theorem s_IsDot : SoundAt Try.prog 58 (conD fIsDot) :=
  con_keep (tb_sound (l := []) (by simp)) mixed Try.func58 k58 c58 fun args s r s' h => by
    obtain ⟨d, rfl, rfl, rfl⟩ := conD_some h
    refine ⟨rfl, rfl, by simp [a58], fun env hlen ha => ?_⟩
    have h0 : E env 0 = _ := ha 0 _ rfl
    have hlen : elen env = _ := hlen
    simp only [a58] at hlen
    unfold a58
    simp (config := {contextual := true, maxDischargeDepth := 12}) only [tb, h0, hlen, ↓bD0, ↓bD1, ↓bD2, ↓bD3, ↓bD4, ↓bD5, ↓bD6, bU0, bU1, bU2, bU3, bU4, bU5, bU6, bU7, bU8, bU9, bU10, bU11, bU12, bU13, forall_const, List.all_cons, List.all_nil, Option.map_some, List.map_cons, List.map_nil, ne_eq, implies_true, isNx, cstep_bool, ↓wp_cond, ↓reduceIte, reduceCtorEq, Nat.reduceEqDiff, Nat.reduceLT, Nat.reduceAdd, Nat.reduceMul]
    simp [fIsDot, Dot.valid]
def fDotValid (d : Dot) : AV := .bool d.valid
theorem q_DotValid (cl : Bool) (d : Dot) (s : St) : acall (conD fDotValid) cl [.agg (Dot.av d)] s = some (.bool d.valid, s) := conD_call fDotValid (fun _ => by first | rfl | (unfold fDotValid; split <;> rfl)) cl d s
set_option maxHeartbeats 4000000 in
theorem s_DotValid : SoundAt Try.prog 63 (conD fDotValid) :=
  con_keep (tb_sound (l := []) (by simp)) mixed Try.func63 k63 c63 fun args s r s' h => by
    obtain ⟨d, rfl, rfl, rfl⟩ := conD_some h
    refine ⟨rfl, rfl, by simp [a63], fun env hlen ha => ?_⟩
    have h0 : E env 0 = _ := ha 0 _ rfl
    have hlen : elen env = _ := hlen
    simp only [a63] at hlen
    unfold a63
    simp (config := {contextual := true, maxDischargeDepth := 12}) only [tb, h0, hlen, ↓bD0, ↓bD1, ↓bD2, ↓bD3, ↓bD4, ↓bD5, ↓bD6, bU0, bU1, bU2, bU3, bU4, bU5, bU6, bU7, bU8, bU9, bU10, bU11, bU12, bU13, forall_const, List.all_cons, List.all_nil, Option.map_some, List.map_cons, List.map_nil, ne_eq, implies_true, isNx, cstep_bool, ↓wp_cond, ↓reduceIte, reduceCtorEq, Nat.reduceEqDiff, Nat.reduceLT, Nat.reduceAdd, Nat.reduceMul]
    simp [fDotValid, Dot.valid]
def fDotRoot (d : Dot) : AV := .bool d.root
theorem q_DotRoot (cl : Bool) (d : Dot) (s : St) : acall (conD fDotRoot) cl [.agg (Dot.av d)] s = some (.bool d.root, s) := conD_call fDotRoot (fun _ => by first | rfl | (unfold fDotRoot; split <;> rfl)) cl d s
set_option maxHeartbeats 4000000 in
theorem s_DotRoot : SoundAt Try.prog 64 (conD fDotRoot) :=
  con_keep (tb_sound (l := []) (by simp)) mixed Try.func64 k64 c64 fun args s r s' h => by
    obtain ⟨d, rfl, rfl, rfl⟩ := conD_some h
    refine ⟨rfl, rfl, by simp [a64], fun env hlen ha => ?_⟩
    have h0 : E env 0 = _ := ha 0 _ rfl
    have hlen : elen env = _ := hlen
    simp only [a64] at hlen
    unfold a64
    simp (config := {contextual := true, maxDischargeDepth := 12}) only [tb, h0, hlen, ↓bD0, ↓bD1, ↓bD2, ↓bD3, ↓bD4, ↓bD5, ↓bD6, bU0, bU1, bU2, bU3, bU4, bU5, bU6, bU7, bU8, bU9, bU10, bU11, bU12, bU13, forall_const, List.all_cons, List.all_nil, Option.map_some, List.map_cons, List.map_nil, ne_eq, implies_true, isNx, cstep_bool, ↓wp_cond, ↓reduceIte, reduceCtorEq, Nat.reduceEqDiff, Nat.reduceLT, Nat.reduceAdd, Nat.reduceMul]
    simp [fDotRoot, Dot.root, Dot.mk_eq]
def fIsRune (x : Int) : AV := .bool (goodRune x)
theorem q_IsRune (cl : Bool) (x : Int) (s : St) : acall (conR fIsRune) cl [.int .i32 x] s = some (.bool (goodRune x), s) := conR_call fIsRune (fun _ => by first | rfl | (unfold fIsRune; split <;> rfl)) cl x s
set_option maxHeartbeats 4000000 in
theorem s_IsRune : SoundAt Try.prog 59 (conR fIsRune) :=
  con_keep (tb_sound (l := []) (by simp)) mixed Try.func59 k59 c59 fun args s r s' h => by
    obtain ⟨x, rfl, rfl, rfl⟩ := conR_some h
    refine ⟨rfl, rfl, by simp [a59], fun env hlen ha => ?_⟩
    have h0 : E env 0 = _ := ha 0 _ rfl
    have hlen : elen env = _ := hlen
    simp only [a59] at hlen
    unfold a59
    simp (config := {contextual := true, maxDischargeDepth := 12}) only [tb, h0, hlen, ↓bD0, ↓bD1, ↓bD2, ↓bD3, ↓bD4, ↓bD5, ↓bD6, bU0, bU1, bU2, bU3, bU4, bU5, bU6, bU7, bU8, bU9, bU10, bU11, bU12, bU13, forall_const, List.all_cons, List.all_nil, Option.map_some, List.map_cons, List.map_nil, ne_eq, implies_true, isNx, cstep_bool, ↓wp_cond, ↓reduceIte, reduceCtorEq, Nat.reduceEqDiff, Nat.reduceLT, Nat.reduceAdd, Nat.reduceMul]
    simp only [fIsRune, Option.some.injEq, AV.bool.injEq, and_true]
    rw [Bool.eq_iff_iff]
    simp [goodRune, validRune]
    omega
def fDead (n : Nd) : AV := .bool (decide (n.x = 0))
theorem q_Dead (cl : Bool) (n : Nd) (s : St) : acall (conN fDead) cl [.agg (Nd.av n)] s = some (.bool (decide (n.x = 0)), s) := conN_call fDead (fun _ => by first | rfl | (unfold fDead; split <;> rfl)) cl n s
set_option maxHeartbeats 4000000 in
theorem s_Dead : SoundAt Try.prog 53 (conN fDead) :=
  con_keep (tb_sound (l := []) (by simp)) mixed Try.func53 k53 c53 fun args s r s' h => by
    obtain ⟨n, rfl, rfl, rfl⟩ := conN_some h
    refine ⟨rfl, rfl, by simp [a53], fun env hlen ha => ?_⟩
    have h0 : E env 0 = _ := ha 0 _ rfl
    have hlen : elen env = _ := hlen
    simp only [a53] at hlen
    unfold a53
    simp (config := {contextual := true, maxDischargeDepth := 12}) only [tb, h0, hlen, ↓bD0, ↓bD1, ↓bD2, ↓bD3, ↓bD4, ↓bD5, ↓bD6, bU0, bU1, bU2, bU3, bU4, bU5, bU6, bU7, bU8, bU9, bU10, bU11, bU12, bU13, forall_const, List.all_cons, List.all_nil, Option.map_some, List.map_cons, List.map_nil, ne_eq, implies_true, isNx, cstep_bool, ↓wp_cond, ↓reduceIte, reduceCtorEq, Nat.reduceEqDiff, Nat.reduceLT, Nat.reduceAdd, Nat.reduceMul]
    simp [fDead]
def fKill (n : Nd) : AV := .agg (Nd.av { n with x := 0 })
theorem q_Kill (cl : Bool) (n : Nd) (s : St) : acall (conN fKill) cl [.agg (Nd.av n)] s = some (.agg (Nd.av { n with x := 0 }), s) := conN_call fKill (fun _ => by first | rfl | (unfold fKill; split <;> rfl)) cl n s
set_option maxHeartbeats 4000000 in
theorem s_Kill : SoundAt Try.prog 52 (conN fKill) :=
  con_keep (tb_sound (l := []) (by simp)) mixed Try.func52 k52 c52 fun args s r s' h => by
    obtain ⟨n, rfl, rfl, rfl⟩ := conN_some h
    refine ⟨rfl, rfl, by simp [a52], fun env hlen ha => ?_⟩
    have h0 : E env 0 = _ := ha 0 _ rfl
    have hlen : elen env = _ := hlen
    simp only [a52] at hlen
    unfold a52
    simp (config := {contextual := true, maxDischargeDepth := 12}) only [tb, h0, hlen, ↓bD0, ↓bD1, ↓bD2, ↓bD3, ↓bD4, ↓bD5, ↓bD6, bU0, bU1, bU2, bU3, bU4, bU5, bU6, bU7, bU8, bU9, bU10, bU11, bU12, bU13, forall_const, List.all_cons, List.all_nil, Option.map_some, List.map_cons, List.map_nil, ne_eq, implies_true, isNx, cstep_bool, ↓wp_cond, ↓reduceIte, reduceCtorEq, Nat.reduceEqDiff, Nat.reduceLT, Nat.reduceAdd, Nat.reduceMul]
    simp [fKill]
theorem q_goodRune0 (cl : Bool) (x : Int) (s : St) : acall cGoodRune cl [.int .i32 x] s = some (.bool (goodRune x), s) := acall_ro rfl rfl
def Nd.valid (n : Nd) : Bool :=
  n.d.valid && (n.p.root || n.p.valid) && !decide (n.p = n.d) && decide (1 ≤ n.t) && decide (n.t ≤ 4611686018427387904) && (decide (n.x = 0) || goodRune n.x)
def fNodeValid (n : Nd) : AV := .bool n.valid
theorem q_NodeValid (cl : Bool) (n : Nd) (s : St) : acall (conN fNodeValid) cl [.agg (Nd.av n)] s = some (.bool n.valid, s) := conN_call fNodeValid (fun _ => by first | rfl | (unfold fNodeValid; split <;> rfl)) cl n s
set_option maxHeartbeats 4000000 in
theorem s_NodeValid : SoundAt Try.prog 51 (conN fNodeValid) :=
  con_keep (tb_sound (l := [(63, conD fDotValid), (64, conD fDotRoot), (53, conN fDead), (65, cGoodRune)]) (by simpa using ⟨s_DotValid, s_DotRoot, s_Dead, s_goodRune⟩)) mixed Try.func51 k51 c51 fun args s r s' h => by
    obtain ⟨n, rfl, rfl, rfl⟩ := conN_some h
    refine ⟨rfl, rfl, by simp [a51], fun env hlen ha => ?_⟩
    have h0 : E env 0 = _ := ha 0 _ rfl
    have hlen : elen env = _ := hlen
    simp only [a51] at hlen
    unfold a51
    simp (config := {contextual := true, maxDischargeDepth := 12}) only [tb, q_DotValid, q_DotRoot, q_Dead, q_goodRune0, h0, hlen, ↓bD0, ↓bD1, ↓bD2, ↓bD3, ↓bD4, ↓bD5, ↓bD6, bU0, bU1, bU2, bU3, bU4, bU5, bU6, bU7, bU8, bU9, bU10, bU11, bU12, bU13, forall_const, List.all_cons, List.all_nil, Option.map_some, List.map_cons, List.map_nil, ne_eq, implies_true, isNx, cstep_bool, ↓wp_cond, ↓reduceIte, reduceCtorEq, Nat.reduceEqDiff, Nat.reduceLT, Nat.reduceAdd, Nat.reduceMul]
    simp [fNodeValid, Nd.valid]
def fIsNode (n : Nd) : AV := .bool n.valid
theorem q_IsNode (cl : Bool) (n : Nd) (s : St) : acall (conN fIsNode) cl [.agg (Nd.av n)] s = some (.bool n.valid, s) := conN_call fIsNode (fun _ => by first | rfl | (unfold fIsNode; split <;> rfl)) cl n s
set_option maxHeartbeats 4000000 in
theorem s_IsNode : SoundAt Try.prog 42 (conN fIsNode) :=
  con_keep (tb_sound (l := [(58, conD fIsDot), (59, conR fIsRune)]) (by simpa using ⟨s_IsDot, s_IsRune⟩)) mixed Try.func42 k42 c42 fun args s r s' h => by
    obtain ⟨n, rfl, rfl, rfl⟩ := conN_some h
    refine ⟨rfl, rfl, by simp [a42], fun env hlen ha => ?_⟩
    have h0 : E env 0 = _ := ha 0 _ rfl
    have hlen : elen env = _ := hlen
    simp only [a42] at hlen
    unfold a42
    simp (config := {contextual := true, maxDischargeDepth := 12}) only [tb, q_IsDot, q_IsRune, h0, hlen, ↓bD0, ↓bD1, ↓bD2, ↓bD3, ↓bD4, ↓bD5, ↓bD6, bU0, bU1, bU2, bU3, bU4, bU5, bU6, bU7, bU8, bU9, bU10, bU11, bU12, bU13, forall_const, List.all_cons, List.all_nil, Option.map_some, List.map_cons, List.map_nil, ne_eq, implies_true, isNx, cstep_bool, ↓wp_cond, ↓reduceIte, reduceCtorEq, Nat.reduceEqDiff, Nat.reduceLT, Nat.reduceAdd, Nat.reduceMul]
    simp [fIsNode, Nd.valid, Dot.root, Dot.mk_eq]
def fInvalid (n : Nd) : AV := .bool (!n.valid)
theorem q_Invalid (cl : Bool) (n : Nd) (s : St) : acall (conN fInvalid) cl [.agg (Nd.av n)] s = some (.bool (!n.valid), s) := conN_call fInvalid (fun _ => by first | rfl | (unfold fInvalid; split <;> rfl)) cl n s
set_option maxHeartbeats 4000000 in
theorem s_Invalid : SoundAt Try.prog 55 (conN fInvalid) :=
  con_keep (tb_sound (l := [(51, conN fNodeValid)]) (by simpa using s_NodeValid)) mixed Try.func55 k55 c55 fun args s r s' h => by
    obtain ⟨n, rfl, rfl, rfl⟩ := conN_some h
    refine ⟨rfl, rfl, by simp [a55], fun env hlen ha => ?_⟩
    have h0 : E env 0 = _ := ha 0 _ rfl
    have hlen : elen env = _ := hlen
    simp only [a55] at hlen
    unfold a55
    simp (config := {contextual := true, maxDischargeDepth := 12}) only [tb, q_NodeValid, h0, hlen, ↓bD0, ↓bD1, ↓bD2, ↓bD3, ↓bD4, ↓bD5, ↓bD6, bU0, bU1, bU2, bU3, bU4, bU5, bU6, bU7, bU8, bU9, bU10, bU11, bU12, bU13, forall_const, List.all_cons, List.all_nil, Option.map_some, List.map_cons, List.map_nil, ne_eq, implies_true, isNx, cstep_bool, ↓wp_cond, ↓reduceIte, reduceCtorEq, Nat.reduceEqDiff, Nat.reduceLT, Nat.reduceAdd, Nat.reduceMul]
    simp [fInvalid]
/-- Two nodes with one dot. -/
def Nd.clash (a b : Nd) : Bool := !decide (a.d = b.d ∧ a.p = b.p ∧ a.t = b.t ∧ (a.x = 0 ∨ b.x = 0 ∨ a.x = b.x))
theorem Nd.clash_false (a b : Nd) : (a.clash b = false) = (a.d = b.d ∧ a.p = b.p ∧ a.t = b.t ∧ (a.x = 0 ∨ b.x = 0 ∨ a.x = b.x)) := by simp only [Nd.clash, Bool.not_eq_false', decide_eq_true_eq]
theorem Nd.clash_true (a b : Nd) : (a.clash b = true) = ¬ (a.d = b.d ∧ a.p = b.p ∧ a.t = b.t ∧ (a.x = 0 ∨ b.x = 0 ∨ a.x = b.x)) := by simp only [Nd.clash, Bool.not_eq_true', decide_eq_false_iff_not]
theorem Nd.kill_eq (a b : Nd) : ((⟨a.d, a.p, a.t, 0⟩ : Nd) = ⟨b.d, b.p, b.t, 0⟩) = (a.d = b.d ∧ a.p = b.p ∧ a.t = b.t) := by simp
theorem Nd.eq_iff (a b : Nd) : (a = b) = (a.d = b.d ∧ a.p = b.p ∧ a.t = b.t ∧ a.x = b.x) := by cases a; cases b; simp
def Nd.merge (a b : Nd) : Nd := if b.x = 0 then b else a
def nd0 : Nd := ⟨⟨0, 0⟩, ⟨0, 0⟩, 0, 0⟩
def mergeV (a b : Nd) : AV :=
  if a.valid = false ∨ b.valid = false then .tup [.agg (Nd.av nd0), .int .i64 2]
  else if a.clash b = true then .tup [.agg (Nd.av nd0), .int .i64 15]
  else .tup [.agg (Nd.av (a.merge b)), .int .i64 0]
theorem mergeV_ground (a b : Nd) : (mergeV a b).ground = true := by
  unfold mergeV
  split
  · rfl
  · split <;> rfl
def refMergeV (a b : Nd) : AV := if a.clash b = true then .tup [.agg (Nd.av nd0), .bool false] else .tup [.agg (Nd.av (a.merge b)), .bool true]
theorem refMergeV_ground (a b : Nd) : (refMergeV a b).ground = true := by
  unfold refMergeV
  split <;> rfl
def fMerge (a b : Nd) : AV := mergeV a b
theorem q_Merge (cl : Bool) (a b : Nd) (s : St) : acall (conNN fMerge) cl [.agg (Nd.av a), .agg (Nd.av b)] s = some (mergeV a b, s) := conNN_call fMerge mergeV_ground cl a b s
set_option maxHeartbeats 4000000 in
theorem s_Merge : SoundAt Try.prog 39 (conNN fMerge) :=
  con_keep (tb_sound (l := [(51, conN fNodeValid), (52, conN fKill), (53, conN fDead)]) (by simpa using ⟨s_NodeValid, s_Kill, s_Dead⟩)) mixed Try.func39 k39 c39 fun args s r s' h => by
    obtain ⟨a, b, rfl, rfl, rfl⟩ := conNN_some h
    refine ⟨rfl, mergeV_ground _ _, by simp [a39], fun env hlen ha => ?_⟩
    have h0 : E env 0 = _ := ha 0 _ rfl
    have h1 : E env 1 = _ := ha 1 _ rfl
    have hlen : elen env = _ := hlen
    simp only [a39] at hlen
    unfold a39
    simp (config := {contextual := true, maxDischargeDepth := 12}) only [tb, q_NodeValid, q_Kill, q_Dead, h0, h1, hlen, ↓bD0, ↓bD1, ↓bD2, ↓bD3, ↓bD4, ↓bD5, ↓bD6, bU0, bU1, bU2, bU3, bU4, bU5, bU6, bU7, bU8, bU9, bU10, bU11, bU12, bU13, forall_const, List.all_cons, List.all_nil, Option.map_some, List.map_cons, List.map_nil, ne_eq, implies_true, isNx, cstep_bool, ↓wp_cond, ↓reduceIte, reduceCtorEq, Nat.reduceEqDiff, Nat.reduceLT, Nat.reduceAdd, Nat.reduceMul]
    simp only [fMerge, Option.some.injEq]
    refine ⟨fun h => ?_, fun h => ⟨fun h' => ?_, fun h' => ⟨fun hx => ?_, fun hx => ?_⟩⟩⟩
    · unfold mergeV
      rw [if_pos (by simpa using h)]
      rfl
    all_goals
      simp [Nd.eq_iff] at h'
      unfold mergeV
      rw [if_neg (by simpa using h)]
    · rw [if_pos]
      · rfl
      · rw [Nd.clash_true]
        grind
    · rw [if_neg]
      · simp at hx
        simp [Nd.merge, hx]
      · simp only [Bool.not_eq_true, Nd.clash_false]
        grind
    · rw [if_neg]
      · simp at hx
        simp [Nd.merge, hx]
      · simp only [Bool.not_eq_true, Nd.clash_false]
        grind
def fRefMerge (a b : Nd) : AV := refMergeV a b
theorem q_RefMerge (cl : Bool) (a b : Nd) (s : St) : acall (conNN fRefMerge) cl [.agg (Nd.av a), .agg (Nd.av b)] s = some (refMergeV a b, s) := conNN_call fRefMerge refMergeV_ground cl a b s
set_option maxHeartbeats 4000000 in
theorem s_RefMerge : SoundAt Try.prog 45 (conNN fRefMerge) :=
  con_keep (tb_sound (l := []) (by simp)) mixed Try.func45 k45 c45 fun args s r s' h => by
    obtain ⟨a, b, rfl, rfl, rfl⟩ := conNN_some h
    refine ⟨rfl, refMergeV_ground _ _, by simp [a45], fun env hlen ha => ?_⟩
    have h0 : E env 0 = _ := ha 0 _ rfl
    have h1 : E env 1 = _ := ha 1 _ rfl
    have hlen : elen env = _ := hlen
    simp only [a45] at hlen
    unfold a45
    simp (config := {contextual := true, maxDischargeDepth := 12}) only [tb, h0, h1, hlen, ↓bD0, ↓bD1, ↓bD2, ↓bD3, ↓bD4, ↓bD5, ↓bD6, bU0, bU1, bU2, bU3, bU4, bU5, bU6, bU7, bU8, bU9, bU10, bU11, bU12, bU13, forall_const, List.all_cons, List.all_nil, Option.map_some, List.map_cons, List.map_nil, ne_eq, implies_true, isNx, cstep_bool, ↓wp_cond, ↓reduceIte, reduceCtorEq, Nat.reduceEqDiff, Nat.reduceLT, Nat.reduceAdd, Nat.reduceMul]
    simp only [fRefMerge, Bool.not_eq_true', Bool.or_eq_true, Bool.or_eq_false_iff, Bool.and_eq_true, Bool.and_eq_false_imp, Bool.not_eq_false', decide_eq_true_eq, decide_eq_false_iff_not, Option.some.injEq]
    unfold refMergeV
    by_cases hc : a.clash b = true
    · rw [if_pos hc]
      rw [Nd.clash_true] at hc
      refine ⟨fun _ => rfl, fun h1 => ?_⟩
      exfalso
      grind
    · rw [if_neg hc]
      simp only [Bool.not_eq_true, Nd.clash_false] at hc
      refine ⟨fun h => ?_, fun _ => ⟨fun h => ?_, fun h => ?_⟩⟩
      · exfalso
        grind
      · simp [Nd.merge, h]
      · simp [Nd.merge, h]

end Go.AM
end
/-
  The program's and the reference's loops over lists of dots and nodes. Own work of this project; in part printed by a program of it.
-/
section
set_option linter.unusedVariables false
set_option linter.unusedSimpArgs false
set_option maxRecDepth 100000
set_option maxHeartbeats 4000000
namespace Go.AM
open Go Go.Proofs

theorem getsome {α : Type} {l : List α} {i : Nat} (h : i < l.length) : ∃ x, l[i]? = some x := ⟨l[i], by simp [h]⟩
/-- In order, each once. -/
def chain {α : Type} (p : α → α → Bool) : List α → Bool
  | [] => true
  | [_] => true
  | x :: y :: r => p x y && chain p (y :: r)
theorem chain_iff {α : Type} (p : α → α → Bool) : ∀ (l : List α), chain p l = true ↔ ∀ i x y, l[i]? = some x → l[i + 1]? = some y → p x y = true
  | [] => by simp [chain]
  | [a] => by simp [chain]
  | a :: b :: r => by
    rw [chain, Bool.and_eq_true, chain_iff p (b :: r)]
    constructor
    · rintro ⟨h1, h2⟩ i x y hx hy
      cases i with
      | zero => simp at hx hy; subst hx; subst hy; exact h1
      | succ i => exact h2 i x y (by simpa using hx) (by simpa using hy)
    · intro h
      exact ⟨h 0 a b (by simp) (by simp), fun i x y hx hy => h (i + 1) x y (by simpa using hx) (by simpa using hy)⟩
theorem getlt {α : Type} {l : List α} {i : Nat} {x : α} (h : l[i]? = some x) : i < l.length := (List.getElem?_eq_some_iff.1 h).1
theorem dcmp_lt (a b : Dot) : (0 ≤ dcmp a b) = (a.before b = false) := by
  simp only [dcmp, cmpI, Dot.before]
  grind
def fCmp (a b : Dot) : AV := .int .i64 (dcmp a b)
theorem s_Cmp : SoundAt Try.prog 38 (conDD fCmp) := s_dotCmp.lowed fun xs s r s' h => by
  obtain ⟨d, e, rfl, rfl, rfl⟩ := conDD_some h
  exact ⟨rfl, rfl⟩
theorem q_Cmp (cl : Bool) (a b : Dot) (s : St) : acall (conDD fCmp) cl [.agg (Dot.av a), .agg (Dot.av b)] s = some (.int .i64 (dcmp a b), s) := conDD_call fCmp (fun _ _ => rfl) cl a b s

def setD (l : List Dot) : Bool := chain Dot.before l
def fIsSet (l : List Dot) : AV := .bool (setD l)
theorem s_IsSet : SoundAt Try.prog 60 (conL dotC fIsSet) :=
  con_keep (tb_sound (l := [(38, conDD fCmp)]) (by simpa using s_Cmp)) mixed Try.func60 k60 c60 fun args s r s' h => by
    obtain ⟨v, l, rfl, hr, hl, rfl, rfl⟩ := conL_some h
    refine ⟨rfl, rfl, by simp [a60], fun env hlen ha => ?_⟩
    have h0 : E env 0 = _ := ha 0 _ rfl
    have hlen : elen env = _ := hlen
    simp only [a60] at hlen
    unfold a60
    have hL := lenV_read hr
    simp (config := {contextual := true, maxDischargeDepth := 12}) only [tb, q_Cmp, h0, hlen, ↓bD0, ↓bD1, ↓bD2, ↓bD3, ↓bD4, ↓bD5, ↓bD6, bU0, bU1, bU2, bU3, bU4, bU5, bU6, bU7, bU8, bU9, bU10, bU11, bU12, bU13, forall_const, List.all_cons, List.all_nil, Option.map_some, List.map_cons, List.map_nil, ne_eq, implies_true, isNx, cstep_bool, ↓wp_cond, ↓wp_loop, ↓reduceIte, reduceCtorEq, Nat.reduceEqDiff, Nat.reduceLT, Nat.reduceAdd, Nat.reduceMul, Int.ofNat_lt, Int.ofNat_le, exists_const]
    refine lwp_inv (fun n e t => t = s ∧ ∃ i, n + i = l.length + 1 ∧ 1 ≤ i ∧ (i ≤ l.length ∨ i = 1) ∧ elen e = 21 ∧ E e 0 = v ∧ E e 3 = .int .i64 (i : Int) ∧ ∀ k x y, k + 1 < i → l[k]? = some x → l[k + 1]? = some y → x.before y = true) (n := l.length) ⟨by simp [kt_refl], 1, by omega, by omega, by omega, ?_, ?_, ?_, fun k x y hk => by omega⟩ ?_
    · simp only [E_pne, E_psame, elen_put, Nat.reduceEqDiff, ne_eq, not_false_eq_true, Nat.reduceLT, hlen]
    · simp only [E_pne, E_psame, elen_put, Nat.reduceEqDiff, ne_eq, not_false_eq_true, Nat.reduceLT, h0]
    · simp only [E_pne, E_psame, elen_put, Nat.reduceEqDiff, ne_eq, not_false_eq_true, Nat.reduceLT, hlen]; rfl
    · rintro n e t ⟨rfl, i, hn, h1, h2, he, e0, e3, hpre⟩
      obtain ⟨k, rfl⟩ : ∃ k, i = k + 1 := ⟨i - 1, by omega⟩
      by_cases hlt : k + 1 < l.length
      · obtain ⟨x, hx⟩ := getsome (l := l) (i := k) (by omega)
        obtain ⟨y, hy⟩ := getsome hlt
        have hw1 := wrap_sub1 (n := k) (by unfold lim at hl; omega)
        have hw2 := wrap_add1 (n := k + 1) (by unfold lim at hl; omega)
        obtain ⟨a1, _⟩ := dot_lods hr (.refl _) hx
        obtain ⟨b1, _⟩ := dot_lods hr (.refl _) hy
        have i1 := dot_idx hr hx .i64
        have i2 := dot_idx hr hy .i64
        simp (config := {contextual := true, maxDischargeDepth := 12}) only [tb, q_Cmp, e0, e3, he, hL, hlt, hw1, hw2, a1, b1, i1, i2, ↓bD0, ↓bD1, ↓bD2, ↓bD3, ↓bD4, ↓bD5, ↓bD6, bU0, bU1, bU2, bU3, bU4, bU5, bU6, bU7, bU8, bU9, bU10, bU11, bU12, bU13, forall_const, List.all_cons, List.all_nil, Option.map_some, List.map_cons, List.map_nil, ne_eq, implies_true, isNx, cstep_bool, ↓wp_cond, ↓wp_loop, ↓reduceIte, reduceCtorEq, Nat.reduceEqDiff, Nat.reduceLT, Nat.reduceAdd, Nat.reduceMul, Int.ofNat_lt, Int.ofNat_le, exists_const]
        refine ⟨⟨fun hb => ?_, fun hb => ⟨n - 1, by omega, k + 2, by omega, by omega, by omega, rfl, ?_⟩⟩, fun hf => hf.elim⟩
        · have hb := of_decide_eq_true hb
          rw [dcmp_lt] at hb
          have : setD l = false := by
            rw [← Bool.not_eq_true]
            intro hc
            have := (chain_iff _ l).1 hc k x y hx hy
            rw [hb] at this
            cases this
          simp [fIsSet, this]
        · intro k' x' y' hk' hx' hy'
          by_cases e : k' = k
          · subst e
            rw [hx] at hx'; rw [hy] at hy'
            cases hx'; cases hy'
            have hb := of_decide_eq_false hb
            rw [dcmp_lt] at hb
            simpa using hb
          · exact hpre k' x' y' (by omega) hx' hy'
      · have : setD l = true := (chain_iff _ l).2 fun i x y hx hy => hpre i x y (by have := getlt hy; omega) hx hy
        simp (config := {contextual := true, maxDischargeDepth := 12}) only [tb, q_Cmp, e0, e3, he, hL, hlt, ↓bD0, ↓bD1, ↓bD2, ↓bD3, ↓bD4, ↓bD5, ↓bD6, bU0, bU1, bU2, bU3, bU4, bU5, bU6, bU7, bU8, bU9, bU10, bU11, bU12, bU13, forall_const, List.all_cons, List.all_nil, Option.map_some, List.map_cons, List.map_nil, ne_eq, implies_true, isNx, cstep_bool, ↓wp_cond, ↓wp_loop, ↓reduceIte, reduceCtorEq, Nat.reduceEqDiff, Nat.reduceLT, Nat.reduceAdd, Nat.reduceMul, Int.ofNat_lt, Int.ofNat_le, exists_const]
        simp [fIsSet, this]
theorem q_IsSet (cl : Bool) {v : AV} {l : List Dot} {s : St} (h : read dotC s v = some l) (hl : l.length ≤ lim) : acall (conL dotC fIsSet) cl [v] s = some (.bool (setD l), s) := conL_call (fun _ => rfl) h hl cl

def ndLt (a b : Nd) : Bool := a.d.before b.d
def storeL (l : List Nd) : Bool := l.all Nd.valid && chain ndLt l
def fStore (l : List Nd) : AV := .bool (storeL l)
theorem storeL_false {l : List Nd} {i : Nat} {x : Nd} (hx : l[i]? = some x) (hv : x.valid = false) : storeL l = false := by
  have : l.all Nd.valid = false := by
    rw [← Bool.not_eq_true, List.all_eq_true]
    intro h
    rw [h x (List.mem_of_getElem? hx)] at hv
    cases hv
  simp [storeL, this]
theorem storeL_false' {l : List Nd} {i : Nat} {x y : Nd} (hx : l[i]? = some x) (hy : l[i + 1]? = some y) (hv : x.d.before y.d = false) : storeL l = false := by
  have : chain ndLt l = false := by
    rw [← Bool.not_eq_true, chain_iff]
    intro h
    have := h i x y hx hy
    rw [ndLt, hv] at this
    cases this
  simp [storeL, this]
theorem s_Store : SoundAt Try.prog 31 (conL ndC fStore) :=
  con_keep (tb_sound (l := [(43, conDD fBefore), (42, conN fIsNode)]) (by simpa using ⟨s_Before, s_IsNode⟩)) mixed Try.func31 k31 c31 fun args s r s' h => by
    obtain ⟨v, l, rfl, hr, hl, rfl, rfl⟩ := conL_some h
    refine ⟨rfl, rfl, by simp [a31], fun env hlen ha => ?_⟩
    have h0 : E env 0 = _ := ha 0 _ rfl
    have hlen : elen env = _ := hlen
    simp only [a31] at hlen
    unfold a31
    have hL := lenV_read hr
    simp (config := {contextual := true, maxDischargeDepth := 12}) only [tb, q_Before, q_IsNode, h0, hlen, ↓bD0, ↓bD1, ↓bD2, ↓bD3, ↓bD4, ↓bD5, ↓bD6, bU0, bU1, bU2, bU3, bU4, bU5, bU6, bU7, bU8, bU9, bU10, bU11, bU12, bU13, forall_const, List.all_cons, List.all_nil, Option.map_some, List.map_cons, List.map_nil, ne_eq, implies_true, isNx, cstep_bool, ↓wp_cond, ↓wp_loop, ↓reduceIte, reduceCtorEq, Nat.reduceEqDiff, Nat.reduceLT, Nat.reduceAdd, Nat.reduceMul, Int.ofNat_lt, Int.ofNat_le, exists_const]
    refine lwp_inv (fun n e t => t = s ∧ ∃ i : Nat, n + i = l.length ∧ elen e = 35 ∧ E e 0 = v ∧ E e 3 = .int .i64 (i : Int) ∧ (∀ k x, k < i → l[k]? = some x → x.valid = true) ∧ ∀ k x y, k + 1 < i → l[k]? = some x → l[k + 1]? = some y → x.d.before y.d = true) (n := l.length) ⟨rfl, 0, by omega, by simp only [E_pne, E_psame, elen_put, Nat.reduceEqDiff, ne_eq, not_false_eq_true, Nat.reduceLT, hlen], by simp only [E_pne, E_psame, elen_put, Nat.reduceEqDiff, ne_eq, not_false_eq_true, Nat.reduceLT, h0], by simp only [E_pne, E_psame, elen_put, Nat.reduceEqDiff, ne_eq, not_false_eq_true, Nat.reduceLT, hlen]; rfl, fun k x hk => by omega, fun k x y hk => by omega⟩ ?_
    · rintro n e t ⟨rfl, i, hn, he, e0, e3, hpre, hpre2⟩
      by_cases hlt : i < l.length
      · obtain ⟨y, hy⟩ := getsome hlt
        have hw2 := wrap_add1 (n := i) (by unfold lim at hl; omega)
        obtain ⟨b1, b2, _⟩ := nd_lods hr (.refl _) hy
        have i2 := nd_idx hr hy .i64
        cases i with
        | zero =>
          have hz : ((0 : Int) < ((0 : Nat) : Int)) = False := eq_false (by omega)
          rw [Nat.zero_mul, Nat.add_zero] at b1 b2 i2
          simp (config := {contextual := true, maxDischargeDepth := 12}) only [tb, q_Before, q_IsNode, e0, e3, he, hL, hlt, hw2, b1, b2, i2, hz, ↓bD0, ↓bD1, ↓bD2, ↓bD3, ↓bD4, ↓bD5, ↓bD6, bU0, bU1, bU2, bU3, bU4, bU5, bU6, bU7, bU8, bU9, bU10, bU11, bU12, bU13, forall_const, List.all_cons, List.all_nil, Option.map_some, List.map_cons, List.map_nil, ne_eq, implies_true, isNx, cstep_bool, ↓wp_cond, ↓wp_loop, ↓reduceIte, reduceCtorEq, Nat.reduceEqDiff, Nat.reduceLT, Nat.reduceAdd, Nat.reduceMul, Int.ofNat_lt, Int.ofNat_le, exists_const]
          refine ⟨⟨fun hb => ?_, fun hb => ⟨n - 1, by omega, 1, by omega, rfl, ?_, fun k x y hk => by omega⟩⟩, fun hf => hf.elim⟩
          · simp [fStore, storeL_false hy hb]
          · intro k x hk hx
            obtain rfl : k = 0 := by omega
            rw [hy] at hx; cases hx
            exact hb
        | succ k =>
          have hz : ((0 : Int) < ((k + 1 : Nat) : Int)) = True := eq_true (by omega)
          obtain ⟨x, hx⟩ := getsome (l := l) (i := k) (by omega)
          have hw1 := wrap_sub1 (n := k) (by unfold lim at hl; omega)
          obtain ⟨a1, a2, _⟩ := nd_lods hr (.refl _) hx
          have i1 := nd_idx hr hx .i64
          simp (config := {contextual := true, maxDischargeDepth := 12}) only [tb, q_Before, q_IsNode, e0, e3, he, hL, hlt, hw1, hw2, a1, a2, b1, b2, i1, i2, hz, ↓bD0, ↓bD1, ↓bD2, ↓bD3, ↓bD4, ↓bD5, ↓bD6, bU0, bU1, bU2, bU3, bU4, bU5, bU6, bU7, bU8, bU9, bU10, bU11, bU12, bU13, forall_const, List.all_cons, List.all_nil, Option.map_some, List.map_cons, List.map_nil, ne_eq, implies_true, isNx, cstep_bool, ↓wp_cond, ↓wp_loop, ↓reduceIte, reduceCtorEq, Nat.reduceEqDiff, Nat.reduceLT, Nat.reduceAdd, Nat.reduceMul, Int.ofNat_lt, Int.ofNat_le, exists_const]
          refine ⟨⟨fun hb => ?_, fun hb => ⟨n - 1, by omega, k + 2, by omega, rfl, ?_, ?_⟩⟩, fun hf => hf.elim⟩
          · simp only [Bool.or_eq_true, Bool.not_eq_true'] at hb
            rcases hb with hb | hb
            · simp [fStore, storeL_false hy hb]
            · simp [fStore, storeL_false' hx hy hb]
          · simp only [Bool.or_eq_false_iff, Bool.not_eq_false'] at hb
            intro k' x' hk' hx'
            by_cases e' : k' = k + 1
            · subst e'
              rw [hy] at hx'; cases hx'
              exact hb.1
            · exact hpre k' x' (by omega) hx'
          · simp only [Bool.or_eq_false_iff, Bool.not_eq_false'] at hb
            intro k' x' y' hk' hx' hy'
            by_cases e' : k' = k
            · subst e'
              rw [hx] at hx'; rw [hy] at hy'
              cases hx'; cases hy'
              exact hb.2
            · exact hpre2 k' x' y' (by omega) hx' hy'
      · have hv : l.all Nd.valid = true := by
          rw [List.all_eq_true]
          intro x hx
          obtain ⟨k, hk⟩ := List.getElem?_of_mem hx
          exact hpre k x (by have := getlt hk; omega) hk
        have hc : chain ndLt l = true := (chain_iff _ l).2 fun i x y hx hy => hpre2 i x y (by have := getlt hy; omega) hx hy
        simp (config := {contextual := true, maxDischargeDepth := 12}) only [tb, e0, e3, he, hL, hlt, ↓bD0, ↓bD1, ↓bD2, ↓bD3, ↓bD4, ↓bD5, ↓bD6, bU0, bU1, bU2, bU3, bU4, bU5, bU6, bU7, bU8, bU9, bU10, bU11, bU12, bU13, forall_const, List.all_cons, List.all_nil, Option.map_some, List.map_cons, List.map_nil, ne_eq, implies_true, isNx, cstep_bool, ↓wp_cond, ↓wp_loop, ↓reduceIte, reduceCtorEq, Nat.reduceEqDiff, Nat.reduceLT, Nat.reduceAdd, Nat.reduceMul, Int.ofNat_lt, Int.ofNat_le, exists_const]
        simp [fStore, storeL, hv, hc]
theorem q_Store (cl : Bool) {v : AV} {l : List Nd} {s : St} (h : read ndC s v = some l) (hl : l.length ≤ lim) : acall (conL ndC fStore) cl [v] s = some (.bool (storeL l), s) := conL_call (fun _ => rfl) h hl cl

def fSame (l m : List Nd) : AV := .bool (decide (l = m))
theorem ne_at {α : Type} {l m : List α} {i : Nat} {x y : α} (hx : l[i]? = some x) (hy : m[i]? = some y) (h : x ≠ y) : l ≠ m := by
  rintro rfl
  rw [hx] at hy
  cases hy
  exact h rfl
theorem eq_of_at {α : Type} {l m : List α} (hlen : l.length = m.length) (h : ∀ (k : Nat) (x y : α), l[k]? = some x → m[k]? = some y → x = y) : l = m := by
  apply List.ext_getElem? 
  intro k
  by_cases hk : k < l.length
  · obtain ⟨x, hx⟩ := getsome hk
    obtain ⟨y, hy⟩ := getsome (l := m) (i := k) (by omega)
    rw [hx, hy, h k x y hx hy]
  · rw [List.getElem?_eq_none (by omega), List.getElem?_eq_none (by omega)]
theorem s_Same : SoundAt Try.prog 24 (conLL ndC ndC fSame) :=
  con_keep (tb_sound (l := []) (by simp)) mixed Try.func24 k24 c24 fun args s r s' h => by
    obtain ⟨v, w, l, m, rfl, hr, hw, hl, hm, rfl, rfl⟩ := conLL_some h
    refine ⟨rfl, rfl, by simp [a24], fun env hlen ha => ?_⟩
    have h0 : E env 0 = _ := ha 0 _ rfl
    have h1 : E env 1 = _ := ha 1 _ rfl
    have hlen : elen env = _ := hlen
    simp only [a24] at hlen
    unfold a24
    have hL := lenV_read hr
    have hM := lenV_read hw
    by_cases hlm : l.length = m.length
    rotate_left
    · have hz : ((l.length : Int) = (m.length : Int)) = False := eq_false (by omega)
      have : l ≠ m := fun e => hlm (by rw [e])
      simp (config := {contextual := true, maxDischargeDepth := 12}) only [tb, h0, h1, hlen, hL, hM, hz, ↓bD0, ↓bD1, ↓bD2, ↓bD3, ↓bD4, ↓bD5, ↓bD6, bU0, bU1, bU2, bU3, bU4, bU5, bU6, bU7, bU8, bU9, bU10, bU11, bU12, bU13, forall_const, List.all_cons, List.all_nil, Option.map_some, List.map_cons, List.map_nil, ne_eq, implies_true, isNx, cstep_bool, ↓wp_cond, ↓wp_loop, ↓reduceIte, reduceCtorEq, Nat.reduceEqDiff, Nat.reduceLT, Nat.reduceAdd, Nat.reduceMul, Int.ofNat_lt, Int.ofNat_le, exists_const]
      simp [fSame, this]
    have hz : ((l.length : Int) = (m.length : Int)) = True := eq_true (by omega)
    simp (config := {contextual := true, maxDischargeDepth := 12}) only [tb, h0, h1, hlen, hL, hM, hz, ↓bD0, ↓bD1, ↓bD2, ↓bD3, ↓bD4, ↓bD5, ↓bD6, bU0, bU1, bU2, bU3, bU4, bU5, bU6, bU7, bU8, bU9, bU10, bU11, bU12, bU13, forall_const, List.all_cons, List.all_nil, Option.map_some, List.map_cons, List.map_nil, ne_eq, implies_true, isNx, cstep_bool, ↓wp_cond, ↓wp_loop, ↓reduceIte, reduceCtorEq, Nat.reduceEqDiff, Nat.reduceLT, Nat.reduceAdd, Nat.reduceMul, Int.ofNat_lt, Int.ofNat_le, exists_const]
    refine ⟨fun hf => hf.elim, ?_⟩
    refine lwp_inv (fun n e t => t = s ∧ ∃ i : Nat, n + i = l.length ∧ elen e = 26 ∧ E e 0 = v ∧ E e 1 = w ∧ E e 5 = .int .i64 (i : Int) ∧ (∀ k x y, k < i → l[k]? = some x → m[k]? = some y → x = y)) (n := l.length) ⟨rfl, 0, by omega, by simp only [E_pne, E_psame, elen_put, Nat.reduceEqDiff, ne_eq, not_false_eq_true, Nat.reduceLT, hlen], by simp only [E_pne, E_psame, elen_put, Nat.reduceEqDiff, ne_eq, not_false_eq_true, Nat.reduceLT, h0], by simp only [E_pne, E_psame, elen_put, Nat.reduceEqDiff, ne_eq, not_false_eq_true, Nat.reduceLT, h1], by simp only [E_pne, E_psame, elen_put, Nat.reduceEqDiff, ne_eq, not_false_eq_true, Nat.reduceLT, hlen]; rfl, fun k x y hk => by omega⟩ ?_
    · rintro n e t ⟨rfl, i, hn, he, e0, e1, e3, hpre⟩
      by_cases hlt : i < l.length
      · obtain ⟨x, hx⟩ := getsome hlt
        obtain ⟨y, hy⟩ := getsome (l := m) (i := i) (by omega)
        have hw2 := wrap_add1 (n := i) (by unfold lim at hl; omega)
        obtain ⟨a1, _⟩ := nd_lods hr (.refl _) hx
        obtain ⟨b1, _⟩ := nd_lods hw (.refl _) hy
        have i1 := nd_idx hr hx .i64
        have i2 := nd_idx hw hy .i64
        simp (config := {contextual := true, maxDischargeDepth := 12}) only [tb, e0, e1, e3, he, hL, hM, hlt, hw2, a1, b1, i1, i2, ↓bD0, ↓bD1, ↓bD2, ↓bD3, ↓bD4, ↓bD5, ↓bD6, bU0, bU1, bU2, bU3, bU4, bU5, bU6, bU7, bU8, bU9, bU10, bU11, bU12, bU13, forall_const, List.all_cons, List.all_nil, Option.map_some, List.map_cons, List.map_nil, ne_eq, implies_true, isNx, cstep_bool, ↓wp_cond, ↓wp_loop, ↓reduceIte, reduceCtorEq, Nat.reduceEqDiff, Nat.reduceLT, Nat.reduceAdd, Nat.reduceMul, Int.ofNat_lt, Int.ofNat_le, exists_const]
        refine ⟨⟨fun hb => ?_, fun hb => ⟨n - 1, by omega, i + 1, by omega, rfl, ?_⟩⟩, fun hf => hf.elim⟩
        · have hb := of_decide_eq_false hb
          simp [fSame, ne_at hx hy hb]
        · have hb := of_decide_eq_true hb
          intro k' x' y' hk' hx' hy'
          by_cases e' : k' = i
          · subst e'
            rw [hx] at hx'; rw [hy] at hy'
            cases hx'; cases hy'
            exact hb
          · exact hpre k' x' y' (by omega) hx' hy'
      · have : l = m := eq_of_at hlm fun k x y hx hy => hpre k x y (by have := getlt hx; omega) hx hy
        simp (config := {contextual := true, maxDischargeDepth := 12}) only [tb, e0, e1, e3, he, hL, hM, hlt, ↓bD0, ↓bD1, ↓bD2, ↓bD3, ↓bD4, ↓bD5, ↓bD6, bU0, bU1, bU2, bU3, bU4, bU5, bU6, bU7, bU8, bU9, bU10, bU11, bU12, bU13, forall_const, List.all_cons, List.all_nil, Option.map_some, List.map_cons, List.map_nil, ne_eq, implies_true, isNx, cstep_bool, ↓wp_cond, ↓wp_loop, ↓reduceIte, reduceCtorEq, Nat.reduceEqDiff, Nat.reduceLT, Nat.reduceAdd, Nat.reduceMul, Int.ofNat_lt, Int.ofNat_le, exists_const]
        simp [fSame, this]
theorem q_Same (cl : Bool) {v w : AV} {l m : List Nd} {s : St} (h : read ndC s v = some l) (k : read ndC s w = some m) (hl : l.length ≤ lim) (hm : m.length ≤ lim) : acall (conLL ndC ndC fSame) cl [v, w] s = some (.bool (decide (l = m)), s) := conLL_call (fun _ _ => rfl) h k hl hm cl
theorem q_SEqual (cl : Bool) {v w : AV} {l m : List Nd} {s : St} (h : read ndC s v = some l) (k : read ndC s w = some m) (hl : l.length ≤ lim) (hm : m.length ≤ lim) : acall (conLL ndC ndC fSame) cl [v, w] s = some (.bool (decide (l = m)), s) := conLL_call (fun _ _ => rfl) h k hl hm cl

end Go.AM
end
/-
  More loops: Find, Agree, IndexFunc, and functions that pass on what another one answers. Own work of this project; in part printed by a program of it.
-/
section
set_option linter.unusedVariables false
set_option linter.unusedSimpArgs false
set_option maxRecDepth 100000
set_option maxHeartbeats 4000000
namespace Go.AM
open Go Go.Proofs

/-! ### Find -/
def conLD {α : Type} (C : Cod α) (f : List α → Dot → AV) : Con := fun xs s => match xs with
  | [v, .agg cs] => match read C s v, dotC.dec cs with
    | some l, some d => if l.length ≤ lim then some (f l d, s.lowed) else none
    | _, _ => none
  | _ => none
theorem conLD_some {α : Type} {C : Cod α} {f : List α → Dot → AV} {xs : List AV} {s : St} {r : AV} {s' : St} (h : conLD C f xs s = some (r, s')) :
    ∃ v l d, xs = [v, .agg (Dot.av d)] ∧ read C s v = some l ∧ l.length ≤ lim ∧ r = f l d ∧ s' = s.lowed := by
  unfold conLD at h
  split at h
  · split at h
    · split at h
      · rename_i v _ _ _ l d hr hd hl
        injection h with h
        obtain ⟨rfl, rfl⟩ := Prod.mk.inj h
        have := dotC.enc_dec _ _ hd
        exact ⟨v, l, d, by rw [this]; rfl, hr, hl, rfl, rfl⟩
      · cases h
    · cases h
  · cases h
theorem conLD_call {α : Type} {C : Cod α} {f : List α → Dot → AV} (hf : ∀ l d, (f l d).ground = true) {s : St} {v : AV} {l : List α} (h : read C s v = some l) (hl : l.length ≤ lim) (cl : Bool) (d : Dot) : acall (conLD C f) cl [v, .agg (Dot.av d)] s = some (f l d, s) :=
  acall_rol (by
    have e : dotC.dec (Dot.av d) = some d := rfl
    simp only [conLD, read_low, h, hl, e, if_true]) (hf l d)
/-- The first node with a dot, or -1. -/
def findL : List Nd → Dot → Int
  | [], _ => -1
  | x :: r, d => if x.d = d then 0 else if findL r d < 0 then -1 else findL r d + 1
theorem findL_ge : ∀ (l : List Nd) (d : Dot), -1 ≤ findL l d
  | [], d => by simp [findL]
  | x :: r, d => by
    have := findL_ge r d
    simp only [findL]
    split
    · omega
    · split <;> omega
theorem findL_hit : ∀ (l : List Nd) (d : Dot) (i : Nat) (x : Nd), l[i]? = some x → x.d = d → (∀ k y, k < i → l[k]? = some y → y.d ≠ d) → findL l d = i
  | [], d, i, x, h, _, _ => by simp at h
  | y :: r, d, 0, x, h, hd, _ => by simp at h; subst h; simp [findL, hd]
  | y :: r, d, i + 1, x, h, hd, hp => by
    have h1 := hp 0 y (by omega) (by simp)
    have h2 := findL_hit r d i x (by simpa using h) hd fun k z hk hz => hp (k + 1) z (by omega) (by simpa using hz)
    simp only [findL, h2, if_neg h1]
    rw [if_neg (by omega)]
    omega
theorem findL_miss : ∀ (l : List Nd) (d : Dot), (∀ x ∈ l, x.d ≠ d) → findL l d = -1
  | [], d, _ => rfl
  | y :: r, d, h => by
    simp only [findL, if_neg (h y (by simp)), findL_miss r d fun x hx => h x (by simp [hx])]
    simp
theorem findL_some {l : List Nd} {d : Dot} (h : 0 ≤ findL l d) : ∃ (i : Nat) (x : Nd), findL l d = i ∧ l[i]? = some x ∧ x.d = d := by
  induction l with
  | nil => simp [findL] at h
  | cons y r ih =>
    simp only [findL] at h ⊢
    split at h
    · rename_i e
      exact ⟨0, y, by simp [e], by simp, e⟩
    · rename_i e
      split at h
      · omega
      · rename_i e2
        obtain ⟨i, x, h1, h2, h3⟩ := ih (by omega)
        refine ⟨i + 1, x, ?_, by simpa using h2, h3⟩
        rw [if_neg e, if_neg e2, h1]
        omega
theorem findL_none {l : List Nd} {d : Dot} (h : findL l d < 0) : ∀ x ∈ l, x.d ≠ d := by
  induction l with
  | nil => simp
  | cons y r ih =>
    simp only [findL] at h
    split at h
    · omega
    · rename_i e
      have hr : findL r d < 0 := by
        split at h
        · assumption
        · omega
      intro x hx
      rcases List.mem_cons.1 hx with rfl | hx
      · exact e
      · exact ih hr x hx
def fFind (l : List Nd) (d : Dot) : AV := .int .i64 (findL l d)
theorem s_Find : SoundAt Try.prog 44 (conLD ndC fFind) :=
  con_keep (tb_sound (l := []) (by simp)) mixed Try.func44 k44 c44 fun args s r s' h => by
    obtain ⟨v, l, d, rfl, hr, hl, rfl, rfl⟩ := conLD_some h
    refine ⟨rfl, rfl, by simp [a44], fun env hlen ha => ?_⟩
    have h0 : E env 0 = _ := ha 0 _ rfl
    have h1 : E env 1 = _ := ha 1 _ rfl
    have hlen : elen env = _ := hlen
    simp only [a44] at hlen
    unfold a44
    have hL := lenV_read hr
    simp (config := {contextual := true, maxDischargeDepth := 12}) only [tb, h0, h1, hlen, ↓bD0, ↓bD1, ↓bD2, ↓bD3, ↓bD4, ↓bD5, ↓bD6, bU0, bU1, bU2, bU3, bU4, bU5, bU6, bU7, bU8, bU9, bU10, bU11, bU12, bU13, forall_const, List.all_cons, List.all_nil, Option.map_some, List.map_cons, List.map_nil, ne_eq, implies_true, isNx, cstep_bool, ↓wp_cond, ↓wp_loop, ↓reduceIte, reduceCtorEq, Nat.reduceEqDiff, Nat.reduceLT, Nat.reduceAdd, Nat.reduceMul, Int.ofNat_lt, Int.ofNat_le, exists_const]
    refine lwp_inv (fun n e t => t = s.push (.row (Dot.av d) true) ∧ ∃ i : Nat, n + i = l.length ∧ elen e = 20 ∧ E e 0 = v ∧ E e 3 = .ptr s.next 0 ∧ E e 5 = .int .i64 (i : Int) ∧ ∀ k y, k < i → l[k]? = some y → y.d ≠ d) (n := l.length) ⟨rfl, 0, by omega, by simp only [E_pne, E_psame, elen_put, Nat.reduceEqDiff, ne_eq, not_false_eq_true, Nat.reduceLT, hlen], by simp only [E_pne, E_psame, elen_put, Nat.reduceEqDiff, ne_eq, not_false_eq_true, Nat.reduceLT, h0], by simp only [E_pne, E_psame, elen_put, Nat.reduceEqDiff, ne_eq, not_false_eq_true, Nat.reduceLT, hlen], by simp only [E_pne, E_psame, elen_put, Nat.reduceEqDiff, ne_eq, not_false_eq_true, Nat.reduceLT, hlen]; rfl, fun k y hk => by omega⟩ ?_
    · rintro n e t ⟨rfl, i, hn, he, e0, e3, e5, hpre⟩
      by_cases hlt : i < l.length
      · obtain ⟨x, hx⟩ := getsome hlt
        have hw2 := wrap_add1 (n := i) (by unfold lim at hl; omega)
        obtain ⟨_, a2, _, _, _, al⟩ := nd_lods hr (.refl _) hx
        have i1 := nd_idx hr hx .i64
        simp (config := {contextual := true, maxDischargeDepth := 12}) only [tb, e0, e3, e5, he, hL, hlt, hw2, a2, al, i1, ↓bD0, ↓bD1, ↓bD2, ↓bD3, ↓bD4, ↓bD5, ↓bD6, bU0, bU1, bU2, bU3, bU4, bU5, bU6, bU7, bU8, bU9, bU10, bU11, bU12, bU13, forall_const, List.all_cons, List.all_nil, Option.map_some, List.map_cons, List.map_nil, ne_eq, implies_true, isNx, cstep_bool, ↓wp_cond, ↓wp_loop, ↓reduceIte, reduceCtorEq, Nat.reduceEqDiff, Nat.reduceLT, Nat.reduceAdd, Nat.reduceMul, Int.ofNat_lt, Int.ofNat_le, exists_const]
        refine ⟨⟨fun hb => ?_, fun hb => ⟨n - 1, by omega, i + 1, by omega, rfl, ?_⟩⟩, fun hf => hf.elim⟩
        · have hb := of_decide_eq_true hb
          simp only [fFind, findL_hit l d i x hx hb hpre]
        · have hb := of_decide_eq_false hb
          intro k' y' hk' hy'
          by_cases e' : k' = i
          · subst e'
            rw [hx] at hy'; cases hy'
            exact hb
          · exact hpre k' y' (by omega) hy'
      · have : findL l d = -1 := findL_miss l d fun x hx => by
          obtain ⟨k, hk⟩ := List.getElem?_of_mem hx
          exact hpre k x (by have := getlt hk; omega) hk
        simp (config := {contextual := true, maxDischargeDepth := 12}) only [tb, e0, e3, e5, he, hL, hlt, ↓bD0, ↓bD1, ↓bD2, ↓bD3, ↓bD4, ↓bD5, ↓bD6, bU0, bU1, bU2, bU3, bU4, bU5, bU6, bU7, bU8, bU9, bU10, bU11, bU12, bU13, forall_const, List.all_cons, List.all_nil, Option.map_some, List.map_cons, List.map_nil, ne_eq, implies_true, isNx, cstep_bool, ↓wp_cond, ↓wp_loop, ↓reduceIte, reduceCtorEq, Nat.reduceEqDiff, Nat.reduceLT, Nat.reduceAdd, Nat.reduceMul, Int.ofNat_lt, Int.ofNat_le, exists_const]
        simp [fFind, this]
theorem q_Find (cl : Bool) {v : AV} {l : List Nd} {s : St} (h : read ndC s v = some l) (hl : l.length ≤ lim) (d : Dot) : acall (conLD ndC fFind) cl [v, .agg (Dot.av d)] s = some (.int .i64 (findL l d), s) := conLD_call (fun _ _ => rfl) h hl cl d
theorem q_StEqual (cl : Bool) {v w : AV} {l m : List Nd} {s : St} (h : read ndC s v = some l) (k : read ndC s w = some m) (hl : l.length ≤ lim) (hm : m.length ≤ lim) : acall (conLL ndC ndC fSame) cl [v, w] s = some (.bool (decide (l = m)), s) := conLL_call (fun _ _ => rfl) h k hl hm cl
theorem q_JEqual (cl : Bool) {v w : AV} {l m : List Nd} {s : St} (h : read ndC s v = some l) (k : read ndC s w = some m) (hl : l.length ≤ lim) (hm : m.length ≤ lim) : acall (conLL ndC ndC fSame) cl [v, w] s = some (.bool (decide (l = m)), s) := conLL_call (fun _ _ => rfl) h k hl hm cl

/-! ### IndexFunc and ContainsFunc -/
def conLfn (f : List Nd → AV) (g : Nat) : Con := fun xs s => match xs with
  | [v, .fn g' []] => if g' = g then match read ndC s v with
    | some l => if l.length ≤ lim then some (f l, s.lowed) else none
    | none => none
    else none
  | _ => none
theorem conLfn_some {f : List Nd → AV} {g : Nat} {xs : List AV} {s : St} {r : AV} {s' : St} (h : conLfn f g xs s = some (r, s')) : ∃ v l, xs = [v, .fn g []] ∧ read ndC s v = some l ∧ l.length ≤ lim ∧ r = f l ∧ s' = s.lowed := by
  unfold conLfn at h
  split at h
  · split at h
    · rename_i e
      subst e
      split at h
      · split at h
        · rename_i v _ _ l hr hl
          injection h with h
          obtain ⟨rfl, rfl⟩ := Prod.mk.inj h
          exact ⟨v, l, rfl, hr, hl, rfl, rfl⟩
        · cases h
      · cases h
    · cases h
  · cases h
theorem conLfn_call {f : List Nd → AV} (hf : ∀ l, (f l).ground = true) {g : Nat} {s : St} {v : AV} {l : List Nd} (h : read ndC s v = some l) (hl : l.length ≤ lim) (cl : Bool) : acall (conLfn f g) cl [v, .fn g []] s = some (f l, s) :=
  acall_rol (by simp only [conLfn, read_low, h, hl, if_true]) (hf l)
/-- The first node that is not valid, or -1. -/
def badL : List Nd → Int
  | [] => -1
  | x :: r => if x.valid = false then 0 else if badL r < 0 then -1 else badL r + 1
theorem badL_hit : ∀ (l : List Nd) (i : Nat) (x : Nd), l[i]? = some x → x.valid = false → (∀ k y, k < i → l[k]? = some y → y.valid = true) → badL l = i
  | [], i, x, h, _, _ => by simp at h
  | y :: r, 0, x, h, hd, _ => by simp at h; subst h; simp [badL, hd]
  | y :: r, i + 1, x, h, hd, hp => by
    have h1 := hp 0 y (by omega) (by simp)
    have h2 := badL_hit r i x (by simpa using h) hd fun k z hk hz => hp (k + 1) z (by omega) (by simpa using hz)
    simp only [badL, h2, h1]
    rw [if_neg (by simp), if_neg (by omega)]
    omega
theorem badL_miss : ∀ (l : List Nd), (∀ x ∈ l, x.valid = true) → badL l = -1
  | [], _ => rfl
  | y :: r, h => by
    simp [badL, h y (by simp), badL_miss r fun x hx => h x (by simp [hx])]
theorem badL_all (l : List Nd) : (0 ≤ badL l) = (l.all Nd.valid = false) := by
  induction l with
  | nil => simp [badL]
  | cons x r ih =>
    simp only [badL, List.all_cons]
    cases hx : x.valid
    · simp
    · simp only [Bool.true_and, Bool.true_eq_false, if_false]
      rw [← ih]
      split <;> simp <;> omega
def fBad (l : List Nd) : AV := .int .i64 (badL l)
def fHasBad (l : List Nd) : AV := .bool (!l.all Nd.valid)
theorem s_IndexBad : SoundAt Try.prog 66 (conLfn fBad 55) :=
  con_keep (tb_sound (l := [(55, conN fInvalid)]) (by simpa using s_Invalid)) mixed Try.func66 k66 c66 fun args s r s' h => by
    obtain ⟨v, l, rfl, hr, hl, rfl, rfl⟩ := conLfn_some h
    refine ⟨rfl, rfl, by simp [a66], fun env hlen ha => ?_⟩
    have h0 : E env 0 = _ := ha 0 _ rfl
    have h1 : E env 1 = _ := ha 1 _ rfl
    have hlen : elen env = _ := hlen
    simp only [a66] at hlen
    unfold a66
    have hL := lenV_read hr
    simp (config := {contextual := true, maxDischargeDepth := 12}) only [tb, q_Invalid, h0, h1, hlen, hL, ↓bD0, ↓bD1, ↓bD2, ↓bD3, ↓bD4, ↓bD5, ↓bD6, bU0, bU1, bU2, bU3, bU4, bU5, bU6, bU7, bU8, bU9, bU10, bU11, bU12, bU13, forall_const, List.all_cons, List.all_nil, Option.map_some, List.map_cons, List.map_nil, ne_eq, implies_true, isNx, cstep_bool, ↓wp_cond, ↓wp_loop, ↓reduceIte, reduceCtorEq, Nat.reduceEqDiff, Nat.reduceLT, Nat.reduceAdd, Nat.reduceMul, Int.ofNat_lt, Int.ofNat_le, exists_const]
    refine lwp_inv (fun n e t => t = s ∧ ∃ i : Nat, n + i = l.length ∧ elen e = 19 ∧ E e 0 = v ∧ E e 1 = .fn 55 [] ∧ E e 7 = .int .i64 (l.length : Int) ∧ E e 8 = .int .i64 (i : Int) ∧ ∀ k y, k < i → l[k]? = some y → y.valid = true) (n := l.length) ⟨rfl, 0, by omega, by simp only [E_pne, E_psame, elen_put, Nat.reduceEqDiff, ne_eq, not_false_eq_true, Nat.reduceLT, hlen], by simp only [E_pne, E_psame, elen_put, Nat.reduceEqDiff, ne_eq, not_false_eq_true, Nat.reduceLT, h0], by simp only [E_pne, E_psame, elen_put, Nat.reduceEqDiff, ne_eq, not_false_eq_true, Nat.reduceLT, h1], by simp only [E_pne, E_psame, elen_put, Nat.reduceEqDiff, ne_eq, not_false_eq_true, Nat.reduceLT, hlen], by simp only [E_pne, E_psame, elen_put, Nat.reduceEqDiff, ne_eq, not_false_eq_true, Nat.reduceLT, hlen]; rfl, fun k y hk => by omega⟩ ?_
    · rintro n e t ⟨rfl, i, hn, he, e0, e1, e7, e8, hpre⟩
      by_cases hlt : i < l.length
      · obtain ⟨x, hx⟩ := getsome hlt
        have hw2 := wrap_add1 (n := i) (by unfold lim at hl; omega)
        obtain ⟨a1, _⟩ := nd_lods hr (.refl _) hx
        have i1 := nd_idx hr hx .i64
        simp (config := {contextual := true, maxDischargeDepth := 12}) only [tb, q_Invalid, ae_callv, List.append_nil, e0, e1, e7, e8, he, hL, hlt, hw2, a1, i1, ↓bD0, ↓bD1, ↓bD2, ↓bD3, ↓bD4, ↓bD5, ↓bD6, bU0, bU1, bU2, bU3, bU4, bU5, bU6, bU7, bU8, bU9, bU10, bU11, bU12, bU13, forall_const, List.all_cons, List.all_nil, Option.map_some, List.map_cons, List.map_nil, ne_eq, implies_true, isNx, cstep_bool, ↓wp_cond, ↓wp_loop, ↓reduceIte, reduceCtorEq, Nat.reduceEqDiff, Nat.reduceLT, Nat.reduceAdd, Nat.reduceMul, Int.ofNat_lt, Int.ofNat_le, exists_const]
        refine ⟨⟨fun hb => ?_, fun hb => ⟨n - 1, by omega, i + 1, by omega, rfl, ?_⟩⟩, fun hf => hf.elim⟩
        · simp only [fBad, badL_hit l i x hx hb hpre]
        · intro k' y' hk' hy'
          by_cases e' : k' = i
          · subst e'
            rw [hx] at hy'; cases hy'
            exact hb
          · exact hpre k' y' (by omega) hy'
      · have : badL l = -1 := badL_miss l fun x hx => by
          obtain ⟨k, hk⟩ := List.getElem?_of_mem hx
          exact hpre k x (by have := getlt hk; omega) hk
        simp (config := {contextual := true, maxDischargeDepth := 12}) only [tb, e0, e1, e7, e8, he, hL, hlt, ↓bD0, ↓bD1, ↓bD2, ↓bD3, ↓bD4, ↓bD5, ↓bD6, bU0, bU1, bU2, bU3, bU4, bU5, bU6, bU7, bU8, bU9, bU10, bU11, bU12, bU13, forall_const, List.all_cons, List.all_nil, Option.map_some, List.map_cons, List.map_nil, ne_eq, implies_true, isNx, cstep_bool, ↓wp_cond, ↓wp_loop, ↓reduceIte, reduceCtorEq, Nat.reduceEqDiff, Nat.reduceLT, Nat.reduceAdd, Nat.reduceMul, Int.ofNat_lt, Int.ofNat_le, exists_const]
        simp [fBad, this]
theorem q_IndexBad (cl : Bool) {v : AV} {l : List Nd} {s : St} (h : read ndC s v = some l) (hl : l.length ≤ lim) : acall (conLfn fBad 55) cl [v, .fn 55 []] s = some (.int .i64 (badL l), s) := conLfn_call (fun _ => rfl) h hl cl
theorem s_HasBad : SoundAt Try.prog 54 (conLfn fHasBad 55) :=
  con_keep (tb_sound (l := [(66, conLfn fBad 55)]) (by simpa using s_IndexBad)) mixed Try.func54 k54 c54 fun args s r s' h => by
    obtain ⟨v, l, rfl, hr, hl, rfl, rfl⟩ := conLfn_some h
    refine ⟨rfl, rfl, by simp [a54], fun env hlen ha => ?_⟩
    have h0 : E env 0 = _ := ha 0 _ rfl
    have h1 : E env 1 = _ := ha 1 _ rfl
    have hlen : elen env = _ := hlen
    simp only [a54] at hlen
    unfold a54
    have hq := q_IndexBad false hr hl
    simp (config := {contextual := true, maxDischargeDepth := 12}) only [tb, hq, h0, h1, hlen, ↓bD0, ↓bD1, ↓bD2, ↓bD3, ↓bD4, ↓bD5, ↓bD6, bU0, bU1, bU2, bU3, bU4, bU5, bU6, bU7, bU8, bU9, bU10, bU11, bU12, bU13, forall_const, List.all_cons, List.all_nil, Option.map_some, List.map_cons, List.map_nil, ne_eq, implies_true, isNx, cstep_bool, ↓wp_cond, ↓wp_loop, ↓reduceIte, reduceCtorEq, Nat.reduceEqDiff, Nat.reduceLT, Nat.reduceAdd, Nat.reduceMul, Int.ofNat_lt, Int.ofNat_le, exists_const]
    simp only [badL_all, fHasBad]
    cases l.all Nd.valid <;> rfl
theorem q_HasBad (cl : Bool) {v : AV} {l : List Nd} {s : St} (h : read ndC s v = some l) (hl : l.length ≤ lim) : acall (conLfn fHasBad 55) cl [v, .fn 55 []] s = some (.bool (!l.all Nd.valid), s) := conLfn_call (fun _ => rfl) h hl cl

end Go.AM
end
/-
  Contracts of functions that return a new list. Own work of this project.
-/
section
set_option linter.unusedVariables false
set_option linter.unusedSimpArgs false
namespace Go.AM
open Go

variable {β : Type}
/-- The new list alone, or with one more result. -/
def mkR (e : Option AV) (v : AV) : AV := match e with
  | none => v
  | some e => .tup [v, e]
def conF (D : Cod β) (p : List AV → St → Option (List β × Option AV)) : Con := fun xs s => match p xs s with
  | some (l, e) => some (mkR e (freshV D s l), freshS D s l)
  | none => none
theorem conF_some {D : Cod β} {p : List AV → St → Option (List β × Option AV)} {xs : List AV} {s : St} {r : AV} {s' : St} (h : conF D p xs s = some (r, s')) : ∃ l e, p xs s = some (l, e) ∧ r = mkR e (freshV D s l) ∧ s' = freshS D s l := by
  unfold conF at h
  split at h
  · rename_i l e hp
    injection h with h
    obtain ⟨rfl, rfl⟩ := Prod.mk.inj h
    exact ⟨l, e, hp, rfl, rfl⟩
  · cases h
theorem mkR_ren {f : Nat → Nat} {e : Option AV} (he : ∀ x, e = some x → x.plain = true) (v : AV) : (mkR e v).ren f = mkR e (v.ren f) := by
  cases e with
  | none => rfl
  | some x => simp [mkR, AV.ren, AV.rens, plain_ren f (he x rfl)]
theorem con_fresh {P : Program} {call : Nat → List AV → St → Option (AV × St)} (hS : Sound P call) (hm : P.follows .mixedOrders = true) {g : Nat} {fn : Func} {afn : AFn} (hf : P.funcs[g]? = some fn) (hcal : callable P g = true) (hc : cfn P fn = some afn)
    {D : Cod β} {p : List AV → St → Option (List β × Option AV)} (h : ∀ args s l e, p args s = some (l, e) → (∀ x, e = some x → x.plain = true) ∧ args.length ≤ afn.ntmps ∧ ∀ env : Env, elen env = afn.ntmps → (∀ i v, args[i]? = some v → E env i = v) →
      awp call afn.body (fun x env t => (∀ i, x ≠ .exit i) ∧ Keep s t ∧ ∃ v, aresults env t afn.results = some (mkR e v) ∧ Own D s t v l) env s) : SoundAt P g (conF D p) := by
  refine con_sound hS hm hf hcal hc fun args s r s' hh => ?_
  obtain ⟨l, e, hp, rfl, rfl⟩ := conF_some hh
  obtain ⟨he, hl, k⟩ := h args s l e hp
  refine ⟨gk_fresh D s l, start_env hl fun env h1 h2 => awp_mono _ (fun x env' t q => ?_) (k env h1 h2)⟩
  obtain ⟨q1, q2, v, q3, q4⟩ := q
  obtain ⟨f, _, hf, hv⟩ := emb_fresh q2 q4
  exact ⟨q1, f, by rw [q3, mkR_ren he, hv], hf⟩
/-- What a caller has behind such a call. -/
theorem acall_fresh {D : Cod β} {p : List AV → St → Option (List β × Option AV)} {xs : List AV} {s : St} {l : List β} {e : Option AV} (hp : p xs { heap := s.heap, next := s.next, low := s.next } = some (l, e)) (he : ∀ x, e = some x → x.plain = true) :
    ∃ v t, acall (conF D p) false xs s = some (mkR e v, t) ∧ Keep s t ∧ Own D s t v l := by
  have hg : ∀ v : AV, v.plain = true → (mkR e v).ground = true := by
    intro v hv
    cases e with
    | none =>
      cases v <;> simp_all [mkR, AV.plain, AV.ground]
    | some x =>
      have h1 := he x rfl
      have h2 : ∀ y : AV, y.plain = true → y.plains = true := by intro y hy; cases y <;> simp_all [AV.plain, AV.plains]
      simp [mkR, AV.ground, h2 _ h1, h2 _ hv]
  by_cases hl : l = []
  · subst hl
    refine ⟨.nils, s, ?_, .refl s, .nil _ _ _⟩
    simp [acall, conF, hp, freshV, freshS, hg .nils rfl, St.lowed]
  · have hle : l.isEmpty = false := by simpa using hl
    refine ⟨.sl s.next 0 l.length none D.sz, freshS D s l, ?_, keep_fresh D s l, .inr ⟨s.next, rfl, hl, Nat.le_refl _, ?_⟩⟩
    · have hn : (mkR e (.sl s.next 0 l.length none D.sz)).ground = false := by cases e <;> simp [mkR, AV.ground, AV.plain, AV.plains]
      simp only [acall, conF, hp, freshV, freshS, hle, Bool.false_eq_true, if_false, hn, Bool.false_and]
      simp [St.push, St.lowed]
    · simp only [freshS, hle, Bool.false_eq_true, if_false]
      exact St.get_push_new _ _
/-- Made by a function that was called: still the caller's own, seen from where the caller began. -/
theorem Own.from {D : Cod β} {s0 s t : St} {v : AV} {l : List β} (h : Own D s t v l) (hn : s0.next ≤ s.next) : Own D s0 t v l := by
  rcases h with ⟨rfl, rfl⟩ | ⟨j, rfl, h0, h1, h⟩
  · exact .inl ⟨rfl, rfl⟩
  · exact .inr ⟨j, rfl, h0, by omega, h⟩
def pL {α : Type} (C : Cod α) (f : List α → Option (List β × Option AV)) : List AV → St → Option (List β × Option AV) := fun xs s => match xs with
  | [v] => match read C s v with
    | some l => if l.length ≤ lim then f l else none
    | none => none
  | _ => none
def pLL {α γ : Type} (C : Cod α) (D : Cod γ) (f : List α → List γ → Option (List β × Option AV)) : List AV → St → Option (List β × Option AV) := fun xs s => match xs with
  | [v, w] => match read C s v, read D s w with
    | some l, some m => if l.length ≤ lim ∧ m.length ≤ lim then f l m else none
    | _, _ => none
  | _ => none
theorem pL_some {α : Type} {C : Cod α} {f : List α → Option (List β × Option AV)} {xs : List AV} {s : St} {r : List β × Option AV} (h : pL C f xs s = some r) : ∃ v l, xs = [v] ∧ read C s v = some l ∧ l.length ≤ lim ∧ f l = some r := by
  unfold pL at h
  split at h
  · split at h
    · split at h
      · rename_i v _ l hr hl
        exact ⟨v, l, rfl, hr, hl, h⟩
      · cases h
    · cases h
  · cases h
theorem pLL_some {α γ : Type} {C : Cod α} {D : Cod γ} {f : List α → List γ → Option (List β × Option AV)} {xs : List AV} {s : St} {r : List β × Option AV} (h : pLL C D f xs s = some r) :
    ∃ v w l m, xs = [v, w] ∧ read C s v = some l ∧ read D s w = some m ∧ l.length ≤ lim ∧ m.length ≤ lim ∧ f l m = some r := by
  unfold pLL at h
  split at h
  · split at h
    · split at h
      · rename_i v w _ _ l m hr hw hl
        exact ⟨v, w, l, m, rfl, hr, hw, hl.1, hl.2, h⟩
      · cases h
    · cases h
  · cases h
theorem fresh_L {α : Type} {C : Cod α} {D : Cod β} {f : List α → Option (List β × Option AV)} {s : St} {v : AV} {l : List α} (h : read C s v = some l) (hl : l.length ≤ lim) {r : List β} {e : Option AV} (hf : f l = some (r, e)) (he : ∀ x, e = some x → x.plain = true) :
    ∃ w t, acall (conF D (pL C f)) false [v] s = some (mkR e w, t) ∧ Keep s t ∧ Own D s t w r :=
  acall_fresh (by simp only [pL, read_low, h, hl, hf, if_true]) he
theorem fresh_LL {α γ : Type} {C : Cod α} {G : Cod γ} {D : Cod β} {f : List α → List γ → Option (List β × Option AV)} {s : St} {v w : AV} {l : List α} {m : List γ} (h : read C s v = some l) (k : read G s w = some m) (hl : l.length ≤ lim) (hm : m.length ≤ lim) {r : List β} {e : Option AV}
    (hf : f l m = some (r, e)) (he : ∀ x, e = some x → x.plain = true) : ∃ u t, acall (conF D (pLL C G f)) false [v, w] s = some (mkR e u, t) ∧ Keep s t ∧ Own D s t u r :=
  acall_fresh (by simp only [pLL, read_low, h, k, hl, hm, and_self, hf, if_true]) he
theorem mkR_none (v : AV) : mkR none v = v := nrfl rfl
theorem mkR_some (e v : AV) : mkR (some e) v = .tup [v, e] := nrfl rfl

/-! ### Appending by value -/
variable {call : Nat → List AV → St → Option (AV × St)} {env : Env} {s t : St}
def appV (s : St) (sz bytes : Nat) (a x : AV) : Option (AV × St) := match shown s sz x, lenOf x with
  | some new, some k => aappend s sz bytes a new k
  | _, _ => none
theorem ae_app (sz b : Nat) (z : List AV) (a x : AO) : aeff call env s (.app sz b z a x) = appV s sz b (aev env a) (aev env x) := nrfl rfl
theorem appV_list {C : Cod β} {t : St} {v x : AV} {l m : List β} (hK : Keep s t) (hO : Own C s t v l) (hr : read C t x = some m) (bytes : Nat) (hb : (l.length + m.length) * bytes ≤ roomBytes) :
    ∃ v' t', appV t C.sz bytes v x = some (v', t') ∧ Keep s t' ∧ Own C s t' v' (l ++ m) := by
  simp only [appV, read_shown hr, read_len hr]
  exact append_own hK hO m bytes hb
/-- One value, laid into a row of its own before. -/
theorem appV_one {C : Cod β} {t : St} {v : AV} {l : List β} (hK : Keep s t) (hO : Own C s t v l) (x : β) (bytes : Nat) (hb : (l.length + 1) * bytes ≤ roomBytes) :
    ∃ v' t', appV (t.push (.row (C.enc x) true)) C.sz bytes v (.sl t.next 0 1 (some 1) C.sz) = some (v', t') ∧ Keep s t' ∧ Own C s t' v' (l ++ [x]) := by
  have hr : read C (t.push (.row (C.enc x) true)) (.sl t.next 0 1 (some 1) C.sz) = some [x] := by
    refine read_of rfl (St.get_push_new _ _) (by simp [C.len]) ?_
    rw [cells_one, List.drop_zero, Nat.one_mul, ← C.len x]
    simp
  exact appV_list (hK.push _) (hO.push _) hr bytes (by simpa using hb)
def slcV (sz : Nat) (x : AV) (lo hi : Option AV) : Option AV := match x with
  | .sl id off len cap z =>
    if z = sz then
      match cap with
      | some c => match optNat hi c len with
          | some h => match optNat lo h 0 with
            | some l => some (.sl id (off + l * sz) (h - l) (some (c - l)) sz)
            | none => none
          | none => none
      | none => match optNat hi len len with
          | some h => match optNat lo h 0 with
            | some l => some (.sl id (off + l * sz) (h - l) none sz)
            | none => none
          | none => none
    else none
  | .nils => match (some 0 : Option Nat), optNat hi 0 0, optNat lo 0 0 with
      | some _, some _, some _ => some .nils
      | _, _, _ => none
  | _ => none
theorem ap_slc (sz : Nat) (x : AO) (lo hi : Option AO) : apure env (.slc sz x lo hi none) = slcV sz (aev env x) (lo.map (aev env)) (hi.map (aev env)) := by
  simp only [apure, slcV]
  cases hx : aev env x with
  | sl id off len cap z =>
    cases cap <;> simp [optNat] <;> rfl
  | nils =>
    simp only [optNat, Option.map_none, Option.isSome_none, Bool.false_and, Bool.false_eq_true, if_false]
    rfl
  | _ => rfl
theorem asNatIn_nat {k : IntKind} {i : Int} {n m : Nat} (hi : i = (n : Int)) (h : n ≤ m) : asNatIn (.int k i) m = some n := by
  subst hi
  simp [asNatIn, h]
theorem slc_lo {C : Cod β} {s : St} {v : AV} {l : List β} (hr : read C s v = some l) {k : IntKind} {i : Int} {n : Nat} (hi : i = (n : Int)) (hn : n ≤ l.length) :
    ∃ v', slcV C.sz v (some (.int k i)) none = some v' ∧ ∀ t, Keep s t → read C t v' = some (l.drop n) := by
  cases v with
  | nils =>
    simp [read] at hr
    subst hr
    have : n = 0 := by simpa using hn
    subst this
    exact ⟨.nils, by simp [slcV, optNat, asNatIn, hi], fun t _ => by simp [read]⟩
  | sl id off len cap z =>
    obtain ⟨rfl, rfl, _⟩ := read_sl hr
    cases cap with
    | none => exact ⟨.sl id (off + n * C.sz) (l.length - n) none C.sz, by simp [slcV, optNat, asNatIn_nat hi hn], fun t hK => read_drop (hK.read hr) n rfl hn⟩
    | some c =>
      by_cases hc : n ≤ c ∧ l.length ≤ c
      · refine ⟨.sl id (off + n * C.sz) (l.length - n) (some (c - n)) C.sz, ?_, fun t hK => read_drop (hK.read hr) n rfl hn⟩
        simp only [slcV, if_true, optNat, asNatIn_nat hi hn]
      · refine ⟨.sl id (off + n * C.sz) (l.length - n) (some (c - n)) C.sz, ?_, fun t hK => read_drop (hK.read hr) n rfl hn⟩
        simp only [slcV, if_true, optNat, asNatIn_nat hi hn]
  | _ => simp [read] at hr
theorem slc_hi {C : Cod β} {s : St} {v : AV} {l : List β} (hr : read C s v = some l) (hcap : ∀ id off n c z, v = .sl id off n (some c) z → n ≤ c) {k : IntKind} {i : Int} {n : Nat} (hi : i = (n : Int)) (hn : n ≤ l.length) :
    ∃ v', slcV C.sz v none (some (.int k i)) = some v' ∧ ∀ t, Keep s t → read C t v' = some (l.take n) := by
  cases v with
  | nils =>
    simp [read] at hr
    subst hr
    have : n = 0 := by simpa using hn
    subst this
    exact ⟨.nils, by simp [slcV, optNat, asNatIn, hi], fun t _ => by simp [read]⟩
  | sl id off len cap z =>
    obtain ⟨rfl, rfl, _⟩ := read_sl hr
    cases cap with
    | none =>
      refine ⟨.sl id off n none C.sz, ?_, fun t hK => read_take (hK.read hr) n hn⟩
      simp [slcV, optNat, asNatIn_nat hi hn]
    | some c =>
      have := hcap _ _ _ _ _ rfl
      refine ⟨.sl id off n (some c) C.sz, ?_, fun t hK => read_take (hK.read hr) n hn⟩
      simp [slcV, optNat, asNatIn_nat hi (show n ≤ c by omega)]
  | _ => simp [read] at hr
end Go.AM
end
/-
  Functions that make a new list: dots, Copy, Join; store.Valid. Own work of this project; in part printed by a program of it.
-/
section
set_option linter.unusedVariables false
set_option linter.unusedSimpArgs false
set_option maxRecDepth 100000
set_option maxHeartbeats 4000000
namespace Go.AM
open Go Go.Proofs

def gCopy (l : List Nd) : Option (List Nd × Option AV) := some (l, none)
theorem s_RCopy : SoundAt Try.prog 27 (conF ndC (pL ndC gCopy)) :=
  con_fresh (tb_sound (l := []) (by simp)) mixed Try.func27 k27 c27 fun args s r ee h => by
    obtain ⟨v, l, rfl, hr, hl, hp⟩ := pL_some h
    injection hp with hp
    obtain ⟨rfl, rfl⟩ := Prod.mk.inj hp
    refine ⟨by simp, by simp [a27], fun env hlen ha => ?_⟩
    have h0 : E env 0 = _ := ha 0 _ rfl
    have hlen : elen env = _ := hlen
    simp only [a27] at hlen
    unfold a27
    obtain ⟨v', t', hap, hK, hO⟩ := appV_list (.refl s) (.nil ndC s s) hr 48 (by unfold lim at hl; simp [roomBytes]; omega)
    have hap : appV s 6 48 .nils v = _ := hap
    simp (config := {contextual := true, maxDischargeDepth := 12}) only [tb, h0, hlen, hap, ↓bD0, ↓bD1, ↓bD2, ↓bD3, ↓bD4, ↓bD5, ↓bD6, bU0, bU1, bU2, bU3, bU4, bU5, bU6, bU7, bU8, bU9, bU10, bU11, bU12, bU13, forall_const, List.all_cons, List.all_nil, Option.map_some, List.map_cons, List.map_nil, ne_eq, implies_true, isNx, cstep_bool, ↓wp_cond, ↓wp_loop, ↓reduceIte, reduceCtorEq, Nat.reduceEqDiff, Nat.reduceLT, Nat.reduceAdd, Nat.reduceMul, Int.ofNat_lt, Int.ofNat_le, exists_const, ae_app, ap_slc, Option.map_none, mkR_none, mkR_some]
    exact ⟨hK, by simpa using hO⟩

theorem take_snoc {α : Type} {l : List α} {i : Nat} {x : α} (h : l[i]? = some x) : l.take (i + 1) = l.take i ++ [x] := by
  rw [List.take_add_one, h]
  rfl
theorem fst_dot (x : Dot) : fstep [.int .i64 0, .int .i64 0] 0 2 (.agg (Dot.av x)) some = some (Dot.av x) := rfl
def gDots (l : List Nd) : Option (List Dot × Option AV) := some (l.map Nd.d, none)
theorem s_Dots : SoundAt Try.prog 61 (conF dotC (pL ndC gDots)) :=
  con_fresh (tb_sound (l := []) (by simp)) mixed Try.func61 k61 c61 fun args s r ee h => by
    obtain ⟨v, l, rfl, hr, hl, hp⟩ := pL_some h
    injection hp with hp
    obtain ⟨rfl, rfl⟩ := Prod.mk.inj hp
    refine ⟨by simp, by simp [a61], fun env hlen ha => ?_⟩
    have h0 : E env 0 = _ := ha 0 _ rfl
    have hlen : elen env = _ := hlen
    simp only [a61] at hlen
    unfold a61
    have hL := lenV_read hr
    simp (config := {contextual := true, maxDischargeDepth := 12}) only [tb, h0, hlen, hL, ↓bD0, ↓bD1, ↓bD2, ↓bD3, ↓bD4, ↓bD5, ↓bD6, bU0, bU1, bU2, bU3, bU4, bU5, bU6, bU7, bU8, bU9, bU10, bU11, bU12, bU13, forall_const, List.all_cons, List.all_nil, Option.map_some, List.map_cons, List.map_nil, ne_eq, implies_true, isNx, cstep_bool, ↓wp_cond, ↓wp_loop, ↓reduceIte, reduceCtorEq, Nat.reduceEqDiff, Nat.reduceLT, Nat.reduceAdd, Nat.reduceMul, Int.ofNat_lt, Int.ofNat_le, exists_const, ae_app, ap_slc, Option.map_none, mkR_none, mkR_some]
    refine lwp_inv (fun n e t => Keep s t ∧ ∃ i : Nat, n + i = l.length ∧ elen e = 19 ∧ E e 6 = v ∧ E e 7 = .int .i64 (l.length : Int) ∧ E e 8 = .int .i64 (i : Int) ∧ Own dotC s t (E e 3) ((l.take i).map Nd.d)) (n := l.length) ⟨.refl s, 0, by omega, by simp only [E_pne, E_psame, elen_put, Nat.reduceEqDiff, ne_eq, not_false_eq_true, Nat.reduceLT, hlen], by simp only [E_pne, E_psame, elen_put, Nat.reduceEqDiff, ne_eq, not_false_eq_true, Nat.reduceLT, hlen], by simp only [E_pne, E_psame, elen_put, Nat.reduceEqDiff, ne_eq, not_false_eq_true, Nat.reduceLT, hlen], by simp only [E_pne, E_psame, elen_put, Nat.reduceEqDiff, ne_eq, not_false_eq_true, Nat.reduceLT, hlen]; rfl, by simp only [E_pne, E_psame, elen_put, Nat.reduceEqDiff, ne_eq, not_false_eq_true, Nat.reduceLT, hlen]; exact .nil _ _ _⟩ ?_
    · rintro n e t ⟨hK, i, hn, he, e6, e7, e8, hO⟩
      by_cases hlt : i < l.length
      · obtain ⟨x, hx⟩ := getsome hlt
        have hw2 := wrap_add1 (n := i) (by unfold lim at hl; omega)
        obtain ⟨a1, _⟩ := nd_lods hr hK hx
        have i1 := nd_idx hr hx .i64
        obtain ⟨v', t', hap, hK', hO'⟩ := appV_one (C := dotC) (hK.lowed.push (.row (Nd.av x) true)) (hO.lowed.push _) x.d 16 (by unfold lim at hl; simp [roomBytes]; omega)
        have hap : appV ((t.lowed.push (.row (Nd.av x) true)).push (.row (Dot.av x.d) true)) 2 16 (E e 3) (.sl (t.lowed.push (.row (Nd.av x) true)).next 0 1 (some 1) 2) = some (v', t') := hap
        simp (config := {contextual := true, maxDischargeDepth := 12}) only [tb, e6, e7, e8, he, hL, hlt, hw2, a1, i1, hap, ↓bD0, ↓bD1, ↓bD2, ↓bD3, ↓bD4, ↓bD5, ↓bD6, bU0, bU1, bU2, bU3, bU4, bU5, bU6, bU7, bU8, bU9, bU10, bU11, bU12, bU13, forall_const, List.all_cons, List.all_nil, Option.map_some, List.map_cons, List.map_nil, ne_eq, implies_true, isNx, cstep_bool, ↓wp_cond, ↓wp_loop, ↓reduceIte, reduceCtorEq, Nat.reduceEqDiff, Nat.reduceLT, Nat.reduceAdd, Nat.reduceMul, Int.ofNat_lt, Int.ofNat_le, exists_const, ae_app, ap_slc, Option.map_none, mkR_none, mkR_some]
        refine ⟨⟨n - 1, by omega, hK', i + 1, by omega, rfl, ?_⟩, fun hf => hf.elim⟩
        rw [take_snoc hx, List.map_append]
        exact hO'
      · obtain rfl : i = l.length := by omega
        rw [List.take_length] at hO
        simp (config := {contextual := true, maxDischargeDepth := 12}) only [tb, e6, e7, e8, he, hL, hlt, ↓bD0, ↓bD1, ↓bD2, ↓bD3, ↓bD4, ↓bD5, ↓bD6, bU0, bU1, bU2, bU3, bU4, bU5, bU6, bU7, bU8, bU9, bU10, bU11, bU12, bU13, forall_const, List.all_cons, List.all_nil, Option.map_some, List.map_cons, List.map_nil, ne_eq, implies_true, isNx, cstep_bool, ↓wp_cond, ↓wp_loop, ↓reduceIte, reduceCtorEq, Nat.reduceEqDiff, Nat.reduceLT, Nat.reduceAdd, Nat.reduceMul, Int.ofNat_lt, Int.ofNat_le, exists_const, ae_app, ap_slc, Option.map_none, mkR_none, mkR_some]
        exact ⟨fun hf => hf.elim, hK, _, rfl, hO⟩

def fValid (l : List Nd) : AV := .bool (storeL l)
theorem storeL_set (l : List Nd) : storeL l = (l.all Nd.valid && setD (l.map Nd.d)) := by
  have : setD (l.map Nd.d) = chain ndLt l := by
    unfold setD
    rw [Bool.eq_iff_iff, chain_iff, chain_iff]
    constructor
    · intro h i x y hx hy
      exact h i x.d y.d (by simp [hx]) (by simp [hy])
    · intro h i x y hx hy
      simp only [List.getElem?_map, Option.map_eq_some_iff] at hx hy
      obtain ⟨x, hx, rfl⟩ := hx
      obtain ⟨y, hy, rfl⟩ := hy
      exact h i x y hx hy
  rw [storeL, this]
theorem s_StValid : SoundAt Try.prog 47 (conL ndC fValid) :=
  con_keep (tb_sound (l := [(54, conLfn fHasBad 55), (61, conF dotC (pL ndC gDots)), (60, conL dotC fIsSet)]) (by simpa using ⟨s_HasBad, s_Dots, s_IsSet⟩)) mixed Try.func47 k47 c47 fun args s r s' h => by
    obtain ⟨v, l, rfl, hr, hl, rfl, rfl⟩ := conL_some h
    refine ⟨rfl, rfl, by simp [a47], fun env hlen ha => ?_⟩
    have h0 : E env 0 = _ := ha 0 _ rfl
    have hlen : elen env = _ := hlen
    simp only [a47] at hlen
    unfold a47
    have hq := q_HasBad false hr hl
    cases hv : l.all Nd.valid
    · rw [hv] at hq
      simp (config := {contextual := true, maxDischargeDepth := 12}) only [tb, hq, h0, hlen, ↓bD0, ↓bD1, ↓bD2, ↓bD3, ↓bD4, ↓bD5, ↓bD6, bU0, bU1, bU2, bU3, bU4, bU5, bU6, bU7, bU8, bU9, bU10, bU11, bU12, bU13, forall_const, List.all_cons, List.all_nil, Option.map_some, List.map_cons, List.map_nil, ne_eq, implies_true, isNx, cstep_bool, ↓wp_cond, ↓wp_loop, ↓reduceIte, reduceCtorEq, Nat.reduceEqDiff, Nat.reduceLT, Nat.reduceAdd, Nat.reduceMul, Int.ofNat_lt, Int.ofNat_le, exists_const, ae_app, ap_slc, Option.map_none, mkR_none, mkR_some]
      simp [fValid, storeL_set, hv]
    · rw [hv] at hq
      obtain ⟨w, t, hd, hK, hO⟩ := fresh_L (D := dotC) (f := gDots) hr hl rfl (by simp)
      rw [mkR_none] at hd
      have hq2 := q_IsSet false hO.read (by simpa using hl)
      simp (config := {contextual := true, maxDischargeDepth := 12}) only [tb, hq, hd, hq2, h0, hlen, ↓bD0, ↓bD1, ↓bD2, ↓bD3, ↓bD4, ↓bD5, ↓bD6, bU0, bU1, bU2, bU3, bU4, bU5, bU6, bU7, bU8, bU9, bU10, bU11, bU12, bU13, forall_const, List.all_cons, List.all_nil, Option.map_some, List.map_cons, List.map_nil, ne_eq, implies_true, isNx, cstep_bool, ↓wp_cond, ↓wp_loop, ↓reduceIte, reduceCtorEq, Nat.reduceEqDiff, Nat.reduceLT, Nat.reduceAdd, Nat.reduceMul, Int.ofNat_lt, Int.ofNat_le, exists_const, ae_app, ap_slc, Option.map_none, mkR_none, mkR_some]
      exact ⟨by simp [fValid, storeL_set, hv], hK⟩
theorem q_StValid (cl : Bool) {v : AV} {l : List Nd} {s : St} (h : read ndC s v = some l) (hl : l.length ≤ lim) : acall (conL ndC fValid) cl [v] s = some (.bool (storeL l), s) := conL_call (fun _ => rfl) h hl cl
theorem s_JValid : SoundAt Try.prog 35 (conL ndC fValid) :=
  con_keep (tb_sound (l := [(47, conL ndC fValid)]) (by simpa using s_StValid)) mixed Try.func35 k35 c35 fun args s r s' h => by
    obtain ⟨v, l, rfl, hr, hl, rfl, rfl⟩ := conL_some h
    refine ⟨rfl, rfl, by simp [a35], fun env hlen ha => ?_⟩
    have h0 : E env 0 = _ := ha 0 _ rfl
    have hlen : elen env = _ := hlen
    simp only [a35] at hlen
    unfold a35
    have hq := q_StValid false hr hl
    simp (config := {contextual := true, maxDischargeDepth := 12}) only [tb, hq, h0, hlen, ↓bD0, ↓bD1, ↓bD2, ↓bD3, ↓bD4, ↓bD5, ↓bD6, bU0, bU1, bU2, bU3, bU4, bU5, bU6, bU7, bU8, bU9, bU10, bU11, bU12, bU13, forall_const, List.all_cons, List.all_nil, Option.map_some, List.map_cons, List.map_nil, ne_eq, implies_true, isNx, cstep_bool, ↓wp_cond, ↓wp_loop, ↓reduceIte, reduceCtorEq, Nat.reduceEqDiff, Nat.reduceLT, Nat.reduceAdd, Nat.reduceMul, Int.ofNat_lt, Int.ofNat_le, exists_const, ae_app, ap_slc, Option.map_none, mkR_none, mkR_some]
    rfl

end Go.AM
end
/-
  The program's join of two states. Own work of this project; in part printed by a program of it.
-/
section
set_option linter.unusedVariables false
set_option linter.unusedSimpArgs false
set_option maxRecDepth 100000
set_option maxHeartbeats 4000000
namespace Go.AM
open Go Go.Proofs

theorem dcmp_cases (a b : Dot) : (dcmp a b = -1 ∧ a.before b = true ∧ b.before a = false) ∨ (dcmp a b = 1 ∧ a.before b = false ∧ b.before a = true) ∨ (dcmp a b = 0 ∧ a.before b = false ∧ b.before a = false ∧ a = b) := by
  obtain ⟨ar, ac⟩ := a
  obtain ⟨br, bc⟩ := b
  simp only [dcmp, cmpI, Dot.before]
  by_cases h1 : ac < bc
  · left
    simp [h1, show ¬ bc < ac by omega, show ¬ bc = ac by omega]
  · by_cases h2 : bc < ac
    · right; left
      simp [h1, h2, show ¬ ac = bc by omega]
    · obtain rfl : ac = bc := by omega
      by_cases h3 : ar < br
      · left
        simp [h3, show ¬ br < ar by omega]
      · by_cases h4 : br < ar
        · right; left
          simp [h3, h4]
        · obtain rfl : ar = br := by omega
          right; right
          simp
theorem cs_dec (p : Prop) [Decidable p] (A B : Prop) : cstep (.bool (decide p)) A B = ((p → A) ∧ (¬ p → B)) := by by_cases h : p <;> simp [cstep, h]
theorem cs_not (b : Bool) (A B : Prop) : cstep (.bool (!b)) A B = cstep (.bool b) B A := by cases b <;> rfl
theorem cs_and (a b : Bool) (A B : Prop) : cstep (.bool (a && b)) A B = ((a = true ∧ b = true → A) ∧ ((a && b) = false → B)) := by cases a <;> cases b <;> simp [cstep]
theorem cs_or (a b : Bool) (A B : Prop) : cstep (.bool (a || b)) A B = (((a || b) = true → A) ∧ (a = false ∧ b = false → B)) := by cases a <;> cases b <;> simp [cstep]
theorem cs_valid (x : Nd) (A B : Prop) : cstep (.bool x.valid) A B = ((x.valid = true → A) ∧ (x.valid = false → B)) := cstep_bool _ _ _
def joinL : List Nd → List Nd → Option (List Nd)
  | [], b => some b
  | x :: a, [] => some (x :: a)
  | x :: a, y :: b =>
    if x.d.before y.d = true then (joinL a (y :: b)).map (x :: ·)
    else if y.d.before x.d = true then (joinL (x :: a) b).map (y :: ·)
    else if x.clash y = true then none
    else (joinL a b).map (x.merge y :: ·)
termination_by a b => a.length + b.length
theorem joinL_nil (a : List Nd) : joinL a [] = some a := by cases a <;> simp [joinL]
def gJoin (a b : List Nd) : Option (List Nd × Option AV) :=
  if storeL a = true ∧ storeL b = true then match joinL a b with
    | some l => some (l, some (.int .i64 0))
    | none => some ([], some (.int .i64 15))
  else some ([], some (.int .i64 2))
theorem gJoin_plain {a b : List Nd} {l : List Nd} {e : Option AV} (h : gJoin a b = some (l, e)) : ∀ x, e = some x → x.plain = true := by
  unfold gJoin at h
  repeat' split at h
  all_goals
    injection h with h
    obtain ⟨_, rfl⟩ := Prod.mk.inj h
    intro x hx
    injection hx with hx
    subst hx
    rfl
theorem s_Join : SoundAt Try.prog 23 (conF ndC (pLL ndC ndC gJoin)) :=
  con_fresh (tb_sound (l := [(35, conL ndC fValid), (38, conDD fCmp), (39, conNN fMerge)]) (by simpa using ⟨s_JValid, s_Cmp, s_Merge⟩)) mixed Try.func23 k23 c23 fun args s r ee h => by
    obtain ⟨v, w, l, m, rfl, hr, hw, hl, hm, hp⟩ := pLL_some h
    refine ⟨gJoin_plain hp, by simp [a23], fun env hlen ha => ?_⟩
    have h0 : E env 0 = _ := ha 0 _ rfl
    have h1 : E env 1 = _ := ha 1 _ rfl
    have hlen : elen env = _ := hlen
    simp only [a23] at hlen
    unfold a23
    have q1 := q_StValid false hr hl
    have q2 := q_StValid false hw hm
    unfold gJoin at hp
    by_cases hv : storeL l = true ∧ storeL m = true
    rotate_left
    · rw [if_neg hv] at hp
      injection hp with hp
      obtain ⟨rfl, rfl⟩ := Prod.mk.inj hp
      have hv : (!storeL l || !storeL m) = true := by
        cases h1 : storeL l <;> cases h2 : storeL m <;> simp_all
      simp (config := {contextual := true, maxDischargeDepth := 12}) only [tb, q1, q2, hv, h0, h1, hlen, ↓bD0, ↓bD1, ↓bD2, ↓bD3, ↓bD4, ↓bD5, ↓bD6, bU0, bU1, bU2, bU3, bU4, bU5, bU6, bU7, bU8, bU9, bU10, bU11, bU12, bU13, forall_const, List.all_cons, List.all_nil, Option.map_some, List.map_cons, List.map_nil, ne_eq, implies_true, isNx, cs_dec, cs_not, cs_and, cs_or, cs_valid, eq_self, ↓wp_cond, ↓wp_loop, ↓reduceIte, reduceCtorEq, Nat.reduceEqDiff, Nat.reduceLT, Nat.reduceAdd, Nat.reduceMul, Int.ofNat_lt, Int.ofNat_le, exists_const, ae_app, ap_slc, Option.map_none, mkR_none, mkR_some]
      exact ⟨_, rfl, .nil _ _ _⟩
    · rw [if_pos hv] at hp
      obtain ⟨hv1, hv2⟩ := hv
      rw [hv1] at q1
      rw [hv2] at q2
      have hA : ∀ x ∈ l, x.valid = true := by
        simp only [storeL, Bool.and_eq_true, List.all_eq_true] at hv1
        exact hv1.1
      have hB : ∀ x ∈ m, x.valid = true := by
        simp only [storeL, Bool.and_eq_true, List.all_eq_true] at hv2
        exact hv2.1
      simp (config := {contextual := true, maxDischargeDepth := 12}) only [tb, q1, q2, h0, h1, hlen, ↓bD0, ↓bD1, ↓bD2, ↓bD3, ↓bD4, ↓bD5, ↓bD6, bU0, bU1, bU2, bU3, bU4, bU5, bU6, bU7, bU8, bU9, bU10, bU11, bU12, bU13, forall_const, List.all_cons, List.all_nil, Option.map_some, List.map_cons, List.map_nil, ne_eq, implies_true, isNx, cs_dec, cs_not, cs_and, cs_or, cs_valid, eq_self, ↓wp_cond, ↓wp_loop, ↓reduceIte, reduceCtorEq, Nat.reduceEqDiff, Nat.reduceLT, Nat.reduceAdd, Nat.reduceMul, Int.ofNat_lt, Int.ofNat_le, exists_const, ae_app, ap_slc, Option.map_none, mkR_none, mkR_some]
      obtain ⟨I, hI⟩ : ∃ I : Nat → Env → St → Prop, ∀ n e t, I n e t = ( Keep s t ∧ ∃ (a b acc : List Nd) (v' w' : AV), n = a.length + b.length ∧ elen e = 80 ∧ E e 0 = v' ∧ E e 1 = w' ∧ read ndC s v' = some a ∧ read ndC s w' = some b ∧ Own ndC s t (E e 6) acc ∧ acc.length + a.length + b.length ≤ 2000000 ∧ joinL l m = (joinL a b).map (acc ++ ·) ∧ (∀ x ∈ a, x.valid = true) ∧ ∀ x ∈ b, x.valid = true) := ⟨fun n e t => ( Keep s t ∧ ∃ (a b acc : List Nd) (v' w' : AV), n = a.length + b.length ∧ elen e = 80 ∧ E e 0 = v' ∧ E e 1 = w' ∧ read ndC s v' = some a ∧ read ndC s w' = some b ∧ Own ndC s t (E e 6) acc ∧ acc.length + a.length + b.length ≤ 2000000 ∧ joinL l m = (joinL a b).map (acc ++ ·) ∧ (∀ x ∈ a, x.valid = true) ∧ ∀ x ∈ b, x.valid = true), fun _ _ _ => rfl⟩
      refine lwp_inv I (n := l.length + m.length) ?_ ?_
      · rw [hI]
        exact ⟨.refl s, l, m, [], v, w, rfl, by simp only [E_pne, E_psame, elen_put, Nat.reduceEqDiff, ne_eq, not_false_eq_true, Nat.reduceLT, hlen], by simp only [E_pne, E_psame, elen_put, Nat.reduceEqDiff, ne_eq, not_false_eq_true, Nat.reduceLT, h0], by simp only [E_pne, E_psame, elen_put, Nat.reduceEqDiff, ne_eq, not_false_eq_true, Nat.reduceLT, h1], hr, hw, by simp only [E_pne, E_psame, elen_put, Nat.reduceEqDiff, ne_eq, not_false_eq_true, Nat.reduceLT, hlen]; exact .nil _ _ _, by unfold lim at *; simp; omega, by simp, hA, hB⟩
      intro n e t hi
      rw [hI] at hi
      obtain ⟨hK, a, b, acc, v', w', rfl, he, e0, e1, hra, hrb, hO, hle, hj, ha', hb'⟩ := hi
      have hL := lenV_read hra
      have hM := lenV_read hrb
      rcases a with _ | ⟨x, a⟩
      · have hz : ((0 : Int) < (([] : List Nd).length : Int)) = False := eq_false (by simp)
        simp only [joinL, Option.map_some] at hj
        rw [hj] at hp
        injection hp with hp
        obtain ⟨rfl, rfl⟩ := Prod.mk.inj hp
        obtain ⟨u1, t1, hap1, hK1, hO1⟩ := appV_list hK hO (hK.read hra) 48 (by simp [roomBytes] at *; omega)
        obtain ⟨u2, t2, hap2, hK2, hO2⟩ := appV_list hK1 hO1 (hK1.read hrb) 48 (by simp [roomBytes] at *; omega)
        have hap1 : appV t 6 48 (E e 6) v' = _ := hap1
        have hap2 : appV t1 6 48 u1 w' = _ := hap2
        simp (config := {contextual := true, maxDischargeDepth := 12}) only [tb, e0, e1, he, hL, hM, hap1, hap2, hz, ↓bD0, ↓bD1, ↓bD2, ↓bD3, ↓bD4, ↓bD5, ↓bD6, bU0, bU1, bU2, bU3, bU4, bU5, bU6, bU7, bU8, bU9, bU10, bU11, bU12, bU13, forall_const, List.all_cons, List.all_nil, Option.map_some, List.map_cons, List.map_nil, ne_eq, implies_true, isNx, cs_dec, cs_not, cs_and, cs_or, cs_valid, eq_self, ↓wp_cond, ↓wp_loop, ↓reduceIte, reduceCtorEq, Nat.reduceEqDiff, Nat.reduceLT, Nat.reduceAdd, Nat.reduceMul, Int.ofNat_lt, Int.ofNat_le, exists_const, ae_app, ap_slc, Option.map_none, mkR_none, mkR_some]
        exact ⟨hK2, _, rfl, by simpa using hO2⟩
      rcases b with _ | ⟨y, b⟩
      · have hz : ((0 : Int) < (([] : List Nd).length : Int)) = False := eq_false (by simp)
        have hz2 : ((0 : Int) < ((x :: a).length : Int)) = True := eq_true (by simp)
        simp only [joinL_nil, Option.map_some] at hj
        rw [hj] at hp
        injection hp with hp
        obtain ⟨rfl, rfl⟩ := Prod.mk.inj hp
        obtain ⟨u1, t1, hap1, hK1, hO1⟩ := appV_list hK hO (hK.read hra) 48 (by simp [roomBytes] at *; omega)
        obtain ⟨u2, t2, hap2, hK2, hO2⟩ := appV_list hK1 hO1 (hK1.read hrb) 48 (by simp [roomBytes] at *; omega)
        have hap1 : appV t 6 48 (E e 6) v' = _ := hap1
        have hap2 : appV t1 6 48 u1 w' = _ := hap2
        simp (config := {contextual := true, maxDischargeDepth := 12}) only [tb, e0, e1, he, hL, hM, hap1, hap2, hz, hz2, ↓bD0, ↓bD1, ↓bD2, ↓bD3, ↓bD4, ↓bD5, ↓bD6, bU0, bU1, bU2, bU3, bU4, bU5, bU6, bU7, bU8, bU9, bU10, bU11, bU12, bU13, forall_const, List.all_cons, List.all_nil, Option.map_some, List.map_cons, List.map_nil, ne_eq, implies_true, isNx, cs_dec, cs_not, cs_and, cs_or, cs_valid, eq_self, ↓wp_cond, ↓wp_loop, ↓reduceIte, reduceCtorEq, Nat.reduceEqDiff, Nat.reduceLT, Nat.reduceAdd, Nat.reduceMul, Int.ofNat_lt, Int.ofNat_le, exists_const, ae_app, ap_slc, Option.map_none, mkR_none, mkR_some]
        exact ⟨hK2, _, rfl, by simpa using hO2⟩
      have hz1 : ((0 : Int) < ((x :: a).length : Int)) = True := eq_true (by simp)
      have hz2 : ((0 : Int) < ((y :: b).length : Int)) = True := eq_true (by simp)
      obtain ⟨i1, a1, a2, al⟩ := nd_head hra hK
      obtain ⟨i2, b1, b2, bl⟩ := nd_head hrb hK
      obtain ⟨v1, hs1, hr1⟩ := slc_lo hra (k := .i64) (i := 1) (n := 1) rfl (by simp)
      obtain ⟨w1, hs2, hr2⟩ := slc_lo hrb (k := .i64) (i := 1) (n := 1) rfl (by simp)
      have hr1 := hr1 s (.refl s)
      have hr2 := hr2 s (.refl s)
      have hs1 : slcV 6 v' (some (.int .i64 1)) none = some v1 := hs1
      have hs2 : slcV 6 w' (some (.int .i64 1)) none = some w1 := hs2
      simp only [List.drop_succ_cons, List.drop_zero] at hr1 hr2
      have one : ∀ z : Nd, ∃ u t1, appV (t.push (.row (Nd.av z) true)) 6 48 (E e 6) (.sl t.next 0 1 (some 1) 6) = some (u, t1) ∧ Keep s t1 ∧ Own ndC s t1 u (acc ++ [z]) := fun z =>
        appV_one (C := ndC) hK hO z 48 (by simp [roomBytes] at *; omega)
      rcases dcmp_cases x.d y.d with ⟨hd, hb1, hb2⟩ | ⟨hd, hb1, hb2⟩ | ⟨hd, hb1, hb2, hxy⟩
      · obtain ⟨u, t1, hap, hK1, hO1⟩ := one x
        simp only [joinL, hb1, if_true, Option.map_map] at hj
        simp (config := {contextual := true, maxDischargeDepth := 12}) only [tb, q_Cmp, e0, e1, he, hL, hM, hz1, hz2, i1, i2, a1, a2, al, b1, b2, bl, hd, hs1, hap, ↓bD0, ↓bD1, ↓bD2, ↓bD3, ↓bD4, ↓bD5, ↓bD6, bU0, bU1, bU2, bU3, bU4, bU5, bU6, bU7, bU8, bU9, bU10, bU11, bU12, bU13, forall_const, List.all_cons, List.all_nil, Option.map_some, List.map_cons, List.map_nil, ne_eq, implies_true, isNx, cs_dec, cs_not, cs_and, cs_or, cs_valid, eq_self, ↓wp_cond, ↓wp_loop, ↓reduceIte, reduceCtorEq, Nat.reduceEqDiff, Nat.reduceLT, Nat.reduceAdd, Nat.reduceMul, Int.ofNat_lt, Int.ofNat_le, exists_const, ae_app, ap_slc, Option.map_none, mkR_none, mkR_some]
        refine ⟨a.length + (y :: b).length, by simp, ?_⟩
        rw [hI]
        refine ⟨hK1, a, y :: b, acc ++ [x], v1, w', rfl, by simp only [E_pne, E_psame, elen_put, Nat.reduceEqDiff, ne_eq, not_false_eq_true, Nat.reduceLT, he], by simp only [E_pne, E_psame, elen_put, Nat.reduceEqDiff, ne_eq, not_false_eq_true, Nat.reduceLT, he], by simp only [E_pne, E_psame, elen_put, Nat.reduceEqDiff, ne_eq, not_false_eq_true, Nat.reduceLT, e1], hr1, hrb, by simp only [E_pne, E_psame, elen_put, Nat.reduceEqDiff, ne_eq, not_false_eq_true, Nat.reduceLT, he]; exact hO1, by simp at *; omega, ?_, fun z hz => ha' z (by simp [hz]), hb'⟩
        rw [hj]
        congr 1
        funext q
        simp
      · obtain ⟨u, t1, hap, hK1, hO1⟩ := one y
        have hd1 : ((1 : Int) = -1) = False := by decide
        simp only [joinL, hb1, hb2, Bool.false_eq_true, if_false, if_true, Option.map_map] at hj
        simp (config := {contextual := true, maxDischargeDepth := 12}) only [tb, q_Cmp, e0, e1, he, hL, hM, hz1, hz2, i1, i2, a1, a2, al, b1, b2, bl, hd, hd1, hs2, hap, ↓bD0, ↓bD1, ↓bD2, ↓bD3, ↓bD4, ↓bD5, ↓bD6, bU0, bU1, bU2, bU3, bU4, bU5, bU6, bU7, bU8, bU9, bU10, bU11, bU12, bU13, forall_const, List.all_cons, List.all_nil, Option.map_some, List.map_cons, List.map_nil, ne_eq, implies_true, isNx, cs_dec, cs_not, cs_and, cs_or, cs_valid, eq_self, ↓wp_cond, ↓wp_loop, ↓reduceIte, reduceCtorEq, Nat.reduceEqDiff, Nat.reduceLT, Nat.reduceAdd, Nat.reduceMul, Int.ofNat_lt, Int.ofNat_le, exists_const, ae_app, ap_slc, Option.map_none, mkR_none, mkR_some]
        refine ⟨(x :: a).length + b.length, by simp, ?_⟩
        rw [hI]
        refine ⟨hK1, x :: a, b, acc ++ [y], v', w1, rfl, by simp only [E_pne, E_psame, elen_put, Nat.reduceEqDiff, ne_eq, not_false_eq_true, Nat.reduceLT, he], by simp only [E_pne, E_psame, elen_put, Nat.reduceEqDiff, ne_eq, not_false_eq_true, Nat.reduceLT, e0], by simp only [E_pne, E_psame, elen_put, Nat.reduceEqDiff, ne_eq, not_false_eq_true, Nat.reduceLT, he], hra, hr2, by simp only [E_pne, E_psame, elen_put, Nat.reduceEqDiff, ne_eq, not_false_eq_true, Nat.reduceLT, he]; exact hO1, by simp at *; omega, ?_, ha', fun z hz => hb' z (by simp [hz])⟩
        rw [hj]
        congr 1
        funext q
        simp
      · have hd1 : ((0 : Int) = -1) = False := by decide
        have hd2 : ((0 : Int) = 1) = False := by decide
        have hd3 : ((15 : Int) = 0) = False := by decide
        have hx := ha' x (by simp)
        have hy := hb' y (by simp)
        by_cases hc : x.clash y = true
        · have hMg : mergeV x y = .tup [.agg (Nd.av nd0), .int .i64 15] := by simp [mergeV, hx, hy, hc]
          simp only [joinL, hb1, hb2, hc, Bool.false_eq_true, if_false, if_true, Option.map_none] at hj
          rw [hj] at hp
          injection hp with hp
          obtain ⟨rfl, rfl⟩ := Prod.mk.inj hp
          simp (config := {contextual := true, maxDischargeDepth := 12}) only [tb, q_Cmp, q_Merge, hMg, e0, e1, he, hL, hM, hz1, hz2, i1, i2, a1, a2, al, b1, b2, bl, hd, hd1, hd2, hd3, ↓bD0, ↓bD1, ↓bD2, ↓bD3, ↓bD4, ↓bD5, ↓bD6, bU0, bU1, bU2, bU3, bU4, bU5, bU6, bU7, bU8, bU9, bU10, bU11, bU12, bU13, forall_const, List.all_cons, List.all_nil, Option.map_some, List.map_cons, List.map_nil, ne_eq, implies_true, isNx, cs_dec, cs_not, cs_and, cs_or, cs_valid, eq_self, ↓wp_cond, ↓wp_loop, ↓reduceIte, reduceCtorEq, Nat.reduceEqDiff, Nat.reduceLT, Nat.reduceAdd, Nat.reduceMul, Int.ofNat_lt, Int.ofNat_le, exists_const, ae_app, ap_slc, Option.map_none, mkR_none, mkR_some]
          exact ⟨hK.lowed.push _, _, rfl, .nil _ _ _⟩
        · have hMg : mergeV x y = .tup [.agg (Nd.av (x.merge y)), .int .i64 0] := by simp [mergeV, hx, hy, hc]
          obtain ⟨u, t1, hap, hK1, hO1⟩ := appV_one (C := ndC) (hK.lowed.push (.row (Nd.av (x.merge y)) true)) (hO.lowed.push _) (x.merge y) 48 (by simp [roomBytes] at *; omega)
          have hap : appV ((t.lowed.push (.row (Nd.av (x.merge y)) true)).push (.row (Nd.av (x.merge y)) true)) 6 48 (E e 6) (.sl (t.lowed.push (.row (Nd.av (x.merge y)) true)).next 0 1 (some 1) 6) = some (u, t1) := hap
          simp only [joinL, hb1, hb2, hc, Bool.false_eq_true, if_false, Option.map_map] at hj
          simp (config := {contextual := true, maxDischargeDepth := 12}) only [tb, q_Cmp, q_Merge, hMg, e0, e1, he, hL, hM, hz1, hz2, i1, i2, a1, a2, al, b1, b2, bl, hd, hd1, hd2, hs1, hs2, hap, ↓bD0, ↓bD1, ↓bD2, ↓bD3, ↓bD4, ↓bD5, ↓bD6, bU0, bU1, bU2, bU3, bU4, bU5, bU6, bU7, bU8, bU9, bU10, bU11, bU12, bU13, forall_const, List.all_cons, List.all_nil, Option.map_some, List.map_cons, List.map_nil, ne_eq, implies_true, isNx, cs_dec, cs_not, cs_and, cs_or, cs_valid, eq_self, ↓wp_cond, ↓wp_loop, ↓reduceIte, reduceCtorEq, Nat.reduceEqDiff, Nat.reduceLT, Nat.reduceAdd, Nat.reduceMul, Int.ofNat_lt, Int.ofNat_le, exists_const, ae_app, ap_slc, Option.map_none, mkR_none, mkR_some]
          refine ⟨a.length + b.length, by simp; omega, ?_⟩
          rw [hI]
          refine ⟨hK1, a, b, acc ++ [x.merge y], v1, w1, rfl, by simp only [E_pne, E_psame, elen_put, Nat.reduceEqDiff, ne_eq, not_false_eq_true, Nat.reduceLT, he], by simp only [E_pne, E_psame, elen_put, Nat.reduceEqDiff, ne_eq, not_false_eq_true, Nat.reduceLT, he], by simp only [E_pne, E_psame, elen_put, Nat.reduceEqDiff, ne_eq, not_false_eq_true, Nat.reduceLT, he], hr1, hr2, by simp only [E_pne, E_psame, elen_put, Nat.reduceEqDiff, ne_eq, not_false_eq_true, Nat.reduceLT, he]; exact hO1, by simp at *; omega, ?_, fun z hz => ha' z (by simp [hz]), fun z hz => hb' z (by simp [hz])⟩
          rw [hj]
          congr 1
          funext q
          simp

end Go.AM
end
/-
  Maps from dots to nodes in memory: looking up, setting, ranging. Own work of this project.
-/
section
set_option linter.unusedVariables false
set_option linter.unusedSimpArgs false
namespace Go.AM
open Go Go.Proofs

variable {call : Nat → List AV → St → Option (AV × St)} {env : Env} {s t : St}

/-! ### By value -/
def lookV (s : St) (z : AV) (k : EK) (ok : Bool) (m i : AV) : Option AV :=
  if i.key k then
    match m with
    | .nilm => some (if ok then .tup [z, .bool false] else z)
    | .mp id => match s.get id with
      | some (.map es _) => match findE k i es 0 with
        | some (some (_, v)) => some (if ok then .tup [v, .bool true] else v)
        | some none => some (if ok then .tup [z, .bool false] else z)
        | none => none
      | _ => none
    | _ => none
  else none
theorem ar_look (z : AV) (k : EK) (ok : Bool) (m i : AO) : aread call env s (.look z k ok m i) = lookV s z k ok (aev env m) (aev env i) := nrfl rfl
def msetV (s : St) (k : EK) (m i x : AV) : Option (AV × St) :=
  if i.key k && x.whole then
    match m with
    | .mp id => match s.get id with
      | some (.map es ck) => match findE k i es 0 with
        | some (some (j, _)) => match es[j]? with
          | some (_, _, b) => some (.und, s.put id (.map (es.set j (i, x, b)) ck))
          | none => none
        | some none => some (.und, s.put id (.map (es ++ [(i, x, ck)]) (ck + 1)))
        | none => none
      | _ => none
    | _ => none
  else none
theorem ae_mset (k : EK) (m i x : AO) : aeff call env s (.mset k m i x) = msetV s k (aev env m) (aev env i) (aev env x) := nrfl rfl
def rngV (s : St) : AV → Option (AV × St)
  | .nilm => some (.ptr s.next 0, s.push (.iter none 0 [] 0))
  | .mp id => match s.get id with
    | some (.map _ ck) => some (.ptr s.next 0, s.push (.iter (some id) ck [] ck))
    | _ => none
  | _ => none
theorem ae_rng (x : AO) : aeff call env s (.rng x) = rngV s (aev env x) := nrfl rfl
theorem ae_mkmap0 : aeff call env s (.mkmap none) = some (.mp s.next, s.push (.map [] 0)) := nrfl rfl
def entV (s : St) : AV → Option AV
  | .ptr id 0 => match s.get id with
    | some (.iter (some m) _ seen last) => match seen.getLast?, s.get m with
      | some stamp, some (.map es ck) => if ck = last then (es.find? fun e => e.2.2 == stamp).map fun e => .tup [e.1, e.2.1] else none
      | _, _ => none
    | _ => none
  | _ => none
theorem ar_ent (x : AO) : aread call env s (.ent x) = entV s (aev env x) := nrfl (by
  simp only [aread, entV]
  cases aev env x <;> rfl)
theorem lookV_push {id : Nat} (h : ltN id s) (b : AB) (z : AV) (k : EK) (ok : Bool) (i : AV) : lookV (s.push b) z k ok (.mp id) i = lookV s z k ok (.mp id) i := by
  simp only [lookV, St.get_push_old _ _ h]
theorem lookV_lowed (z : AV) (k : EK) (ok : Bool) (m i : AV) : lookV s.lowed z k ok m i = lookV s z k ok m i := by cases m <;> rfl
theorem put_push_lt {id : Nat} (h : ltN id s) (b c : AB) : (s.push b).put id c = (s.put id c).push b := by
  unfold ltN at h
  have : s.next + 1 - 1 - id = s.next - 1 - id + 1 := by omega
  simp only [St.push, St.put, this, List.set_cons_succ]
theorem msetV_push {id : Nat} (h : ltN id s) (b : AB) (k : EK) (i x : AV) : msetV (s.push b) k (.mp id) i x = (msetV s k (.mp id) i x).map fun r => (r.1, r.2.push b) := by
  simp only [msetV, St.get_push_old _ _ h, put_push_lt h]
  repeat' split
  all_goals rfl
theorem put_lowed (id : Nat) (c : AB) : s.lowed.put id c = (s.put id c).lowed := by
  simp only [St.put, St.lowed]
  congr 1
  omega
theorem msetV_lowed (k : EK) (m i x : AV) : msetV s.lowed k m i x = (msetV s k m i x).map fun r => (r.1, r.2.lowed) := by
  simp only [msetV, lowed_get, put_lowed]
  repeat' split
  all_goals rfl

/-! ### Nodes by their dots -/
def entsFrom : Nat → List Nd → List (AV × AV × Nat)
  | _, [] => []
  | k, x :: r => (.agg (Dot.av x.d), .agg (Nd.av x), k) :: entsFrom (k + 1) r
def mapN (l : List Nd) : AB := .map (entsFrom 0 l) l.length
def lookN : List Nd → Dot → Option (Nat × Nd)
  | [], _ => none
  | x :: r, d => if x.d = d then some (0, x) else (lookN r d).map fun p => (p.1 + 1, p.2)
def updN (l : List Nd) (x : Nd) : List Nd := match lookN l x.d with
  | some (j, _) => l.set j x
  | none => l ++ [x]
theorem eqK_dot (a b : Dot) : eqK (.fl [.i, .i]) (.agg (Dot.av a)) (.agg (Dot.av b)) = some (decide (b = a)) := by
  have := bin_eqd a b
  simp only [binOp, Option.map_eq_some_iff] at this
  obtain ⟨x, h1, h2⟩ := this
  injection h2 with h2
  simp only [eqV] at h1
  simp only [eqK, h1, h2]
  congr 1
  simp only [decide_eq_decide]
  exact eq_comm
theorem key_dot (d : Dot) : (AV.agg (Dot.av d)).key (.fl [.i, .i]) = true := rfl
theorem whole_nd (x : Nd) : (AV.agg (Nd.av x)).whole = true := rfl
theorem find_ents : ∀ (l : List Nd) (d : Dot) (k i : Nat), findE (.fl [.i, .i]) (.agg (Dot.av d)) (entsFrom k l) i = some ((lookN l d).map fun p => (i + p.1, .agg (Nd.av p.2)))
  | [], d, k, i => rfl
  | x :: r, d, k, i => by
    simp only [entsFrom, findE, eqK_dot, lookN]
    by_cases h : x.d = d
    · simp [h]
    · simp only [h, decide_false, if_false]
      rw [find_ents r d (k + 1) (i + 1)]
      cases lookN r d <;> simp [Nat.add_comm, Nat.add_left_comm]
theorem lookN_some : ∀ {l : List Nd} {d : Dot} {j : Nat} {x : Nd}, lookN l d = some (j, x) → l[j]? = some x ∧ x.d = d
  | [], d, j, x, h => by simp [lookN] at h
  | y :: r, d, j, x, h => by
    simp only [lookN] at h
    split at h
    · injection h with h
      obtain ⟨rfl, rfl⟩ := Prod.mk.inj h
      exact ⟨rfl, by assumption⟩
    · obtain ⟨p, hp, h⟩ := Option.map_eq_some_iff.1 h
      obtain ⟨rfl, rfl⟩ := Prod.mk.inj h
      obtain ⟨h1, h2⟩ := lookN_some (l := r) (j := p.1) (x := p.2) hp
      exact ⟨by simpa using h1, h2⟩
theorem lookN_none : ∀ {l : List Nd} {d : Dot}, lookN l d = none → ∀ x ∈ l, x.d ≠ d
  | [], d, _ => by simp
  | y :: r, d, h => by
    simp only [lookN] at h
    split at h
    · cases h
    · rename_i e
      have := lookN_none (l := r) (d := d) (by simpa using h)
      intro x hx
      rcases List.mem_cons.1 hx with rfl | hx
      · exact e
      · exact this x hx
theorem ents_len : ∀ (l : List Nd) (k : Nat), (entsFrom k l).length = l.length
  | [], _ => rfl
  | x :: r, k => by simp [entsFrom, ents_len r]
theorem ents_get : ∀ (l : List Nd) (k j : Nat), (entsFrom k l)[j]? = (l[j]?).map fun x => (.agg (Dot.av x.d), .agg (Nd.av x), k + j)
  | [], k, j => by simp [entsFrom]
  | x :: r, k, 0 => rfl
  | x :: r, k, j + 1 => by
    simp only [entsFrom, List.getElem?_cons_succ, ents_get r (k + 1) j]
    rw [show k + 1 + j = k + (j + 1) by omega]
theorem ents_append : ∀ (l m : List Nd) (k : Nat), entsFrom k (l ++ m) = entsFrom k l ++ entsFrom (k + l.length) m
  | [], m, k => by simp [entsFrom]
  | x :: r, m, k => by
    simp only [List.cons_append, entsFrom, ents_append r m (k + 1), List.length_cons]
    rw [show k + 1 + r.length = k + (r.length + 1) by omega]
theorem ents_set : ∀ (l : List Nd) (k j : Nat) (x : Nd), entsFrom k (l.set j x) = (entsFrom k l).set j (.agg (Dot.av x.d), .agg (Nd.av x), k + j)
  | [], k, j, x => by simp [entsFrom]
  | y :: r, k, 0, x => by simp [entsFrom]
  | y :: r, k, j + 1, x => by
    simp only [List.set_cons_succ, entsFrom, ents_set r (k + 1) j x]
    rw [show k + 1 + j = k + (j + 1) by omega]
theorem look_hit {l : List Nd} {d : Dot} {j : Nat} {x : Nd} {id : Nat} (hg : s.get id = some (mapN l)) (h : lookN l d = some (j, x)) (z : AV) : lookV s z (.fl [.i, .i]) true (.mp id) (.agg (Dot.av d)) = some (.tup [.agg (Nd.av x), .bool true]) := by
  simp only [lookV, key_dot, if_true, hg, mapN, find_ents, h, Option.map_some]
theorem look_miss {l : List Nd} {d : Dot} {id : Nat} (hg : s.get id = some (mapN l)) (h : lookN l d = none) (z : AV) : lookV s z (.fl [.i, .i]) true (.mp id) (.agg (Dot.av d)) = some (.tup [z, .bool false]) := by
  simp only [lookV, key_dot, if_true, hg, mapN, find_ents, h, Option.map_none]
theorem mset_map {l : List Nd} {id : Nat} (hg : s.get id = some (mapN l)) (x : Nd) : msetV s (.fl [.i, .i]) (.mp id) (.agg (Dot.av x.d)) (.agg (Nd.av x)) = some (.und, s.put id (mapN (updN l x))) := by
  simp only [msetV, key_dot, whole_nd, Bool.and_self, if_true, hg, mapN, find_ents, updN]
  cases h : lookN l x.d with
  | none =>
    simp only [Option.map_none, ents_append, entsFrom, List.length_append, List.length_singleton, Nat.zero_add]
  | some p =>
    obtain ⟨j, y⟩ := p
    obtain ⟨h1, h2⟩ := lookN_some h
    simp only [Option.map_some, Nat.zero_add, ents_get, h1, ents_set, List.length_set]
theorem rng_map {l : List Nd} {id : Nat} (hg : s.get id = some (mapN l)) : rngV s (.mp id) = some (.ptr s.next 0, s.push (.iter (some id) l.length [] l.length)) := by
  simp only [rngV, hg, mapN]
theorem next_map {l : List Nd} {id p : Nat} {seen : List Nat} {K : AV → St → Prop} (hg : s.get id = some (mapN l)) (hp : s.get p = some (.iter (some id) l.length seen l.length))
    (h1 : (∀ i, i < l.length → i ∈ seen) → K (.tup [.bool false]) s) (h2 : ∀ i x, l[i]? = some x → i ∉ seen → K (.tup [.bool true, .agg (Dot.av x.d), .agg (Nd.av x)]) (s.put p (.iter (some id) l.length (seen ++ [i]) l.length))) : anext (.ptr p 0) s K := by
  simp only [anext, hp, hg, mapN]
  have hm : ∀ e ∈ entsFrom 0 l, ∃ i x, l[i]? = some x ∧ e = (.agg (Dot.av x.d), .agg (Nd.av x), i) := by
    intro e he
    obtain ⟨i, hi⟩ := List.getElem?_of_mem he
    rw [ents_get] at hi
    obtain ⟨x, hx, rfl⟩ := Option.map_eq_some_iff.1 hi
    exact ⟨i, x, hx, by simp⟩
  refine ⟨fun e he => ?_, Nat.le_refl _, fun ha => h1 fun i hi => ?_, fun e he hs => ?_⟩
  · obtain ⟨i, x, hx, rfl⟩ := hm e he
    exact getlt hx
  · obtain ⟨x, hx⟩ := getsome hi
    have : (entsFrom 0 l)[i]? = some (.agg (Dot.av x.d), .agg (Nd.av x), 0 + i) := by rw [ents_get, hx]; rfl
    have := ha _ (List.mem_of_getElem? this)
    simpa using this
  · obtain ⟨i, x, hx, rfl⟩ := hm e he
    exact h2 i x hx hs
theorem ent_map {l : List Nd} {id p : Nat} {seen : List Nat} {i : Nat} {x : Nd} (hg : s.get id = some (mapN l)) (hp : s.get p = some (.iter (some id) l.length (seen ++ [i]) l.length)) (hx : l[i]? = some x) : entV s (.ptr p 0) = some (.tup [.agg (Dot.av x.d), .agg (Nd.av x)]) := by
  have key : ∀ (l : List Nd) (k i : Nat) (x : Nd), l[i]? = some x → (entsFrom k l).find? (fun e => e.2.2 == k + i) = some (.agg (Dot.av x.d), .agg (Nd.av x), k + i) := by
    intro l
    induction l with
    | nil => intro k i x h; simp at h
    | cons y r ih =>
      intro k i x h
      cases i with
      | zero => simp at h; subst h; simp [entsFrom]
      | succ i =>
        have e : k + (i + 1) = k + 1 + i := by omega
        rw [entsFrom, List.find?_cons_of_neg (by simp), e]
        exact ih (k + 1) i x (by simpa using h)
  have := key l 0 i x hx
  rw [Nat.zero_add] at this
  simp only [entV, hp, hg, mapN, List.getLast?_concat, if_true, this, Option.map_some]
end Go.AM
end
/-
  DERIVED: THE SHELF's CONTRACTS AT THIS DUMP, IN PLAIN WORDS (tools/lay-plain.mjs out of 'YtnojanlkminpaaaAmShelf.lean', which tools/lay-shelf.mjs wrote): THE SAME DECLARATIONS UNDER THE SAME NAMES: 'import', 'namespace', 'open', 'def', 'theorem' AND NOTHING ELSE: no command of the shelf's: FOR A HAND-IN. Each laying: the table of numbers ('.._ren') and one theorem, a field a fact of the dump's own or the kernel's comparison; each contract: ONE APPLICATION.
-/
section
namespace Go.Proofs
open Go.Shelf
def Try.sortNode_ren : Go.Shelf.Ren := ⟨fun | 6 => 56 | 15 => 68 | 14 => 67 | 28 => 78 | 29 => 79 | 20 => 70 | 21 => 71 | 22 => 72 | 23 => 73 | 24 => 74 | 25 => 75 | 26 => 76 | 27 => 77 | 46 => 80 | 47 => 81 | 48 => 82 | 49 => 83 | 50 => 84 | 57 => 85 | n => n, fun | 22 => 30 | 24 => 64 | 25 => 88 | 3 => 3 | 39 => 99 | 0 => 0 | 53 => 109 | 55 => 111 | 4 => 4 | 46 => 102 | 45 => 101 | 50 => 106 | 5 => 5 | 9 => 9 | 66 => 112 | 70 => 116 | 76 => 118 | 77 => 119 | n => n, fun | n => n⟩
theorem Try.sortNode : Go.Proofs.SlLaysF0.n6 Try.prog Try.sortNode_ren := {
  mixed := by kernel_rfl
  f6 := ⟨Try.f56.name, by decide, Try.func56.trans (congrArg some (by kernel_rfl))⟩
  f14 := ⟨Try.f67.name, by decide, Try.func67.trans (congrArg some (by kernel_rfl))⟩
  f15 := Try.func68.trans (congrArg some (by kernel_rfl))
  f20 := ⟨Try.f70.name, by decide, Try.func70.trans (congrArg some (by kernel_rfl))⟩
  f21 := ⟨Try.f71.name, by decide, Try.func71.trans (congrArg some (by kernel_rfl))⟩
  f22 := ⟨Try.f72.name, by decide, Try.func72.trans (congrArg some (by kernel_rfl))⟩
  f23 := ⟨Try.f73.name, by decide, Try.func73.trans (congrArg some (by kernel_rfl))⟩
  f24 := ⟨Try.f74.name, by decide, Try.func74.trans (congrArg some (by kernel_rfl))⟩
  f25 := ⟨Try.f75.name, by decide, Try.func75.trans (congrArg some (by kernel_rfl))⟩
  f26 := ⟨Try.f76.name, by decide, Try.func76.trans (congrArg some (by kernel_rfl))⟩
  f27 := ⟨Try.f77.name, by decide, Try.func77.trans (congrArg some (by kernel_rfl))⟩
  f28 := Try.func78.trans (congrArg some (by kernel_rfl))
  f29 := Try.func79.trans (congrArg some (by kernel_rfl))
  f46 := ⟨Try.f80.name, by decide, Try.func80.trans (congrArg some (by kernel_rfl))⟩
  f47 := Try.func81.trans (congrArg some (by kernel_rfl))
  f48 := Try.func82.trans (congrArg some (by kernel_rfl))
  f49 := ⟨Try.f83.name, by decide, Try.func83.trans (congrArg some (by kernel_rfl))⟩
  f50 := ⟨Try.f84.name, by decide, Try.func84.trans (congrArg some (by kernel_rfl))⟩
  f57 := ⟨Try.f85.name, by decide, Try.func85.trans (congrArg some (by kernel_rfl))⟩
  t0 := Try.underlying0
  a0 := Try.isAgg0
  z0 := Try.sizeOf0
  v0 := Try.zeroValue0
  t3 := Try.underlying3
  a3 := Try.isAgg3
  z3 := Try.sizeOf3
  v3 := Try.zeroValue3
  t4 := Try.underlying4
  a4 := Try.isAgg4
  z4 := Try.sizeOf4
  v4 := Try.zeroValue4
  t5 := Try.underlying5
  a5 := Try.isAgg5
  z5 := Try.sizeOf5
  v5 := Try.zeroValue5
  t9 := Try.underlying9
  a9 := Try.isAgg9
  z9 := Try.sizeOf9
  v9 := Try.zeroValue9
  t22 := Try.underlying30
  a22 := Try.isAgg30
  z22 := Try.sizeOf30
  v22 := Try.zeroValue30
  t25 := Try.underlying88
  a25 := Try.isAgg88
  z25 := Try.sizeOf88
  v25 := Try.zeroValue88
  t39 := Try.underlying99
  a39 := Try.isAgg99
  z39 := Try.sizeOf99
  v39 := Try.zeroValue99
  t45 := Try.underlying101
  a45 := Try.isAgg101
  z45 := Try.sizeOf101
  v45 := Try.zeroValue101
  t46 := Try.underlying102
  a46 := Try.isAgg102
  z46 := Try.sizeOf102
  v46 := Try.zeroValue102
  t50 := Try.underlying106
  a50 := Try.isAgg106
  z50 := Try.sizeOf106
  v50 := Try.zeroValue106
  t53 := Try.underlying109
  a53 := Try.isAgg109
  z53 := Try.sizeOf109
  v53 := Try.zeroValue109
  t55 := Try.underlying111
  a55 := Try.isAgg111
  z55 := Try.sizeOf111
  v55 := Try.zeroValue111
  t66 := Try.underlying112
  a66 := Try.isAgg112
  z66 := Try.sizeOf112
  v66 := Try.zeroValue112
  t70 := Try.underlying116
  a70 := Try.isAgg116
  z70 := Try.sizeOf116
  v70 := Try.zeroValue116
  t76 := Try.underlying118
  a76 := Try.isAgg118
  z76 := Try.sizeOf118
  v76 := Try.zeroValue118
  t77 := Try.underlying119
  a77 := Try.isAgg119
  z77 := Try.sizeOf119
  v77 := Try.zeroValue119 }
end Go.Proofs
end
