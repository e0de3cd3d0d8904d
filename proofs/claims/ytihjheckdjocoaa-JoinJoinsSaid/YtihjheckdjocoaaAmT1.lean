/-
  The functions of this seat as the abstract machine runs them. Printed by a program of this project.
-/
import Derived.Test.YtihjheckdjocoaaAmCore
set_option maxRecDepth 100000
namespace Go.AM
open Go

/- redpencil/store.Of -/
def a44 : AFn := ⟨89, [.t 2, .t 3],
  .seq
  (.reg [⟨(some 2), .mv (.c .nils), none, none, false⟩,
     ⟨(some 3), .mv (.c (.int .i64 0)), none, none, false⟩])
  (.seq
   (.seq
    (.reg [⟨(some 19), .mv (.t 0), none, none, false⟩,
       ⟨(some 20), .call 45 false [(.t 19), (.f 46)], none, none, false⟩])
    (.cond (.t 20)
     (.seq
      (.reg [⟨(some 2), .mv (.c .nils), none, none, false⟩,
         ⟨(some 3), .mv (.c (.int .i64 2)), none, none, false⟩])
      (.ret))
     (.skip)))
   (.seq
    (.reg [⟨(some 21), .mkmap none, none, none, false⟩,
       ⟨(some 22), .mkmap none, none, none, false⟩,
       ⟨(some 4), .mv (.t 21), none, none, false⟩,
       ⟨(some 5), .mv (.t 22), none, none, false⟩])
    (.seq
     (.seq
      (.reg [⟨(some 23), .mv (.t 0), none, none, false⟩,
         ⟨(some 24), .len .sl (.t 23), none, none, false⟩,
         ⟨(some 25), .mv (.c (.int .i64 0)), none, none, false⟩])
      (.block 0 (.loop (.seq
         (.reg [⟨(some 26), .bin .lss .no (.t 25) (.t 24), none, none, false⟩])
         (.seq
          (.cond (.t 26)
           (.skip)
           (.exit 0))
          (.seq
           (.block 1 (.seq
             (.reg [⟨(some 27), .iad 6 (.t 23) (.t 25), none, none, false⟩,
                ⟨(some 28), .loadn 6 (.t 27), none, none, false⟩,
                ⟨(some 7), .alloc [(.int .i64 0), (.int .i64 0), (.int .i64 0), (.int .i64 0), (.int .i64 0), (.int .i32 0)], none, none, false⟩,
                ⟨none, .store 6 (.t 7) (.t 28), none, none, false⟩])
             (.seq
              (.seq
               (.reg [⟨(some 30), .mv (.t 5), none, none, false⟩,
                  ⟨(some 31), .fad 0 (.t 7), none, none, false⟩,
                  ⟨(some 32), .loadn 2 (.t 31), none, none, false⟩,
                  ⟨(some 33), .look (.agg [(.int .i64 0), (.int .i64 0), (.int .i64 0), (.int .i64 0), (.int .i64 0), (.int .i32 0)]) (.fl [.i, .i]) true (.t 30) (.t 32), none, none, false⟩,
                  ⟨(some 29), .mv (.t 33), none, none, false⟩,
                  ⟨(some 34), .ext (.t 29) 0, none, none, false⟩,
                  ⟨(some 35), .ext (.t 29) 1, none, none, false⟩,
                  ⟨(some 8), .alloc [(.int .i64 0), (.int .i64 0), (.int .i64 0), (.int .i64 0), (.int .i64 0), (.int .i32 0)], none, none, false⟩,
                  ⟨none, .store 6 (.t 8) (.t 34), none, none, false⟩,
                  ⟨(some 9), .mv (.t 35), none, none, false⟩])
               (.seq
                (.reg [⟨(some 36), .mv (.t 9), none, none, false⟩])
                (.cond (.t 36)
                 (.seq
                  (.reg [⟨(some 38), .loadn 6 (.t 8), none, none, false⟩,
                     ⟨(some 39), .loadn 6 (.t 7), none, none, false⟩,
                     ⟨(some 40), .call 31 false [(.t 38), (.t 39)], none, none, false⟩,
                     ⟨(some 37), .mv (.t 40), none, none, false⟩,
                     ⟨(some 41), .ext (.t 37) 0, none, none, false⟩,
                     ⟨(some 42), .ext (.t 37) 1, none, none, false⟩,
                     ⟨(some 10), .alloc [(.int .i64 0), (.int .i64 0), (.int .i64 0), (.int .i64 0), (.int .i64 0), (.int .i32 0)], none, none, false⟩,
                     ⟨none, .store 6 (.t 10) (.t 41), none, none, false⟩,
                     ⟨(some 11), .mv (.t 42), none, none, false⟩])
                  (.seq
                   (.reg [⟨(some 43), .mv (.t 11), none, none, false⟩,
                      ⟨(some 44), .bin .neq .no (.t 43) (.c (.int .i64 0)), none, none, false⟩])
                   (.cond (.t 44)
                    (.seq
                     (.reg [⟨(some 45), .mv (.t 11), none, none, false⟩,
                        ⟨(some 2), .mv (.c .nils), none, none, false⟩,
                        ⟨(some 3), .mv (.t 45), none, none, false⟩])
                     (.ret))
                    (.skip))))
                 (.skip))))
              (.seq
               (.seq
                (.reg [⟨(some 46), .loadn 6 (.t 7), none, none, false⟩,
                   ⟨(some 47), .call 43 false [(.t 46)], none, none, false⟩,
                   ⟨(some 48), .un .not (.t 47), none, none, false⟩])
                (.cond (.t 48)
                 (.reg [⟨(some 49), .mv (.t 5), none, none, false⟩,
                    ⟨(some 50), .fad 0 (.t 7), none, none, false⟩,
                    ⟨(some 51), .loadn 2 (.t 50), none, none, false⟩,
                    ⟨(some 52), .loadn 6 (.t 7), none, none, false⟩,
                    ⟨none, .mset (.fl [.i, .i]) (.t 49) (.t 51) (.t 52), none, none, false⟩])
                 (.skip)))
               (.seq
                (.seq
                 (.reg [⟨(some 54), .mv (.t 4), none, none, false⟩,
                    ⟨(some 55), .fad 0 (.t 7), none, none, false⟩,
                    ⟨(some 56), .loadn 2 (.t 55), none, none, false⟩,
                    ⟨(some 57), .look (.agg [(.int .i64 0), (.int .i64 0), (.int .i64 0), (.int .i64 0), (.int .i64 0), (.int .i32 0)]) (.fl [.i, .i]) true (.t 54) (.t 56), none, none, false⟩,
                    ⟨(some 53), .mv (.t 57), none, none, false⟩,
                    ⟨(some 58), .ext (.t 53) 0, none, none, false⟩,
                    ⟨(some 59), .ext (.t 53) 1, none, none, false⟩,
                    ⟨(some 12), .alloc [(.int .i64 0), (.int .i64 0), (.int .i64 0), (.int .i64 0), (.int .i64 0), (.int .i32 0)], none, none, false⟩,
                    ⟨none, .store 6 (.t 12) (.t 58), none, none, false⟩,
                    ⟨(some 13), .mv (.t 59), none, none, false⟩])
                 (.seq
                  (.reg [⟨(some 60), .mv (.t 13), none, none, false⟩])
                  (.cond (.t 60)
                   (.seq
                    (.reg [⟨(some 62), .loadn 6 (.t 12), none, none, false⟩,
                       ⟨(some 63), .loadn 6 (.t 7), none, none, false⟩,
                       ⟨(some 64), .call 31 false [(.t 62), (.t 63)], none, none, false⟩,
                       ⟨(some 61), .mv (.t 64), none, none, false⟩,
                       ⟨(some 65), .ext (.t 61) 0, none, none, false⟩,
                       ⟨(some 66), .ext (.t 61) 1, none, none, false⟩,
                       ⟨(some 14), .alloc [(.int .i64 0), (.int .i64 0), (.int .i64 0), (.int .i64 0), (.int .i64 0), (.int .i32 0)], none, none, false⟩,
                       ⟨none, .store 6 (.t 14) (.t 65), none, none, false⟩,
                       ⟨(some 15), .mv (.t 66), none, none, false⟩])
                    (.seq
                     (.seq
                      (.reg [⟨(some 67), .mv (.t 15), none, none, false⟩,
                         ⟨(some 68), .bin .neq .no (.t 67) (.c (.int .i64 0)), none, none, false⟩])
                      (.cond (.t 68)
                       (.seq
                        (.reg [⟨(some 69), .mv (.t 15), none, none, false⟩,
                           ⟨(some 2), .mv (.c .nils), none, none, false⟩,
                           ⟨(some 3), .mv (.t 69), none, none, false⟩])
                        (.ret))
                       (.skip)))
                     (.reg [⟨(some 70), .loadn 6 (.t 14), none, none, false⟩,
                        ⟨none, .store 6 (.t 7) (.t 70), none, none, false⟩])))
                   (.skip))))
                (.reg [⟨(some 71), .mv (.t 4), none, none, false⟩,
                   ⟨(some 72), .fad 0 (.t 7), none, none, false⟩,
                   ⟨(some 73), .loadn 2 (.t 72), none, none, false⟩,
                   ⟨(some 74), .loadn 6 (.t 7), none, none, false⟩,
                   ⟨none, .mset (.fl [.i, .i]) (.t 71) (.t 73) (.t 74), none, none, false⟩]))))))
           (.reg [⟨(some 75), .bin .add .no (.t 25) (.c (.int .i64 1)), none, none, false⟩,
              ⟨(some 25), .mv (.t 75), none, none, false⟩])))))))
     (.seq
      (.reg [⟨(some 16), .mv (.c .nils), none, none, false⟩])
      (.seq
       (.seq
        (.reg [⟨(some 76), .mv (.t 4), none, none, false⟩,
           ⟨(some 77), .rng (.t 76), none, none, false⟩])
        (.block 2 (.loop (.seq
           (.reg [⟨(some 78), .nxt (.t 77), none, none, false⟩,
              ⟨(some 79), .ext (.t 78) 0, none, none, false⟩])
           (.seq
            (.cond (.t 79)
             (.skip)
             (.exit 2))
            (.block 3 (.seq
              (.reg [⟨(some 80), .ent (.t 77), none, none, false⟩,
                 ⟨(some 81), .ext (.t 80) 1, none, none, false⟩,
                 ⟨(some 18), .alloc [(.int .i64 0), (.int .i64 0), (.int .i64 0), (.int .i64 0), (.int .i64 0), (.int .i32 0)], none, none, false⟩,
                 ⟨none, .store 6 (.t 18) (.t 81), none, none, false⟩])
              (.reg [⟨(some 82), .mv (.t 16), none, none, false⟩,
                 ⟨(some 83), .loadn 6 (.t 18), none, none, false⟩,
                 ⟨(some 84), .bsl [(.int .i64 0), (.int .i64 0), (.int .i64 0), (.int .i64 0), (.int .i64 0), (.int .i32 0)] 1 6 [(0, (.t 83))], none, none, false⟩,
                 ⟨(some 85), .app 6 48 [(.int .i64 0), (.int .i64 0), (.int .i64 0), (.int .i64 0), (.int .i64 0), (.int .i32 0)] (.t 82) (.t 84), none, none, false⟩,
                 ⟨(some 16), .mv (.t 85), none, none, false⟩]))))))))
       (.seq
        (.reg [⟨(some 86), .mv (.t 16), none, none, false⟩,
           ⟨(some 87), .call 54 false [(.t 86), (.f 55)], none, none, false⟩])
        (.seq
         (.reg [⟨(some 88), .mv (.t 16), none, none, false⟩,
            ⟨(some 2), .mv (.t 88), none, none, false⟩,
            ⟨(some 3), .mv (.c (.int .i64 0)), none, none, false⟩])
         (.ret))))))))⟩

/- slices.ContainsFunc[[]redpencil/api.Node,redpencil/api.Node] -/
def a45 : AFn := ⟨9, [.t 4],
  .seq
  (.reg [⟨(some 4), .mv (.c (.bool false)), none, none, false⟩])
  (.seq
   (.reg [⟨(some 5), .mv (.t 0), none, none, false⟩,
      ⟨(some 6), .mv (.t 1), none, none, false⟩,
      ⟨(some 7), .call 56 false [(.t 5), (.t 6)], none, none, false⟩,
      ⟨(some 8), .bin .geq .no (.t 7) (.c (.int .i64 0)), none, none, false⟩,
      ⟨(some 4), .mv (.t 8), none, none, false⟩])
   (.ret))⟩

/- redpencil/store.invalid -/
def a46 : AFn := ⟨6, [.t 2],
  .seq
  (.reg [⟨(some 1), .box 6 (.t 0), none, none, false⟩,
     ⟨(some 2), .mv (.c (.bool false)), none, none, false⟩])
  (.seq
   (.reg [⟨(some 3), .loadn 6 (.t 1), none, none, false⟩,
      ⟨(some 4), .call 41 false [(.t 3)], none, none, false⟩,
      ⟨(some 5), .un .not (.t 4), none, none, false⟩,
      ⟨(some 2), .mv (.t 5), none, none, false⟩])
   (.ret))⟩

/- redpencil/dot.IsSet -/
def a47 : AFn := ⟨21, [.t 2],
  .seq
  (.reg [⟨(some 2), .mv (.c (.bool false)), none, none, false⟩])
  (.seq
   (.seq
    (.reg [⟨(some 3), .mv (.c (.int .i64 1)), none, none, false⟩])
    (.block 0 (.loop (.seq
       (.seq
        (.reg [⟨(some 4), .mv (.t 3), none, none, false⟩,
           ⟨(some 5), .mv (.t 0), none, none, false⟩,
           ⟨(some 6), .len .sl (.t 5), none, none, false⟩,
           ⟨(some 7), .bin .lss .no (.t 4) (.t 6), none, none, false⟩])
        (.cond (.t 7)
         (.skip)
         (.exit 0)))
       (.seq
        (.block 1 (.seq
          (.regd 0 [⟨(some 10), .mv (.t 0), none, none, false⟩,
             ⟨(some 11), .mv (.t 3), none, none, false⟩,
             ⟨(some 12), .bin .sub .no (.t 11) (.c (.int .i64 1)), none, none, false⟩,
             ⟨(some 13), .iad 2 (.t 10) (.t 12), none, none, false⟩,
             ⟨(some 14), .loadn 2 (.t 13), none, none, false⟩,
             ⟨(some 15), .mv (.t 0), none, none, false⟩,
             ⟨(some 16), .mv (.t 3), none, none, false⟩,
             ⟨(some 17), .iad 2 (.t 15) (.t 16), none, none, false⟩,
             ⟨(some 18), .loadn 2 (.t 17), none, none, false⟩,
             ⟨(some 19), .call 30 false [(.t 14), (.t 18)], none, none, false⟩,
             ⟨(some 20), .bin .geq .no (.t 19) (.c (.int .i64 0)), none, none, false⟩])
          (.cond (.t 20)
           (.seq
            (.reg [⟨(some 2), .mv (.c (.bool false)), none, none, false⟩])
            (.ret))
           (.skip))))
        (.reg [⟨(some 8), .mv (.t 3), none, none, false⟩,
           ⟨(some 9), .bin .add .no (.t 8) (.c (.int .i64 1)), none, none, false⟩,
           ⟨(some 3), .mv (.t 9), none, none, false⟩]))))))
   (.seq
    (.reg [⟨(some 2), .mv (.c (.bool true)), none, none, false⟩])
    (.ret)))⟩

/- redpencil/store.dots -/
def a48 : AFn := ⟨19, [.t 2],
  .seq
  (.reg [⟨(some 2), .mv (.c .nils), none, none, false⟩])
  (.seq
   (.reg [⟨(some 3), .mv (.c .nils), none, none, false⟩])
   (.seq
    (.seq
     (.reg [⟨(some 6), .mv (.t 0), none, none, false⟩,
        ⟨(some 7), .len .sl (.t 6), none, none, false⟩,
        ⟨(some 8), .mv (.c (.int .i64 0)), none, none, false⟩])
     (.block 0 (.loop (.seq
        (.reg [⟨(some 9), .bin .lss .no (.t 8) (.t 7), none, none, false⟩])
        (.seq
         (.cond (.t 9)
          (.skip)
          (.exit 0))
         (.seq
          (.block 1 (.seq
            (.reg [⟨(some 10), .iad 6 (.t 6) (.t 8), none, none, false⟩,
               ⟨(some 11), .loadn 6 (.t 10), none, none, false⟩,
               ⟨(some 5), .alloc [(.int .i64 0), (.int .i64 0), (.int .i64 0), (.int .i64 0), (.int .i64 0), (.int .i32 0)], none, none, false⟩,
               ⟨none, .store 6 (.t 5) (.t 11), none, none, false⟩])
            (.reg [⟨(some 12), .mv (.t 3), none, none, false⟩,
               ⟨(some 13), .fad 0 (.t 5), none, none, false⟩,
               ⟨(some 14), .loadn 2 (.t 13), none, none, false⟩,
               ⟨(some 15), .bsl [(.int .i64 0), (.int .i64 0)] 1 2 [(0, (.t 14))], none, none, false⟩,
               ⟨(some 16), .app 2 16 [(.int .i64 0), (.int .i64 0)] (.t 12) (.t 15), none, none, false⟩,
               ⟨(some 3), .mv (.t 16), none, none, false⟩])))
          (.reg [⟨(some 17), .bin .add .no (.t 8) (.c (.int .i64 1)), none, none, false⟩,
             ⟨(some 8), .mv (.t 17), none, none, false⟩])))))))
    (.seq
     (.reg [⟨(some 18), .mv (.t 3), none, none, false⟩,
        ⟨(some 2), .mv (.t 18), none, none, false⟩])
     (.ret))))⟩

/- slices.Equal[[]redpencil/api.Node,redpencil/api.Node] -/
def a49 : AFn := ⟨26, [.t 4],
  .seq
  (.reg [⟨(some 4), .mv (.c (.bool false)), none, none, false⟩])
  (.seq
   (.seq
    (.reg [⟨(some 6), .mv (.t 0), none, none, false⟩,
       ⟨(some 7), .len .sl (.t 6), none, none, false⟩,
       ⟨(some 8), .mv (.t 1), none, none, false⟩,
       ⟨(some 9), .len .sl (.t 8), none, none, false⟩,
       ⟨(some 10), .bin .neq .no (.t 7) (.t 9), none, none, false⟩])
    (.cond (.t 10)
     (.seq
      (.reg [⟨(some 4), .mv (.c (.bool false)), none, none, false⟩])
      (.ret))
     (.skip)))
   (.seq
    (.seq
     (.reg [⟨(some 11), .mv (.t 0), none, none, false⟩,
        ⟨(some 12), .len .sl (.t 11), none, none, false⟩,
        ⟨(some 13), .mv (.c (.int .i64 0)), none, none, false⟩])
     (.block 0 (.loop (.seq
        (.reg [⟨(some 14), .bin .lss .no (.t 13) (.t 12), none, none, false⟩])
        (.seq
         (.cond (.t 14)
          (.skip)
          (.exit 0))
         (.seq
          (.block 1 (.seq
            (.reg [⟨(some 15), .mv (.t 13), none, none, false⟩,
               ⟨(some 5), .mv (.t 15), none, none, false⟩])
            (.seq
             (.regd 0 [⟨(some 16), .mv (.t 0), none, none, false⟩,
                ⟨(some 17), .mv (.t 5), none, none, false⟩,
                ⟨(some 18), .iad 6 (.t 16) (.t 17), none, none, false⟩,
                ⟨(some 19), .loadn 6 (.t 18), none, none, false⟩,
                ⟨(some 20), .mv (.t 1), none, none, false⟩,
                ⟨(some 21), .mv (.t 5), none, none, false⟩,
                ⟨(some 22), .iad 6 (.t 20) (.t 21), none, none, false⟩,
                ⟨(some 23), .loadn 6 (.t 22), none, none, false⟩,
                ⟨(some 24), .bin .neq (.fl [.i, .i, .i, .i, .i, .i]) (.t 19) (.t 23), none, none, false⟩])
             (.cond (.t 24)
              (.seq
               (.reg [⟨(some 4), .mv (.c (.bool false)), none, none, false⟩])
               (.ret))
              (.skip)))))
          (.reg [⟨(some 25), .bin .add .no (.t 13) (.c (.int .i64 1)), none, none, false⟩,
             ⟨(some 13), .mv (.t 25), none, none, false⟩])))))))
    (.seq
     (.reg [⟨(some 4), .mv (.c (.bool true)), none, none, false⟩])
     (.ret))))⟩

/- cmp.isNaN[int] -/
def a50 : AFn := ⟨6, [.t 2],
  .seq
  (.reg [⟨(some 2), .mv (.c (.bool false)), none, none, false⟩])
  (.seq
   (.reg [⟨(some 3), .mv (.t 0), none, none, false⟩,
      ⟨(some 4), .mv (.t 0), none, none, false⟩,
      ⟨(some 5), .bin .neq .no (.t 3) (.t 4), none, none, false⟩,
      ⟨(some 2), .mv (.t 5), none, none, false⟩])
   (.ret))⟩

/- redpencil/dot.Valid -/
def a51 : AFn := ⟨21, [.t 2],
  .seq
  (.reg [⟨(some 1), .box 2 (.t 0), none, none, false⟩,
     ⟨(some 2), .mv (.c (.bool false)), none, none, false⟩])
  (.seq
   (.reg [⟨(some 3), .fad 0 (.t 1), none, none, false⟩,
      ⟨(some 4), .load1 (.t 3), none, none, false⟩,
      ⟨(some 5), .bin .geq .no (.t 4) (.c (.int .i64 1)), none, none, false⟩,
      ⟨(some 6), .mv (.t 5), none, none, false⟩,
      ⟨(some 7), .fad 0 (.t 1), (some (6, true)), none, false⟩,
      ⟨(some 8), .load1 (.t 7), (some (6, true)), none, false⟩,
      ⟨(some 9), .bin .leq .no (.t 8) (.c (.int .i64 64)), (some (6, true)), none, false⟩,
      ⟨(some 10), .pick (.t 6) (.t 9) (.c (.bool false)), none, none, false⟩,
      ⟨(some 11), .mv (.t 10), none, none, false⟩,
      ⟨(some 12), .fad 1 (.t 1), (some (11, true)), none, false⟩,
      ⟨(some 13), .load1 (.t 12), (some (11, true)), none, false⟩,
      ⟨(some 14), .bin .geq .no (.t 13) (.c (.int .i64 1)), (some (11, true)), none, false⟩,
      ⟨(some 15), .pick (.t 11) (.t 14) (.c (.bool false)), none, none, false⟩,
      ⟨(some 16), .mv (.t 15), none, none, false⟩,
      ⟨(some 17), .fad 1 (.t 1), (some (16, true)), none, false⟩,
      ⟨(some 18), .load1 (.t 17), (some (16, true)), none, false⟩,
      ⟨(some 19), .bin .leq .no (.t 18) (.c (.int .i64 4294967295)), (some (16, true)), none, false⟩,
      ⟨(some 20), .pick (.t 16) (.t 19) (.c (.bool false)), none, none, false⟩,
      ⟨(some 2), .mv (.t 20), none, none, false⟩])
   (.ret))⟩

/- redpencil/dot.Root -/
def a52 : AFn := ⟨6, [.t 2],
  .seq
  (.reg [⟨(some 1), .box 2 (.t 0), none, none, false⟩,
     ⟨(some 2), .mv (.c (.bool false)), none, none, false⟩])
  (.seq
   (.reg [⟨(some 3), .loadn 2 (.t 1), none, none, false⟩,
      ⟨(some 4), .build [(.int .i64 0), (.int .i64 0)] [], none, none, false⟩,
      ⟨(some 5), .bin .eql (.fl [.i, .i]) (.t 3) (.t 4), none, none, false⟩,
      ⟨(some 2), .mv (.t 5), none, none, false⟩])
   (.ret))⟩

/- redpencil/runes.Valid -/
def a53 : AFn := ⟨9, [.t 2],
  .seq
  (.reg [⟨(some 2), .mv (.c (.bool false)), none, none, false⟩])
  (.seq
   (.reg [⟨(some 3), .mv (.t 0), none, none, false⟩,
      ⟨(some 4), .bin .neq .no (.t 3) (.c (.int .i32 0)), none, none, false⟩,
      ⟨(some 5), .mv (.t 4), none, none, false⟩,
      ⟨(some 6), .mv (.t 0), (some (5, true)), none, false⟩,
      ⟨(some 7), .call 57 false [(.t 6)], (some (5, true)), none, false⟩,
      ⟨(some 8), .pick (.t 5) (.t 7) (.c (.bool false)), none, none, false⟩,
      ⟨(some 2), .mv (.t 8), none, none, false⟩])
   (.ret))⟩

/- slices.SortFunc[[]redpencil/api.Node,redpencil/api.Node] -/
def a54 : AFn := ⟨14, [],
  .seq
  (.reg [⟨(some 5), .mv (.t 0), none, none, false⟩,
     ⟨(some 6), .len .sl (.t 5), none, none, false⟩,
     ⟨(some 4), .mv (.t 6), none, none, false⟩])
  (.reg [⟨(some 7), .mv (.t 0), none, none, false⟩,
     ⟨(some 8), .mv (.t 4), none, none, false⟩,
     ⟨(some 9), .mv (.t 4), none, none, false⟩,
     ⟨(some 10), .conv .u64 (.t 9), none, none, false⟩,
     ⟨(some 11), .call 59 false [(.t 10)], none, none, false⟩,
     ⟨(some 12), .mv (.t 1), none, none, false⟩,
     ⟨(some 13), .call 58 false [(.t 7), (.c (.int .i64 0)), (.t 8), (.t 11), (.t 12)], none, none, false⟩])⟩

/- redpencil/store.Of$1 -/
def a55 : AFn := ⟨10, [.t 4],
  .seq
  (.reg [⟨(some 2), .box 6 (.t 0), none, none, false⟩,
     ⟨(some 3), .box 6 (.t 1), none, none, false⟩,
     ⟨(some 4), .mv (.c (.int .i64 0)), none, none, false⟩])
  (.seq
   (.reg [⟨(some 5), .fad 0 (.t 2), none, none, false⟩,
      ⟨(some 6), .loadn 2 (.t 5), none, none, false⟩,
      ⟨(some 7), .fad 0 (.t 3), none, none, false⟩,
      ⟨(some 8), .loadn 2 (.t 7), none, none, false⟩,
      ⟨(some 9), .call 30 false [(.t 6), (.t 8)], none, none, false⟩,
      ⟨(some 4), .mv (.t 9), none, none, false⟩])
   (.ret))⟩

/- slices.IndexFunc[[]redpencil/api.Node,redpencil/api.Node] -/
def a56 : AFn := ⟨19, [.t 4],
  .seq
  (.reg [⟨(some 4), .mv (.c (.int .i64 0)), none, none, false⟩])
  (.seq
   (.seq
    (.reg [⟨(some 6), .mv (.t 0), none, none, false⟩,
       ⟨(some 7), .len .sl (.t 6), none, none, false⟩,
       ⟨(some 8), .mv (.c (.int .i64 0)), none, none, false⟩])
    (.block 0 (.loop (.seq
       (.reg [⟨(some 9), .bin .lss .no (.t 8) (.t 7), none, none, false⟩])
       (.seq
        (.cond (.t 9)
         (.skip)
         (.exit 0))
        (.seq
         (.block 1 (.seq
           (.reg [⟨(some 10), .mv (.t 8), none, none, false⟩,
              ⟨(some 5), .mv (.t 10), none, none, false⟩])
           (.seq
            (.reg [⟨(some 11), .mv (.t 1), none, none, false⟩,
               ⟨(some 12), .mv (.t 0), none, none, false⟩,
               ⟨(some 13), .mv (.t 5), none, none, false⟩,
               ⟨(some 14), .iad 6 (.t 12) (.t 13), none, none, false⟩,
               ⟨(some 15), .loadn 6 (.t 14), none, none, false⟩,
               ⟨(some 16), .callv (.t 11) false [(.t 15)], none, none, false⟩])
            (.cond (.t 16)
             (.seq
              (.reg [⟨(some 17), .mv (.t 5), none, none, false⟩,
                 ⟨(some 4), .mv (.t 17), none, none, false⟩])
              (.ret))
             (.skip)))))
         (.reg [⟨(some 18), .bin .add .no (.t 8) (.c (.int .i64 1)), none, none, false⟩,
            ⟨(some 8), .mv (.t 18), none, none, false⟩])))))))
   (.seq
    (.reg [⟨(some 4), .mv (.c (.int .i64 (-1))), none, none, false⟩])
    (.ret)))⟩

/- unicode/utf8.ValidRune -/
def a57 : AFn := ⟨17, [.t 2],
  .seq
  (.reg [⟨(some 2), .mv (.c (.bool false)), none, none, false⟩])
  (.seq
   (.block 0 (.seq
     (.reg [⟨(some 4), .mv (.t 0), none, none, false⟩,
        ⟨(some 5), .bin .leq .no (.c (.int .i32 0)) (.t 4), none, none, false⟩,
        ⟨(some 6), .mv (.t 5), none, none, false⟩,
        ⟨(some 7), .mv (.t 0), (some (6, true)), none, false⟩,
        ⟨(some 8), .bin .lss .no (.t 7) (.c (.int .i32 55296)), (some (6, true)), none, false⟩,
        ⟨(some 9), .pick (.t 6) (.t 8) (.c (.bool false)), none, none, false⟩,
        ⟨(some 3), .mv (.t 9), none, none, false⟩])
     (.cond (.t 3)
      (.seq
       (.reg [⟨(some 2), .mv (.c (.bool true)), none, none, false⟩])
       (.ret))
      (.seq
       (.reg [⟨(some 11), .mv (.t 0), none, none, false⟩,
          ⟨(some 12), .bin .lss .no (.c (.int .i32 57343)) (.t 11), none, none, false⟩,
          ⟨(some 13), .mv (.t 12), none, none, false⟩,
          ⟨(some 14), .mv (.t 0), (some (13, true)), none, false⟩,
          ⟨(some 15), .bin .leq .no (.t 14) (.c (.int .i32 1114111)), (some (13, true)), none, false⟩,
          ⟨(some 16), .pick (.t 13) (.t 15) (.c (.bool false)), none, none, false⟩,
          ⟨(some 10), .mv (.t 16), none, none, false⟩])
       (.cond (.t 10)
        (.seq
         (.reg [⟨(some 2), .mv (.c (.bool true)), none, none, false⟩])
         (.ret))
        (.skip))))))
   (.seq
    (.reg [⟨(some 2), .mv (.c (.bool false)), none, none, false⟩])
    (.ret)))⟩

/- slices.pdqsortCmpFunc[redpencil/api.Node] -/
def a58 : AFn := ⟨148, [],
  .seq
  (.reg [⟨(some 10), .mv (.c (.bool true)), none, none, false⟩])
  (.seq
   (.reg [⟨(some 11), .mv (.c (.bool true)), none, none, false⟩])
   (.block 0 (.loop (.block 1 (.seq
       (.reg [⟨(some 21), .mv (.t 2), none, none, false⟩,
          ⟨(some 22), .mv (.t 1), none, none, false⟩,
          ⟨(some 23), .bin .sub .no (.t 21) (.t 22), none, none, false⟩,
          ⟨(some 12), .mv (.t 23), none, none, false⟩])
       (.seq
        (.seq
         (.reg [⟨(some 24), .mv (.t 12), none, none, false⟩,
            ⟨(some 25), .bin .leq .no (.t 24) (.c (.int .i64 12)), none, none, false⟩])
         (.cond (.t 25)
          (.seq
           (.reg [⟨(some 26), .mv (.t 0), none, none, false⟩,
              ⟨(some 27), .mv (.t 1), none, none, false⟩,
              ⟨(some 28), .mv (.t 2), none, none, false⟩,
              ⟨(some 29), .mv (.t 4), none, none, false⟩,
              ⟨(some 30), .call 60 false [(.t 26), (.t 27), (.t 28), (.t 29)], none, none, false⟩])
           (.ret))
          (.skip)))
        (.seq
         (.seq
          (.reg [⟨(some 31), .mv (.t 3), none, none, false⟩,
             ⟨(some 32), .bin .eql .no (.t 31) (.c (.int .i64 0)), none, none, false⟩])
          (.cond (.t 32)
           (.seq
            (.reg [⟨(some 33), .mv (.t 0), none, none, false⟩,
               ⟨(some 34), .mv (.t 1), none, none, false⟩,
               ⟨(some 35), .mv (.t 2), none, none, false⟩,
               ⟨(some 36), .mv (.t 4), none, none, false⟩,
               ⟨(some 37), .call 61 false [(.t 33), (.t 34), (.t 35), (.t 36)], none, none, false⟩])
            (.ret))
           (.skip)))
         (.seq
          (.seq
           (.reg [⟨(some 38), .mv (.t 10), none, none, false⟩,
              ⟨(some 39), .un .not (.t 38), none, none, false⟩])
           (.cond (.t 39)
            (.seq
             (.reg [⟨(some 40), .mv (.t 0), none, none, false⟩,
                ⟨(some 41), .mv (.t 1), none, none, false⟩,
                ⟨(some 42), .mv (.t 2), none, none, false⟩,
                ⟨(some 43), .mv (.t 4), none, none, false⟩,
                ⟨(some 44), .call 62 false [(.t 40), (.t 41), (.t 42), (.t 43)], none, none, false⟩])
             (.reg [⟨(some 45), .mv (.t 3), none, none, false⟩,
                ⟨(some 46), .bin .sub .no (.t 45) (.c (.int .i64 1)), none, none, false⟩,
                ⟨(some 3), .mv (.t 46), none, none, false⟩]))
            (.skip)))
          (.seq
           (.reg [⟨(some 48), .mv (.t 0), none, none, false⟩,
              ⟨(some 49), .mv (.t 1), none, none, false⟩,
              ⟨(some 50), .mv (.t 2), none, none, false⟩,
              ⟨(some 51), .mv (.t 4), none, none, false⟩,
              ⟨(some 52), .call 63 false [(.t 48), (.t 49), (.t 50), (.t 51)], none, none, false⟩,
              ⟨(some 47), .mv (.t 52), none, none, false⟩,
              ⟨(some 53), .ext (.t 47) 0, none, none, false⟩,
              ⟨(some 54), .ext (.t 47) 1, none, none, false⟩,
              ⟨(some 13), .mv (.t 53), none, none, false⟩,
              ⟨(some 14), .mv (.t 54), none, none, false⟩])
           (.seq
            (.seq
             (.reg [⟨(some 55), .mv (.t 14), none, none, false⟩,
                ⟨(some 56), .bin .eql .no (.t 55) (.c (.int .i64 2)), none, none, false⟩])
             (.cond (.t 56)
              (.seq
               (.reg [⟨(some 57), .mv (.t 0), none, none, false⟩,
                  ⟨(some 58), .mv (.t 1), none, none, false⟩,
                  ⟨(some 59), .mv (.t 2), none, none, false⟩,
                  ⟨(some 60), .mv (.t 4), none, none, false⟩,
                  ⟨(some 61), .call 64 false [(.t 57), (.t 58), (.t 59), (.t 60)], none, none, false⟩])
               (.seq
                (.reg [⟨(some 62), .mv (.t 2), none, none, false⟩,
                   ⟨(some 63), .bin .sub .no (.t 62) (.c (.int .i64 1)), none, none, false⟩,
                   ⟨(some 64), .mv (.t 13), none, none, false⟩,
                   ⟨(some 65), .mv (.t 1), none, none, false⟩,
                   ⟨(some 66), .bin .sub .no (.t 64) (.t 65), none, none, false⟩,
                   ⟨(some 67), .bin .sub .no (.t 63) (.t 66), none, none, false⟩,
                   ⟨(some 13), .mv (.t 67), none, none, false⟩])
                (.reg [⟨(some 14), .mv (.c (.int .i64 1)), none, none, false⟩])))
              (.skip)))
            (.seq
             (.seq
              (.reg [⟨(some 68), .mv (.t 10), none, none, false⟩,
                 ⟨(some 69), .mv (.t 68), none, none, false⟩,
                 ⟨(some 70), .mv (.t 11), (some (69, true)), none, false⟩,
                 ⟨(some 71), .pick (.t 69) (.t 70) (.c (.bool false)), none, none, false⟩,
                 ⟨(some 72), .mv (.t 71), none, none, false⟩,
                 ⟨(some 73), .mv (.t 14), (some (72, true)), none, false⟩,
                 ⟨(some 74), .bin .eql .no (.t 73) (.c (.int .i64 1)), (some (72, true)), none, false⟩,
                 ⟨(some 75), .pick (.t 72) (.t 74) (.c (.bool false)), none, none, false⟩])
              (.cond (.t 75)
               (.seq
                (.reg [⟨(some 76), .mv (.t 0), none, none, false⟩,
                   ⟨(some 77), .mv (.t 1), none, none, false⟩,
                   ⟨(some 78), .mv (.t 2), none, none, false⟩,
                   ⟨(some 79), .mv (.t 4), none, none, false⟩,
                   ⟨(some 80), .call 65 false [(.t 76), (.t 77), (.t 78), (.t 79)], none, none, false⟩])
                (.cond (.t 80)
                 (.ret)
                 (.skip)))
               (.skip)))
             (.seq
              (.seq
               (.regd 0 [⟨(some 81), .mv (.t 1), none, none, false⟩,
                  ⟨(some 82), .bin .gtr .no (.t 81) (.c (.int .i64 0)), none, none, false⟩,
                  ⟨(some 83), .mv (.t 82), none, none, false⟩,
                  ⟨(some 84), .mv (.t 4), (some (83, true)), none, false⟩,
                  ⟨(some 85), .mv (.t 0), (some (83, true)), none, false⟩,
                  ⟨(some 86), .mv (.t 1), (some (83, true)), none, false⟩,
                  ⟨(some 87), .bin .sub .no (.t 86) (.c (.int .i64 1)), (some (83, true)), none, false⟩,
                  ⟨(some 88), .iad 6 (.t 85) (.t 87), (some (83, true)), none, false⟩,
                  ⟨(some 89), .loadn 6 (.t 88), (some (83, true)), none, false⟩,
                  ⟨(some 90), .mv (.t 0), (some (83, true)), none, false⟩,
                  ⟨(some 91), .mv (.t 13), (some (83, true)), none, false⟩,
                  ⟨(some 92), .iad 6 (.t 90) (.t 91), (some (83, true)), none, false⟩,
                  ⟨(some 93), .loadn 6 (.t 92), (some (83, true)), none, false⟩,
                  ⟨(some 94), .callv (.t 84) false [(.t 89), (.t 93)], (some (83, true)), none, false⟩,
                  ⟨(some 95), .bin .lss .no (.t 94) (.c (.int .i64 0)), (some (83, true)), none, false⟩,
                  ⟨(some 96), .un .not (.t 95), (some (83, true)), none, false⟩,
                  ⟨(some 97), .pick (.t 83) (.t 96) (.c (.bool false)), none, none, false⟩])
               (.cond (.t 97)
                (.seq
                 (.reg [⟨(some 98), .mv (.t 0), none, none, false⟩,
                    ⟨(some 99), .mv (.t 1), none, none, false⟩,
                    ⟨(some 100), .mv (.t 2), none, none, false⟩,
                    ⟨(some 101), .mv (.t 13), none, none, false⟩,
                    ⟨(some 102), .mv (.t 4), none, none, false⟩,
                    ⟨(some 103), .call 66 false [(.t 98), (.t 99), (.t 100), (.t 101), (.t 102)], none, none, false⟩,
                    ⟨(some 15), .mv (.t 103), none, none, false⟩])
                 (.seq
                  (.reg [⟨(some 104), .mv (.t 15), none, none, false⟩,
                     ⟨(some 1), .mv (.t 104), none, none, false⟩])
                  (.exit 1)))
                (.skip)))
              (.seq
               (.reg [⟨(some 106), .mv (.t 0), none, none, false⟩,
                  ⟨(some 107), .mv (.t 1), none, none, false⟩,
                  ⟨(some 108), .mv (.t 2), none, none, false⟩,
                  ⟨(some 109), .mv (.t 13), none, none, false⟩,
                  ⟨(some 110), .mv (.t 4), none, none, false⟩,
                  ⟨(some 111), .call 67 false [(.t 106), (.t 107), (.t 108), (.t 109), (.t 110)], none, none, false⟩,
                  ⟨(some 105), .mv (.t 111), none, none, false⟩,
                  ⟨(some 112), .ext (.t 105) 0, none, none, false⟩,
                  ⟨(some 113), .ext (.t 105) 1, none, none, false⟩,
                  ⟨(some 16), .mv (.t 112), none, none, false⟩,
                  ⟨(some 17), .mv (.t 113), none, none, false⟩])
               (.seq
                (.reg [⟨(some 114), .mv (.t 17), none, none, false⟩,
                   ⟨(some 11), .mv (.t 114), none, none, false⟩])
                (.seq
                 (.reg [⟨(some 115), .mv (.t 16), none, none, false⟩,
                    ⟨(some 116), .mv (.t 1), none, none, false⟩,
                    ⟨(some 117), .bin .sub .no (.t 115) (.t 116), none, none, false⟩,
                    ⟨(some 118), .mv (.t 2), none, none, false⟩,
                    ⟨(some 119), .mv (.t 16), none, none, false⟩,
                    ⟨(some 120), .bin .sub .no (.t 118) (.t 119), none, none, false⟩,
                    ⟨(some 18), .mv (.t 117), none, none, false⟩,
                    ⟨(some 19), .mv (.t 120), none, none, false⟩])
                 (.seq
                  (.reg [⟨(some 121), .mv (.t 12), none, none, false⟩,
                     ⟨(some 122), .bin .quo .no (.t 121) (.c (.int .i64 8)), none, none, false⟩,
                     ⟨(some 20), .mv (.t 122), none, none, false⟩])
                  (.seq
                   (.reg [⟨(some 123), .mv (.t 18), none, none, false⟩,
                      ⟨(some 124), .mv (.t 19), none, none, false⟩,
                      ⟨(some 125), .bin .lss .no (.t 123) (.t 124), none, none, false⟩])
                   (.cond (.t 125)
                    (.seq
                     (.reg [⟨(some 126), .mv (.t 18), none, none, false⟩,
                        ⟨(some 127), .mv (.t 20), none, none, false⟩,
                        ⟨(some 128), .bin .geq .no (.t 126) (.t 127), none, none, false⟩,
                        ⟨(some 10), .mv (.t 128), none, none, false⟩])
                     (.seq
                      (.reg [⟨(some 129), .mv (.t 0), none, none, false⟩,
                         ⟨(some 130), .mv (.t 1), none, none, false⟩,
                         ⟨(some 131), .mv (.t 16), none, none, false⟩,
                         ⟨(some 132), .mv (.t 3), none, none, false⟩,
                         ⟨(some 133), .mv (.t 4), none, none, false⟩,
                         ⟨(some 134), .call 58 false [(.t 129), (.t 130), (.t 131), (.t 132), (.t 133)], none, none, false⟩])
                      (.reg [⟨(some 135), .mv (.t 16), none, none, false⟩,
                         ⟨(some 136), .bin .add .no (.t 135) (.c (.int .i64 1)), none, none, false⟩,
                         ⟨(some 1), .mv (.t 136), none, none, false⟩])))
                    (.seq
                     (.reg [⟨(some 137), .mv (.t 19), none, none, false⟩,
                        ⟨(some 138), .mv (.t 20), none, none, false⟩,
                        ⟨(some 139), .bin .geq .no (.t 137) (.t 138), none, none, false⟩,
                        ⟨(some 10), .mv (.t 139), none, none, false⟩])
                     (.seq
                      (.reg [⟨(some 140), .mv (.t 0), none, none, false⟩,
                         ⟨(some 141), .mv (.t 16), none, none, false⟩,
                         ⟨(some 142), .bin .add .no (.t 141) (.c (.int .i64 1)), none, none, false⟩,
                         ⟨(some 143), .mv (.t 2), none, none, false⟩,
                         ⟨(some 144), .mv (.t 3), none, none, false⟩,
                         ⟨(some 145), .mv (.t 4), none, none, false⟩,
                         ⟨(some 146), .call 58 false [(.t 140), (.t 142), (.t 143), (.t 144), (.t 145)], none, none, false⟩])
                      (.reg [⟨(some 147), .mv (.t 16), none, none, false⟩,
                         ⟨(some 2), .mv (.t 147), none, none, false⟩])))))))))))))))))))))⟩

/- math/bits.Len -/
def a59 : AFn := ⟨8, [.t 2],
  .seq
  (.reg [⟨(some 2), .mv (.c (.int .i64 0)), none, none, false⟩])
  (.seq
   (.cond (.c (.bool false))
    (.seq
     (.reg [⟨(some 3), .mv (.t 0), none, none, false⟩,
        ⟨(some 4), .conv .u32 (.t 3), none, none, false⟩,
        ⟨(some 5), .call 68 false [(.t 4)], none, none, false⟩,
        ⟨(some 2), .mv (.t 5), none, none, false⟩])
     (.ret))
    (.skip))
   (.seq
    (.reg [⟨(some 6), .mv (.t 0), none, none, false⟩,
       ⟨(some 7), .call 69 false [(.t 6)], none, none, false⟩,
       ⟨(some 2), .mv (.t 7), none, none, false⟩])
    (.ret)))⟩

/- slices.insertionSortCmpFunc[redpencil/api.Node] -/
def a60 : AFn := ⟨53, [],
  .seq
  (.reg [⟨(some 10), .mv (.t 1), none, none, false⟩,
     ⟨(some 11), .bin .add .no (.t 10) (.c (.int .i64 1)), none, none, false⟩,
     ⟨(some 8), .mv (.t 11), none, none, false⟩])
  (.block 0 (.loop (.seq
     (.seq
      (.reg [⟨(some 12), .mv (.t 8), none, none, false⟩,
         ⟨(some 13), .mv (.t 2), none, none, false⟩,
         ⟨(some 14), .bin .lss .no (.t 12) (.t 13), none, none, false⟩])
      (.cond (.t 14)
       (.skip)
       (.exit 0)))
     (.seq
      (.block 1 (.seq
        (.reg [⟨(some 17), .mv (.t 8), none, none, false⟩,
           ⟨(some 9), .mv (.t 17), none, none, false⟩])
        (.block 2 (.loop (.seq
           (.seq
            (.regd 0 [⟨(some 18), .mv (.t 9), none, none, false⟩,
               ⟨(some 19), .mv (.t 1), none, none, false⟩,
               ⟨(some 20), .bin .gtr .no (.t 18) (.t 19), none, none, false⟩,
               ⟨(some 21), .mv (.t 20), none, none, false⟩,
               ⟨(some 22), .mv (.t 3), (some (21, true)), none, false⟩,
               ⟨(some 23), .mv (.t 0), (some (21, true)), none, false⟩,
               ⟨(some 24), .mv (.t 9), (some (21, true)), none, false⟩,
               ⟨(some 25), .iad 6 (.t 23) (.t 24), (some (21, true)), none, false⟩,
               ⟨(some 26), .loadn 6 (.t 25), (some (21, true)), none, false⟩,
               ⟨(some 27), .mv (.t 0), (some (21, true)), none, false⟩,
               ⟨(some 28), .mv (.t 9), (some (21, true)), none, false⟩,
               ⟨(some 29), .bin .sub .no (.t 28) (.c (.int .i64 1)), (some (21, true)), none, false⟩,
               ⟨(some 30), .iad 6 (.t 27) (.t 29), (some (21, true)), none, false⟩,
               ⟨(some 31), .loadn 6 (.t 30), (some (21, true)), none, false⟩,
               ⟨(some 32), .callv (.t 22) false [(.t 26), (.t 31)], (some (21, true)), none, false⟩,
               ⟨(some 33), .bin .lss .no (.t 32) (.c (.int .i64 0)), (some (21, true)), none, false⟩,
               ⟨(some 34), .pick (.t 21) (.t 33) (.c (.bool false)), none, none, false⟩])
            (.cond (.t 34)
             (.skip)
             (.exit 2)))
           (.seq
            (.block 3 (.regd 0 [⟨(some 37), .mv (.t 0), none, none, false⟩,
                ⟨(some 38), .mv (.t 9), none, none, false⟩,
                ⟨(some 39), .mv (.t 0), none, none, false⟩,
                ⟨(some 40), .mv (.t 9), none, none, false⟩,
                ⟨(some 41), .bin .sub .no (.t 40) (.c (.int .i64 1)), none, none, false⟩,
                ⟨(some 42), .mv (.t 0), none, none, false⟩,
                ⟨(some 43), .mv (.t 9), none, none, false⟩,
                ⟨(some 44), .bin .sub .no (.t 43) (.c (.int .i64 1)), none, none, false⟩,
                ⟨(some 45), .iad 6 (.t 42) (.t 44), none, none, false⟩,
                ⟨(some 46), .loadn 6 (.t 45), none, none, false⟩,
                ⟨(some 47), .mv (.t 0), none, none, false⟩,
                ⟨(some 48), .mv (.t 9), none, none, false⟩,
                ⟨(some 49), .iad 6 (.t 47) (.t 48), none, none, false⟩,
                ⟨(some 50), .loadn 6 (.t 49), none, none, false⟩,
                ⟨(some 51), .iad 6 (.t 37) (.t 38), none, none, false⟩,
                ⟨none, .store 6 (.t 51) (.t 46), none, none, false⟩,
                ⟨(some 52), .iad 6 (.t 39) (.t 41), none, none, false⟩,
                ⟨none, .store 6 (.t 52) (.t 50), none, none, false⟩]))
            (.reg [⟨(some 35), .mv (.t 9), none, none, false⟩,
               ⟨(some 36), .bin .sub .no (.t 35) (.c (.int .i64 1)), none, none, false⟩,
               ⟨(some 9), .mv (.t 36), none, none, false⟩])))))))
      (.reg [⟨(some 15), .mv (.t 8), none, none, false⟩,
         ⟨(some 16), .bin .add .no (.t 15) (.c (.int .i64 1)), none, none, false⟩,
         ⟨(some 8), .mv (.t 16), none, none, false⟩])))))⟩

/- slices.heapSortCmpFunc[redpencil/api.Node] -/
def a61 : AFn := ⟨60, [],
  .seq
  (.reg [⟨(some 13), .mv (.t 1), none, none, false⟩,
     ⟨(some 8), .mv (.t 13), none, none, false⟩])
  (.seq
   (.reg [⟨(some 9), .mv (.c (.int .i64 0)), none, none, false⟩])
   (.seq
    (.reg [⟨(some 14), .mv (.t 2), none, none, false⟩,
       ⟨(some 15), .mv (.t 1), none, none, false⟩,
       ⟨(some 16), .bin .sub .no (.t 14) (.t 15), none, none, false⟩,
       ⟨(some 10), .mv (.t 16), none, none, false⟩])
    (.seq
     (.seq
      (.reg [⟨(some 17), .mv (.t 10), none, none, false⟩,
         ⟨(some 18), .bin .sub .no (.t 17) (.c (.int .i64 1)), none, none, false⟩,
         ⟨(some 19), .bin .quo .no (.t 18) (.c (.int .i64 2)), none, none, false⟩,
         ⟨(some 11), .mv (.t 19), none, none, false⟩])
      (.block 0 (.loop (.seq
         (.seq
          (.reg [⟨(some 20), .mv (.t 11), none, none, false⟩,
             ⟨(some 21), .bin .geq .no (.t 20) (.c (.int .i64 0)), none, none, false⟩])
          (.cond (.t 21)
           (.skip)
           (.exit 0)))
         (.seq
          (.block 1 (.reg [⟨(some 24), .mv (.t 0), none, none, false⟩,
              ⟨(some 25), .mv (.t 11), none, none, false⟩,
              ⟨(some 26), .mv (.t 10), none, none, false⟩,
              ⟨(some 27), .mv (.t 8), none, none, false⟩,
              ⟨(some 28), .mv (.t 3), none, none, false⟩,
              ⟨(some 29), .call 70 false [(.t 24), (.t 25), (.t 26), (.t 27), (.t 28)], none, none, false⟩]))
          (.reg [⟨(some 22), .mv (.t 11), none, none, false⟩,
             ⟨(some 23), .bin .sub .no (.t 22) (.c (.int .i64 1)), none, none, false⟩,
             ⟨(some 11), .mv (.t 23), none, none, false⟩]))))))
     (.seq
      (.reg [⟨(some 30), .mv (.t 10), none, none, false⟩,
         ⟨(some 31), .bin .sub .no (.t 30) (.c (.int .i64 1)), none, none, false⟩,
         ⟨(some 12), .mv (.t 31), none, none, false⟩])
      (.block 2 (.loop (.seq
         (.seq
          (.reg [⟨(some 32), .mv (.t 12), none, none, false⟩,
             ⟨(some 33), .bin .geq .no (.t 32) (.c (.int .i64 0)), none, none, false⟩])
          (.cond (.t 33)
           (.skip)
           (.exit 2)))
         (.seq
          (.block 3 (.seq
            (.regd 0 [⟨(some 36), .mv (.t 0), none, none, false⟩,
               ⟨(some 37), .mv (.t 8), none, none, false⟩,
               ⟨(some 38), .mv (.t 0), none, none, false⟩,
               ⟨(some 39), .mv (.t 8), none, none, false⟩,
               ⟨(some 40), .mv (.t 12), none, none, false⟩,
               ⟨(some 41), .bin .add .no (.t 39) (.t 40), none, none, false⟩,
               ⟨(some 42), .mv (.t 0), none, none, false⟩,
               ⟨(some 43), .mv (.t 8), none, none, false⟩,
               ⟨(some 44), .mv (.t 12), none, none, false⟩,
               ⟨(some 45), .bin .add .no (.t 43) (.t 44), none, none, false⟩,
               ⟨(some 46), .iad 6 (.t 42) (.t 45), none, none, false⟩,
               ⟨(some 47), .loadn 6 (.t 46), none, none, false⟩,
               ⟨(some 48), .mv (.t 0), none, none, false⟩,
               ⟨(some 49), .mv (.t 8), none, none, false⟩,
               ⟨(some 50), .iad 6 (.t 48) (.t 49), none, none, false⟩,
               ⟨(some 51), .loadn 6 (.t 50), none, none, false⟩,
               ⟨(some 52), .iad 6 (.t 36) (.t 37), none, none, false⟩,
               ⟨none, .store 6 (.t 52) (.t 47), none, none, false⟩,
               ⟨(some 53), .iad 6 (.t 38) (.t 41), none, none, false⟩,
               ⟨none, .store 6 (.t 53) (.t 51), none, none, false⟩])
            (.reg [⟨(some 54), .mv (.t 0), none, none, false⟩,
               ⟨(some 55), .mv (.t 9), none, none, false⟩,
               ⟨(some 56), .mv (.t 12), none, none, false⟩,
               ⟨(some 57), .mv (.t 8), none, none, false⟩,
               ⟨(some 58), .mv (.t 3), none, none, false⟩,
               ⟨(some 59), .call 70 false [(.t 54), (.t 55), (.t 56), (.t 57), (.t 58)], none, none, false⟩])))
          (.reg [⟨(some 34), .mv (.t 12), none, none, false⟩,
             ⟨(some 35), .bin .sub .no (.t 34) (.c (.int .i64 1)), none, none, false⟩,
             ⟨(some 12), .mv (.t 35), none, none, false⟩])))))))))⟩

/- slices.breakPatternsCmpFunc[redpencil/api.Node] -/
def a62 : AFn := ⟨67, [],
  .seq
  (.reg [⟨(some 13), .mv (.t 2), none, none, false⟩,
     ⟨(some 14), .mv (.t 1), none, none, false⟩,
     ⟨(some 15), .bin .sub .no (.t 13) (.t 14), none, none, false⟩,
     ⟨(some 8), .mv (.t 15), none, none, false⟩])
  (.seq
   (.reg [⟨(some 16), .mv (.t 8), none, none, false⟩,
      ⟨(some 17), .bin .geq .no (.t 16) (.c (.int .i64 8)), none, none, false⟩])
   (.cond (.t 17)
    (.seq
     (.reg [⟨(some 18), .mv (.t 8), none, none, false⟩,
        ⟨(some 19), .conv .u64 (.t 18), none, none, false⟩,
        ⟨(some 9), .alloc [(.int .u64 0)], none, none, false⟩,
        ⟨none, .store 1 (.t 9) (.t 19), none, none, false⟩])
     (.seq
      (.reg [⟨(some 20), .mv (.t 8), none, none, false⟩,
         ⟨(some 21), .call 71 false [(.t 20)], none, none, false⟩,
         ⟨(some 10), .mv (.t 21), none, none, false⟩])
      (.seq
       (.reg [⟨(some 22), .mv (.t 1), none, none, false⟩,
          ⟨(some 23), .mv (.t 8), none, none, false⟩,
          ⟨(some 24), .bin .quo .no (.t 23) (.c (.int .i64 4)), none, none, false⟩,
          ⟨(some 25), .bin .mul .no (.t 24) (.c (.int .i64 2)), none, none, false⟩,
          ⟨(some 26), .bin .add .no (.t 22) (.t 25), none, none, false⟩,
          ⟨(some 27), .bin .sub .no (.t 26) (.c (.int .i64 1)), none, none, false⟩,
          ⟨(some 11), .mv (.t 27), none, none, false⟩])
       (.block 0 (.loop (.seq
          (.seq
           (.reg [⟨(some 28), .mv (.t 11), none, none, false⟩,
              ⟨(some 29), .mv (.t 1), none, none, false⟩,
              ⟨(some 30), .mv (.t 8), none, none, false⟩,
              ⟨(some 31), .bin .quo .no (.t 30) (.c (.int .i64 4)), none, none, false⟩,
              ⟨(some 32), .bin .mul .no (.t 31) (.c (.int .i64 2)), none, none, false⟩,
              ⟨(some 33), .bin .add .no (.t 29) (.t 32), none, none, false⟩,
              ⟨(some 34), .bin .add .no (.t 33) (.c (.int .i64 1)), none, none, false⟩,
              ⟨(some 35), .bin .leq .no (.t 28) (.t 34), none, none, false⟩])
           (.cond (.t 35)
            (.skip)
            (.exit 0)))
          (.seq
           (.block 1 (.seq
             (.reg [⟨(some 38), .call 72 false [(.t 9)], none, none, false⟩,
                ⟨(some 39), .mv (.t 10), none, none, false⟩,
                ⟨(some 40), .bin .sub .no (.t 39) (.c (.int .u64 1)), none, none, false⟩,
                ⟨(some 41), .bin .and .no (.t 38) (.t 40), none, none, false⟩,
                ⟨(some 42), .conv .i64 (.t 41), none, none, false⟩,
                ⟨(some 12), .mv (.t 42), none, none, false⟩])
             (.seq
              (.seq
               (.reg [⟨(some 43), .mv (.t 12), none, none, false⟩,
                  ⟨(some 44), .mv (.t 8), none, none, false⟩,
                  ⟨(some 45), .bin .geq .no (.t 43) (.t 44), none, none, false⟩])
               (.cond (.t 45)
                (.reg [⟨(some 46), .mv (.t 12), none, none, false⟩,
                   ⟨(some 47), .mv (.t 8), none, none, false⟩,
                   ⟨(some 48), .bin .sub .no (.t 46) (.t 47), none, none, false⟩,
                   ⟨(some 12), .mv (.t 48), none, none, false⟩])
                (.skip)))
              (.regd 0 [⟨(some 49), .mv (.t 0), none, none, false⟩,
                 ⟨(some 50), .mv (.t 11), none, none, false⟩,
                 ⟨(some 51), .mv (.t 0), none, none, false⟩,
                 ⟨(some 52), .mv (.t 1), none, none, false⟩,
                 ⟨(some 53), .mv (.t 12), none, none, false⟩,
                 ⟨(some 54), .bin .add .no (.t 52) (.t 53), none, none, false⟩,
                 ⟨(some 55), .mv (.t 0), none, none, false⟩,
                 ⟨(some 56), .mv (.t 1), none, none, false⟩,
                 ⟨(some 57), .mv (.t 12), none, none, false⟩,
                 ⟨(some 58), .bin .add .no (.t 56) (.t 57), none, none, false⟩,
                 ⟨(some 59), .iad 6 (.t 55) (.t 58), none, none, false⟩,
                 ⟨(some 60), .loadn 6 (.t 59), none, none, false⟩,
                 ⟨(some 61), .mv (.t 0), none, none, false⟩,
                 ⟨(some 62), .mv (.t 11), none, none, false⟩,
                 ⟨(some 63), .iad 6 (.t 61) (.t 62), none, none, false⟩,
                 ⟨(some 64), .loadn 6 (.t 63), none, none, false⟩,
                 ⟨(some 65), .iad 6 (.t 49) (.t 50), none, none, false⟩,
                 ⟨none, .store 6 (.t 65) (.t 60), none, none, false⟩,
                 ⟨(some 66), .iad 6 (.t 51) (.t 54), none, none, false⟩,
                 ⟨none, .store 6 (.t 66) (.t 64), none, none, false⟩]))))
           (.reg [⟨(some 36), .mv (.t 11), none, none, false⟩,
              ⟨(some 37), .bin .add .no (.t 36) (.c (.int .i64 1)), none, none, false⟩,
              ⟨(some 11), .mv (.t 37), none, none, false⟩]))))))))
    (.skip)))⟩

/- slices.choosePivotCmpFunc[redpencil/api.Node] -/
def a63 : AFn := ⟨63, [.t 8, .t 9],
  .seq
  (.reg [⟨(some 8), .mv (.c (.int .i64 0)), none, none, false⟩,
     ⟨(some 9), .mv (.c (.int .i64 0)), none, none, false⟩])
  (.seq
   (.reg [⟨(some 15), .mv (.t 2), none, none, false⟩,
      ⟨(some 16), .mv (.t 1), none, none, false⟩,
      ⟨(some 17), .bin .sub .no (.t 15) (.t 16), none, none, false⟩,
      ⟨(some 10), .mv (.t 17), none, none, false⟩])
   (.seq
    (.reg [⟨(some 11), .alloc [(.int .i64 0)], none, none, false⟩])
    (.seq
     (.reg [⟨(some 18), .mv (.t 1), none, none, false⟩,
        ⟨(some 19), .mv (.t 10), none, none, false⟩,
        ⟨(some 20), .bin .quo .no (.t 19) (.c (.int .i64 4)), none, none, false⟩,
        ⟨(some 21), .bin .mul .no (.t 20) (.c (.int .i64 1)), none, none, false⟩,
        ⟨(some 22), .bin .add .no (.t 18) (.t 21), none, none, false⟩,
        ⟨(some 12), .mv (.t 22), none, none, false⟩])
     (.seq
      (.reg [⟨(some 23), .mv (.t 1), none, none, false⟩,
         ⟨(some 24), .mv (.t 10), none, none, false⟩,
         ⟨(some 25), .bin .quo .no (.t 24) (.c (.int .i64 4)), none, none, false⟩,
         ⟨(some 26), .bin .mul .no (.t 25) (.c (.int .i64 2)), none, none, false⟩,
         ⟨(some 27), .bin .add .no (.t 23) (.t 26), none, none, false⟩,
         ⟨(some 13), .mv (.t 27), none, none, false⟩])
      (.seq
       (.reg [⟨(some 28), .mv (.t 1), none, none, false⟩,
          ⟨(some 29), .mv (.t 10), none, none, false⟩,
          ⟨(some 30), .bin .quo .no (.t 29) (.c (.int .i64 4)), none, none, false⟩,
          ⟨(some 31), .bin .mul .no (.t 30) (.c (.int .i64 3)), none, none, false⟩,
          ⟨(some 32), .bin .add .no (.t 28) (.t 31), none, none, false⟩,
          ⟨(some 14), .mv (.t 32), none, none, false⟩])
       (.seq
        (.seq
         (.reg [⟨(some 33), .mv (.t 10), none, none, false⟩,
            ⟨(some 34), .bin .geq .no (.t 33) (.c (.int .i64 8)), none, none, false⟩])
         (.cond (.t 34)
          (.seq
           (.seq
            (.reg [⟨(some 35), .mv (.t 10), none, none, false⟩,
               ⟨(some 36), .bin .geq .no (.t 35) (.c (.int .i64 50)), none, none, false⟩])
            (.cond (.t 36)
             (.seq
              (.reg [⟨(some 37), .mv (.t 0), none, none, false⟩,
                 ⟨(some 38), .mv (.t 12), none, none, false⟩,
                 ⟨(some 39), .mv (.t 3), none, none, false⟩,
                 ⟨(some 40), .call 73 false [(.t 37), (.t 38), (.t 11), (.t 39)], none, none, false⟩,
                 ⟨(some 12), .mv (.t 40), none, none, false⟩])
              (.seq
               (.reg [⟨(some 41), .mv (.t 0), none, none, false⟩,
                  ⟨(some 42), .mv (.t 13), none, none, false⟩,
                  ⟨(some 43), .mv (.t 3), none, none, false⟩,
                  ⟨(some 44), .call 73 false [(.t 41), (.t 42), (.t 11), (.t 43)], none, none, false⟩,
                  ⟨(some 13), .mv (.t 44), none, none, false⟩])
               (.reg [⟨(some 45), .mv (.t 0), none, none, false⟩,
                  ⟨(some 46), .mv (.t 14), none, none, false⟩,
                  ⟨(some 47), .mv (.t 3), none, none, false⟩,
                  ⟨(some 48), .call 73 false [(.t 45), (.t 46), (.t 11), (.t 47)], none, none, false⟩,
                  ⟨(some 14), .mv (.t 48), none, none, false⟩])))
             (.skip)))
           (.reg [⟨(some 49), .mv (.t 0), none, none, false⟩,
              ⟨(some 50), .mv (.t 12), none, none, false⟩,
              ⟨(some 51), .mv (.t 13), none, none, false⟩,
              ⟨(some 52), .mv (.t 14), none, none, false⟩,
              ⟨(some 53), .mv (.t 3), none, none, false⟩,
              ⟨(some 54), .call 74 false [(.t 49), (.t 50), (.t 51), (.t 52), (.t 11), (.t 53)], none, none, false⟩,
              ⟨(some 13), .mv (.t 54), none, none, false⟩]))
          (.skip)))
        (.seq
         (.reg [⟨(some 55), .load1 (.t 11), none, none, false⟩])
         (.block 0 (.seq
           (.reg [⟨(some 58), .bin .eql .no (.t 55) (.c (.int .i64 0)), none, none, false⟩,
              ⟨(some 57), .mv (.t 58), none, none, false⟩])
           (.cond (.t 57)
            (.seq
             (.reg [⟨(some 59), .mv (.t 13), none, none, false⟩,
                ⟨(some 8), .mv (.t 59), none, none, false⟩,
                ⟨(some 9), .mv (.c (.int .i64 1)), none, none, false⟩])
             (.ret))
            (.seq
             (.reg [⟨(some 61), .bin .eql .no (.t 55) (.c (.int .i64 12)), none, none, false⟩,
                ⟨(some 60), .mv (.t 61), none, none, false⟩])
             (.cond (.t 60)
              (.seq
               (.reg [⟨(some 62), .mv (.t 13), none, none, false⟩,
                  ⟨(some 8), .mv (.t 62), none, none, false⟩,
                  ⟨(some 9), .mv (.c (.int .i64 2)), none, none, false⟩])
               (.ret))
              (.seq
               (.reg [⟨(some 56), .mv (.t 13), none, none, false⟩,
                  ⟨(some 8), .mv (.t 56), none, none, false⟩,
                  ⟨(some 9), .mv (.c (.int .i64 0)), none, none, false⟩])
               (.ret))))))))))))))⟩

/- slices.reverseRangeCmpFunc[redpencil/api.Node] -/
def a64 : AFn := ⟨34, [],
  .seq
  (.reg [⟨(some 10), .mv (.t 1), none, none, false⟩,
     ⟨(some 8), .mv (.t 10), none, none, false⟩])
  (.seq
   (.reg [⟨(some 11), .mv (.t 2), none, none, false⟩,
      ⟨(some 12), .bin .sub .no (.t 11) (.c (.int .i64 1)), none, none, false⟩,
      ⟨(some 9), .mv (.t 12), none, none, false⟩])
   (.block 0 (.loop (.seq
      (.seq
       (.reg [⟨(some 13), .mv (.t 8), none, none, false⟩,
          ⟨(some 14), .mv (.t 9), none, none, false⟩,
          ⟨(some 15), .bin .lss .no (.t 13) (.t 14), none, none, false⟩])
       (.cond (.t 15)
        (.skip)
        (.exit 0)))
      (.block 1 (.seq
        (.regd 0 [⟨(some 16), .mv (.t 0), none, none, false⟩,
           ⟨(some 17), .mv (.t 8), none, none, false⟩,
           ⟨(some 18), .mv (.t 0), none, none, false⟩,
           ⟨(some 19), .mv (.t 9), none, none, false⟩,
           ⟨(some 20), .mv (.t 0), none, none, false⟩,
           ⟨(some 21), .mv (.t 9), none, none, false⟩,
           ⟨(some 22), .iad 6 (.t 20) (.t 21), none, none, false⟩,
           ⟨(some 23), .loadn 6 (.t 22), none, none, false⟩,
           ⟨(some 24), .mv (.t 0), none, none, false⟩,
           ⟨(some 25), .mv (.t 8), none, none, false⟩,
           ⟨(some 26), .iad 6 (.t 24) (.t 25), none, none, false⟩,
           ⟨(some 27), .loadn 6 (.t 26), none, none, false⟩,
           ⟨(some 28), .iad 6 (.t 16) (.t 17), none, none, false⟩,
           ⟨none, .store 6 (.t 28) (.t 23), none, none, false⟩,
           ⟨(some 29), .iad 6 (.t 18) (.t 19), none, none, false⟩,
           ⟨none, .store 6 (.t 29) (.t 27), none, none, false⟩])
        (.seq
         (.reg [⟨(some 30), .mv (.t 8), none, none, false⟩,
            ⟨(some 31), .bin .add .no (.t 30) (.c (.int .i64 1)), none, none, false⟩,
            ⟨(some 8), .mv (.t 31), none, none, false⟩])
         (.reg [⟨(some 32), .mv (.t 9), none, none, false⟩,
            ⟨(some 33), .bin .sub .no (.t 32) (.c (.int .i64 1)), none, none, false⟩,
            ⟨(some 9), .mv (.t 33), none, none, false⟩]))))))))⟩

/- slices.partialInsertionSortCmpFunc[redpencil/api.Node] -/
def a65 : AFn := ⟨141, [.t 8],
  .seq
  (.reg [⟨(some 8), .mv (.c (.bool false)), none, none, false⟩])
  (.seq
   (.reg [⟨(some 13), .mv (.t 1), none, none, false⟩,
      ⟨(some 14), .bin .add .no (.t 13) (.c (.int .i64 1)), none, none, false⟩,
      ⟨(some 9), .mv (.t 14), none, none, false⟩])
   (.seq
    (.seq
     (.reg [⟨(some 10), .mv (.c (.int .i64 0)), none, none, false⟩])
     (.block 0 (.loop (.seq
        (.seq
         (.reg [⟨(some 15), .mv (.t 10), none, none, false⟩,
            ⟨(some 16), .bin .lss .no (.t 15) (.c (.int .i64 5)), none, none, false⟩])
         (.cond (.t 16)
          (.skip)
          (.exit 0)))
        (.seq
         (.block 1 (.seq
           (.block 2 (.loop (.seq
              (.seq
               (.regd 0 [⟨(some 19), .mv (.t 9), none, none, false⟩,
                  ⟨(some 20), .mv (.t 2), none, none, false⟩,
                  ⟨(some 21), .bin .lss .no (.t 19) (.t 20), none, none, false⟩,
                  ⟨(some 22), .mv (.t 21), none, none, false⟩,
                  ⟨(some 23), .mv (.t 3), (some (22, true)), none, false⟩,
                  ⟨(some 24), .mv (.t 0), (some (22, true)), none, false⟩,
                  ⟨(some 25), .mv (.t 9), (some (22, true)), none, false⟩,
                  ⟨(some 26), .iad 6 (.t 24) (.t 25), (some (22, true)), none, false⟩,
                  ⟨(some 27), .loadn 6 (.t 26), (some (22, true)), none, false⟩,
                  ⟨(some 28), .mv (.t 0), (some (22, true)), none, false⟩,
                  ⟨(some 29), .mv (.t 9), (some (22, true)), none, false⟩,
                  ⟨(some 30), .bin .sub .no (.t 29) (.c (.int .i64 1)), (some (22, true)), none, false⟩,
                  ⟨(some 31), .iad 6 (.t 28) (.t 30), (some (22, true)), none, false⟩,
                  ⟨(some 32), .loadn 6 (.t 31), (some (22, true)), none, false⟩,
                  ⟨(some 33), .callv (.t 23) false [(.t 27), (.t 32)], (some (22, true)), none, false⟩,
                  ⟨(some 34), .bin .lss .no (.t 33) (.c (.int .i64 0)), (some (22, true)), none, false⟩,
                  ⟨(some 35), .un .not (.t 34), (some (22, true)), none, false⟩,
                  ⟨(some 36), .pick (.t 22) (.t 35) (.c (.bool false)), none, none, false⟩])
               (.cond (.t 36)
                (.skip)
                (.exit 2)))
              (.block 3 (.reg [⟨(some 37), .mv (.t 9), none, none, false⟩,
                  ⟨(some 38), .bin .add .no (.t 37) (.c (.int .i64 1)), none, none, false⟩,
                  ⟨(some 9), .mv (.t 38), none, none, false⟩])))))
           (.seq
            (.seq
             (.reg [⟨(some 39), .mv (.t 9), none, none, false⟩,
                ⟨(some 40), .mv (.t 2), none, none, false⟩,
                ⟨(some 41), .bin .eql .no (.t 39) (.t 40), none, none, false⟩])
             (.cond (.t 41)
              (.seq
               (.reg [⟨(some 8), .mv (.c (.bool true)), none, none, false⟩])
               (.ret))
              (.skip)))
            (.seq
             (.seq
              (.reg [⟨(some 42), .mv (.t 2), none, none, false⟩,
                 ⟨(some 43), .mv (.t 1), none, none, false⟩,
                 ⟨(some 44), .bin .sub .no (.t 42) (.t 43), none, none, false⟩,
                 ⟨(some 45), .bin .lss .no (.t 44) (.c (.int .i64 50)), none, none, false⟩])
              (.cond (.t 45)
               (.seq
                (.reg [⟨(some 8), .mv (.c (.bool false)), none, none, false⟩])
                (.ret))
               (.skip)))
             (.seq
              (.regd 0 [⟨(some 46), .mv (.t 0), none, none, false⟩,
                 ⟨(some 47), .mv (.t 9), none, none, false⟩,
                 ⟨(some 48), .mv (.t 0), none, none, false⟩,
                 ⟨(some 49), .mv (.t 9), none, none, false⟩,
                 ⟨(some 50), .bin .sub .no (.t 49) (.c (.int .i64 1)), none, none, false⟩,
                 ⟨(some 51), .mv (.t 0), none, none, false⟩,
                 ⟨(some 52), .mv (.t 9), none, none, false⟩,
                 ⟨(some 53), .bin .sub .no (.t 52) (.c (.int .i64 1)), none, none, false⟩,
                 ⟨(some 54), .iad 6 (.t 51) (.t 53), none, none, false⟩,
                 ⟨(some 55), .loadn 6 (.t 54), none, none, false⟩,
                 ⟨(some 56), .mv (.t 0), none, none, false⟩,
                 ⟨(some 57), .mv (.t 9), none, none, false⟩,
                 ⟨(some 58), .iad 6 (.t 56) (.t 57), none, none, false⟩,
                 ⟨(some 59), .loadn 6 (.t 58), none, none, false⟩,
                 ⟨(some 60), .iad 6 (.t 46) (.t 47), none, none, false⟩,
                 ⟨none, .store 6 (.t 60) (.t 55), none, none, false⟩,
                 ⟨(some 61), .iad 6 (.t 48) (.t 50), none, none, false⟩,
                 ⟨none, .store 6 (.t 61) (.t 59), none, none, false⟩])
              (.seq
               (.seq
                (.reg [⟨(some 62), .mv (.t 9), none, none, false⟩,
                   ⟨(some 63), .mv (.t 1), none, none, false⟩,
                   ⟨(some 64), .bin .sub .no (.t 62) (.t 63), none, none, false⟩,
                   ⟨(some 65), .bin .geq .no (.t 64) (.c (.int .i64 2)), none, none, false⟩])
                (.cond (.t 65)
                 (.seq
                  (.reg [⟨(some 66), .mv (.t 9), none, none, false⟩,
                     ⟨(some 67), .bin .sub .no (.t 66) (.c (.int .i64 1)), none, none, false⟩,
                     ⟨(some 11), .mv (.t 67), none, none, false⟩])
                  (.block 4 (.loop (.seq
                     (.seq
                      (.reg [⟨(some 68), .mv (.t 11), none, none, false⟩,
                         ⟨(some 69), .bin .geq .no (.t 68) (.c (.int .i64 1)), none, none, false⟩])
                      (.cond (.t 69)
                       (.skip)
                       (.exit 4)))
                     (.seq
                      (.block 5 (.seq
                        (.seq
                         (.regd 0 [⟨(some 72), .mv (.t 3), none, none, false⟩,
                            ⟨(some 73), .mv (.t 0), none, none, false⟩,
                            ⟨(some 74), .mv (.t 11), none, none, false⟩,
                            ⟨(some 75), .iad 6 (.t 73) (.t 74), none, none, false⟩,
                            ⟨(some 76), .loadn 6 (.t 75), none, none, false⟩,
                            ⟨(some 77), .mv (.t 0), none, none, false⟩,
                            ⟨(some 78), .mv (.t 11), none, none, false⟩,
                            ⟨(some 79), .bin .sub .no (.t 78) (.c (.int .i64 1)), none, none, false⟩,
                            ⟨(some 80), .iad 6 (.t 77) (.t 79), none, none, false⟩,
                            ⟨(some 81), .loadn 6 (.t 80), none, none, false⟩,
                            ⟨(some 82), .callv (.t 72) false [(.t 76), (.t 81)], none, none, false⟩,
                            ⟨(some 83), .bin .lss .no (.t 82) (.c (.int .i64 0)), none, none, false⟩,
                            ⟨(some 84), .un .not (.t 83), none, none, false⟩])
                         (.cond (.t 84)
                          (.exit 4)
                          (.skip)))
                        (.regd 0 [⟨(some 85), .mv (.t 0), none, none, false⟩,
                           ⟨(some 86), .mv (.t 11), none, none, false⟩,
                           ⟨(some 87), .mv (.t 0), none, none, false⟩,
                           ⟨(some 88), .mv (.t 11), none, none, false⟩,
                           ⟨(some 89), .bin .sub .no (.t 88) (.c (.int .i64 1)), none, none, false⟩,
                           ⟨(some 90), .mv (.t 0), none, none, false⟩,
                           ⟨(some 91), .mv (.t 11), none, none, false⟩,
                           ⟨(some 92), .bin .sub .no (.t 91) (.c (.int .i64 1)), none, none, false⟩,
                           ⟨(some 93), .iad 6 (.t 90) (.t 92), none, none, false⟩,
                           ⟨(some 94), .loadn 6 (.t 93), none, none, false⟩,
                           ⟨(some 95), .mv (.t 0), none, none, false⟩,
                           ⟨(some 96), .mv (.t 11), none, none, false⟩,
                           ⟨(some 97), .iad 6 (.t 95) (.t 96), none, none, false⟩,
                           ⟨(some 98), .loadn 6 (.t 97), none, none, false⟩,
                           ⟨(some 99), .iad 6 (.t 85) (.t 86), none, none, false⟩,
                           ⟨none, .store 6 (.t 99) (.t 94), none, none, false⟩,
                           ⟨(some 100), .iad 6 (.t 87) (.t 89), none, none, false⟩,
                           ⟨none, .store 6 (.t 100) (.t 98), none, none, false⟩])))
                      (.reg [⟨(some 70), .mv (.t 11), none, none, false⟩,
                         ⟨(some 71), .bin .sub .no (.t 70) (.c (.int .i64 1)), none, none, false⟩,
                         ⟨(some 11), .mv (.t 71), none, none, false⟩]))))))
                 (.skip)))
               (.seq
                (.reg [⟨(some 101), .mv (.t 2), none, none, false⟩,
                   ⟨(some 102), .mv (.t 9), none, none, false⟩,
                   ⟨(some 103), .bin .sub .no (.t 101) (.t 102), none, none, false⟩,
                   ⟨(some 104), .bin .geq .no (.t 103) (.c (.int .i64 2)), none, none, false⟩])
                (.cond (.t 104)
                 (.seq
                  (.reg [⟨(some 105), .mv (.t 9), none, none, false⟩,
                     ⟨(some 106), .bin .add .no (.t 105) (.c (.int .i64 1)), none, none, false⟩,
                     ⟨(some 12), .mv (.t 106), none, none, false⟩])
                  (.block 6 (.loop (.seq
                     (.seq
                      (.reg [⟨(some 107), .mv (.t 12), none, none, false⟩,
                         ⟨(some 108), .mv (.t 2), none, none, false⟩,
                         ⟨(some 109), .bin .lss .no (.t 107) (.t 108), none, none, false⟩])
                      (.cond (.t 109)
                       (.skip)
                       (.exit 6)))
                     (.seq
                      (.block 7 (.seq
                        (.seq
                         (.regd 0 [⟨(some 112), .mv (.t 3), none, none, false⟩,
                            ⟨(some 113), .mv (.t 0), none, none, false⟩,
                            ⟨(some 114), .mv (.t 12), none, none, false⟩,
                            ⟨(some 115), .iad 6 (.t 113) (.t 114), none, none, false⟩,
                            ⟨(some 116), .loadn 6 (.t 115), none, none, false⟩,
                            ⟨(some 117), .mv (.t 0), none, none, false⟩,
                            ⟨(some 118), .mv (.t 12), none, none, false⟩,
                            ⟨(some 119), .bin .sub .no (.t 118) (.c (.int .i64 1)), none, none, false⟩,
                            ⟨(some 120), .iad 6 (.t 117) (.t 119), none, none, false⟩,
                            ⟨(some 121), .loadn 6 (.t 120), none, none, false⟩,
                            ⟨(some 122), .callv (.t 112) false [(.t 116), (.t 121)], none, none, false⟩,
                            ⟨(some 123), .bin .lss .no (.t 122) (.c (.int .i64 0)), none, none, false⟩,
                            ⟨(some 124), .un .not (.t 123), none, none, false⟩])
                         (.cond (.t 124)
                          (.exit 6)
                          (.skip)))
                        (.regd 0 [⟨(some 125), .mv (.t 0), none, none, false⟩,
                           ⟨(some 126), .mv (.t 12), none, none, false⟩,
                           ⟨(some 127), .mv (.t 0), none, none, false⟩,
                           ⟨(some 128), .mv (.t 12), none, none, false⟩,
                           ⟨(some 129), .bin .sub .no (.t 128) (.c (.int .i64 1)), none, none, false⟩,
                           ⟨(some 130), .mv (.t 0), none, none, false⟩,
                           ⟨(some 131), .mv (.t 12), none, none, false⟩,
                           ⟨(some 132), .bin .sub .no (.t 131) (.c (.int .i64 1)), none, none, false⟩,
                           ⟨(some 133), .iad 6 (.t 130) (.t 132), none, none, false⟩,
                           ⟨(some 134), .loadn 6 (.t 133), none, none, false⟩,
                           ⟨(some 135), .mv (.t 0), none, none, false⟩,
                           ⟨(some 136), .mv (.t 12), none, none, false⟩,
                           ⟨(some 137), .iad 6 (.t 135) (.t 136), none, none, false⟩,
                           ⟨(some 138), .loadn 6 (.t 137), none, none, false⟩,
                           ⟨(some 139), .iad 6 (.t 125) (.t 126), none, none, false⟩,
                           ⟨none, .store 6 (.t 139) (.t 134), none, none, false⟩,
                           ⟨(some 140), .iad 6 (.t 127) (.t 129), none, none, false⟩,
                           ⟨none, .store 6 (.t 140) (.t 138), none, none, false⟩])))
                      (.reg [⟨(some 110), .mv (.t 12), none, none, false⟩,
                         ⟨(some 111), .bin .add .no (.t 110) (.c (.int .i64 1)), none, none, false⟩,
                         ⟨(some 12), .mv (.t 111), none, none, false⟩]))))))
                 (.skip)))))))))
         (.reg [⟨(some 17), .mv (.t 10), none, none, false⟩,
            ⟨(some 18), .bin .add .no (.t 17) (.c (.int .i64 1)), none, none, false⟩,
            ⟨(some 10), .mv (.t 18), none, none, false⟩]))))))
    (.seq
     (.reg [⟨(some 8), .mv (.c (.bool false)), none, none, false⟩])
     (.ret))))⟩

/- slices.partitionEqualCmpFunc[redpencil/api.Node] -/
def a66 : AFn := ⟨90, [.t 10],
  .seq
  (.reg [⟨(some 10), .mv (.c (.int .i64 0)), none, none, false⟩])
  (.seq
   (.regd 0 [⟨(some 13), .mv (.t 0), none, none, false⟩,
      ⟨(some 14), .mv (.t 1), none, none, false⟩,
      ⟨(some 15), .mv (.t 0), none, none, false⟩,
      ⟨(some 16), .mv (.t 3), none, none, false⟩,
      ⟨(some 17), .mv (.t 0), none, none, false⟩,
      ⟨(some 18), .mv (.t 3), none, none, false⟩,
      ⟨(some 19), .iad 6 (.t 17) (.t 18), none, none, false⟩,
      ⟨(some 20), .loadn 6 (.t 19), none, none, false⟩,
      ⟨(some 21), .mv (.t 0), none, none, false⟩,
      ⟨(some 22), .mv (.t 1), none, none, false⟩,
      ⟨(some 23), .iad 6 (.t 21) (.t 22), none, none, false⟩,
      ⟨(some 24), .loadn 6 (.t 23), none, none, false⟩,
      ⟨(some 25), .iad 6 (.t 13) (.t 14), none, none, false⟩,
      ⟨none, .store 6 (.t 25) (.t 20), none, none, false⟩,
      ⟨(some 26), .iad 6 (.t 15) (.t 16), none, none, false⟩,
      ⟨none, .store 6 (.t 26) (.t 24), none, none, false⟩])
   (.seq
    (.reg [⟨(some 27), .mv (.t 1), none, none, false⟩,
       ⟨(some 28), .bin .add .no (.t 27) (.c (.int .i64 1)), none, none, false⟩,
       ⟨(some 29), .mv (.t 2), none, none, false⟩,
       ⟨(some 30), .bin .sub .no (.t 29) (.c (.int .i64 1)), none, none, false⟩,
       ⟨(some 11), .mv (.t 28), none, none, false⟩,
       ⟨(some 12), .mv (.t 30), none, none, false⟩])
    (.seq
     (.block 0 (.loop (.block 1 (.seq
         (.block 2 (.loop (.seq
            (.seq
             (.regd 0 [⟨(some 31), .mv (.t 11), none, none, false⟩,
                ⟨(some 32), .mv (.t 12), none, none, false⟩,
                ⟨(some 33), .bin .leq .no (.t 31) (.t 32), none, none, false⟩,
                ⟨(some 34), .mv (.t 33), none, none, false⟩,
                ⟨(some 35), .mv (.t 4), (some (34, true)), none, false⟩,
                ⟨(some 36), .mv (.t 0), (some (34, true)), none, false⟩,
                ⟨(some 37), .mv (.t 1), (some (34, true)), none, false⟩,
                ⟨(some 38), .iad 6 (.t 36) (.t 37), (some (34, true)), none, false⟩,
                ⟨(some 39), .loadn 6 (.t 38), (some (34, true)), none, false⟩,
                ⟨(some 40), .mv (.t 0), (some (34, true)), none, false⟩,
                ⟨(some 41), .mv (.t 11), (some (34, true)), none, false⟩,
                ⟨(some 42), .iad 6 (.t 40) (.t 41), (some (34, true)), none, false⟩,
                ⟨(some 43), .loadn 6 (.t 42), (some (34, true)), none, false⟩,
                ⟨(some 44), .callv (.t 35) false [(.t 39), (.t 43)], (some (34, true)), none, false⟩,
                ⟨(some 45), .bin .lss .no (.t 44) (.c (.int .i64 0)), (some (34, true)), none, false⟩,
                ⟨(some 46), .un .not (.t 45), (some (34, true)), none, false⟩,
                ⟨(some 47), .pick (.t 34) (.t 46) (.c (.bool false)), none, none, false⟩])
             (.cond (.t 47)
              (.skip)
              (.exit 2)))
            (.block 3 (.reg [⟨(some 48), .mv (.t 11), none, none, false⟩,
                ⟨(some 49), .bin .add .no (.t 48) (.c (.int .i64 1)), none, none, false⟩,
                ⟨(some 11), .mv (.t 49), none, none, false⟩])))))
         (.seq
          (.block 4 (.loop (.seq
             (.seq
              (.regd 0 [⟨(some 50), .mv (.t 11), none, none, false⟩,
                 ⟨(some 51), .mv (.t 12), none, none, false⟩,
                 ⟨(some 52), .bin .leq .no (.t 50) (.t 51), none, none, false⟩,
                 ⟨(some 53), .mv (.t 52), none, none, false⟩,
                 ⟨(some 54), .mv (.t 4), (some (53, true)), none, false⟩,
                 ⟨(some 55), .mv (.t 0), (some (53, true)), none, false⟩,
                 ⟨(some 56), .mv (.t 1), (some (53, true)), none, false⟩,
                 ⟨(some 57), .iad 6 (.t 55) (.t 56), (some (53, true)), none, false⟩,
                 ⟨(some 58), .loadn 6 (.t 57), (some (53, true)), none, false⟩,
                 ⟨(some 59), .mv (.t 0), (some (53, true)), none, false⟩,
                 ⟨(some 60), .mv (.t 12), (some (53, true)), none, false⟩,
                 ⟨(some 61), .iad 6 (.t 59) (.t 60), (some (53, true)), none, false⟩,
                 ⟨(some 62), .loadn 6 (.t 61), (some (53, true)), none, false⟩,
                 ⟨(some 63), .callv (.t 54) false [(.t 58), (.t 62)], (some (53, true)), none, false⟩,
                 ⟨(some 64), .bin .lss .no (.t 63) (.c (.int .i64 0)), (some (53, true)), none, false⟩,
                 ⟨(some 65), .pick (.t 53) (.t 64) (.c (.bool false)), none, none, false⟩])
              (.cond (.t 65)
               (.skip)
               (.exit 4)))
             (.block 5 (.reg [⟨(some 66), .mv (.t 12), none, none, false⟩,
                 ⟨(some 67), .bin .sub .no (.t 66) (.c (.int .i64 1)), none, none, false⟩,
                 ⟨(some 12), .mv (.t 67), none, none, false⟩])))))
          (.seq
           (.seq
            (.reg [⟨(some 68), .mv (.t 11), none, none, false⟩,
               ⟨(some 69), .mv (.t 12), none, none, false⟩,
               ⟨(some 70), .bin .gtr .no (.t 68) (.t 69), none, none, false⟩])
            (.cond (.t 70)
             (.exit 0)
             (.skip)))
           (.seq
            (.regd 0 [⟨(some 71), .mv (.t 0), none, none, false⟩,
               ⟨(some 72), .mv (.t 11), none, none, false⟩,
               ⟨(some 73), .mv (.t 0), none, none, false⟩,
               ⟨(some 74), .mv (.t 12), none, none, false⟩,
               ⟨(some 75), .mv (.t 0), none, none, false⟩,
               ⟨(some 76), .mv (.t 12), none, none, false⟩,
               ⟨(some 77), .iad 6 (.t 75) (.t 76), none, none, false⟩,
               ⟨(some 78), .loadn 6 (.t 77), none, none, false⟩,
               ⟨(some 79), .mv (.t 0), none, none, false⟩,
               ⟨(some 80), .mv (.t 11), none, none, false⟩,
               ⟨(some 81), .iad 6 (.t 79) (.t 80), none, none, false⟩,
               ⟨(some 82), .loadn 6 (.t 81), none, none, false⟩,
               ⟨(some 83), .iad 6 (.t 71) (.t 72), none, none, false⟩,
               ⟨none, .store 6 (.t 83) (.t 78), none, none, false⟩,
               ⟨(some 84), .iad 6 (.t 73) (.t 74), none, none, false⟩,
               ⟨none, .store 6 (.t 84) (.t 82), none, none, false⟩])
            (.seq
             (.reg [⟨(some 85), .mv (.t 11), none, none, false⟩,
                ⟨(some 86), .bin .add .no (.t 85) (.c (.int .i64 1)), none, none, false⟩,
                ⟨(some 11), .mv (.t 86), none, none, false⟩])
             (.reg [⟨(some 87), .mv (.t 12), none, none, false⟩,
                ⟨(some 88), .bin .sub .no (.t 87) (.c (.int .i64 1)), none, none, false⟩,
                ⟨(some 12), .mv (.t 88), none, none, false⟩])))))))))
     (.seq
      (.reg [⟨(some 89), .mv (.t 11), none, none, false⟩,
         ⟨(some 10), .mv (.t 89), none, none, false⟩])
      (.ret)))))⟩

/- slices.partitionCmpFunc[redpencil/api.Node] -/
def a67 : AFn := ⟨178, [.t 10, .t 11],
  .seq
  (.reg [⟨(some 10), .mv (.c (.int .i64 0)), none, none, false⟩,
     ⟨(some 11), .mv (.c (.bool false)), none, none, false⟩])
  (.seq
   (.regd 0 [⟨(some 14), .mv (.t 0), none, none, false⟩,
      ⟨(some 15), .mv (.t 1), none, none, false⟩,
      ⟨(some 16), .mv (.t 0), none, none, false⟩,
      ⟨(some 17), .mv (.t 3), none, none, false⟩,
      ⟨(some 18), .mv (.t 0), none, none, false⟩,
      ⟨(some 19), .mv (.t 3), none, none, false⟩,
      ⟨(some 20), .iad 6 (.t 18) (.t 19), none, none, false⟩,
      ⟨(some 21), .loadn 6 (.t 20), none, none, false⟩,
      ⟨(some 22), .mv (.t 0), none, none, false⟩,
      ⟨(some 23), .mv (.t 1), none, none, false⟩,
      ⟨(some 24), .iad 6 (.t 22) (.t 23), none, none, false⟩,
      ⟨(some 25), .loadn 6 (.t 24), none, none, false⟩,
      ⟨(some 26), .iad 6 (.t 14) (.t 15), none, none, false⟩,
      ⟨none, .store 6 (.t 26) (.t 21), none, none, false⟩,
      ⟨(some 27), .iad 6 (.t 16) (.t 17), none, none, false⟩,
      ⟨none, .store 6 (.t 27) (.t 25), none, none, false⟩])
   (.seq
    (.reg [⟨(some 28), .mv (.t 1), none, none, false⟩,
       ⟨(some 29), .bin .add .no (.t 28) (.c (.int .i64 1)), none, none, false⟩,
       ⟨(some 30), .mv (.t 2), none, none, false⟩,
       ⟨(some 31), .bin .sub .no (.t 30) (.c (.int .i64 1)), none, none, false⟩,
       ⟨(some 12), .mv (.t 29), none, none, false⟩,
       ⟨(some 13), .mv (.t 31), none, none, false⟩])
    (.seq
     (.block 0 (.loop (.seq
        (.seq
         (.regd 0 [⟨(some 32), .mv (.t 12), none, none, false⟩,
            ⟨(some 33), .mv (.t 13), none, none, false⟩,
            ⟨(some 34), .bin .leq .no (.t 32) (.t 33), none, none, false⟩,
            ⟨(some 35), .mv (.t 34), none, none, false⟩,
            ⟨(some 36), .mv (.t 4), (some (35, true)), none, false⟩,
            ⟨(some 37), .mv (.t 0), (some (35, true)), none, false⟩,
            ⟨(some 38), .mv (.t 12), (some (35, true)), none, false⟩,
            ⟨(some 39), .iad 6 (.t 37) (.t 38), (some (35, true)), none, false⟩,
            ⟨(some 40), .loadn 6 (.t 39), (some (35, true)), none, false⟩,
            ⟨(some 41), .mv (.t 0), (some (35, true)), none, false⟩,
            ⟨(some 42), .mv (.t 1), (some (35, true)), none, false⟩,
            ⟨(some 43), .iad 6 (.t 41) (.t 42), (some (35, true)), none, false⟩,
            ⟨(some 44), .loadn 6 (.t 43), (some (35, true)), none, false⟩,
            ⟨(some 45), .callv (.t 36) false [(.t 40), (.t 44)], (some (35, true)), none, false⟩,
            ⟨(some 46), .bin .lss .no (.t 45) (.c (.int .i64 0)), (some (35, true)), none, false⟩,
            ⟨(some 47), .pick (.t 35) (.t 46) (.c (.bool false)), none, none, false⟩])
         (.cond (.t 47)
          (.skip)
          (.exit 0)))
        (.block 1 (.reg [⟨(some 48), .mv (.t 12), none, none, false⟩,
            ⟨(some 49), .bin .add .no (.t 48) (.c (.int .i64 1)), none, none, false⟩,
            ⟨(some 12), .mv (.t 49), none, none, false⟩])))))
     (.seq
      (.block 2 (.loop (.seq
         (.seq
          (.regd 0 [⟨(some 50), .mv (.t 12), none, none, false⟩,
             ⟨(some 51), .mv (.t 13), none, none, false⟩,
             ⟨(some 52), .bin .leq .no (.t 50) (.t 51), none, none, false⟩,
             ⟨(some 53), .mv (.t 52), none, none, false⟩,
             ⟨(some 54), .mv (.t 4), (some (53, true)), none, false⟩,
             ⟨(some 55), .mv (.t 0), (some (53, true)), none, false⟩,
             ⟨(some 56), .mv (.t 13), (some (53, true)), none, false⟩,
             ⟨(some 57), .iad 6 (.t 55) (.t 56), (some (53, true)), none, false⟩,
             ⟨(some 58), .loadn 6 (.t 57), (some (53, true)), none, false⟩,
             ⟨(some 59), .mv (.t 0), (some (53, true)), none, false⟩,
             ⟨(some 60), .mv (.t 1), (some (53, true)), none, false⟩,
             ⟨(some 61), .iad 6 (.t 59) (.t 60), (some (53, true)), none, false⟩,
             ⟨(some 62), .loadn 6 (.t 61), (some (53, true)), none, false⟩,
             ⟨(some 63), .callv (.t 54) false [(.t 58), (.t 62)], (some (53, true)), none, false⟩,
             ⟨(some 64), .bin .lss .no (.t 63) (.c (.int .i64 0)), (some (53, true)), none, false⟩,
             ⟨(some 65), .un .not (.t 64), (some (53, true)), none, false⟩,
             ⟨(some 66), .pick (.t 53) (.t 65) (.c (.bool false)), none, none, false⟩])
          (.cond (.t 66)
           (.skip)
           (.exit 2)))
         (.block 3 (.reg [⟨(some 67), .mv (.t 13), none, none, false⟩,
             ⟨(some 68), .bin .sub .no (.t 67) (.c (.int .i64 1)), none, none, false⟩,
             ⟨(some 13), .mv (.t 68), none, none, false⟩])))))
      (.seq
       (.seq
        (.reg [⟨(some 69), .mv (.t 12), none, none, false⟩,
           ⟨(some 70), .mv (.t 13), none, none, false⟩,
           ⟨(some 71), .bin .gtr .no (.t 69) (.t 70), none, none, false⟩])
        (.cond (.t 71)
         (.seq
          (.regd 0 [⟨(some 72), .mv (.t 0), none, none, false⟩,
             ⟨(some 73), .mv (.t 13), none, none, false⟩,
             ⟨(some 74), .mv (.t 0), none, none, false⟩,
             ⟨(some 75), .mv (.t 1), none, none, false⟩,
             ⟨(some 76), .mv (.t 0), none, none, false⟩,
             ⟨(some 77), .mv (.t 1), none, none, false⟩,
             ⟨(some 78), .iad 6 (.t 76) (.t 77), none, none, false⟩,
             ⟨(some 79), .loadn 6 (.t 78), none, none, false⟩,
             ⟨(some 80), .mv (.t 0), none, none, false⟩,
             ⟨(some 81), .mv (.t 13), none, none, false⟩,
             ⟨(some 82), .iad 6 (.t 80) (.t 81), none, none, false⟩,
             ⟨(some 83), .loadn 6 (.t 82), none, none, false⟩,
             ⟨(some 84), .iad 6 (.t 72) (.t 73), none, none, false⟩,
             ⟨none, .store 6 (.t 84) (.t 79), none, none, false⟩,
             ⟨(some 85), .iad 6 (.t 74) (.t 75), none, none, false⟩,
             ⟨none, .store 6 (.t 85) (.t 83), none, none, false⟩])
          (.seq
           (.reg [⟨(some 86), .mv (.t 13), none, none, false⟩,
              ⟨(some 10), .mv (.t 86), none, none, false⟩,
              ⟨(some 11), .mv (.c (.bool true)), none, none, false⟩])
           (.ret)))
         (.skip)))
       (.seq
        (.regd 0 [⟨(some 87), .mv (.t 0), none, none, false⟩,
           ⟨(some 88), .mv (.t 12), none, none, false⟩,
           ⟨(some 89), .mv (.t 0), none, none, false⟩,
           ⟨(some 90), .mv (.t 13), none, none, false⟩,
           ⟨(some 91), .mv (.t 0), none, none, false⟩,
           ⟨(some 92), .mv (.t 13), none, none, false⟩,
           ⟨(some 93), .iad 6 (.t 91) (.t 92), none, none, false⟩,
           ⟨(some 94), .loadn 6 (.t 93), none, none, false⟩,
           ⟨(some 95), .mv (.t 0), none, none, false⟩,
           ⟨(some 96), .mv (.t 12), none, none, false⟩,
           ⟨(some 97), .iad 6 (.t 95) (.t 96), none, none, false⟩,
           ⟨(some 98), .loadn 6 (.t 97), none, none, false⟩,
           ⟨(some 99), .iad 6 (.t 87) (.t 88), none, none, false⟩,
           ⟨none, .store 6 (.t 99) (.t 94), none, none, false⟩,
           ⟨(some 100), .iad 6 (.t 89) (.t 90), none, none, false⟩,
           ⟨none, .store 6 (.t 100) (.t 98), none, none, false⟩])
        (.seq
         (.reg [⟨(some 101), .mv (.t 12), none, none, false⟩,
            ⟨(some 102), .bin .add .no (.t 101) (.c (.int .i64 1)), none, none, false⟩,
            ⟨(some 12), .mv (.t 102), none, none, false⟩])
         (.seq
          (.reg [⟨(some 103), .mv (.t 13), none, none, false⟩,
             ⟨(some 104), .bin .sub .no (.t 103) (.c (.int .i64 1)), none, none, false⟩,
             ⟨(some 13), .mv (.t 104), none, none, false⟩])
          (.seq
           (.block 4 (.loop (.block 5 (.seq
               (.block 6 (.loop (.seq
                  (.seq
                   (.regd 0 [⟨(some 105), .mv (.t 12), none, none, false⟩,
                      ⟨(some 106), .mv (.t 13), none, none, false⟩,
                      ⟨(some 107), .bin .leq .no (.t 105) (.t 106), none, none, false⟩,
                      ⟨(some 108), .mv (.t 107), none, none, false⟩,
                      ⟨(some 109), .mv (.t 4), (some (108, true)), none, false⟩,
                      ⟨(some 110), .mv (.t 0), (some (108, true)), none, false⟩,
                      ⟨(some 111), .mv (.t 12), (some (108, true)), none, false⟩,
                      ⟨(some 112), .iad 6 (.t 110) (.t 111), (some (108, true)), none, false⟩,
                      ⟨(some 113), .loadn 6 (.t 112), (some (108, true)), none, false⟩,
                      ⟨(some 114), .mv (.t 0), (some (108, true)), none, false⟩,
                      ⟨(some 115), .mv (.t 1), (some (108, true)), none, false⟩,
                      ⟨(some 116), .iad 6 (.t 114) (.t 115), (some (108, true)), none, false⟩,
                      ⟨(some 117), .loadn 6 (.t 116), (some (108, true)), none, false⟩,
                      ⟨(some 118), .callv (.t 109) false [(.t 113), (.t 117)], (some (108, true)), none, false⟩,
                      ⟨(some 119), .bin .lss .no (.t 118) (.c (.int .i64 0)), (some (108, true)), none, false⟩,
                      ⟨(some 120), .pick (.t 108) (.t 119) (.c (.bool false)), none, none, false⟩])
                   (.cond (.t 120)
                    (.skip)
                    (.exit 6)))
                  (.block 7 (.reg [⟨(some 121), .mv (.t 12), none, none, false⟩,
                      ⟨(some 122), .bin .add .no (.t 121) (.c (.int .i64 1)), none, none, false⟩,
                      ⟨(some 12), .mv (.t 122), none, none, false⟩])))))
               (.seq
                (.block 8 (.loop (.seq
                   (.seq
                    (.regd 0 [⟨(some 123), .mv (.t 12), none, none, false⟩,
                       ⟨(some 124), .mv (.t 13), none, none, false⟩,
                       ⟨(some 125), .bin .leq .no (.t 123) (.t 124), none, none, false⟩,
                       ⟨(some 126), .mv (.t 125), none, none, false⟩,
                       ⟨(some 127), .mv (.t 4), (some (126, true)), none, false⟩,
                       ⟨(some 128), .mv (.t 0), (some (126, true)), none, false⟩,
                       ⟨(some 129), .mv (.t 13), (some (126, true)), none, false⟩,
                       ⟨(some 130), .iad 6 (.t 128) (.t 129), (some (126, true)), none, false⟩,
                       ⟨(some 131), .loadn 6 (.t 130), (some (126, true)), none, false⟩,
                       ⟨(some 132), .mv (.t 0), (some (126, true)), none, false⟩,
                       ⟨(some 133), .mv (.t 1), (some (126, true)), none, false⟩,
                       ⟨(some 134), .iad 6 (.t 132) (.t 133), (some (126, true)), none, false⟩,
                       ⟨(some 135), .loadn 6 (.t 134), (some (126, true)), none, false⟩,
                       ⟨(some 136), .callv (.t 127) false [(.t 131), (.t 135)], (some (126, true)), none, false⟩,
                       ⟨(some 137), .bin .lss .no (.t 136) (.c (.int .i64 0)), (some (126, true)), none, false⟩,
                       ⟨(some 138), .un .not (.t 137), (some (126, true)), none, false⟩,
                       ⟨(some 139), .pick (.t 126) (.t 138) (.c (.bool false)), none, none, false⟩])
                    (.cond (.t 139)
                     (.skip)
                     (.exit 8)))
                   (.block 9 (.reg [⟨(some 140), .mv (.t 13), none, none, false⟩,
                       ⟨(some 141), .bin .sub .no (.t 140) (.c (.int .i64 1)), none, none, false⟩,
                       ⟨(some 13), .mv (.t 141), none, none, false⟩])))))
                (.seq
                 (.seq
                  (.reg [⟨(some 142), .mv (.t 12), none, none, false⟩,
                     ⟨(some 143), .mv (.t 13), none, none, false⟩,
                     ⟨(some 144), .bin .gtr .no (.t 142) (.t 143), none, none, false⟩])
                  (.cond (.t 144)
                   (.exit 4)
                   (.skip)))
                 (.seq
                  (.regd 0 [⟨(some 145), .mv (.t 0), none, none, false⟩,
                     ⟨(some 146), .mv (.t 12), none, none, false⟩,
                     ⟨(some 147), .mv (.t 0), none, none, false⟩,
                     ⟨(some 148), .mv (.t 13), none, none, false⟩,
                     ⟨(some 149), .mv (.t 0), none, none, false⟩,
                     ⟨(some 150), .mv (.t 13), none, none, false⟩,
                     ⟨(some 151), .iad 6 (.t 149) (.t 150), none, none, false⟩,
                     ⟨(some 152), .loadn 6 (.t 151), none, none, false⟩,
                     ⟨(some 153), .mv (.t 0), none, none, false⟩,
                     ⟨(some 154), .mv (.t 12), none, none, false⟩,
                     ⟨(some 155), .iad 6 (.t 153) (.t 154), none, none, false⟩,
                     ⟨(some 156), .loadn 6 (.t 155), none, none, false⟩,
                     ⟨(some 157), .iad 6 (.t 145) (.t 146), none, none, false⟩,
                     ⟨none, .store 6 (.t 157) (.t 152), none, none, false⟩,
                     ⟨(some 158), .iad 6 (.t 147) (.t 148), none, none, false⟩,
                     ⟨none, .store 6 (.t 158) (.t 156), none, none, false⟩])
                  (.seq
                   (.reg [⟨(some 159), .mv (.t 12), none, none, false⟩,
                      ⟨(some 160), .bin .add .no (.t 159) (.c (.int .i64 1)), none, none, false⟩,
                      ⟨(some 12), .mv (.t 160), none, none, false⟩])
                   (.reg [⟨(some 161), .mv (.t 13), none, none, false⟩,
                      ⟨(some 162), .bin .sub .no (.t 161) (.c (.int .i64 1)), none, none, false⟩,
                      ⟨(some 13), .mv (.t 162), none, none, false⟩])))))))))
           (.seq
            (.regd 0 [⟨(some 163), .mv (.t 0), none, none, false⟩,
               ⟨(some 164), .mv (.t 13), none, none, false⟩,
               ⟨(some 165), .mv (.t 0), none, none, false⟩,
               ⟨(some 166), .mv (.t 1), none, none, false⟩,
               ⟨(some 167), .mv (.t 0), none, none, false⟩,
               ⟨(some 168), .mv (.t 1), none, none, false⟩,
               ⟨(some 169), .iad 6 (.t 167) (.t 168), none, none, false⟩,
               ⟨(some 170), .loadn 6 (.t 169), none, none, false⟩,
               ⟨(some 171), .mv (.t 0), none, none, false⟩,
               ⟨(some 172), .mv (.t 13), none, none, false⟩,
               ⟨(some 173), .iad 6 (.t 171) (.t 172), none, none, false⟩,
               ⟨(some 174), .loadn 6 (.t 173), none, none, false⟩,
               ⟨(some 175), .iad 6 (.t 163) (.t 164), none, none, false⟩,
               ⟨none, .store 6 (.t 175) (.t 170), none, none, false⟩,
               ⟨(some 176), .iad 6 (.t 165) (.t 166), none, none, false⟩,
               ⟨none, .store 6 (.t 176) (.t 174), none, none, false⟩])
            (.seq
             (.reg [⟨(some 177), .mv (.t 13), none, none, false⟩,
                ⟨(some 10), .mv (.t 177), none, none, false⟩,
                ⟨(some 11), .mv (.c (.bool false)), none, none, false⟩])
             (.ret))))))))))))⟩

/- math/bits.Len32 -/
def a68 : AFn := ⟨19, [.t 2],
  .seq
  (.reg [⟨(some 2), .mv (.c (.int .i64 0)), none, none, false⟩])
  (.seq
   (.seq
    (.reg [⟨(some 3), .mv (.t 0), none, none, false⟩,
       ⟨(some 4), .bin .geq .no (.t 3) (.c (.int .u32 65536)), none, none, false⟩])
    (.cond (.t 4)
     (.seq
      (.reg [⟨(some 5), .mv (.t 0), none, none, false⟩,
         ⟨(some 6), .bin .shr .no (.t 5) (.c (.int .u64 16)), none, none, false⟩,
         ⟨(some 0), .mv (.t 6), none, none, false⟩])
      (.reg [⟨(some 2), .mv (.c (.int .i64 16)), none, none, false⟩]))
     (.skip)))
   (.seq
    (.seq
     (.reg [⟨(some 7), .mv (.t 0), none, none, false⟩,
        ⟨(some 8), .bin .geq .no (.t 7) (.c (.int .u32 256)), none, none, false⟩])
     (.cond (.t 8)
      (.seq
       (.reg [⟨(some 9), .mv (.t 0), none, none, false⟩,
          ⟨(some 10), .bin .shr .no (.t 9) (.c (.int .u64 8)), none, none, false⟩,
          ⟨(some 0), .mv (.t 10), none, none, false⟩])
       (.reg [⟨(some 11), .mv (.t 2), none, none, false⟩,
          ⟨(some 12), .bin .add .no (.t 11) (.c (.int .i64 8)), none, none, false⟩,
          ⟨(some 2), .mv (.t 12), none, none, false⟩]))
      (.skip)))
    (.seq
     (.reg [⟨(some 13), .mv (.t 2), none, none, false⟩,
        ⟨(some 14), .mv (.t 0), none, none, false⟩,
        ⟨(some 15), .conv .u8 (.t 14), none, none, false⟩,
        ⟨(some 16), .idxs (.c (.str ⟨#[0, 1, 2, 2, 3, 3, 3, 3, 4, 4, 4, 4, 4, 4, 4, 4, 5, 5, 5, 5, 5, 5, 5, 5, 5, 5, 5, 5, 5, 5, 5, 5, 6, 6, 6, 6, 6, 6, 6, 6, 6, 6, 6, 6, 6, 6, 6, 6, 6, 6, 6, 6, 6, 6, 6, 6, 6, 6, 6, 6, 6, 6, 6, 6, 7, 7, 7, 7, 7, 7, 7, 7, 7, 7, 7, 7, 7, 7, 7, 7, 7, 7, 7, 7, 7, 7, 7, 7, 7, 7, 7, 7, 7, 7, 7, 7, 7, 7, 7, 7, 7, 7, 7, 7, 7, 7, 7, 7, 7, 7, 7, 7, 7, 7, 7, 7, 7, 7, 7, 7, 7, 7, 7, 7, 7, 7, 7, 7, 8, 8, 8, 8, 8, 8, 8, 8, 8, 8, 8, 8, 8, 8, 8, 8, 8, 8, 8, 8, 8, 8, 8, 8, 8, 8, 8, 8, 8, 8, 8, 8, 8, 8, 8, 8, 8, 8, 8, 8, 8, 8, 8, 8, 8, 8, 8, 8, 8, 8, 8, 8, 8, 8, 8, 8, 8, 8, 8, 8, 8, 8, 8, 8, 8, 8, 8, 8, 8, 8, 8, 8, 8, 8, 8, 8, 8, 8, 8, 8, 8, 8, 8, 8, 8, 8, 8, 8, 8, 8, 8, 8, 8, 8, 8, 8, 8, 8, 8, 8, 8, 8, 8, 8, 8, 8, 8, 8, 8, 8, 8, 8, 8, 8, 8, 8, 8, 8, 8, 8, 8, 8, 8, 8, 8, 8, 8, 8]⟩)) (.t 15), none, none, false⟩,
        ⟨(some 17), .conv .i64 (.t 16), none, none, false⟩,
        ⟨(some 18), .bin .add .no (.t 13) (.t 17), none, none, false⟩,
        ⟨(some 2), .mv (.t 18), none, none, false⟩])
     (.ret))))⟩

/- math/bits.Len64 -/
def a69 : AFn := ⟨25, [.t 2],
  .seq
  (.reg [⟨(some 2), .mv (.c (.int .i64 0)), none, none, false⟩])
  (.seq
   (.seq
    (.reg [⟨(some 3), .mv (.t 0), none, none, false⟩,
       ⟨(some 4), .bin .geq .no (.t 3) (.c (.int .u64 4294967296)), none, none, false⟩])
    (.cond (.t 4)
     (.seq
      (.reg [⟨(some 5), .mv (.t 0), none, none, false⟩,
         ⟨(some 6), .bin .shr .no (.t 5) (.c (.int .u64 32)), none, none, false⟩,
         ⟨(some 0), .mv (.t 6), none, none, false⟩])
      (.reg [⟨(some 2), .mv (.c (.int .i64 32)), none, none, false⟩]))
     (.skip)))
   (.seq
    (.seq
     (.reg [⟨(some 7), .mv (.t 0), none, none, false⟩,
        ⟨(some 8), .bin .geq .no (.t 7) (.c (.int .u64 65536)), none, none, false⟩])
     (.cond (.t 8)
      (.seq
       (.reg [⟨(some 9), .mv (.t 0), none, none, false⟩,
          ⟨(some 10), .bin .shr .no (.t 9) (.c (.int .u64 16)), none, none, false⟩,
          ⟨(some 0), .mv (.t 10), none, none, false⟩])
       (.reg [⟨(some 11), .mv (.t 2), none, none, false⟩,
          ⟨(some 12), .bin .add .no (.t 11) (.c (.int .i64 16)), none, none, false⟩,
          ⟨(some 2), .mv (.t 12), none, none, false⟩]))
      (.skip)))
    (.seq
     (.seq
      (.reg [⟨(some 13), .mv (.t 0), none, none, false⟩,
         ⟨(some 14), .bin .geq .no (.t 13) (.c (.int .u64 256)), none, none, false⟩])
      (.cond (.t 14)
       (.seq
        (.reg [⟨(some 15), .mv (.t 0), none, none, false⟩,
           ⟨(some 16), .bin .shr .no (.t 15) (.c (.int .u64 8)), none, none, false⟩,
           ⟨(some 0), .mv (.t 16), none, none, false⟩])
        (.reg [⟨(some 17), .mv (.t 2), none, none, false⟩,
           ⟨(some 18), .bin .add .no (.t 17) (.c (.int .i64 8)), none, none, false⟩,
           ⟨(some 2), .mv (.t 18), none, none, false⟩]))
       (.skip)))
     (.seq
      (.reg [⟨(some 19), .mv (.t 2), none, none, false⟩,
         ⟨(some 20), .mv (.t 0), none, none, false⟩,
         ⟨(some 21), .conv .u8 (.t 20), none, none, false⟩,
         ⟨(some 22), .idxs (.c (.str ⟨#[0, 1, 2, 2, 3, 3, 3, 3, 4, 4, 4, 4, 4, 4, 4, 4, 5, 5, 5, 5, 5, 5, 5, 5, 5, 5, 5, 5, 5, 5, 5, 5, 6, 6, 6, 6, 6, 6, 6, 6, 6, 6, 6, 6, 6, 6, 6, 6, 6, 6, 6, 6, 6, 6, 6, 6, 6, 6, 6, 6, 6, 6, 6, 6, 7, 7, 7, 7, 7, 7, 7, 7, 7, 7, 7, 7, 7, 7, 7, 7, 7, 7, 7, 7, 7, 7, 7, 7, 7, 7, 7, 7, 7, 7, 7, 7, 7, 7, 7, 7, 7, 7, 7, 7, 7, 7, 7, 7, 7, 7, 7, 7, 7, 7, 7, 7, 7, 7, 7, 7, 7, 7, 7, 7, 7, 7, 7, 7, 8, 8, 8, 8, 8, 8, 8, 8, 8, 8, 8, 8, 8, 8, 8, 8, 8, 8, 8, 8, 8, 8, 8, 8, 8, 8, 8, 8, 8, 8, 8, 8, 8, 8, 8, 8, 8, 8, 8, 8, 8, 8, 8, 8, 8, 8, 8, 8, 8, 8, 8, 8, 8, 8, 8, 8, 8, 8, 8, 8, 8, 8, 8, 8, 8, 8, 8, 8, 8, 8, 8, 8, 8, 8, 8, 8, 8, 8, 8, 8, 8, 8, 8, 8, 8, 8, 8, 8, 8, 8, 8, 8, 8, 8, 8, 8, 8, 8, 8, 8, 8, 8, 8, 8, 8, 8, 8, 8, 8, 8, 8, 8, 8, 8, 8, 8, 8, 8, 8, 8, 8, 8, 8, 8, 8, 8, 8, 8]⟩)) (.t 21), none, none, false⟩,
         ⟨(some 23), .conv .i64 (.t 22), none, none, false⟩,
         ⟨(some 24), .bin .add .no (.t 19) (.t 23), none, none, false⟩,
         ⟨(some 2), .mv (.t 24), none, none, false⟩])
      (.ret)))))⟩

/- slices.siftDownCmpFunc[redpencil/api.Node] -/
def a70 : AFn := ⟨82, [],
  .seq
  (.reg [⟨(some 12), .mv (.t 1), none, none, false⟩,
     ⟨(some 10), .mv (.t 12), none, none, false⟩])
  (.block 0 (.loop (.block 1 (.seq
      (.reg [⟨(some 13), .mv (.t 10), none, none, false⟩,
         ⟨(some 14), .bin .mul .no (.c (.int .i64 2)) (.t 13), none, none, false⟩,
         ⟨(some 15), .bin .add .no (.t 14) (.c (.int .i64 1)), none, none, false⟩,
         ⟨(some 11), .mv (.t 15), none, none, false⟩])
      (.seq
       (.seq
        (.reg [⟨(some 16), .mv (.t 11), none, none, false⟩,
           ⟨(some 17), .mv (.t 2), none, none, false⟩,
           ⟨(some 18), .bin .geq .no (.t 16) (.t 17), none, none, false⟩])
        (.cond (.t 18)
         (.exit 0)
         (.skip)))
       (.seq
        (.seq
         (.regd 0 [⟨(some 19), .mv (.t 11), none, none, false⟩,
            ⟨(some 20), .bin .add .no (.t 19) (.c (.int .i64 1)), none, none, false⟩,
            ⟨(some 21), .mv (.t 2), none, none, false⟩,
            ⟨(some 22), .bin .lss .no (.t 20) (.t 21), none, none, false⟩,
            ⟨(some 23), .mv (.t 22), none, none, false⟩,
            ⟨(some 24), .mv (.t 4), (some (23, true)), none, false⟩,
            ⟨(some 25), .mv (.t 0), (some (23, true)), none, false⟩,
            ⟨(some 26), .mv (.t 3), (some (23, true)), none, false⟩,
            ⟨(some 27), .mv (.t 11), (some (23, true)), none, false⟩,
            ⟨(some 28), .bin .add .no (.t 26) (.t 27), (some (23, true)), none, false⟩,
            ⟨(some 29), .iad 6 (.t 25) (.t 28), (some (23, true)), none, false⟩,
            ⟨(some 30), .loadn 6 (.t 29), (some (23, true)), none, false⟩,
            ⟨(some 31), .mv (.t 0), (some (23, true)), none, false⟩,
            ⟨(some 32), .mv (.t 3), (some (23, true)), none, false⟩,
            ⟨(some 33), .mv (.t 11), (some (23, true)), none, false⟩,
            ⟨(some 34), .bin .add .no (.t 32) (.t 33), (some (23, true)), none, false⟩,
            ⟨(some 35), .bin .add .no (.t 34) (.c (.int .i64 1)), (some (23, true)), none, false⟩,
            ⟨(some 36), .iad 6 (.t 31) (.t 35), (some (23, true)), none, false⟩,
            ⟨(some 37), .loadn 6 (.t 36), (some (23, true)), none, false⟩,
            ⟨(some 38), .callv (.t 24) false [(.t 30), (.t 37)], (some (23, true)), none, false⟩,
            ⟨(some 39), .bin .lss .no (.t 38) (.c (.int .i64 0)), (some (23, true)), none, false⟩,
            ⟨(some 40), .pick (.t 23) (.t 39) (.c (.bool false)), none, none, false⟩])
         (.cond (.t 40)
          (.reg [⟨(some 41), .mv (.t 11), none, none, false⟩,
             ⟨(some 42), .bin .add .no (.t 41) (.c (.int .i64 1)), none, none, false⟩,
             ⟨(some 11), .mv (.t 42), none, none, false⟩])
          (.skip)))
        (.seq
         (.seq
          (.regd 0 [⟨(some 43), .mv (.t 4), none, none, false⟩,
             ⟨(some 44), .mv (.t 0), none, none, false⟩,
             ⟨(some 45), .mv (.t 3), none, none, false⟩,
             ⟨(some 46), .mv (.t 10), none, none, false⟩,
             ⟨(some 47), .bin .add .no (.t 45) (.t 46), none, none, false⟩,
             ⟨(some 48), .iad 6 (.t 44) (.t 47), none, none, false⟩,
             ⟨(some 49), .loadn 6 (.t 48), none, none, false⟩,
             ⟨(some 50), .mv (.t 0), none, none, false⟩,
             ⟨(some 51), .mv (.t 3), none, none, false⟩,
             ⟨(some 52), .mv (.t 11), none, none, false⟩,
             ⟨(some 53), .bin .add .no (.t 51) (.t 52), none, none, false⟩,
             ⟨(some 54), .iad 6 (.t 50) (.t 53), none, none, false⟩,
             ⟨(some 55), .loadn 6 (.t 54), none, none, false⟩,
             ⟨(some 56), .callv (.t 43) false [(.t 49), (.t 55)], none, none, false⟩,
             ⟨(some 57), .bin .lss .no (.t 56) (.c (.int .i64 0)), none, none, false⟩,
             ⟨(some 58), .un .not (.t 57), none, none, false⟩])
          (.cond (.t 58)
           (.ret)
           (.skip)))
         (.seq
          (.regd 0 [⟨(some 59), .mv (.t 0), none, none, false⟩,
             ⟨(some 60), .mv (.t 3), none, none, false⟩,
             ⟨(some 61), .mv (.t 10), none, none, false⟩,
             ⟨(some 62), .bin .add .no (.t 60) (.t 61), none, none, false⟩,
             ⟨(some 63), .mv (.t 0), none, none, false⟩,
             ⟨(some 64), .mv (.t 3), none, none, false⟩,
             ⟨(some 65), .mv (.t 11), none, none, false⟩,
             ⟨(some 66), .bin .add .no (.t 64) (.t 65), none, none, false⟩,
             ⟨(some 67), .mv (.t 0), none, none, false⟩,
             ⟨(some 68), .mv (.t 3), none, none, false⟩,
             ⟨(some 69), .mv (.t 11), none, none, false⟩,
             ⟨(some 70), .bin .add .no (.t 68) (.t 69), none, none, false⟩,
             ⟨(some 71), .iad 6 (.t 67) (.t 70), none, none, false⟩,
             ⟨(some 72), .loadn 6 (.t 71), none, none, false⟩,
             ⟨(some 73), .mv (.t 0), none, none, false⟩,
             ⟨(some 74), .mv (.t 3), none, none, false⟩,
             ⟨(some 75), .mv (.t 10), none, none, false⟩,
             ⟨(some 76), .bin .add .no (.t 74) (.t 75), none, none, false⟩,
             ⟨(some 77), .iad 6 (.t 73) (.t 76), none, none, false⟩,
             ⟨(some 78), .loadn 6 (.t 77), none, none, false⟩,
             ⟨(some 79), .iad 6 (.t 59) (.t 62), none, none, false⟩,
             ⟨none, .store 6 (.t 79) (.t 72), none, none, false⟩,
             ⟨(some 80), .iad 6 (.t 63) (.t 66), none, none, false⟩,
             ⟨none, .store 6 (.t 80) (.t 78), none, none, false⟩])
          (.reg [⟨(some 81), .mv (.t 11), none, none, false⟩,
             ⟨(some 10), .mv (.t 81), none, none, false⟩])))))))))⟩

/- slices.nextPowerOfTwo -/
def a71 : AFn := ⟨7, [.t 2],
  .seq
  (.reg [⟨(some 2), .mv (.c (.int .u64 0)), none, none, false⟩])
  (.seq
   (.reg [⟨(some 3), .mv (.t 0), none, none, false⟩,
      ⟨(some 4), .conv .u64 (.t 3), none, none, false⟩,
      ⟨(some 5), .call 59 false [(.t 4)], none, none, false⟩,
      ⟨(some 6), .bin .shl .no (.c (.int .u64 1)) (.t 5), none, none, false⟩,
      ⟨(some 2), .mv (.t 6), none, none, false⟩])
   (.ret))⟩

/- (*slices.xorshift).Next -/
def a72 : AFn := ⟨33, [.t 2],
  .seq
  (.reg [⟨(some 2), .mv (.c (.int .u64 0)), none, none, false⟩])
  (.seq
   (.regd 0 [⟨(some 3), .mv (.t 0), none, none, false⟩,
      ⟨(some 4), .nchk (.t 3), none, none, false⟩,
      ⟨(some 5), .load1 (.t 4), none, none, false⟩,
      ⟨(some 6), .mv (.t 0), none, none, false⟩,
      ⟨(some 7), .nchk (.t 6), none, none, false⟩,
      ⟨(some 8), .load1 (.t 7), none, none, false⟩,
      ⟨(some 9), .bin .shl .no (.t 8) (.c (.int .u64 13)), none, none, false⟩,
      ⟨(some 10), .bin .xor .no (.t 5) (.t 9), none, none, false⟩,
      ⟨(some 11), .nchk (.t 3), none, none, false⟩,
      ⟨none, .store 1 (.t 11) (.t 10), none, none, false⟩])
   (.seq
    (.regd 0 [⟨(some 12), .mv (.t 0), none, none, false⟩,
       ⟨(some 13), .nchk (.t 12), none, none, false⟩,
       ⟨(some 14), .load1 (.t 13), none, none, false⟩,
       ⟨(some 15), .mv (.t 0), none, none, false⟩,
       ⟨(some 16), .nchk (.t 15), none, none, false⟩,
       ⟨(some 17), .load1 (.t 16), none, none, false⟩,
       ⟨(some 18), .bin .shr .no (.t 17) (.c (.int .u64 7)), none, none, false⟩,
       ⟨(some 19), .bin .xor .no (.t 14) (.t 18), none, none, false⟩,
       ⟨(some 20), .nchk (.t 12), none, none, false⟩,
       ⟨none, .store 1 (.t 20) (.t 19), none, none, false⟩])
    (.seq
     (.regd 0 [⟨(some 21), .mv (.t 0), none, none, false⟩,
        ⟨(some 22), .nchk (.t 21), none, none, false⟩,
        ⟨(some 23), .load1 (.t 22), none, none, false⟩,
        ⟨(some 24), .mv (.t 0), none, none, false⟩,
        ⟨(some 25), .nchk (.t 24), none, none, false⟩,
        ⟨(some 26), .load1 (.t 25), none, none, false⟩,
        ⟨(some 27), .bin .shl .no (.t 26) (.c (.int .u64 17)), none, none, false⟩,
        ⟨(some 28), .bin .xor .no (.t 23) (.t 27), none, none, false⟩,
        ⟨(some 29), .nchk (.t 21), none, none, false⟩,
        ⟨none, .store 1 (.t 29) (.t 28), none, none, false⟩])
     (.seq
      (.reg [⟨(some 30), .mv (.t 0), none, none, false⟩,
         ⟨(some 31), .nchk (.t 30), none, none, false⟩,
         ⟨(some 32), .load1 (.t 31), none, none, false⟩,
         ⟨(some 2), .mv (.t 32), none, none, false⟩])
      (.ret)))))⟩

/- slices.medianAdjacentCmpFunc[redpencil/api.Node] -/
def a73 : AFn := ⟨18, [.t 8],
  .seq
  (.reg [⟨(some 8), .mv (.c (.int .i64 0)), none, none, false⟩])
  (.seq
   (.reg [⟨(some 9), .mv (.t 0), none, none, false⟩,
      ⟨(some 10), .mv (.t 1), none, none, false⟩,
      ⟨(some 11), .bin .sub .no (.t 10) (.c (.int .i64 1)), none, none, false⟩,
      ⟨(some 12), .mv (.t 1), none, none, false⟩,
      ⟨(some 13), .mv (.t 1), none, none, false⟩,
      ⟨(some 14), .bin .add .no (.t 13) (.c (.int .i64 1)), none, none, false⟩,
      ⟨(some 15), .mv (.t 2), none, none, false⟩,
      ⟨(some 16), .mv (.t 3), none, none, false⟩,
      ⟨(some 17), .call 74 false [(.t 9), (.t 11), (.t 12), (.t 14), (.t 15), (.t 16)], none, none, false⟩,
      ⟨(some 8), .mv (.t 17), none, none, false⟩])
   (.ret))⟩

/- slices.medianCmpFunc[redpencil/api.Node] -/
def a74 : AFn := ⟨41, [.t 12],
  .seq
  (.reg [⟨(some 12), .mv (.c (.int .i64 0)), none, none, false⟩])
  (.seq
   (.reg [⟨(some 14), .mv (.t 0), none, none, false⟩,
      ⟨(some 15), .mv (.t 1), none, none, false⟩,
      ⟨(some 16), .mv (.t 2), none, none, false⟩,
      ⟨(some 17), .mv (.t 4), none, none, false⟩,
      ⟨(some 18), .mv (.t 5), none, none, false⟩,
      ⟨(some 19), .call 75 false [(.t 14), (.t 15), (.t 16), (.t 17), (.t 18)], none, none, false⟩,
      ⟨(some 13), .mv (.t 19), none, none, false⟩,
      ⟨(some 20), .ext (.t 13) 0, none, none, false⟩,
      ⟨(some 21), .ext (.t 13) 1, none, none, false⟩,
      ⟨(some 1), .mv (.t 20), none, none, false⟩,
      ⟨(some 2), .mv (.t 21), none, none, false⟩])
   (.seq
    (.reg [⟨(some 23), .mv (.t 0), none, none, false⟩,
       ⟨(some 24), .mv (.t 2), none, none, false⟩,
       ⟨(some 25), .mv (.t 3), none, none, false⟩,
       ⟨(some 26), .mv (.t 4), none, none, false⟩,
       ⟨(some 27), .mv (.t 5), none, none, false⟩,
       ⟨(some 28), .call 75 false [(.t 23), (.t 24), (.t 25), (.t 26), (.t 27)], none, none, false⟩,
       ⟨(some 22), .mv (.t 28), none, none, false⟩,
       ⟨(some 29), .ext (.t 22) 0, none, none, false⟩,
       ⟨(some 30), .ext (.t 22) 1, none, none, false⟩,
       ⟨(some 2), .mv (.t 29), none, none, false⟩,
       ⟨(some 3), .mv (.t 30), none, none, false⟩])
    (.seq
     (.reg [⟨(some 32), .mv (.t 0), none, none, false⟩,
        ⟨(some 33), .mv (.t 1), none, none, false⟩,
        ⟨(some 34), .mv (.t 2), none, none, false⟩,
        ⟨(some 35), .mv (.t 4), none, none, false⟩,
        ⟨(some 36), .mv (.t 5), none, none, false⟩,
        ⟨(some 37), .call 75 false [(.t 32), (.t 33), (.t 34), (.t 35), (.t 36)], none, none, false⟩,
        ⟨(some 31), .mv (.t 37), none, none, false⟩,
        ⟨(some 38), .ext (.t 31) 0, none, none, false⟩,
        ⟨(some 39), .ext (.t 31) 1, none, none, false⟩,
        ⟨(some 1), .mv (.t 38), none, none, false⟩,
        ⟨(some 2), .mv (.t 39), none, none, false⟩])
     (.seq
      (.reg [⟨(some 40), .mv (.t 2), none, none, false⟩,
         ⟨(some 12), .mv (.t 40), none, none, false⟩])
      (.ret)))))⟩

/- slices.order2CmpFunc[redpencil/api.Node] -/
def a75 : AFn := ⟨32, [.t 10, .t 11],
  .seq
  (.reg [⟨(some 10), .mv (.c (.int .i64 0)), none, none, false⟩,
     ⟨(some 11), .mv (.c (.int .i64 0)), none, none, false⟩])
  (.seq
   (.seq
    (.regd 0 [⟨(some 12), .mv (.t 4), none, none, false⟩,
       ⟨(some 13), .mv (.t 0), none, none, false⟩,
       ⟨(some 14), .mv (.t 2), none, none, false⟩,
       ⟨(some 15), .iad 6 (.t 13) (.t 14), none, none, false⟩,
       ⟨(some 16), .loadn 6 (.t 15), none, none, false⟩,
       ⟨(some 17), .mv (.t 0), none, none, false⟩,
       ⟨(some 18), .mv (.t 1), none, none, false⟩,
       ⟨(some 19), .iad 6 (.t 17) (.t 18), none, none, false⟩,
       ⟨(some 20), .loadn 6 (.t 19), none, none, false⟩,
       ⟨(some 21), .callv (.t 12) false [(.t 16), (.t 20)], none, none, false⟩,
       ⟨(some 22), .bin .lss .no (.t 21) (.c (.int .i64 0)), none, none, false⟩])
    (.cond (.t 22)
     (.seq
      (.reg [⟨(some 23), .mv (.t 3), none, none, false⟩,
         ⟨(some 24), .nchk (.t 23), none, none, false⟩,
         ⟨(some 25), .load1 (.t 24), none, none, false⟩,
         ⟨(some 26), .bin .add .no (.t 25) (.c (.int .i64 1)), none, none, false⟩,
         ⟨(some 27), .nchk (.t 23), none, none, false⟩,
         ⟨none, .store 1 (.t 27) (.t 26), none, none, false⟩])
      (.seq
       (.reg [⟨(some 28), .mv (.t 2), none, none, false⟩,
          ⟨(some 29), .mv (.t 1), none, none, false⟩,
          ⟨(some 10), .mv (.t 28), none, none, false⟩,
          ⟨(some 11), .mv (.t 29), none, none, false⟩])
       (.ret)))
     (.skip)))
   (.seq
    (.reg [⟨(some 30), .mv (.t 1), none, none, false⟩,
       ⟨(some 31), .mv (.t 2), none, none, false⟩,
       ⟨(some 10), .mv (.t 30), none, none, false⟩,
       ⟨(some 11), .mv (.t 31), none, none, false⟩])
    (.ret)))⟩

end Go.AM
