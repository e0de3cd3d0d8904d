/-
  The functions of this seat as the abstract machine runs them. Printed by a program of this project.
-/
import Derived.Test.YtihjheckdjocoaaAmCore
set_option maxRecDepth 100000
namespace Go.AM
open Go

/- redpencil/redpencillaw14.JoinJoins -/
def a3 : AFn := ⟨91, [.t 4],
  .seq
  (.reg [⟨(some 4), .mv (.c (.bool false)), none, none, false⟩])
  (.seq
   (.seq
    (.reg [⟨(some 9), .mv (.t 0), none, none, false⟩,
       ⟨(some 10), .len .sl (.t 9), none, none, false⟩,
       ⟨(some 11), .bin .gtr .no (.t 10) (.c (.int .i64 60)), none, none, false⟩,
       ⟨(some 12), .mv (.t 11), none, none, false⟩,
       ⟨(some 13), .mv (.t 1), (some (12, false)), none, false⟩,
       ⟨(some 14), .len .sl (.t 13), (some (12, false)), none, false⟩,
       ⟨(some 15), .bin .gtr .no (.t 14) (.c (.int .i64 60)), (some (12, false)), none, false⟩,
       ⟨(some 16), .pick (.t 12) (.c (.bool true)) (.t 15), none, none, false⟩])
    (.cond (.t 16)
     (.seq
      (.reg [⟨(some 17), .call 8 false [], none, none, false⟩,
         ⟨(some 4), .mv (.t 17), none, none, false⟩])
      (.ret))
     (.skip)))
   (.seq
    (.seq
     (.reg [⟨(some 18), .mv (.t 0), none, none, false⟩,
        ⟨(some 19), .call 9 false [(.t 18)], none, none, false⟩,
        ⟨(some 20), .un .not (.t 19), none, none, false⟩,
        ⟨(some 21), .mv (.t 20), none, none, false⟩,
        ⟨(some 22), .mv (.t 1), (some (21, false)), none, false⟩,
        ⟨(some 23), .call 9 false [(.t 22)], (some (21, false)), none, false⟩,
        ⟨(some 24), .un .not (.t 23), (some (21, false)), none, false⟩,
        ⟨(some 25), .pick (.t 21) (.c (.bool true)) (.t 24), none, none, false⟩])
     (.cond (.t 25)
      (.seq
       (.reg [⟨(some 26), .mv (.t 0), none, none, false⟩,
          ⟨(some 27), .mv (.t 1), none, none, false⟩,
          ⟨(some 28), .call 10 false [(.t 26), (.t 27), (.c (.bool false)), (.c (.int .i64 2))], none, none, false⟩,
          ⟨(some 29), .mv (.t 28), none, none, false⟩,
          ⟨(some 30), .mv (.t 0), (some (29, true)), none, false⟩,
          ⟨(some 31), .mv (.t 1), (some (29, true)), none, false⟩,
          ⟨(some 32), .call 11 false [(.t 30), (.t 31), (.c .nils), (.c (.int .i64 2))], (some (29, true)), none, false⟩,
          ⟨(some 33), .pick (.t 29) (.t 32) (.c (.bool false)), none, none, false⟩,
          ⟨(some 34), .mv (.t 33), none, none, false⟩,
          ⟨(some 35), .call 8 false [], (some (34, true)), none, false⟩,
          ⟨(some 36), .pick (.t 34) (.t 35) (.c (.bool false)), none, none, false⟩,
          ⟨(some 4), .mv (.t 36), none, none, false⟩])
       (.ret))
      (.skip)))
    (.seq
     (.seq
      (.reg [⟨(some 37), .mv (.t 0), none, none, false⟩,
         ⟨(some 38), .mv (.t 1), none, none, false⟩,
         ⟨(some 39), .call 12 false [(.t 37), (.t 38)], none, none, false⟩,
         ⟨(some 40), .un .not (.t 39), none, none, false⟩])
      (.cond (.t 40)
       (.seq
        (.reg [⟨(some 41), .mv (.t 0), none, none, false⟩,
           ⟨(some 42), .mv (.t 1), none, none, false⟩,
           ⟨(some 43), .call 10 false [(.t 41), (.t 42), (.c (.bool false)), (.c (.int .i64 0))], none, none, false⟩,
           ⟨(some 44), .mv (.t 43), none, none, false⟩,
           ⟨(some 45), .mv (.t 0), (some (44, true)), none, false⟩,
           ⟨(some 46), .mv (.t 1), (some (44, true)), none, false⟩,
           ⟨(some 47), .call 11 false [(.t 45), (.t 46), (.c .nils), (.c (.int .i64 15))], (some (44, true)), none, false⟩,
           ⟨(some 48), .pick (.t 44) (.t 47) (.c (.bool false)), none, none, false⟩,
           ⟨(some 49), .mv (.t 48), none, none, false⟩,
           ⟨(some 50), .call 8 false [], (some (49, true)), none, false⟩,
           ⟨(some 51), .pick (.t 49) (.t 50) (.c (.bool false)), none, none, false⟩,
           ⟨(some 4), .mv (.t 51), none, none, false⟩])
        (.ret))
       (.skip)))
     (.seq
      (.reg [⟨(some 52), .mv (.t 0), none, none, false⟩,
         ⟨(some 53), .call 13 false [(.t 52)], none, none, false⟩,
         ⟨(some 54), .mv (.t 1), none, none, false⟩,
         ⟨(some 55), .call 13 false [(.t 54)], none, none, false⟩,
         ⟨(some 5), .mv (.t 53), none, none, false⟩,
         ⟨(some 6), .mv (.t 55), none, none, false⟩])
      (.seq
       (.reg [⟨(some 57), .mv (.t 5), none, none, false⟩,
          ⟨(some 58), .mv (.t 6), none, none, false⟩,
          ⟨(some 59), .call 14 false [(.t 57), (.t 58)], none, none, false⟩,
          ⟨(some 56), .mv (.t 59), none, none, false⟩,
          ⟨(some 60), .ext (.t 56) 0, none, none, false⟩,
          ⟨(some 61), .ext (.t 56) 1, none, none, false⟩,
          ⟨(some 7), .mv (.t 60), none, none, false⟩,
          ⟨(some 8), .mv (.t 61), none, none, false⟩])
       (.seq
        (.seq
         (.reg [⟨(some 62), .mv (.t 0), none, none, false⟩,
            ⟨(some 63), .mv (.t 1), none, none, false⟩,
            ⟨(some 64), .call 10 false [(.t 62), (.t 63), (.c (.bool true)), (.c (.int .i64 0))], none, none, false⟩,
            ⟨(some 65), .un .not (.t 64), none, none, false⟩,
            ⟨(some 66), .mv (.t 65), none, none, false⟩,
            ⟨(some 67), .mv (.t 7), (some (66, false)), none, false⟩,
            ⟨(some 68), .mv (.t 0), (some (66, false)), none, false⟩,
            ⟨(some 69), .mv (.t 1), (some (66, false)), none, false⟩,
            ⟨(some 70), .call 16 false [(.t 68), (.t 69)], (some (66, false)), none, false⟩,
            ⟨(some 71), .call 15 false [(.t 67), (.t 70)], (some (66, false)), none, false⟩,
            ⟨(some 72), .un .not (.t 71), (some (66, false)), none, false⟩,
            ⟨(some 73), .pick (.t 66) (.c (.bool true)) (.t 72), none, none, false⟩,
            ⟨(some 74), .mv (.t 73), none, none, false⟩,
            ⟨(some 75), .mv (.t 8), (some (74, false)), none, false⟩,
            ⟨(some 76), .bin .neq .no (.t 75) (.c (.int .i64 0)), (some (74, false)), none, false⟩,
            ⟨(some 77), .pick (.t 74) (.c (.bool true)) (.t 76), none, none, false⟩])
         (.cond (.t 77)
          (.seq
           (.reg [⟨(some 4), .mv (.c (.bool false)), none, none, false⟩])
           (.ret))
          (.skip)))
        (.seq
         (.reg [⟨(some 78), .mv (.t 7), none, none, false⟩,
            ⟨(some 79), .call 17 false [(.t 78)], none, none, false⟩])
         (.seq
          (.reg [⟨(some 80), .mv (.t 5), none, none, false⟩,
             ⟨(some 81), .mv (.t 0), none, none, false⟩,
             ⟨(some 82), .call 15 false [(.t 80), (.t 81)], none, none, false⟩,
             ⟨(some 83), .mv (.t 82), none, none, false⟩,
             ⟨(some 84), .mv (.t 6), (some (83, true)), none, false⟩,
             ⟨(some 85), .mv (.t 1), (some (83, true)), none, false⟩,
             ⟨(some 86), .call 15 false [(.t 84), (.t 85)], (some (83, true)), none, false⟩,
             ⟨(some 87), .pick (.t 83) (.t 86) (.c (.bool false)), none, none, false⟩,
             ⟨(some 88), .mv (.t 87), none, none, false⟩,
             ⟨(some 89), .call 8 false [], (some (88, true)), none, false⟩,
             ⟨(some 90), .pick (.t 88) (.t 89) (.c (.bool false)), none, none, false⟩,
             ⟨(some 4), .mv (.t 90), none, none, false⟩])
          (.ret)))))))))⟩

/- redpencil/redpencillaw14.JoinAlls -/
def a4 : AFn := ⟨100, [.t 2],
  .seq
  (.reg [⟨(some 2), .mv (.c (.bool false)), none, none, false⟩])
  (.seq
   (.seq
    (.reg [⟨(some 10), .mv (.t 0), none, none, false⟩,
       ⟨(some 11), .len .sl (.t 10), none, none, false⟩,
       ⟨(some 12), .bin .gtr .no (.t 11) (.c (.int .i64 6)), none, none, false⟩])
    (.cond (.t 12)
     (.seq
      (.reg [⟨(some 13), .call 8 false [], none, none, false⟩,
         ⟨(some 2), .mv (.t 13), none, none, false⟩])
      (.ret))
     (.skip)))
   (.seq
    (.reg [⟨(some 3), .mv (.c (.bool true)), none, none, false⟩,
       ⟨(some 4), .mv (.c (.bool true)), none, none, false⟩])
    (.seq
     (.reg [⟨(some 5), .mv (.c .nils), none, none, false⟩])
     (.seq
      (.seq
       (.reg [⟨(some 6), .mv (.c (.int .i64 0)), none, none, false⟩])
       (.block 0 (.loop (.seq
          (.seq
           (.reg [⟨(some 14), .mv (.t 6), none, none, false⟩,
              ⟨(some 15), .mv (.t 0), none, none, false⟩,
              ⟨(some 16), .len .sl (.t 15), none, none, false⟩,
              ⟨(some 17), .bin .lss .no (.t 14) (.t 16), none, none, false⟩])
           (.cond (.t 17)
            (.skip)
            (.exit 0)))
          (.seq
           (.block 1 (.seq
             (.seq
              (.reg [⟨(some 20), .mv (.t 0), none, none, false⟩,
                 ⟨(some 21), .mv (.t 6), none, none, false⟩,
                 ⟨(some 22), .iad 1 (.t 20) (.t 21), none, none, false⟩,
                 ⟨(some 23), .load1 (.t 22), none, none, false⟩,
                 ⟨(some 24), .len .sl (.t 23), none, none, false⟩,
                 ⟨(some 25), .bin .gtr .no (.t 24) (.c (.int .i64 30)), none, none, false⟩])
              (.cond (.t 25)
               (.seq
                (.reg [⟨(some 26), .call 8 false [], none, none, false⟩,
                   ⟨(some 2), .mv (.t 26), none, none, false⟩])
                (.ret))
               (.skip)))
             (.reg [⟨(some 27), .mv (.t 3), none, none, false⟩,
                ⟨(some 28), .mv (.t 27), none, none, false⟩,
                ⟨(some 29), .mv (.t 0), (some (28, true)), none, false⟩,
                ⟨(some 30), .mv (.t 6), (some (28, true)), none, false⟩,
                ⟨(some 31), .iad 1 (.t 29) (.t 30), (some (28, true)), none, false⟩,
                ⟨(some 32), .load1 (.t 31), (some (28, true)), none, false⟩,
                ⟨(some 33), .call 9 false [(.t 32)], (some (28, true)), none, false⟩,
                ⟨(some 34), .pick (.t 28) (.t 33) (.c (.bool false)), none, none, false⟩,
                ⟨(some 3), .mv (.t 34), none, none, false⟩])))
           (.reg [⟨(some 18), .mv (.t 6), none, none, false⟩,
              ⟨(some 19), .bin .add .no (.t 18) (.c (.int .i64 1)), none, none, false⟩,
              ⟨(some 6), .mv (.t 19), none, none, false⟩]))))))
      (.seq
       (.seq
        (.reg [⟨(some 7), .mv (.c (.int .i64 0)), none, none, false⟩])
        (.block 2 (.loop (.seq
           (.seq
            (.reg [⟨(some 35), .mv (.t 7), none, none, false⟩,
               ⟨(some 36), .mv (.t 0), none, none, false⟩,
               ⟨(some 37), .len .sl (.t 36), none, none, false⟩,
               ⟨(some 38), .bin .lss .no (.t 35) (.t 37), none, none, false⟩,
               ⟨(some 39), .mv (.t 38), none, none, false⟩,
               ⟨(some 40), .mv (.t 3), (some (39, true)), none, false⟩,
               ⟨(some 41), .pick (.t 39) (.t 40) (.c (.bool false)), none, none, false⟩])
            (.cond (.t 41)
             (.skip)
             (.exit 2)))
           (.seq
            (.block 3 (.seq
              (.seq
               (.reg [⟨(some 8), .mv (.c (.int .i64 0)), none, none, false⟩])
               (.block 4 (.loop (.seq
                  (.seq
                   (.reg [⟨(some 44), .mv (.t 8), none, none, false⟩,
                      ⟨(some 45), .mv (.t 7), none, none, false⟩,
                      ⟨(some 46), .bin .lss .no (.t 44) (.t 45), none, none, false⟩])
                   (.cond (.t 46)
                    (.skip)
                    (.exit 4)))
                  (.seq
                   (.block 5 (.regd 0 [⟨(some 49), .mv (.t 4), none, none, false⟩,
                       ⟨(some 50), .mv (.t 49), none, none, false⟩,
                       ⟨(some 51), .mv (.t 0), (some (50, true)), none, false⟩,
                       ⟨(some 52), .mv (.t 7), (some (50, true)), none, false⟩,
                       ⟨(some 53), .iad 1 (.t 51) (.t 52), (some (50, true)), none, false⟩,
                       ⟨(some 54), .load1 (.t 53), (some (50, true)), none, false⟩,
                       ⟨(some 55), .mv (.t 0), (some (50, true)), none, false⟩,
                       ⟨(some 56), .mv (.t 8), (some (50, true)), none, false⟩,
                       ⟨(some 57), .iad 1 (.t 55) (.t 56), (some (50, true)), none, false⟩,
                       ⟨(some 58), .load1 (.t 57), (some (50, true)), none, false⟩,
                       ⟨(some 59), .call 12 false [(.t 54), (.t 58)], (some (50, true)), none, false⟩,
                       ⟨(some 60), .pick (.t 50) (.t 59) (.c (.bool false)), none, none, false⟩,
                       ⟨(some 4), .mv (.t 60), none, none, false⟩]))
                   (.reg [⟨(some 47), .mv (.t 8), none, none, false⟩,
                      ⟨(some 48), .bin .add .no (.t 47) (.c (.int .i64 1)), none, none, false⟩,
                      ⟨(some 8), .mv (.t 48), none, none, false⟩]))))))
              (.reg [⟨(some 61), .mv (.t 5), none, none, false⟩,
                 ⟨(some 62), .mv (.t 0), none, none, false⟩,
                 ⟨(some 63), .mv (.t 7), none, none, false⟩,
                 ⟨(some 64), .iad 1 (.t 62) (.t 63), none, none, false⟩,
                 ⟨(some 65), .load1 (.t 64), none, none, false⟩,
                 ⟨(some 66), .call 16 false [(.t 61), (.t 65)], none, none, false⟩,
                 ⟨(some 5), .mv (.t 66), none, none, false⟩])))
            (.reg [⟨(some 42), .mv (.t 7), none, none, false⟩,
               ⟨(some 43), .bin .add .no (.t 42) (.c (.int .i64 1)), none, none, false⟩,
               ⟨(some 7), .mv (.t 43), none, none, false⟩]))))))
       (.seq
        (.seq
         (.reg [⟨(some 67), .mv (.t 3), none, none, false⟩,
            ⟨(some 68), .un .not (.t 67), none, none, false⟩])
         (.cond (.t 68)
          (.seq
           (.reg [⟨(some 69), .mv (.t 0), none, none, false⟩,
              ⟨(some 70), .call 18 false [(.t 69), (.c .nils), (.c (.int .i64 2))], none, none, false⟩,
              ⟨(some 71), .mv (.t 70), none, none, false⟩,
              ⟨(some 72), .call 8 false [], (some (71, true)), none, false⟩,
              ⟨(some 73), .pick (.t 71) (.t 72) (.c (.bool false)), none, none, false⟩,
              ⟨(some 2), .mv (.t 73), none, none, false⟩])
           (.ret))
          (.skip)))
        (.seq
         (.seq
          (.reg [⟨(some 74), .mv (.t 4), none, none, false⟩,
             ⟨(some 75), .un .not (.t 74), none, none, false⟩])
          (.cond (.t 75)
           (.seq
            (.reg [⟨(some 76), .mv (.t 0), none, none, false⟩,
               ⟨(some 77), .call 18 false [(.t 76), (.c .nils), (.c (.int .i64 15))], none, none, false⟩,
               ⟨(some 78), .mv (.t 77), none, none, false⟩,
               ⟨(some 79), .call 8 false [], (some (78, true)), none, false⟩,
               ⟨(some 80), .pick (.t 78) (.t 79) (.c (.bool false)), none, none, false⟩,
               ⟨(some 2), .mv (.t 80), none, none, false⟩])
            (.ret))
           (.skip)))
         (.seq
          (.seq
           (.reg [⟨(some 9), .mv (.c (.int .i64 0)), none, none, false⟩])
           (.block 6 (.loop (.seq
              (.seq
               (.reg [⟨(some 81), .mv (.t 9), none, none, false⟩,
                  ⟨(some 82), .mv (.t 0), none, none, false⟩,
                  ⟨(some 83), .len .sl (.t 82), none, none, false⟩,
                  ⟨(some 84), .bin .lss .no (.t 81) (.t 83), none, none, false⟩])
               (.cond (.t 84)
                (.skip)
                (.exit 6)))
              (.seq
               (.block 7 (.seq
                 (.reg [⟨(some 87), .mv (.t 0), none, none, false⟩,
                    ⟨(some 88), .mv (.t 9), none, none, false⟩,
                    ⟨(some 89), .iad 1 (.t 87) (.t 88), none, none, false⟩,
                    ⟨(some 90), .load1 (.t 89), none, none, false⟩,
                    ⟨(some 91), .mv (.t 5), none, none, false⟩,
                    ⟨(some 92), .call 19 false [(.t 90), (.t 91), (.c (.bool true)), (.c (.int .i64 0))], none, none, false⟩,
                    ⟨(some 93), .un .not (.t 92), none, none, false⟩])
                 (.cond (.t 93)
                  (.seq
                   (.reg [⟨(some 2), .mv (.c (.bool false)), none, none, false⟩])
                   (.ret))
                  (.skip))))
               (.reg [⟨(some 85), .mv (.t 9), none, none, false⟩,
                  ⟨(some 86), .bin .add .no (.t 85) (.c (.int .i64 1)), none, none, false⟩,
                  ⟨(some 9), .mv (.t 86), none, none, false⟩]))))))
          (.seq
           (.reg [⟨(some 94), .mv (.t 0), none, none, false⟩,
              ⟨(some 95), .mv (.t 5), none, none, false⟩,
              ⟨(some 96), .call 18 false [(.t 94), (.t 95), (.c (.int .i64 0))], none, none, false⟩,
              ⟨(some 97), .mv (.t 96), none, none, false⟩,
              ⟨(some 98), .call 8 false [], (some (97, true)), none, false⟩,
              ⟨(some 99), .pick (.t 97) (.t 98) (.c (.bool false)), none, none, false⟩,
              ⟨(some 2), .mv (.t 99), none, none, false⟩])
           (.ret))))))))))⟩

/- redpencil/redpencillaw14.JoinWithins -/
def a5 : AFn := ⟨51, [.t 4],
  .seq
  (.reg [⟨(some 4), .mv (.c (.bool false)), none, none, false⟩])
  (.seq
   (.seq
    (.reg [⟨(some 5), .mv (.t 0), none, none, false⟩,
       ⟨(some 6), .len .sl (.t 5), none, none, false⟩,
       ⟨(some 7), .bin .gtr .no (.t 6) (.c (.int .i64 60)), none, none, false⟩,
       ⟨(some 8), .mv (.t 7), none, none, false⟩,
       ⟨(some 9), .mv (.t 1), (some (8, false)), none, false⟩,
       ⟨(some 10), .len .sl (.t 9), (some (8, false)), none, false⟩,
       ⟨(some 11), .bin .gtr .no (.t 10) (.c (.int .i64 60)), (some (8, false)), none, false⟩,
       ⟨(some 12), .pick (.t 8) (.c (.bool true)) (.t 11), none, none, false⟩])
    (.cond (.t 12)
     (.seq
      (.reg [⟨(some 13), .call 8 false [], none, none, false⟩,
         ⟨(some 4), .mv (.t 13), none, none, false⟩])
      (.ret))
     (.skip)))
   (.seq
    (.block 0 (.seq
      (.reg [⟨(some 15), .mv (.t 0), none, none, false⟩,
         ⟨(some 16), .call 9 false [(.t 15)], none, none, false⟩,
         ⟨(some 17), .un .not (.t 16), none, none, false⟩,
         ⟨(some 18), .mv (.t 17), none, none, false⟩,
         ⟨(some 19), .mv (.t 1), (some (18, false)), none, false⟩,
         ⟨(some 20), .call 9 false [(.t 19)], (some (18, false)), none, false⟩,
         ⟨(some 21), .un .not (.t 20), (some (18, false)), none, false⟩,
         ⟨(some 22), .pick (.t 18) (.c (.bool true)) (.t 21), none, none, false⟩,
         ⟨(some 14), .mv (.t 22), none, none, false⟩])
      (.cond (.t 14)
       (.seq
        (.reg [⟨(some 23), .mv (.t 0), none, none, false⟩,
           ⟨(some 24), .mv (.t 1), none, none, false⟩,
           ⟨(some 25), .call 19 false [(.t 23), (.t 24), (.c (.bool false)), (.c (.int .i64 2))], none, none, false⟩,
           ⟨(some 26), .mv (.t 25), none, none, false⟩,
           ⟨(some 27), .call 8 false [], (some (26, true)), none, false⟩,
           ⟨(some 28), .pick (.t 26) (.t 27) (.c (.bool false)), none, none, false⟩,
           ⟨(some 4), .mv (.t 28), none, none, false⟩])
        (.ret))
       (.seq
        (.reg [⟨(some 30), .mv (.t 0), none, none, false⟩,
           ⟨(some 31), .mv (.t 1), none, none, false⟩,
           ⟨(some 32), .call 12 false [(.t 30), (.t 31)], none, none, false⟩,
           ⟨(some 33), .un .not (.t 32), none, none, false⟩,
           ⟨(some 29), .mv (.t 33), none, none, false⟩])
        (.cond (.t 29)
         (.seq
          (.reg [⟨(some 34), .mv (.t 0), none, none, false⟩,
             ⟨(some 35), .mv (.t 1), none, none, false⟩,
             ⟨(some 36), .call 19 false [(.t 34), (.t 35), (.c (.bool false)), (.c (.int .i64 15))], none, none, false⟩,
             ⟨(some 37), .mv (.t 36), none, none, false⟩,
             ⟨(some 38), .call 8 false [], (some (37, true)), none, false⟩,
             ⟨(some 39), .pick (.t 37) (.t 38) (.c (.bool false)), none, none, false⟩,
             ⟨(some 4), .mv (.t 39), none, none, false⟩])
          (.ret))
         (.skip))))))
    (.seq
     (.reg [⟨(some 40), .mv (.t 0), none, none, false⟩,
        ⟨(some 41), .mv (.t 1), none, none, false⟩,
        ⟨(some 42), .mv (.t 0), none, none, false⟩,
        ⟨(some 43), .mv (.t 1), none, none, false⟩,
        ⟨(some 44), .call 16 false [(.t 42), (.t 43)], none, none, false⟩,
        ⟨(some 45), .mv (.t 1), none, none, false⟩,
        ⟨(some 46), .call 15 false [(.t 44), (.t 45)], none, none, false⟩,
        ⟨(some 47), .call 19 false [(.t 40), (.t 41), (.t 46), (.c (.int .i64 0))], none, none, false⟩,
        ⟨(some 48), .mv (.t 47), none, none, false⟩,
        ⟨(some 49), .call 8 false [], (some (48, true)), none, false⟩,
        ⟨(some 50), .pick (.t 48) (.t 49) (.c (.bool false)), none, none, false⟩,
        ⟨(some 4), .mv (.t 50), none, none, false⟩])
     (.ret))))⟩

/- redpencil/redpencillaw14.JoinHolds -/
def a6 : AFn := ⟨253, [.t 6],
  .seq
  (.reg [⟨(some 6), .mv (.c (.bool false)), none, none, false⟩])
  (.seq
   (.seq
    (.reg [⟨(some 20), .mv (.t 0), none, none, false⟩,
       ⟨(some 21), .len .sl (.t 20), none, none, false⟩,
       ⟨(some 22), .bin .gtr .no (.t 21) (.c (.int .i64 40)), none, none, false⟩,
       ⟨(some 23), .mv (.t 22), none, none, false⟩,
       ⟨(some 24), .mv (.t 1), (some (23, false)), none, false⟩,
       ⟨(some 25), .len .sl (.t 24), (some (23, false)), none, false⟩,
       ⟨(some 26), .bin .gtr .no (.t 25) (.c (.int .i64 40)), (some (23, false)), none, false⟩,
       ⟨(some 27), .pick (.t 23) (.c (.bool true)) (.t 26), none, none, false⟩,
       ⟨(some 28), .mv (.t 27), none, none, false⟩,
       ⟨(some 29), .mv (.t 2), (some (28, false)), none, false⟩,
       ⟨(some 30), .len .sl (.t 29), (some (28, false)), none, false⟩,
       ⟨(some 31), .bin .gtr .no (.t 30) (.c (.int .i64 40)), (some (28, false)), none, false⟩,
       ⟨(some 32), .pick (.t 28) (.c (.bool true)) (.t 31), none, none, false⟩,
       ⟨(some 33), .mv (.t 32), none, none, false⟩,
       ⟨(some 34), .mv (.t 0), (some (33, false)), none, false⟩,
       ⟨(some 35), .call 20 false [(.t 34)], (some (33, false)), none, false⟩,
       ⟨(some 36), .un .not (.t 35), (some (33, false)), none, false⟩,
       ⟨(some 37), .pick (.t 33) (.c (.bool true)) (.t 36), none, none, false⟩,
       ⟨(some 38), .mv (.t 37), none, none, false⟩,
       ⟨(some 39), .mv (.t 1), (some (38, false)), none, false⟩,
       ⟨(some 40), .call 20 false [(.t 39)], (some (38, false)), none, false⟩,
       ⟨(some 41), .un .not (.t 40), (some (38, false)), none, false⟩,
       ⟨(some 42), .pick (.t 38) (.c (.bool true)) (.t 41), none, none, false⟩,
       ⟨(some 43), .mv (.t 42), none, none, false⟩,
       ⟨(some 44), .mv (.t 2), (some (43, false)), none, false⟩,
       ⟨(some 45), .call 20 false [(.t 44)], (some (43, false)), none, false⟩,
       ⟨(some 46), .un .not (.t 45), (some (43, false)), none, false⟩,
       ⟨(some 47), .pick (.t 43) (.c (.bool true)) (.t 46), none, none, false⟩])
    (.cond (.t 47)
     (.seq
      (.reg [⟨(some 48), .call 8 false [], none, none, false⟩,
         ⟨(some 6), .mv (.t 48), none, none, false⟩])
      (.ret))
     (.skip)))
   (.seq
    (.seq
     (.reg [⟨(some 49), .mv (.t 0), none, none, false⟩,
        ⟨(some 50), .mv (.t 0), none, none, false⟩,
        ⟨(some 51), .mv (.t 0), none, none, false⟩,
        ⟨(some 52), .call 11 false [(.t 49), (.t 50), (.t 51), (.c (.int .i64 0))], none, none, false⟩,
        ⟨(some 53), .un .not (.t 52), none, none, false⟩,
        ⟨(some 54), .mv (.t 53), none, none, false⟩,
        ⟨(some 55), .mv (.t 0), (some (54, false)), none, false⟩,
        ⟨(some 56), .mv (.t 0), (some (54, false)), none, false⟩,
        ⟨(some 57), .call 19 false [(.t 55), (.t 56), (.c (.bool true)), (.c (.int .i64 0))], (some (54, false)), none, false⟩,
        ⟨(some 58), .un .not (.t 57), (some (54, false)), none, false⟩,
        ⟨(some 59), .pick (.t 54) (.c (.bool true)) (.t 58), none, none, false⟩])
     (.cond (.t 59)
      (.seq
       (.reg [⟨(some 6), .mv (.c (.bool false)), none, none, false⟩])
       (.ret))
      (.skip)))
    (.seq
     (.reg [⟨(some 61), .mv (.t 0), none, none, false⟩,
        ⟨(some 62), .mv (.t 1), none, none, false⟩,
        ⟨(some 63), .call 14 false [(.t 61), (.t 62)], none, none, false⟩,
        ⟨(some 60), .mv (.t 63), none, none, false⟩,
        ⟨(some 64), .ext (.t 60) 0, none, none, false⟩,
        ⟨(some 65), .ext (.t 60) 1, none, none, false⟩,
        ⟨(some 7), .mv (.t 64), none, none, false⟩,
        ⟨(some 8), .mv (.t 65), none, none, false⟩])
     (.seq
      (.seq
       (.reg [⟨(some 66), .mv (.t 1), none, none, false⟩,
          ⟨(some 67), .mv (.t 0), none, none, false⟩,
          ⟨(some 68), .mv (.t 7), none, none, false⟩,
          ⟨(some 69), .mv (.t 8), none, none, false⟩,
          ⟨(some 70), .call 11 false [(.t 66), (.t 67), (.t 68), (.t 69)], none, none, false⟩,
          ⟨(some 71), .un .not (.t 70), none, none, false⟩])
       (.cond (.t 71)
        (.seq
         (.reg [⟨(some 6), .mv (.c (.bool false)), none, none, false⟩])
         (.ret))
        (.skip)))
      (.seq
       (.seq
        (.reg [⟨(some 72), .mv (.t 8), none, none, false⟩,
           ⟨(some 73), .bin .neq .no (.t 72) (.c (.int .i64 0)), none, none, false⟩])
        (.cond (.t 73)
         (.seq
          (.reg [⟨(some 74), .mv (.t 8), none, none, false⟩,
             ⟨(some 75), .bin .eql .no (.t 74) (.c (.int .i64 15)), none, none, false⟩,
             ⟨(some 76), .mv (.t 75), none, none, false⟩,
             ⟨(some 77), .mv (.t 7), (some (76, true)), none, false⟩,
             ⟨(some 78), .len .sl (.t 77), (some (76, true)), none, false⟩,
             ⟨(some 79), .bin .eql .no (.t 78) (.c (.int .i64 0)), (some (76, true)), none, false⟩,
             ⟨(some 80), .pick (.t 76) (.t 79) (.c (.bool false)), none, none, false⟩,
             ⟨(some 81), .mv (.t 80), none, none, false⟩,
             ⟨(some 82), .call 8 false [], (some (81, true)), none, false⟩,
             ⟨(some 83), .pick (.t 81) (.t 82) (.c (.bool false)), none, none, false⟩,
             ⟨(some 6), .mv (.t 83), none, none, false⟩])
          (.ret))
         (.skip)))
       (.seq
        (.seq
         (.reg [⟨(some 84), .mv (.t 7), none, none, false⟩,
            ⟨(some 85), .call 20 false [(.t 84)], none, none, false⟩,
            ⟨(some 86), .un .not (.t 85), none, none, false⟩,
            ⟨(some 87), .mv (.t 86), none, none, false⟩,
            ⟨(some 88), .mv (.t 0), (some (87, false)), none, false⟩,
            ⟨(some 89), .mv (.t 7), (some (87, false)), none, false⟩,
            ⟨(some 90), .call 19 false [(.t 88), (.t 89), (.c (.bool true)), (.c (.int .i64 0))], (some (87, false)), none, false⟩,
            ⟨(some 91), .un .not (.t 90), (some (87, false)), none, false⟩,
            ⟨(some 92), .pick (.t 87) (.c (.bool true)) (.t 91), none, none, false⟩,
            ⟨(some 93), .mv (.t 92), none, none, false⟩,
            ⟨(some 94), .mv (.t 1), (some (93, false)), none, false⟩,
            ⟨(some 95), .mv (.t 7), (some (93, false)), none, false⟩,
            ⟨(some 96), .call 19 false [(.t 94), (.t 95), (.c (.bool true)), (.c (.int .i64 0))], (some (93, false)), none, false⟩,
            ⟨(some 97), .un .not (.t 96), (some (93, false)), none, false⟩,
            ⟨(some 98), .pick (.t 93) (.c (.bool true)) (.t 97), none, none, false⟩,
            ⟨(some 99), .mv (.t 98), none, none, false⟩,
            ⟨(some 100), .mv (.t 7), (some (99, false)), none, false⟩,
            ⟨(some 101), .mv (.t 0), (some (99, false)), none, false⟩,
            ⟨(some 102), .mv (.t 7), (some (99, false)), none, false⟩,
            ⟨(some 103), .call 11 false [(.t 100), (.t 101), (.t 102), (.c (.int .i64 0))], (some (99, false)), none, false⟩,
            ⟨(some 104), .un .not (.t 103), (some (99, false)), none, false⟩,
            ⟨(some 105), .pick (.t 99) (.c (.bool true)) (.t 104), none, none, false⟩])
         (.cond (.t 105)
          (.seq
           (.reg [⟨(some 6), .mv (.c (.bool false)), none, none, false⟩])
           (.ret))
          (.skip)))
        (.seq
         (.reg [⟨(some 107), .mv (.t 0), none, none, false⟩,
            ⟨(some 108), .mv (.t 1), none, none, false⟩,
            ⟨(some 109), .call 21 false [(.t 107), (.t 108)], none, none, false⟩,
            ⟨(some 106), .mv (.t 109), none, none, false⟩,
            ⟨(some 110), .ext (.t 106) 0, none, none, false⟩,
            ⟨(some 111), .ext (.t 106) 1, none, none, false⟩,
            ⟨(some 9), .mv (.t 110), none, none, false⟩,
            ⟨(some 8), .mv (.t 111), none, none, false⟩])
         (.seq
          (.reg [⟨(some 113), .mv (.t 1), none, none, false⟩,
             ⟨(some 114), .mv (.t 0), none, none, false⟩,
             ⟨(some 115), .call 21 false [(.t 113), (.t 114)], none, none, false⟩,
             ⟨(some 112), .mv (.t 115), none, none, false⟩,
             ⟨(some 116), .ext (.t 112) 0, none, none, false⟩,
             ⟨(some 117), .ext (.t 112) 1, none, none, false⟩,
             ⟨(some 10), .mv (.t 116), none, none, false⟩,
             ⟨(some 11), .mv (.t 117), none, none, false⟩])
          (.seq
           (.seq
            (.reg [⟨(some 118), .mv (.t 8), none, none, false⟩,
               ⟨(some 119), .bin .neq .no (.t 118) (.c (.int .i64 0)), none, none, false⟩,
               ⟨(some 120), .mv (.t 119), none, none, false⟩,
               ⟨(some 121), .mv (.t 11), (some (120, false)), none, false⟩,
               ⟨(some 122), .bin .neq .no (.t 121) (.c (.int .i64 0)), (some (120, false)), none, false⟩,
               ⟨(some 123), .pick (.t 120) (.c (.bool true)) (.t 122), none, none, false⟩,
               ⟨(some 124), .mv (.t 123), none, none, false⟩,
               ⟨(some 125), .mv (.t 9), (some (124, false)), none, false⟩,
               ⟨(some 126), .mv (.t 125), (some (124, false)), none, false⟩,
               ⟨(some 127), .mv (.t 10), (some (126, true)), none, false⟩,
               ⟨(some 128), .pick (.t 126) (.t 127) (.c (.bool false)), (some (124, false)), none, false⟩,
               ⟨(some 129), .mv (.t 128), (some (124, false)), none, false⟩,
               ⟨(some 130), .mv (.t 0), (some (129, true)), none, false⟩,
               ⟨(some 131), .mv (.t 1), (some (129, true)), none, false⟩,
               ⟨(some 132), .call 15 false [(.t 130), (.t 131)], (some (129, true)), none, false⟩,
               ⟨(some 133), .un .not (.t 132), (some (129, true)), none, false⟩,
               ⟨(some 134), .pick (.t 129) (.t 133) (.c (.bool false)), (some (124, false)), none, false⟩,
               ⟨(some 135), .pick (.t 124) (.c (.bool true)) (.t 134), none, none, false⟩])
            (.cond (.t 135)
             (.seq
              (.reg [⟨(some 6), .mv (.c (.bool false)), none, none, false⟩])
              (.ret))
             (.skip)))
           (.seq
            (.seq
             (.reg [⟨(some 136), .mv (.t 0), none, none, false⟩,
                ⟨(some 137), .mv (.t 1), none, none, false⟩,
                ⟨(some 138), .bsl [.nils, .nils] 2 1 [(0, (.t 136)), (1, (.t 137))], none, none, false⟩,
                ⟨(some 139), .len .sl (.t 138), none, none, false⟩,
                ⟨(some 140), .mv (.c (.int .i64 0)), none, none, false⟩])
             (.block 0 (.loop (.seq
                (.reg [⟨(some 141), .bin .lss .no (.t 140) (.t 139), none, none, false⟩])
                (.seq
                 (.cond (.t 141)
                  (.skip)
                  (.exit 0))
                 (.seq
                  (.block 1 (.seq
                    (.reg [⟨(some 142), .iad 1 (.t 138) (.t 140), none, none, false⟩,
                       ⟨(some 143), .load1 (.t 142), none, none, false⟩,
                       ⟨(some 13), .mv (.t 143), none, none, false⟩])
                    (.seq
                     (.reg [⟨(some 14), .mv (.c (.int .i64 0)), none, none, false⟩])
                     (.block 2 (.loop (.seq
                        (.seq
                         (.reg [⟨(some 144), .mv (.t 14), none, none, false⟩,
                            ⟨(some 145), .mv (.t 13), none, none, false⟩,
                            ⟨(some 146), .len .sl (.t 145), none, none, false⟩,
                            ⟨(some 147), .bin .lss .no (.t 144) (.t 146), none, none, false⟩])
                         (.cond (.t 147)
                          (.skip)
                          (.exit 2)))
                        (.seq
                         (.block 3 (.seq
                           (.reg [⟨(some 150), .mv (.t 7), none, none, false⟩,
                              ⟨(some 151), .mv (.t 13), none, none, false⟩,
                              ⟨(some 152), .mv (.t 14), none, none, false⟩,
                              ⟨(some 153), .iad 6 (.t 151) (.t 152), none, none, false⟩,
                              ⟨(some 154), .fad 0 (.t 153), none, none, false⟩,
                              ⟨(some 155), .loadn 2 (.t 154), none, none, false⟩,
                              ⟨(some 156), .call 22 false [(.t 150), (.t 155)], none, none, false⟩,
                              ⟨(some 15), .mv (.t 156), none, none, false⟩])
                           (.seq
                            (.reg [⟨(some 157), .mv (.t 15), none, none, false⟩,
                               ⟨(some 158), .bin .lss .no (.t 157) (.c (.int .i64 0)), none, none, false⟩,
                               ⟨(some 159), .mv (.t 158), none, none, false⟩,
                               ⟨(some 160), .mv (.t 13), (some (159, false)), none, false⟩,
                               ⟨(some 161), .mv (.t 14), (some (159, false)), none, false⟩,
                               ⟨(some 162), .iad 6 (.t 160) (.t 161), (some (159, false)), none, false⟩,
                               ⟨(some 163), .fad 5 (.t 162), (some (159, false)), none, false⟩,
                               ⟨(some 164), .load1 (.t 163), (some (159, false)), none, false⟩,
                               ⟨(some 165), .bin .eql .no (.t 164) (.c (.int .i32 0)), (some (159, false)), none, false⟩,
                               ⟨(some 166), .mv (.t 165), (some (159, false)), none, false⟩,
                               ⟨(some 167), .mv (.t 7), (some (166, true)), none, false⟩,
                               ⟨(some 168), .mv (.t 15), (some (166, true)), none, false⟩,
                               ⟨(some 169), .iad 6 (.t 167) (.t 168), (some (166, true)), none, false⟩,
                               ⟨(some 170), .fad 5 (.t 169), (some (166, true)), none, false⟩,
                               ⟨(some 171), .load1 (.t 170), (some (166, true)), none, false⟩,
                               ⟨(some 172), .bin .neq .no (.t 171) (.c (.int .i32 0)), (some (166, true)), none, false⟩,
                               ⟨(some 173), .pick (.t 166) (.t 172) (.c (.bool false)), (some (159, false)), none, false⟩,
                               ⟨(some 174), .pick (.t 159) (.c (.bool true)) (.t 173), none, none, false⟩])
                            (.cond (.t 174)
                             (.seq
                              (.reg [⟨(some 6), .mv (.c (.bool false)), none, none, false⟩])
                              (.ret))
                             (.skip)))))
                         (.reg [⟨(some 148), .mv (.t 14), none, none, false⟩,
                            ⟨(some 149), .bin .add .no (.t 148) (.c (.int .i64 1)), none, none, false⟩,
                            ⟨(some 14), .mv (.t 149), none, none, false⟩]))))))))
                  (.reg [⟨(some 175), .bin .add .no (.t 140) (.c (.int .i64 1)), none, none, false⟩,
                     ⟨(some 140), .mv (.t 175), none, none, false⟩])))))))
            (.seq
             (.reg [⟨(some 177), .mv (.t 0), none, none, false⟩,
                ⟨(some 178), .mv (.t 2), none, none, false⟩,
                ⟨(some 179), .call 23 false [(.t 177), (.t 178)], none, none, false⟩,
                ⟨(some 176), .mv (.t 179), none, none, false⟩,
                ⟨(some 180), .ext (.t 176) 0, none, none, false⟩,
                ⟨(some 181), .ext (.t 176) 1, none, none, false⟩,
                ⟨(some 16), .mv (.t 180), none, none, false⟩,
                ⟨(some 8), .mv (.t 181), none, none, false⟩])
             (.seq
              (.reg [⟨(some 183), .mv (.t 1), none, none, false⟩,
                 ⟨(some 184), .mv (.t 2), none, none, false⟩,
                 ⟨(some 185), .call 23 false [(.t 183), (.t 184)], none, none, false⟩,
                 ⟨(some 182), .mv (.t 185), none, none, false⟩,
                 ⟨(some 186), .ext (.t 182) 0, none, none, false⟩,
                 ⟨(some 187), .ext (.t 182) 1, none, none, false⟩,
                 ⟨(some 17), .mv (.t 186), none, none, false⟩,
                 ⟨(some 11), .mv (.t 187), none, none, false⟩])
              (.seq
               (.seq
                (.reg [⟨(some 188), .mv (.t 8), none, none, false⟩,
                   ⟨(some 189), .bin .neq .no (.t 188) (.c (.int .i64 0)), none, none, false⟩,
                   ⟨(some 190), .mv (.t 189), none, none, false⟩,
                   ⟨(some 191), .mv (.t 11), (some (190, false)), none, false⟩,
                   ⟨(some 192), .bin .neq .no (.t 191) (.c (.int .i64 0)), (some (190, false)), none, false⟩,
                   ⟨(some 193), .pick (.t 190) (.c (.bool true)) (.t 192), none, none, false⟩])
                (.cond (.t 193)
                 (.seq
                  (.reg [⟨(some 6), .mv (.c (.bool false)), none, none, false⟩])
                  (.ret))
                 (.skip)))
               (.seq
                (.seq
                 (.reg [⟨(some 194), .mv (.t 16), none, none, false⟩,
                    ⟨(some 195), .un .not (.t 194), none, none, false⟩,
                    ⟨(some 196), .mv (.t 195), none, none, false⟩,
                    ⟨(some 197), .mv (.t 17), (some (196, false)), none, false⟩,
                    ⟨(some 198), .un .not (.t 197), (some (196, false)), none, false⟩,
                    ⟨(some 199), .pick (.t 196) (.c (.bool true)) (.t 198), none, none, false⟩])
                 (.cond (.t 199)
                  (.seq
                   (.reg [⟨(some 200), .mv (.t 0), none, none, false⟩,
                      ⟨(some 201), .mv (.t 1), none, none, false⟩,
                      ⟨(some 202), .mv (.t 2), none, none, false⟩,
                      ⟨(some 203), .bsl [.nils, .nils, .nils] 3 1 [(0, (.t 200)), (1, (.t 201)), (2, (.t 202))], none, none, false⟩,
                      ⟨(some 204), .call 18 false [(.t 203), (.c .nils), (.c (.int .i64 15))], none, none, false⟩,
                      ⟨(some 205), .mv (.t 204), none, none, false⟩,
                      ⟨(some 206), .call 8 false [], (some (205, true)), none, false⟩,
                      ⟨(some 207), .pick (.t 205) (.t 206) (.c (.bool false)), none, none, false⟩,
                      ⟨(some 6), .mv (.t 207), none, none, false⟩])
                   (.ret))
                  (.skip)))
                (.seq
                 (.reg [⟨(some 209), .mv (.t 1), none, none, false⟩,
                    ⟨(some 210), .mv (.t 2), none, none, false⟩,
                    ⟨(some 211), .call 14 false [(.t 209), (.t 210)], none, none, false⟩,
                    ⟨(some 208), .mv (.t 211), none, none, false⟩,
                    ⟨(some 212), .ext (.t 208) 0, none, none, false⟩,
                    ⟨(some 213), .ext (.t 208) 1, none, none, false⟩,
                    ⟨(some 18), .mv (.t 212), none, none, false⟩,
                    ⟨(some 8), .mv (.t 213), none, none, false⟩])
                 (.seq
                  (.reg [⟨(some 215), .mv (.t 0), none, none, false⟩,
                     ⟨(some 216), .mv (.t 18), none, none, false⟩,
                     ⟨(some 217), .call 14 false [(.t 215), (.t 216)], none, none, false⟩,
                     ⟨(some 214), .mv (.t 217), none, none, false⟩,
                     ⟨(some 218), .ext (.t 214) 0, none, none, false⟩,
                     ⟨(some 219), .ext (.t 214) 1, none, none, false⟩,
                     ⟨(some 19), .mv (.t 218), none, none, false⟩,
                     ⟨(some 11), .mv (.t 219), none, none, false⟩])
                  (.seq
                   (.reg [⟨(some 220), .mv (.t 8), none, none, false⟩,
                      ⟨(some 221), .bin .eql .no (.t 220) (.c (.int .i64 0)), none, none, false⟩,
                      ⟨(some 222), .mv (.t 221), none, none, false⟩,
                      ⟨(some 223), .mv (.t 11), (some (222, true)), none, false⟩,
                      ⟨(some 224), .bin .eql .no (.t 223) (.c (.int .i64 0)), (some (222, true)), none, false⟩,
                      ⟨(some 225), .pick (.t 222) (.t 224) (.c (.bool false)), none, none, false⟩,
                      ⟨(some 226), .mv (.t 225), none, none, false⟩,
                      ⟨(some 227), .mv (.t 7), (some (226, true)), none, false⟩,
                      ⟨(some 228), .mv (.t 2), (some (226, true)), none, false⟩,
                      ⟨(some 229), .mv (.t 19), (some (226, true)), none, false⟩,
                      ⟨(some 230), .call 11 false [(.t 227), (.t 228), (.t 229), (.c (.int .i64 0))], (some (226, true)), none, false⟩,
                      ⟨(some 231), .pick (.t 226) (.t 230) (.c (.bool false)), none, none, false⟩,
                      ⟨(some 232), .mv (.t 231), none, none, false⟩,
                      ⟨(some 233), .mv (.t 0), (some (232, true)), none, false⟩,
                      ⟨(some 234), .mv (.t 1), (some (232, true)), none, false⟩,
                      ⟨(some 235), .mv (.t 2), (some (232, true)), none, false⟩,
                      ⟨(some 236), .bsl [.nils, .nils, .nils] 3 1 [(0, (.t 233)), (1, (.t 234)), (2, (.t 235))], (some (232, true)), none, false⟩,
                      ⟨(some 237), .mv (.t 19), (some (232, true)), none, false⟩,
                      ⟨(some 238), .call 18 false [(.t 236), (.t 237), (.c (.int .i64 0))], (some (232, true)), none, false⟩,
                      ⟨(some 239), .pick (.t 232) (.t 238) (.c (.bool false)), none, none, false⟩,
                      ⟨(some 240), .mv (.t 239), none, none, false⟩,
                      ⟨(some 241), .mv (.t 2), (some (240, true)), none, false⟩,
                      ⟨(some 242), .mv (.t 1), (some (240, true)), none, false⟩,
                      ⟨(some 243), .mv (.t 1), (some (240, true)), none, false⟩,
                      ⟨(some 244), .mv (.t 0), (some (240, true)), none, false⟩,
                      ⟨(some 245), .mv (.t 2), (some (240, true)), none, false⟩,
                      ⟨(some 246), .bsl [.nils, .nils, .nils, .nils, .nils] 5 1 [(0, (.t 241)), (1, (.t 242)), (2, (.t 243)), (3, (.t 244)), (4, (.t 245))], (some (240, true)), none, false⟩,
                      ⟨(some 247), .mv (.t 19), (some (240, true)), none, false⟩,
                      ⟨(some 248), .call 18 false [(.t 246), (.t 247), (.c (.int .i64 0))], (some (240, true)), none, false⟩,
                      ⟨(some 249), .pick (.t 240) (.t 248) (.c (.bool false)), none, none, false⟩,
                      ⟨(some 250), .mv (.t 249), none, none, false⟩,
                      ⟨(some 251), .call 8 false [], (some (250, true)), none, false⟩,
                      ⟨(some 252), .pick (.t 250) (.t 251) (.c (.bool false)), none, none, false⟩,
                      ⟨(some 6), .mv (.t 252), none, none, false⟩])
                   (.ret))))))))))))))))))⟩

/- redpencil/redpencillaw14.JoinValid -/
def a7 : AFn := ⟨54, [.t 4],
  .seq
  (.reg [⟨(some 4), .mv (.c (.bool false)), none, none, false⟩])
  (.seq
   (.seq
    (.reg [⟨(some 7), .mv (.t 0), none, none, false⟩,
       ⟨(some 8), .len .sl (.t 7), none, none, false⟩,
       ⟨(some 9), .bin .gtr .no (.t 8) (.c (.int .i64 60)), none, none, false⟩,
       ⟨(some 10), .mv (.t 9), none, none, false⟩,
       ⟨(some 11), .mv (.t 1), (some (10, false)), none, false⟩,
       ⟨(some 12), .len .sl (.t 11), (some (10, false)), none, false⟩,
       ⟨(some 13), .bin .gtr .no (.t 12) (.c (.int .i64 60)), (some (10, false)), none, false⟩,
       ⟨(some 14), .pick (.t 10) (.c (.bool true)) (.t 13), none, none, false⟩])
    (.cond (.t 14)
     (.seq
      (.reg [⟨(some 15), .call 8 false [], none, none, false⟩,
         ⟨(some 4), .mv (.t 15), none, none, false⟩])
      (.ret))
     (.skip)))
   (.seq
    (.reg [⟨(some 16), .mv (.t 0), none, none, false⟩,
       ⟨(some 17), .call 13 false [(.t 16)], none, none, false⟩,
       ⟨(some 5), .mv (.t 17), none, none, false⟩])
    (.seq
     (.reg [⟨(some 18), .mv (.t 0), none, none, false⟩,
        ⟨(some 19), .call 24 false [(.t 18)], none, none, false⟩,
        ⟨(some 6), .mv (.t 19), none, none, false⟩])
     (.seq
      (.seq
       (.reg [⟨(some 20), .mv (.t 0), none, none, false⟩,
          ⟨(some 21), .call 20 false [(.t 20)], none, none, false⟩,
          ⟨(some 22), .mv (.t 0), none, none, false⟩,
          ⟨(some 23), .call 9 false [(.t 22)], none, none, false⟩,
          ⟨(some 24), .bin .neq .bo (.t 21) (.t 23), none, none, false⟩,
          ⟨(some 25), .mv (.t 24), none, none, false⟩,
          ⟨(some 26), .mv (.t 0), (some (25, false)), none, false⟩,
          ⟨(some 27), .mv (.t 1), (some (25, false)), none, false⟩,
          ⟨(some 28), .call 25 false [(.t 26), (.t 27)], (some (25, false)), none, false⟩,
          ⟨(some 29), .mv (.t 0), (some (25, false)), none, false⟩,
          ⟨(some 30), .mv (.t 1), (some (25, false)), none, false⟩,
          ⟨(some 31), .call 15 false [(.t 29), (.t 30)], (some (25, false)), none, false⟩,
          ⟨(some 32), .bin .neq .bo (.t 28) (.t 31), (some (25, false)), none, false⟩,
          ⟨(some 33), .pick (.t 25) (.c (.bool true)) (.t 32), none, none, false⟩,
          ⟨(some 34), .mv (.t 33), none, none, false⟩,
          ⟨(some 35), .mv (.t 1), (some (34, false)), none, false⟩,
          ⟨(some 36), .mv (.t 1), (some (34, false)), none, false⟩,
          ⟨(some 37), .call 25 false [(.t 35), (.t 36)], (some (34, false)), none, false⟩,
          ⟨(some 38), .un .not (.t 37), (some (34, false)), none, false⟩,
          ⟨(some 39), .pick (.t 34) (.c (.bool true)) (.t 38), none, none, false⟩,
          ⟨(some 40), .mv (.t 39), none, none, false⟩,
          ⟨(some 41), .mv (.t 6), (some (40, false)), none, false⟩,
          ⟨(some 42), .mv (.t 0), (some (40, false)), none, false⟩,
          ⟨(some 43), .call 15 false [(.t 41), (.t 42)], (some (40, false)), none, false⟩,
          ⟨(some 44), .un .not (.t 43), (some (40, false)), none, false⟩,
          ⟨(some 45), .pick (.t 40) (.c (.bool true)) (.t 44), none, none, false⟩])
       (.cond (.t 45)
        (.seq
         (.reg [⟨(some 4), .mv (.c (.bool false)), none, none, false⟩])
         (.ret))
        (.skip)))
      (.seq
       (.reg [⟨(some 46), .mv (.t 6), none, none, false⟩,
          ⟨(some 47), .call 17 false [(.t 46)], none, none, false⟩])
       (.seq
        (.reg [⟨(some 48), .mv (.t 0), none, none, false⟩,
           ⟨(some 49), .mv (.t 5), none, none, false⟩,
           ⟨(some 50), .call 15 false [(.t 48), (.t 49)], none, none, false⟩,
           ⟨(some 51), .mv (.t 50), none, none, false⟩,
           ⟨(some 52), .call 8 false [], (some (51, true)), none, false⟩,
           ⟨(some 53), .pick (.t 51) (.t 52) (.c (.bool false)), none, none, false⟩,
           ⟨(some 4), .mv (.t 53), none, none, false⟩])
        (.ret)))))))⟩

/- redpencil/redpencillaw14.known -/
def a8 : AFn := ⟨95, [.t 0],
  .seq
  (.reg [⟨(some 0), .mv (.c (.bool false)), none, none, false⟩])
  (.seq
   (.reg [⟨(some 10), .call 26 false [(.c (.int .i64 1)), (.c (.int .i64 1))], none, none, false⟩,
      ⟨(some 11), .build [(.int .i64 0), (.int .i64 0), (.int .i64 0), (.int .i64 0), (.int .i64 0), (.int .i32 0)] [(0, 2, (.t 10)), (4, 1, (.c (.int .i64 1))), (5, 1, (.c (.int .i32 120)))], none, none, false⟩,
      ⟨(some 12), .call 26 false [(.c (.int .i64 2)), (.c (.int .i64 1))], none, none, false⟩,
      ⟨(some 13), .call 26 false [(.c (.int .i64 1)), (.c (.int .i64 1))], none, none, false⟩,
      ⟨(some 14), .build [(.int .i64 0), (.int .i64 0), (.int .i64 0), (.int .i64 0), (.int .i64 0), (.int .i32 0)] [(0, 2, (.t 12)), (2, 2, (.t 13)), (4, 1, (.c (.int .i64 2))), (5, 1, (.c (.int .i32 121)))], none, none, false⟩,
      ⟨(some 15), .call 26 false [(.c (.int .i64 1)), (.c (.int .i64 2))], none, none, false⟩,
      ⟨(some 16), .call 26 false [(.c (.int .i64 1)), (.c (.int .i64 1))], none, none, false⟩,
      ⟨(some 17), .build [(.int .i64 0), (.int .i64 0), (.int .i64 0), (.int .i64 0), (.int .i64 0), (.int .i32 0)] [(0, 2, (.t 15)), (2, 2, (.t 16)), (4, 1, (.c (.int .i64 3))), (5, 1, (.c (.int .i32 122)))], none, none, false⟩,
      ⟨(some 1), .alloc [(.int .i64 0), (.int .i64 0), (.int .i64 0), (.int .i64 0), (.int .i64 0), (.int .i32 0)], none, none, false⟩,
      ⟨(some 2), .alloc [(.int .i64 0), (.int .i64 0), (.int .i64 0), (.int .i64 0), (.int .i64 0), (.int .i32 0)], none, none, false⟩,
      ⟨(some 3), .alloc [(.int .i64 0), (.int .i64 0), (.int .i64 0), (.int .i64 0), (.int .i64 0), (.int .i32 0)], none, none, false⟩,
      ⟨none, .store 6 (.t 1) (.t 11), none, none, false⟩,
      ⟨none, .store 6 (.t 2) (.t 14), none, none, false⟩,
      ⟨none, .store 6 (.t 3) (.t 17), none, none, false⟩])
   (.seq
    (.regd 2 [⟨(some 18), .loadn 6 (.t 1), none, none, false⟩,
       ⟨(some 19), .loadn 6 (.t 1), none, none, true⟩,
       ⟨(some 4), .alloc [(.int .i64 0), (.int .i64 0), (.int .i64 0), (.int .i64 0), (.int .i64 0), (.int .i32 0)], none, (some 0), false⟩,
       ⟨(some 5), .alloc [(.int .i64 0), (.int .i64 0), (.int .i64 0), (.int .i64 0), (.int .i64 0), (.int .i32 0)], none, (some 1), false⟩,
       ⟨none, .store 6 (.t 4) (.t 18), none, none, true⟩,
       ⟨none, .store 6 (.t 5) (.t 19), none, none, false⟩])
    (.seq
     (.reg [⟨(some 20), .fad 5 (.t 4), none, none, false⟩,
        ⟨none, .store 1 (.t 20) (.c (.int .i32 0)), none, none, false⟩,
        ⟨(some 21), .fad 5 (.t 5), none, none, false⟩,
        ⟨none, .store 1 (.t 21) (.c (.int .i32 119)), none, none, false⟩])
     (.seq
      (.regd 3 [⟨(some 22), .loadn 6 (.t 1), none, none, false⟩,
         ⟨(some 23), .loadn 6 (.t 2), none, none, false⟩,
         ⟨(some 24), .bsl [(.int .i64 0), (.int .i64 0), (.int .i64 0), (.int .i64 0), (.int .i64 0), (.int .i32 0), (.int .i64 0), (.int .i64 0), (.int .i64 0), (.int .i64 0), (.int .i64 0), (.int .i32 0)] 2 6 [(0, (.t 22)), (1, (.t 23))], none, (some 0), false⟩,
         ⟨(some 25), .loadn 6 (.t 4), none, none, false⟩,
         ⟨(some 26), .loadn 6 (.t 3), none, none, false⟩,
         ⟨(some 27), .bsl [(.int .i64 0), (.int .i64 0), (.int .i64 0), (.int .i64 0), (.int .i64 0), (.int .i32 0), (.int .i64 0), (.int .i64 0), (.int .i64 0), (.int .i64 0), (.int .i64 0), (.int .i32 0)] 2 6 [(0, (.t 25)), (1, (.t 26))], none, (some 1), false⟩,
         ⟨(some 28), .loadn 6 (.t 5), none, none, false⟩,
         ⟨(some 29), .bsl [(.int .i64 0), (.int .i64 0), (.int .i64 0), (.int .i64 0), (.int .i64 0), (.int .i32 0)] 1 6 [(0, (.t 28))], none, (some 2), false⟩,
         ⟨(some 6), .mv (.t 24), none, none, false⟩,
         ⟨(some 7), .mv (.t 27), none, none, false⟩,
         ⟨(some 8), .mv (.t 29), none, none, false⟩])
      (.seq
       (.reg [⟨(some 30), .loadn 6 (.t 4), none, none, false⟩,
          ⟨(some 31), .loadn 6 (.t 2), none, none, false⟩,
          ⟨(some 32), .loadn 6 (.t 3), none, none, false⟩,
          ⟨(some 33), .bsl [(.int .i64 0), (.int .i64 0), (.int .i64 0), (.int .i64 0), (.int .i64 0), (.int .i32 0), (.int .i64 0), (.int .i64 0), (.int .i64 0), (.int .i64 0), (.int .i64 0), (.int .i32 0), (.int .i64 0), (.int .i64 0), (.int .i64 0), (.int .i64 0), (.int .i64 0), (.int .i32 0)] 3 6 [(0, (.t 30)), (1, (.t 31)), (2, (.t 32))], none, none, false⟩,
          ⟨(some 9), .mv (.t 33), none, none, false⟩])
       (.seq
        (.seq
         (.reg [⟨(some 34), .mv (.t 6), none, none, false⟩,
            ⟨(some 35), .mv (.t 7), none, none, false⟩,
            ⟨(some 36), .mv (.t 9), none, none, false⟩,
            ⟨(some 37), .call 11 false [(.t 34), (.t 35), (.t 36), (.c (.int .i64 0))], none, none, false⟩,
            ⟨(some 38), .un .not (.t 37), none, none, false⟩,
            ⟨(some 39), .mv (.t 38), none, none, false⟩,
            ⟨(some 40), .mv (.t 6), (some (39, false)), none, false⟩,
            ⟨(some 41), .mv (.t 7), (some (39, false)), none, false⟩,
            ⟨(some 42), .call 10 false [(.t 40), (.t 41), (.c (.bool true)), (.c (.int .i64 0))], (some (39, false)), none, false⟩,
            ⟨(some 43), .un .not (.t 42), (some (39, false)), none, false⟩,
            ⟨(some 44), .pick (.t 39) (.c (.bool true)) (.t 43), none, none, false⟩,
            ⟨(some 45), .mv (.t 44), none, none, false⟩,
            ⟨(some 46), .mv (.t 6), (some (45, false)), none, false⟩,
            ⟨(some 47), .mv (.t 9), (some (45, false)), none, false⟩,
            ⟨(some 48), .call 19 false [(.t 46), (.t 47), (.c (.bool true)), (.c (.int .i64 0))], (some (45, false)), none, false⟩,
            ⟨(some 49), .un .not (.t 48), (some (45, false)), none, false⟩,
            ⟨(some 50), .pick (.t 45) (.c (.bool true)) (.t 49), none, none, false⟩,
            ⟨(some 51), .mv (.t 50), none, none, false⟩,
            ⟨(some 52), .mv (.t 7), (some (51, false)), none, false⟩,
            ⟨(some 53), .mv (.t 6), (some (51, false)), none, false⟩,
            ⟨(some 54), .call 19 false [(.t 52), (.t 53), (.c (.bool false)), (.c (.int .i64 0))], (some (51, false)), none, false⟩,
            ⟨(some 55), .un .not (.t 54), (some (51, false)), none, false⟩,
            ⟨(some 56), .pick (.t 51) (.c (.bool true)) (.t 55), none, none, false⟩])
         (.cond (.t 56)
          (.seq
           (.reg [⟨(some 0), .mv (.c (.bool false)), none, none, false⟩])
           (.ret))
          (.skip)))
        (.seq
         (.reg [⟨(some 57), .mv (.t 6), none, none, false⟩,
            ⟨(some 58), .mv (.t 8), none, none, false⟩,
            ⟨(some 59), .call 11 false [(.t 57), (.t 58), (.c .nils), (.c (.int .i64 15))], none, none, false⟩,
            ⟨(some 60), .mv (.t 59), none, none, false⟩,
            ⟨(some 61), .mv (.t 6), (some (60, true)), none, false⟩,
            ⟨(some 62), .mv (.t 8), (some (60, true)), none, false⟩,
            ⟨(some 63), .call 10 false [(.t 61), (.t 62), (.c (.bool false)), (.c (.int .i64 0))], (some (60, true)), none, false⟩,
            ⟨(some 64), .pick (.t 60) (.t 63) (.c (.bool false)), none, none, false⟩,
            ⟨(some 65), .mv (.t 64), none, none, false⟩,
            ⟨(some 66), .mv (.t 6), (some (65, true)), none, false⟩,
            ⟨(some 67), .mv (.t 7), (some (65, true)), none, false⟩,
            ⟨(some 68), .mv (.t 8), (some (65, true)), none, false⟩,
            ⟨(some 69), .bsl [.nils, .nils, .nils] 3 1 [(0, (.t 66)), (1, (.t 67)), (2, (.t 68))], (some (65, true)), none, false⟩,
            ⟨(some 70), .call 18 false [(.t 69), (.c .nils), (.c (.int .i64 15))], (some (65, true)), none, false⟩,
            ⟨(some 71), .pick (.t 65) (.t 70) (.c (.bool false)), none, none, false⟩,
            ⟨(some 72), .mv (.t 71), none, none, false⟩,
            ⟨(some 73), .mv (.t 7), (some (72, true)), none, false⟩,
            ⟨(some 74), .mv (.t 8), (some (72, true)), none, false⟩,
            ⟨(some 75), .mv (.t 7), (some (72, true)), none, false⟩,
            ⟨(some 76), .call 11 false [(.t 73), (.t 74), (.t 75), (.c (.int .i64 0))], (some (72, true)), none, false⟩,
            ⟨(some 77), .pick (.t 72) (.t 76) (.c (.bool false)), none, none, false⟩,
            ⟨(some 78), .mv (.t 77), none, none, false⟩,
            ⟨(some 79), .call 18 false [(.c .nils), (.c .nils), (.c (.int .i64 0))], (some (78, true)), none, false⟩,
            ⟨(some 80), .pick (.t 78) (.t 79) (.c (.bool false)), none, none, false⟩,
            ⟨(some 81), .mv (.t 80), none, none, false⟩,
            ⟨(some 82), .mv (.t 6), (some (81, true)), none, false⟩,
            ⟨(some 83), .mv (.t 6), (some (81, true)), none, false⟩,
            ⟨(some 84), .bsl [.nils, .nils] 2 1 [(0, (.t 82)), (1, (.t 83))], (some (81, true)), none, false⟩,
            ⟨(some 85), .mv (.t 6), (some (81, true)), none, false⟩,
            ⟨(some 86), .call 18 false [(.t 84), (.t 85), (.c (.int .i64 0))], (some (81, true)), none, false⟩,
            ⟨(some 87), .pick (.t 81) (.t 86) (.c (.bool false)), none, none, false⟩,
            ⟨(some 88), .mv (.t 87), none, none, false⟩,
            ⟨(some 89), .mv (.t 6), (some (88, true)), none, false⟩,
            ⟨(some 90), .loadn 6 (.t 2), (some (88, true)), none, false⟩,
            ⟨(some 91), .loadn 6 (.t 1), (some (88, true)), none, false⟩,
            ⟨(some 92), .bsl [(.int .i64 0), (.int .i64 0), (.int .i64 0), (.int .i64 0), (.int .i64 0), (.int .i32 0), (.int .i64 0), (.int .i64 0), (.int .i64 0), (.int .i64 0), (.int .i64 0), (.int .i32 0)] 2 6 [(0, (.t 90)), (1, (.t 91))], (some (88, true)), none, false⟩,
            ⟨(some 93), .call 11 false [(.t 89), (.t 92), (.c .nils), (.c (.int .i64 2))], (some (88, true)), none, false⟩,
            ⟨(some 94), .pick (.t 88) (.t 93) (.c (.bool false)), none, none, false⟩,
            ⟨(some 0), .mv (.t 94), none, none, false⟩])
         (.ret))))))))⟩

/- redpencil/redpencilref14.Store -/
def a9 : AFn := ⟨35, [.t 2],
  .seq
  (.reg [⟨(some 2), .mv (.c (.bool false)), none, none, false⟩])
  (.seq
   (.seq
    (.reg [⟨(some 3), .mv (.c (.int .i64 0)), none, none, false⟩])
    (.block 0 (.loop (.seq
       (.seq
        (.reg [⟨(some 4), .mv (.t 3), none, none, false⟩,
           ⟨(some 5), .mv (.t 0), none, none, false⟩,
           ⟨(some 6), .len .sl (.t 5), none, none, false⟩,
           ⟨(some 7), .bin .lss .no (.t 4) (.t 6), none, none, false⟩])
        (.cond (.t 7)
         (.skip)
         (.exit 0)))
       (.seq
        (.block 1 (.seq
          (.regd 0 [⟨(some 10), .mv (.t 0), none, none, false⟩,
             ⟨(some 11), .mv (.t 3), none, none, false⟩,
             ⟨(some 12), .iad 6 (.t 10) (.t 11), none, none, false⟩,
             ⟨(some 13), .loadn 6 (.t 12), none, none, false⟩,
             ⟨(some 14), .call 27 false [(.t 13)], none, none, false⟩,
             ⟨(some 15), .un .not (.t 14), none, none, false⟩,
             ⟨(some 16), .mv (.t 15), none, none, false⟩,
             ⟨(some 17), .mv (.t 3), (some (16, false)), none, false⟩,
             ⟨(some 18), .bin .gtr .no (.t 17) (.c (.int .i64 0)), (some (16, false)), none, false⟩,
             ⟨(some 19), .mv (.t 18), (some (16, false)), none, false⟩,
             ⟨(some 20), .mv (.t 0), (some (19, true)), none, false⟩,
             ⟨(some 21), .mv (.t 3), (some (19, true)), none, false⟩,
             ⟨(some 22), .bin .sub .no (.t 21) (.c (.int .i64 1)), (some (19, true)), none, false⟩,
             ⟨(some 23), .iad 6 (.t 20) (.t 22), (some (19, true)), none, false⟩,
             ⟨(some 24), .fad 0 (.t 23), (some (19, true)), none, false⟩,
             ⟨(some 25), .loadn 2 (.t 24), (some (19, true)), none, false⟩,
             ⟨(some 26), .mv (.t 0), (some (19, true)), none, false⟩,
             ⟨(some 27), .mv (.t 3), (some (19, true)), none, false⟩,
             ⟨(some 28), .iad 6 (.t 26) (.t 27), (some (19, true)), none, false⟩,
             ⟨(some 29), .fad 0 (.t 28), (some (19, true)), none, false⟩,
             ⟨(some 30), .loadn 2 (.t 29), (some (19, true)), none, false⟩,
             ⟨(some 31), .call 28 false [(.t 25), (.t 30)], (some (19, true)), none, false⟩,
             ⟨(some 32), .un .not (.t 31), (some (19, true)), none, false⟩,
             ⟨(some 33), .pick (.t 19) (.t 32) (.c (.bool false)), (some (16, false)), none, false⟩,
             ⟨(some 34), .pick (.t 16) (.c (.bool true)) (.t 33), none, none, false⟩])
          (.cond (.t 34)
           (.seq
            (.reg [⟨(some 2), .mv (.c (.bool false)), none, none, false⟩])
            (.ret))
           (.skip))))
        (.reg [⟨(some 8), .mv (.t 3), none, none, false⟩,
           ⟨(some 9), .bin .add .no (.t 8) (.c (.int .i64 1)), none, none, false⟩,
           ⟨(some 3), .mv (.t 9), none, none, false⟩]))))))
   (.seq
    (.reg [⟨(some 2), .mv (.c (.bool true)), none, none, false⟩])
    (.ret)))⟩

/- redpencil/redpencillaw14.agree -/
def a10 : AFn := ⟨25, [.t 8],
  .seq
  (.reg [⟨(some 8), .mv (.c (.bool false)), none, none, false⟩])
  (.seq
   (.reg [⟨(some 12), .mv (.t 0), none, none, false⟩,
      ⟨(some 13), .mv (.t 1), none, none, false⟩,
      ⟨(some 14), .call 23 false [(.t 12), (.t 13)], none, none, false⟩,
      ⟨(some 11), .mv (.t 14), none, none, false⟩,
      ⟨(some 15), .ext (.t 11) 0, none, none, false⟩,
      ⟨(some 16), .ext (.t 11) 1, none, none, false⟩,
      ⟨(some 9), .mv (.t 15), none, none, false⟩,
      ⟨(some 10), .mv (.t 16), none, none, false⟩])
   (.seq
    (.reg [⟨(some 17), .mv (.t 9), none, none, false⟩,
       ⟨(some 18), .mv (.t 2), none, none, false⟩,
       ⟨(some 19), .bin .eql .bo (.t 17) (.t 18), none, none, false⟩,
       ⟨(some 20), .mv (.t 19), none, none, false⟩,
       ⟨(some 21), .mv (.t 10), (some (20, true)), none, false⟩,
       ⟨(some 22), .mv (.t 3), (some (20, true)), none, false⟩,
       ⟨(some 23), .bin .eql .no (.t 21) (.t 22), (some (20, true)), none, false⟩,
       ⟨(some 24), .pick (.t 20) (.t 23) (.c (.bool false)), none, none, false⟩,
       ⟨(some 8), .mv (.t 24), none, none, false⟩])
    (.ret)))⟩

/- redpencil/redpencillaw14.joins -/
def a11 : AFn := ⟨25, [.t 8],
  .seq
  (.reg [⟨(some 8), .mv (.c (.bool false)), none, none, false⟩])
  (.seq
   (.reg [⟨(some 12), .mv (.t 0), none, none, false⟩,
      ⟨(some 13), .mv (.t 1), none, none, false⟩,
      ⟨(some 14), .call 14 false [(.t 12), (.t 13)], none, none, false⟩,
      ⟨(some 11), .mv (.t 14), none, none, false⟩,
      ⟨(some 15), .ext (.t 11) 0, none, none, false⟩,
      ⟨(some 16), .ext (.t 11) 1, none, none, false⟩,
      ⟨(some 9), .mv (.t 15), none, none, false⟩,
      ⟨(some 10), .mv (.t 16), none, none, false⟩])
   (.seq
    (.reg [⟨(some 17), .mv (.t 9), none, none, false⟩,
       ⟨(some 18), .mv (.t 2), none, none, false⟩,
       ⟨(some 19), .call 15 false [(.t 17), (.t 18)], none, none, false⟩,
       ⟨(some 20), .mv (.t 19), none, none, false⟩,
       ⟨(some 21), .mv (.t 10), (some (20, true)), none, false⟩,
       ⟨(some 22), .mv (.t 3), (some (20, true)), none, false⟩,
       ⟨(some 23), .bin .eql .no (.t 21) (.t 22), (some (20, true)), none, false⟩,
       ⟨(some 24), .pick (.t 20) (.t 23) (.c (.bool false)), none, none, false⟩,
       ⟨(some 8), .mv (.t 24), none, none, false⟩])
    (.ret)))⟩

/- redpencil/redpencilref14.Agree -/
def a12 : AFn := ⟨38, [.t 4],
  .seq
  (.reg [⟨(some 4), .mv (.c (.bool false)), none, none, false⟩])
  (.seq
   (.seq
    (.reg [⟨(some 5), .mv (.c (.int .i64 0)), none, none, false⟩])
    (.block 0 (.loop (.seq
       (.seq
        (.reg [⟨(some 9), .mv (.t 5), none, none, false⟩,
           ⟨(some 10), .mv (.t 0), none, none, false⟩,
           ⟨(some 11), .len .sl (.t 10), none, none, false⟩,
           ⟨(some 12), .bin .lss .no (.t 9) (.t 11), none, none, false⟩])
        (.cond (.t 12)
         (.skip)
         (.exit 0)))
       (.seq
        (.block 1 (.seq
          (.reg [⟨(some 15), .mv (.t 1), none, none, false⟩,
             ⟨(some 16), .mv (.t 0), none, none, false⟩,
             ⟨(some 17), .mv (.t 5), none, none, false⟩,
             ⟨(some 18), .iad 6 (.t 16) (.t 17), none, none, false⟩,
             ⟨(some 19), .fad 0 (.t 18), none, none, false⟩,
             ⟨(some 20), .loadn 2 (.t 19), none, none, false⟩,
             ⟨(some 21), .call 22 false [(.t 15), (.t 20)], none, none, false⟩,
             ⟨(some 6), .mv (.t 21), none, none, false⟩])
          (.seq
           (.reg [⟨(some 22), .mv (.t 6), none, none, false⟩,
              ⟨(some 23), .bin .geq .no (.t 22) (.c (.int .i64 0)), none, none, false⟩])
           (.cond (.t 23)
            (.seq
             (.regd 1 [⟨(some 25), .mv (.t 0), none, none, false⟩,
                ⟨(some 26), .mv (.t 5), none, none, false⟩,
                ⟨(some 27), .iad 6 (.t 25) (.t 26), none, none, false⟩,
                ⟨(some 28), .loadn 6 (.t 27), none, none, false⟩,
                ⟨(some 29), .mv (.t 1), none, none, false⟩,
                ⟨(some 30), .mv (.t 6), none, none, false⟩,
                ⟨(some 31), .iad 6 (.t 29) (.t 30), none, none, false⟩,
                ⟨(some 32), .loadn 6 (.t 31), none, none, false⟩,
                ⟨(some 33), .call 29 false [(.t 28), (.t 32)], none, none, false⟩,
                ⟨(some 24), .mv (.t 33), none, none, false⟩,
                ⟨(some 34), .ext (.t 24) 0, none, none, false⟩,
                ⟨(some 35), .ext (.t 24) 1, none, none, false⟩,
                ⟨(some 7), .alloc [(.int .i64 0), (.int .i64 0), (.int .i64 0), (.int .i64 0), (.int .i64 0), (.int .i32 0)], none, (some 0), false⟩,
                ⟨none, .store 6 (.t 7) (.t 34), none, none, false⟩,
                ⟨(some 8), .mv (.t 35), none, none, false⟩])
             (.seq
              (.reg [⟨(some 36), .mv (.t 8), none, none, false⟩,
                 ⟨(some 37), .un .not (.t 36), none, none, false⟩])
              (.cond (.t 37)
               (.seq
                (.reg [⟨(some 4), .mv (.c (.bool false)), none, none, false⟩])
                (.ret))
               (.skip))))
            (.skip)))))
        (.reg [⟨(some 13), .mv (.t 5), none, none, false⟩,
           ⟨(some 14), .bin .add .no (.t 13) (.c (.int .i64 1)), none, none, false⟩,
           ⟨(some 5), .mv (.t 14), none, none, false⟩]))))))
   (.seq
    (.reg [⟨(some 4), .mv (.c (.bool true)), none, none, false⟩])
    (.ret)))⟩

/- redpencil/redpencilref14.Copy -/
def a13 : AFn := ⟨5, [.t 2],
  .seq
  (.reg [⟨(some 2), .mv (.c .nils), none, none, false⟩])
  (.seq
   (.reg [⟨(some 3), .mv (.t 0), none, none, false⟩,
      ⟨(some 4), .app 6 48 [(.int .i64 0), (.int .i64 0), (.int .i64 0), (.int .i64 0), (.int .i64 0), (.int .i32 0)] (.c .nils) (.t 3), none, none, false⟩,
      ⟨(some 2), .mv (.t 4), none, none, false⟩])
   (.ret))⟩

/- redpencil/join.Join -/
def a14 : AFn := ⟨80, [.t 4, .t 5],
  .seq
  (.reg [⟨(some 4), .mv (.c .nils), none, none, false⟩,
     ⟨(some 5), .mv (.c (.int .i64 0)), none, none, false⟩])
  (.seq
   (.seq
    (.reg [⟨(some 9), .mv (.t 0), none, none, false⟩,
       ⟨(some 10), .call 20 false [(.t 9)], none, none, false⟩,
       ⟨(some 11), .un .not (.t 10), none, none, false⟩,
       ⟨(some 12), .mv (.t 11), none, none, false⟩,
       ⟨(some 13), .mv (.t 1), (some (12, false)), none, false⟩,
       ⟨(some 14), .call 20 false [(.t 13)], (some (12, false)), none, false⟩,
       ⟨(some 15), .un .not (.t 14), (some (12, false)), none, false⟩,
       ⟨(some 16), .pick (.t 12) (.c (.bool true)) (.t 15), none, none, false⟩])
    (.cond (.t 16)
     (.seq
      (.reg [⟨(some 4), .mv (.c .nils), none, none, false⟩,
         ⟨(some 5), .mv (.c (.int .i64 2)), none, none, false⟩])
      (.ret))
     (.skip)))
   (.seq
    (.reg [⟨(some 6), .mv (.c .nils), none, none, false⟩])
    (.seq
     (.block 0 (.loop (.seq
        (.seq
         (.reg [⟨(some 17), .mv (.t 0), none, none, false⟩,
            ⟨(some 18), .len .sl (.t 17), none, none, false⟩,
            ⟨(some 19), .bin .gtr .no (.t 18) (.c (.int .i64 0)), none, none, false⟩,
            ⟨(some 20), .mv (.t 19), none, none, false⟩,
            ⟨(some 21), .mv (.t 1), (some (20, true)), none, false⟩,
            ⟨(some 22), .len .sl (.t 21), (some (20, true)), none, false⟩,
            ⟨(some 23), .bin .gtr .no (.t 22) (.c (.int .i64 0)), (some (20, true)), none, false⟩,
            ⟨(some 24), .pick (.t 20) (.t 23) (.c (.bool false)), none, none, false⟩])
         (.cond (.t 24)
          (.skip)
          (.exit 0)))
        (.block 1 (.seq
          (.regd 0 [⟨(some 25), .mv (.t 0), none, none, false⟩,
             ⟨(some 26), .iad 6 (.t 25) (.c (.int .i64 0)), none, none, false⟩,
             ⟨(some 27), .fad 0 (.t 26), none, none, false⟩,
             ⟨(some 28), .loadn 2 (.t 27), none, none, false⟩,
             ⟨(some 29), .mv (.t 1), none, none, false⟩,
             ⟨(some 30), .iad 6 (.t 29) (.c (.int .i64 0)), none, none, false⟩,
             ⟨(some 31), .fad 0 (.t 30), none, none, false⟩,
             ⟨(some 32), .loadn 2 (.t 31), none, none, false⟩,
             ⟨(some 33), .call 30 false [(.t 28), (.t 32)], none, none, false⟩])
          (.block 2 (.seq
            (.reg [⟨(some 56), .bin .eql .no (.t 33) (.c (.int .i64 (-1))), none, none, false⟩,
               ⟨(some 55), .mv (.t 56), none, none, false⟩])
            (.cond (.t 55)
             (.regd 1 [⟨(some 57), .mv (.t 6), none, none, false⟩,
                ⟨(some 58), .mv (.t 0), none, none, false⟩,
                ⟨(some 59), .iad 6 (.t 58) (.c (.int .i64 0)), none, none, false⟩,
                ⟨(some 60), .loadn 6 (.t 59), none, none, false⟩,
                ⟨(some 61), .bsl [(.int .i64 0), (.int .i64 0), (.int .i64 0), (.int .i64 0), (.int .i64 0), (.int .i32 0)] 1 6 [(0, (.t 60))], none, (some 0), false⟩,
                ⟨(some 62), .app 6 48 [(.int .i64 0), (.int .i64 0), (.int .i64 0), (.int .i64 0), (.int .i64 0), (.int .i32 0)] (.t 57) (.t 61), none, none, false⟩,
                ⟨(some 63), .mv (.t 0), none, none, false⟩,
                ⟨(some 64), .slc 6 (.t 63) (some (.c (.int .i64 1))) none none, none, none, false⟩,
                ⟨(some 6), .mv (.t 62), none, none, false⟩,
                ⟨(some 0), .mv (.t 64), none, none, false⟩])
             (.seq
              (.reg [⟨(some 66), .bin .eql .no (.t 33) (.c (.int .i64 1)), none, none, false⟩,
                 ⟨(some 65), .mv (.t 66), none, none, false⟩])
              (.cond (.t 65)
               (.regd 1 [⟨(some 67), .mv (.t 6), none, none, false⟩,
                  ⟨(some 68), .mv (.t 1), none, none, false⟩,
                  ⟨(some 69), .iad 6 (.t 68) (.c (.int .i64 0)), none, none, false⟩,
                  ⟨(some 70), .loadn 6 (.t 69), none, none, false⟩,
                  ⟨(some 71), .bsl [(.int .i64 0), (.int .i64 0), (.int .i64 0), (.int .i64 0), (.int .i64 0), (.int .i32 0)] 1 6 [(0, (.t 70))], none, (some 0), false⟩,
                  ⟨(some 72), .app 6 48 [(.int .i64 0), (.int .i64 0), (.int .i64 0), (.int .i64 0), (.int .i64 0), (.int .i32 0)] (.t 67) (.t 71), none, none, false⟩,
                  ⟨(some 73), .mv (.t 1), none, none, false⟩,
                  ⟨(some 74), .slc 6 (.t 73) (some (.c (.int .i64 1))) none none, none, none, false⟩,
                  ⟨(some 6), .mv (.t 72), none, none, false⟩,
                  ⟨(some 1), .mv (.t 74), none, none, false⟩])
               (.seq
                (.regd 1 [⟨(some 35), .mv (.t 0), none, none, false⟩,
                   ⟨(some 36), .iad 6 (.t 35) (.c (.int .i64 0)), none, none, false⟩,
                   ⟨(some 37), .loadn 6 (.t 36), none, none, false⟩,
                   ⟨(some 38), .mv (.t 1), none, none, false⟩,
                   ⟨(some 39), .iad 6 (.t 38) (.c (.int .i64 0)), none, none, false⟩,
                   ⟨(some 40), .loadn 6 (.t 39), none, none, false⟩,
                   ⟨(some 41), .call 31 false [(.t 37), (.t 40)], none, none, false⟩,
                   ⟨(some 34), .mv (.t 41), none, none, false⟩,
                   ⟨(some 42), .ext (.t 34) 0, none, none, false⟩,
                   ⟨(some 43), .ext (.t 34) 1, none, none, false⟩,
                   ⟨(some 7), .alloc [(.int .i64 0), (.int .i64 0), (.int .i64 0), (.int .i64 0), (.int .i64 0), (.int .i32 0)], none, (some 0), false⟩,
                   ⟨none, .store 6 (.t 7) (.t 42), none, none, false⟩,
                   ⟨(some 8), .mv (.t 43), none, none, false⟩])
                (.seq
                 (.seq
                  (.reg [⟨(some 44), .mv (.t 8), none, none, false⟩,
                     ⟨(some 45), .bin .neq .no (.t 44) (.c (.int .i64 0)), none, none, false⟩])
                  (.cond (.t 45)
                   (.seq
                    (.reg [⟨(some 46), .mv (.t 8), none, none, false⟩,
                       ⟨(some 4), .mv (.c .nils), none, none, false⟩,
                       ⟨(some 5), .mv (.t 46), none, none, false⟩])
                    (.ret))
                   (.skip)))
                 (.regd 1 [⟨(some 47), .mv (.t 6), none, none, false⟩,
                    ⟨(some 48), .loadn 6 (.t 7), none, none, false⟩,
                    ⟨(some 49), .bsl [(.int .i64 0), (.int .i64 0), (.int .i64 0), (.int .i64 0), (.int .i64 0), (.int .i32 0)] 1 6 [(0, (.t 48))], none, (some 0), false⟩,
                    ⟨(some 50), .app 6 48 [(.int .i64 0), (.int .i64 0), (.int .i64 0), (.int .i64 0), (.int .i64 0), (.int .i32 0)] (.t 47) (.t 49), none, none, false⟩,
                    ⟨(some 51), .mv (.t 0), none, none, false⟩,
                    ⟨(some 52), .slc 6 (.t 51) (some (.c (.int .i64 1))) none none, none, none, false⟩,
                    ⟨(some 53), .mv (.t 1), none, none, false⟩,
                    ⟨(some 54), .slc 6 (.t 53) (some (.c (.int .i64 1))) none none, none, none, false⟩,
                    ⟨(some 6), .mv (.t 50), none, none, false⟩,
                    ⟨(some 0), .mv (.t 52), none, none, false⟩,
                    ⟨(some 1), .mv (.t 54), none, none, false⟩])))))))))))))
     (.seq
      (.reg [⟨(some 75), .mv (.t 6), none, none, false⟩,
         ⟨(some 76), .mv (.t 0), none, none, false⟩,
         ⟨(some 77), .app 6 48 [(.int .i64 0), (.int .i64 0), (.int .i64 0), (.int .i64 0), (.int .i64 0), (.int .i32 0)] (.t 75) (.t 76), none, none, false⟩,
         ⟨(some 78), .mv (.t 1), none, none, false⟩,
         ⟨(some 79), .app 6 48 [(.int .i64 0), (.int .i64 0), (.int .i64 0), (.int .i64 0), (.int .i64 0), (.int .i32 0)] (.t 77) (.t 78), none, none, false⟩,
         ⟨(some 4), .mv (.t 79), none, none, false⟩,
         ⟨(some 5), .mv (.c (.int .i64 0)), none, none, false⟩])
      (.ret)))))⟩

/- redpencil/redpencilref14.Same -/
def a15 : AFn := ⟨26, [.t 4],
  .seq
  (.reg [⟨(some 4), .mv (.c (.bool false)), none, none, false⟩])
  (.seq
   (.seq
    (.reg [⟨(some 6), .mv (.t 0), none, none, false⟩,
       ⟨(some 7), .len .sl (.t 6), none, none, false⟩,
       ⟨(some 8), .mv (.t 1), none, none, false⟩,
       ⟨(some 9), .len .sl (.t 8), none, none, false⟩,
       ⟨(some 10), .bin .neq .no (.t 7) (.t 9), none, none, false⟩])
    (.cond (.t 10)
     (.seq
      (.reg [⟨(some 4), .mv (.c (.bool false)), none, none, false⟩])
      (.ret))
     (.skip)))
   (.seq
    (.seq
     (.reg [⟨(some 5), .mv (.c (.int .i64 0)), none, none, false⟩])
     (.block 0 (.loop (.seq
        (.seq
         (.reg [⟨(some 11), .mv (.t 5), none, none, false⟩,
            ⟨(some 12), .mv (.t 0), none, none, false⟩,
            ⟨(some 13), .len .sl (.t 12), none, none, false⟩,
            ⟨(some 14), .bin .lss .no (.t 11) (.t 13), none, none, false⟩])
         (.cond (.t 14)
          (.skip)
          (.exit 0)))
        (.seq
         (.block 1 (.seq
           (.regd 0 [⟨(some 17), .mv (.t 0), none, none, false⟩,
              ⟨(some 18), .mv (.t 5), none, none, false⟩,
              ⟨(some 19), .iad 6 (.t 17) (.t 18), none, none, false⟩,
              ⟨(some 20), .loadn 6 (.t 19), none, none, false⟩,
              ⟨(some 21), .mv (.t 1), none, none, false⟩,
              ⟨(some 22), .mv (.t 5), none, none, false⟩,
              ⟨(some 23), .iad 6 (.t 21) (.t 22), none, none, false⟩,
              ⟨(some 24), .loadn 6 (.t 23), none, none, false⟩,
              ⟨(some 25), .bin .neq (.fl [.i, .i, .i, .i, .i, .i]) (.t 20) (.t 24), none, none, false⟩])
           (.cond (.t 25)
            (.seq
             (.reg [⟨(some 4), .mv (.c (.bool false)), none, none, false⟩])
             (.ret))
            (.skip))))
         (.reg [⟨(some 15), .mv (.t 5), none, none, false⟩,
            ⟨(some 16), .bin .add .no (.t 15) (.c (.int .i64 1)), none, none, false⟩,
            ⟨(some 5), .mv (.t 16), none, none, false⟩]))))))
    (.seq
     (.reg [⟨(some 4), .mv (.c (.bool true)), none, none, false⟩])
     (.ret))))⟩

/- redpencil/redpencilref14.Join -/
def a16 : AFn := ⟨47, [.t 4],
  .seq
  (.reg [⟨(some 4), .mv (.c .nils), none, none, false⟩])
  (.seq
   (.reg [⟨(some 8), .mv (.t 0), none, none, false⟩,
      ⟨(some 9), .app 6 48 [(.int .i64 0), (.int .i64 0), (.int .i64 0), (.int .i64 0), (.int .i64 0), (.int .i32 0)] (.c .nils) (.t 8), none, none, false⟩,
      ⟨(some 5), .mv (.t 9), none, none, false⟩])
   (.seq
    (.seq
     (.reg [⟨(some 6), .mv (.c (.int .i64 0)), none, none, false⟩])
     (.block 0 (.loop (.seq
        (.seq
         (.reg [⟨(some 10), .mv (.t 6), none, none, false⟩,
            ⟨(some 11), .mv (.t 1), none, none, false⟩,
            ⟨(some 12), .len .sl (.t 11), none, none, false⟩,
            ⟨(some 13), .bin .lss .no (.t 10) (.t 12), none, none, false⟩])
         (.cond (.t 13)
          (.skip)
          (.exit 0)))
        (.seq
         (.block 1 (.seq
           (.reg [⟨(some 16), .mv (.t 5), none, none, false⟩,
              ⟨(some 17), .mv (.t 1), none, none, false⟩,
              ⟨(some 18), .mv (.t 6), none, none, false⟩,
              ⟨(some 19), .iad 6 (.t 17) (.t 18), none, none, false⟩,
              ⟨(some 20), .fad 0 (.t 19), none, none, false⟩,
              ⟨(some 21), .loadn 2 (.t 20), none, none, false⟩,
              ⟨(some 22), .call 22 false [(.t 16), (.t 21)], none, none, false⟩,
              ⟨(some 7), .mv (.t 22), none, none, false⟩])
           (.seq
            (.reg [⟨(some 23), .mv (.t 7), none, none, false⟩,
               ⟨(some 24), .bin .geq .no (.t 23) (.c (.int .i64 0)), none, none, false⟩])
            (.cond (.t 24)
             (.regd 0 [⟨(some 26), .mv (.t 5), none, none, false⟩,
                ⟨(some 27), .mv (.t 7), none, none, false⟩,
                ⟨(some 28), .mv (.t 5), none, none, false⟩,
                ⟨(some 29), .mv (.t 7), none, none, false⟩,
                ⟨(some 30), .iad 6 (.t 28) (.t 29), none, none, false⟩,
                ⟨(some 31), .loadn 6 (.t 30), none, none, false⟩,
                ⟨(some 32), .mv (.t 1), none, none, false⟩,
                ⟨(some 33), .mv (.t 6), none, none, false⟩,
                ⟨(some 34), .iad 6 (.t 32) (.t 33), none, none, false⟩,
                ⟨(some 35), .loadn 6 (.t 34), none, none, false⟩,
                ⟨(some 36), .call 29 false [(.t 31), (.t 35)], none, none, false⟩,
                ⟨(some 25), .mv (.t 36), none, none, false⟩,
                ⟨(some 37), .ext (.t 25) 0, none, none, false⟩,
                ⟨(some 38), .ext (.t 25) 1, none, none, false⟩,
                ⟨(some 39), .iad 6 (.t 26) (.t 27), none, none, false⟩,
                ⟨none, .store 6 (.t 39) (.t 37), none, none, false⟩])
             (.reg [⟨(some 40), .mv (.t 5), none, none, false⟩,
                ⟨(some 41), .mv (.t 1), none, none, false⟩,
                ⟨(some 42), .mv (.t 6), none, none, false⟩,
                ⟨(some 43), .iad 6 (.t 41) (.t 42), none, none, false⟩,
                ⟨(some 44), .loadn 6 (.t 43), none, none, false⟩,
                ⟨(some 45), .call 32 false [(.t 40), (.t 44)], none, none, false⟩,
                ⟨(some 5), .mv (.t 45), none, none, false⟩])))))
         (.reg [⟨(some 14), .mv (.t 6), none, none, false⟩,
            ⟨(some 15), .bin .add .no (.t 14) (.c (.int .i64 1)), none, none, false⟩,
            ⟨(some 6), .mv (.t 15), none, none, false⟩]))))))
    (.seq
     (.reg [⟨(some 46), .mv (.t 5), none, none, false⟩,
        ⟨(some 4), .mv (.t 46), none, none, false⟩])
     (.ret))))⟩

/- redpencil/redpencilref14.Stain -/
def a17 : AFn := ⟨21, [],
  .seq
  (.reg [⟨(some 2), .mv (.c (.int .i64 0)), none, none, false⟩])
  (.block 0 (.loop (.seq
     (.seq
      (.reg [⟨(some 3), .mv (.t 2), none, none, false⟩,
         ⟨(some 4), .mv (.t 0), none, none, false⟩,
         ⟨(some 5), .len .sl (.t 4), none, none, false⟩,
         ⟨(some 6), .bin .lss .no (.t 3) (.t 5), none, none, false⟩])
      (.cond (.t 6)
       (.skip)
       (.exit 0)))
     (.seq
      (.block 1 (.seq
        (.reg [⟨(some 9), .mv (.t 0), none, none, false⟩,
           ⟨(some 10), .mv (.t 2), none, none, false⟩,
           ⟨(some 11), .iad 6 (.t 9) (.t 10), none, none, false⟩,
           ⟨(some 12), .fad 4 (.t 11), none, none, false⟩,
           ⟨(some 13), .load1 (.t 12), none, none, false⟩,
           ⟨(some 14), .bin .add .no (.t 13) (.c (.int .i64 1)), none, none, false⟩,
           ⟨(some 15), .iad 6 (.t 9) (.t 10), none, none, false⟩,
           ⟨(some 16), .fad 4 (.t 15), none, none, false⟩,
           ⟨none, .store 1 (.t 16) (.t 14), none, none, false⟩])
        (.reg [⟨(some 17), .mv (.t 0), none, none, false⟩,
           ⟨(some 18), .mv (.t 2), none, none, false⟩,
           ⟨(some 19), .iad 6 (.t 17) (.t 18), none, none, false⟩,
           ⟨(some 20), .fad 5 (.t 19), none, none, false⟩,
           ⟨none, .store 1 (.t 20) (.c (.int .i32 88)), none, none, false⟩])))
      (.reg [⟨(some 7), .mv (.t 2), none, none, false⟩,
         ⟨(some 8), .bin .add .no (.t 7) (.c (.int .i64 1)), none, none, false⟩,
         ⟨(some 2), .mv (.t 8), none, none, false⟩])))))⟩

/- redpencil/redpencillaw14.alls -/
def a18 : AFn := ⟨22, [.t 6],
  .seq
  (.reg [⟨(some 6), .mv (.c (.bool false)), none, none, false⟩])
  (.seq
   (.reg [⟨(some 10), .mv (.t 0), none, none, false⟩,
      ⟨(some 11), .call 33 false [(.t 10)], none, none, false⟩,
      ⟨(some 9), .mv (.t 11), none, none, false⟩,
      ⟨(some 12), .ext (.t 9) 0, none, none, false⟩,
      ⟨(some 13), .ext (.t 9) 1, none, none, false⟩,
      ⟨(some 7), .mv (.t 12), none, none, false⟩,
      ⟨(some 8), .mv (.t 13), none, none, false⟩])
   (.seq
    (.reg [⟨(some 14), .mv (.t 7), none, none, false⟩,
       ⟨(some 15), .mv (.t 1), none, none, false⟩,
       ⟨(some 16), .call 15 false [(.t 14), (.t 15)], none, none, false⟩,
       ⟨(some 17), .mv (.t 16), none, none, false⟩,
       ⟨(some 18), .mv (.t 8), (some (17, true)), none, false⟩,
       ⟨(some 19), .mv (.t 2), (some (17, true)), none, false⟩,
       ⟨(some 20), .bin .eql .no (.t 18) (.t 19), (some (17, true)), none, false⟩,
       ⟨(some 21), .pick (.t 17) (.t 20) (.c (.bool false)), none, none, false⟩,
       ⟨(some 6), .mv (.t 21), none, none, false⟩])
    (.ret)))⟩

/- redpencil/redpencillaw14.within -/
def a19 : AFn := ⟨25, [.t 8],
  .seq
  (.reg [⟨(some 8), .mv (.c (.bool false)), none, none, false⟩])
  (.seq
   (.reg [⟨(some 12), .mv (.t 0), none, none, false⟩,
      ⟨(some 13), .mv (.t 1), none, none, false⟩,
      ⟨(some 14), .call 21 false [(.t 12), (.t 13)], none, none, false⟩,
      ⟨(some 11), .mv (.t 14), none, none, false⟩,
      ⟨(some 15), .ext (.t 11) 0, none, none, false⟩,
      ⟨(some 16), .ext (.t 11) 1, none, none, false⟩,
      ⟨(some 9), .mv (.t 15), none, none, false⟩,
      ⟨(some 10), .mv (.t 16), none, none, false⟩])
   (.seq
    (.reg [⟨(some 17), .mv (.t 9), none, none, false⟩,
       ⟨(some 18), .mv (.t 2), none, none, false⟩,
       ⟨(some 19), .bin .eql .bo (.t 17) (.t 18), none, none, false⟩,
       ⟨(some 20), .mv (.t 19), none, none, false⟩,
       ⟨(some 21), .mv (.t 10), (some (20, true)), none, false⟩,
       ⟨(some 22), .mv (.t 3), (some (20, true)), none, false⟩,
       ⟨(some 23), .bin .eql .no (.t 21) (.t 22), (some (20, true)), none, false⟩,
       ⟨(some 24), .pick (.t 20) (.t 23) (.c (.bool false)), none, none, false⟩,
       ⟨(some 8), .mv (.t 24), none, none, false⟩])
    (.ret)))⟩

/- redpencil/join.Valid -/
def a20 : AFn := ⟨5, [.t 2],
  .seq
  (.reg [⟨(some 2), .mv (.c (.bool false)), none, none, false⟩])
  (.seq
   (.reg [⟨(some 3), .mv (.t 0), none, none, false⟩,
      ⟨(some 4), .call 34 false [(.t 3)], none, none, false⟩,
      ⟨(some 2), .mv (.t 4), none, none, false⟩])
   (.ret))⟩

/- redpencil/join.Within -/
def a21 : AFn := ⟨22, [.t 4, .t 5],
  .seq
  (.reg [⟨(some 4), .mv (.c (.bool false)), none, none, false⟩,
     ⟨(some 5), .mv (.c (.int .i64 0)), none, none, false⟩])
  (.seq
   (.reg [⟨(some 9), .mv (.t 0), none, none, false⟩,
      ⟨(some 10), .mv (.t 1), none, none, false⟩,
      ⟨(some 11), .call 14 false [(.t 9), (.t 10)], none, none, false⟩,
      ⟨(some 8), .mv (.t 11), none, none, false⟩,
      ⟨(some 12), .ext (.t 8) 0, none, none, false⟩,
      ⟨(some 13), .ext (.t 8) 1, none, none, false⟩,
      ⟨(some 6), .mv (.t 12), none, none, false⟩,
      ⟨(some 7), .mv (.t 13), none, none, false⟩])
   (.seq
    (.reg [⟨(some 14), .mv (.t 7), none, none, false⟩,
       ⟨(some 15), .bin .eql .no (.t 14) (.c (.int .i64 0)), none, none, false⟩,
       ⟨(some 16), .mv (.t 15), none, none, false⟩,
       ⟨(some 17), .mv (.t 6), (some (16, true)), none, false⟩,
       ⟨(some 18), .mv (.t 1), (some (16, true)), none, false⟩,
       ⟨(some 19), .call 25 false [(.t 17), (.t 18)], (some (16, true)), none, false⟩,
       ⟨(some 20), .pick (.t 16) (.t 19) (.c (.bool false)), none, none, false⟩,
       ⟨(some 21), .mv (.t 7), none, none, false⟩,
       ⟨(some 4), .mv (.t 20), none, none, false⟩,
       ⟨(some 5), .mv (.t 21), none, none, false⟩])
    (.ret)))⟩

/- redpencil/redpencilref14.Find -/
def a22 : AFn := ⟨20, [.t 4],
  .seq
  (.reg [⟨(some 3), .box 2 (.t 1), none, none, false⟩,
     ⟨(some 4), .mv (.c (.int .i64 0)), none, none, false⟩])
  (.seq
   (.seq
    (.reg [⟨(some 5), .mv (.c (.int .i64 0)), none, none, false⟩])
    (.block 0 (.loop (.seq
       (.seq
        (.reg [⟨(some 6), .mv (.t 5), none, none, false⟩,
           ⟨(some 7), .mv (.t 0), none, none, false⟩,
           ⟨(some 8), .len .sl (.t 7), none, none, false⟩,
           ⟨(some 9), .bin .lss .no (.t 6) (.t 8), none, none, false⟩])
        (.cond (.t 9)
         (.skip)
         (.exit 0)))
       (.seq
        (.block 1 (.seq
          (.regd 0 [⟨(some 12), .mv (.t 0), none, none, false⟩,
             ⟨(some 13), .mv (.t 5), none, none, false⟩,
             ⟨(some 14), .iad 6 (.t 12) (.t 13), none, none, false⟩,
             ⟨(some 15), .fad 0 (.t 14), none, none, false⟩,
             ⟨(some 16), .loadn 2 (.t 15), none, none, false⟩,
             ⟨(some 17), .loadn 2 (.t 3), none, none, false⟩,
             ⟨(some 18), .bin .eql (.fl [.i, .i]) (.t 16) (.t 17), none, none, false⟩])
          (.cond (.t 18)
           (.seq
            (.reg [⟨(some 19), .mv (.t 5), none, none, false⟩,
               ⟨(some 4), .mv (.t 19), none, none, false⟩])
            (.ret))
           (.skip))))
        (.reg [⟨(some 10), .mv (.t 5), none, none, false⟩,
           ⟨(some 11), .bin .add .no (.t 10) (.c (.int .i64 1)), none, none, false⟩,
           ⟨(some 5), .mv (.t 11), none, none, false⟩]))))))
   (.seq
    (.reg [⟨(some 4), .mv (.c (.int .i64 (-1))), none, none, false⟩])
    (.ret)))⟩

/- redpencil/join.Agree -/
def a23 : AFn := ⟨20, [.t 4, .t 5],
  .seq
  (.reg [⟨(some 4), .mv (.c (.bool false)), none, none, false⟩,
     ⟨(some 5), .mv (.c (.int .i64 0)), none, none, false⟩])
  (.seq
   (.reg [⟨(some 9), .mv (.t 0), none, none, false⟩,
      ⟨(some 10), .mv (.t 1), none, none, false⟩,
      ⟨(some 11), .call 14 false [(.t 9), (.t 10)], none, none, false⟩,
      ⟨(some 8), .mv (.t 11), none, none, false⟩,
      ⟨(some 12), .ext (.t 8) 0, none, none, false⟩,
      ⟨(some 13), .ext (.t 8) 1, none, none, false⟩,
      ⟨(some 6), .mv (.t 12), none, none, false⟩,
      ⟨(some 7), .mv (.t 13), none, none, false⟩])
   (.seq
    (.reg [⟨(some 14), .mv (.t 7), none, none, false⟩])
    (.block 0 (.seq
      (.reg [⟨(some 17), .bin .eql .no (.t 14) (.c (.int .i64 0)), none, none, false⟩,
         ⟨(some 16), .mv (.t 17), none, none, false⟩])
      (.cond (.t 16)
       (.seq
        (.reg [⟨(some 4), .mv (.c (.bool true)), none, none, false⟩,
           ⟨(some 5), .mv (.c (.int .i64 0)), none, none, false⟩])
        (.ret))
       (.seq
        (.reg [⟨(some 19), .bin .eql .no (.t 14) (.c (.int .i64 15)), none, none, false⟩,
           ⟨(some 18), .mv (.t 19), none, none, false⟩])
        (.cond (.t 18)
         (.seq
          (.reg [⟨(some 4), .mv (.c (.bool false)), none, none, false⟩,
             ⟨(some 5), .mv (.c (.int .i64 0)), none, none, false⟩])
          (.ret))
         (.seq
          (.reg [⟨(some 15), .mv (.t 7), none, none, false⟩,
             ⟨(some 4), .mv (.c (.bool false)), none, none, false⟩,
             ⟨(some 5), .mv (.t 15), none, none, false⟩])
          (.ret)))))))))⟩

/- redpencil/join.Copy -/
def a24 : AFn := ⟨5, [.t 2],
  .seq
  (.reg [⟨(some 2), .mv (.c .nils), none, none, false⟩])
  (.seq
   (.reg [⟨(some 3), .mv (.t 0), none, none, false⟩,
      ⟨(some 4), .call 35 false [(.t 3)], none, none, false⟩,
      ⟨(some 2), .mv (.t 4), none, none, false⟩])
   (.ret))⟩

/- redpencil/join.Equal -/
def a25 : AFn := ⟨8, [.t 4],
  .seq
  (.reg [⟨(some 4), .mv (.c (.bool false)), none, none, false⟩])
  (.seq
   (.reg [⟨(some 5), .mv (.t 0), none, none, false⟩,
      ⟨(some 6), .mv (.t 1), none, none, false⟩,
      ⟨(some 7), .call 36 false [(.t 5), (.t 6)], none, none, false⟩,
      ⟨(some 4), .mv (.t 7), none, none, false⟩])
   (.ret))⟩

/- redpencil/redpencillaw14.dot -/
def a26 : AFn := ⟨8, [.celln 4 2],
  .seq
  (.reg [⟨(some 4), .alloc [(.int .i64 0), (.int .i64 0)], none, none, false⟩])
  (.seq
   (.reg [⟨(some 5), .mv (.t 0), none, none, false⟩,
      ⟨(some 6), .mv (.t 1), none, none, false⟩,
      ⟨(some 7), .build [(.int .i64 0), (.int .i64 0)] [(0, 1, (.t 5)), (1, 1, (.t 6))], none, none, false⟩,
      ⟨none, .store 2 (.t 4) (.t 7), none, none, false⟩])
   (.ret))⟩

/- redpencil/redpencilref14.IsNode -/
def a27 : AFn := ⟨44, [.t 2],
  .seq
  (.reg [⟨(some 1), .box 6 (.t 0), none, none, false⟩,
     ⟨(some 2), .mv (.c (.bool false)), none, none, false⟩])
  (.seq
   (.reg [⟨(some 3), .fad 0 (.t 1), none, none, false⟩,
      ⟨(some 4), .loadn 2 (.t 3), none, none, false⟩,
      ⟨(some 5), .call 37 false [(.t 4)], none, none, false⟩,
      ⟨(some 6), .mv (.t 5), none, none, false⟩,
      ⟨(some 7), .fad 2 (.t 1), (some (6, true)), none, false⟩,
      ⟨(some 8), .loadn 2 (.t 7), (some (6, true)), none, false⟩,
      ⟨(some 9), .build [(.int .i64 0), (.int .i64 0)] [], (some (6, true)), none, false⟩,
      ⟨(some 10), .bin .eql (.fl [.i, .i]) (.t 8) (.t 9), (some (6, true)), none, false⟩,
      ⟨(some 11), .mv (.t 10), (some (6, true)), none, false⟩,
      ⟨(some 12), .fad 2 (.t 1), (some (11, false)), none, false⟩,
      ⟨(some 13), .loadn 2 (.t 12), (some (11, false)), none, false⟩,
      ⟨(some 14), .call 37 false [(.t 13)], (some (11, false)), none, false⟩,
      ⟨(some 15), .pick (.t 11) (.c (.bool true)) (.t 14), (some (6, true)), none, false⟩,
      ⟨(some 16), .pick (.t 6) (.t 15) (.c (.bool false)), none, none, false⟩,
      ⟨(some 17), .mv (.t 16), none, none, false⟩,
      ⟨(some 18), .fad 2 (.t 1), (some (17, true)), none, false⟩,
      ⟨(some 19), .loadn 2 (.t 18), (some (17, true)), none, false⟩,
      ⟨(some 20), .fad 0 (.t 1), (some (17, true)), none, false⟩,
      ⟨(some 21), .loadn 2 (.t 20), (some (17, true)), none, false⟩,
      ⟨(some 22), .bin .neq (.fl [.i, .i]) (.t 19) (.t 21), (some (17, true)), none, false⟩,
      ⟨(some 23), .pick (.t 17) (.t 22) (.c (.bool false)), none, none, false⟩,
      ⟨(some 24), .mv (.t 23), none, none, false⟩,
      ⟨(some 25), .fad 4 (.t 1), (some (24, true)), none, false⟩,
      ⟨(some 26), .load1 (.t 25), (some (24, true)), none, false⟩,
      ⟨(some 27), .bin .geq .no (.t 26) (.c (.int .i64 1)), (some (24, true)), none, false⟩,
      ⟨(some 28), .pick (.t 24) (.t 27) (.c (.bool false)), none, none, false⟩,
      ⟨(some 29), .mv (.t 28), none, none, false⟩,
      ⟨(some 30), .fad 4 (.t 1), (some (29, true)), none, false⟩,
      ⟨(some 31), .load1 (.t 30), (some (29, true)), none, false⟩,
      ⟨(some 32), .bin .leq .no (.t 31) (.c (.int .i64 4611686018427387904)), (some (29, true)), none, false⟩,
      ⟨(some 33), .pick (.t 29) (.t 32) (.c (.bool false)), none, none, false⟩,
      ⟨(some 34), .mv (.t 33), none, none, false⟩,
      ⟨(some 35), .fad 5 (.t 1), (some (34, true)), none, false⟩,
      ⟨(some 36), .load1 (.t 35), (some (34, true)), none, false⟩,
      ⟨(some 37), .bin .eql .no (.t 36) (.c (.int .i32 0)), (some (34, true)), none, false⟩,
      ⟨(some 38), .mv (.t 37), (some (34, true)), none, false⟩,
      ⟨(some 39), .fad 5 (.t 1), (some (38, false)), none, false⟩,
      ⟨(some 40), .load1 (.t 39), (some (38, false)), none, false⟩,
      ⟨(some 41), .call 38 false [(.t 40)], (some (38, false)), none, false⟩,
      ⟨(some 42), .pick (.t 38) (.c (.bool true)) (.t 41), (some (34, true)), none, false⟩,
      ⟨(some 43), .pick (.t 34) (.t 42) (.c (.bool false)), none, none, false⟩,
      ⟨(some 2), .mv (.t 43), none, none, false⟩])
   (.ret))⟩

/- redpencil/redpencilref14.Before -/
def a28 : AFn := ⟨24, [.t 4],
  .seq
  (.reg [⟨(some 2), .box 2 (.t 0), none, none, false⟩,
     ⟨(some 3), .box 2 (.t 1), none, none, false⟩,
     ⟨(some 4), .mv (.c (.bool false)), none, none, false⟩])
  (.seq
   (.reg [⟨(some 5), .fad 1 (.t 2), none, none, false⟩,
      ⟨(some 6), .load1 (.t 5), none, none, false⟩,
      ⟨(some 7), .fad 1 (.t 3), none, none, false⟩,
      ⟨(some 8), .load1 (.t 7), none, none, false⟩,
      ⟨(some 9), .bin .lss .no (.t 6) (.t 8), none, none, false⟩,
      ⟨(some 10), .mv (.t 9), none, none, false⟩,
      ⟨(some 11), .fad 1 (.t 2), (some (10, false)), none, false⟩,
      ⟨(some 12), .load1 (.t 11), (some (10, false)), none, false⟩,
      ⟨(some 13), .fad 1 (.t 3), (some (10, false)), none, false⟩,
      ⟨(some 14), .load1 (.t 13), (some (10, false)), none, false⟩,
      ⟨(some 15), .bin .eql .no (.t 12) (.t 14), (some (10, false)), none, false⟩,
      ⟨(some 16), .mv (.t 15), (some (10, false)), none, false⟩,
      ⟨(some 17), .fad 0 (.t 2), (some (16, true)), none, false⟩,
      ⟨(some 18), .load1 (.t 17), (some (16, true)), none, false⟩,
      ⟨(some 19), .fad 0 (.t 3), (some (16, true)), none, false⟩,
      ⟨(some 20), .load1 (.t 19), (some (16, true)), none, false⟩,
      ⟨(some 21), .bin .lss .no (.t 18) (.t 20), (some (16, true)), none, false⟩,
      ⟨(some 22), .pick (.t 16) (.t 21) (.c (.bool false)), (some (10, false)), none, false⟩,
      ⟨(some 23), .pick (.t 10) (.c (.bool true)) (.t 22), none, none, false⟩,
      ⟨(some 4), .mv (.t 23), none, none, false⟩])
   (.ret))⟩

/- redpencil/redpencilref14.Merge -/
def a29 : AFn := ⟨48, [.celln 4 6, .t 5],
  .seq
  (.reg [⟨(some 2), .box 6 (.t 0), none, none, false⟩,
     ⟨(some 3), .box 6 (.t 1), none, none, false⟩,
     ⟨(some 4), .alloc [(.int .i64 0), (.int .i64 0), (.int .i64 0), (.int .i64 0), (.int .i64 0), (.int .i32 0)], none, none, false⟩,
     ⟨(some 5), .mv (.c (.bool false)), none, none, false⟩])
  (.seq
   (.seq
    (.reg [⟨(some 6), .fad 0 (.t 2), none, none, false⟩,
       ⟨(some 7), .loadn 2 (.t 6), none, none, false⟩,
       ⟨(some 8), .fad 0 (.t 3), none, none, false⟩,
       ⟨(some 9), .loadn 2 (.t 8), none, none, false⟩,
       ⟨(some 10), .bin .neq (.fl [.i, .i]) (.t 7) (.t 9), none, none, false⟩,
       ⟨(some 11), .mv (.t 10), none, none, false⟩,
       ⟨(some 12), .fad 2 (.t 2), (some (11, false)), none, false⟩,
       ⟨(some 13), .loadn 2 (.t 12), (some (11, false)), none, false⟩,
       ⟨(some 14), .fad 2 (.t 3), (some (11, false)), none, false⟩,
       ⟨(some 15), .loadn 2 (.t 14), (some (11, false)), none, false⟩,
       ⟨(some 16), .bin .neq (.fl [.i, .i]) (.t 13) (.t 15), (some (11, false)), none, false⟩,
       ⟨(some 17), .pick (.t 11) (.c (.bool true)) (.t 16), none, none, false⟩,
       ⟨(some 18), .mv (.t 17), none, none, false⟩,
       ⟨(some 19), .fad 4 (.t 2), (some (18, false)), none, false⟩,
       ⟨(some 20), .load1 (.t 19), (some (18, false)), none, false⟩,
       ⟨(some 21), .fad 4 (.t 3), (some (18, false)), none, false⟩,
       ⟨(some 22), .load1 (.t 21), (some (18, false)), none, false⟩,
       ⟨(some 23), .bin .neq .no (.t 20) (.t 22), (some (18, false)), none, false⟩,
       ⟨(some 24), .pick (.t 18) (.c (.bool true)) (.t 23), none, none, false⟩,
       ⟨(some 25), .mv (.t 24), none, none, false⟩,
       ⟨(some 26), .fad 5 (.t 2), (some (25, false)), none, false⟩,
       ⟨(some 27), .load1 (.t 26), (some (25, false)), none, false⟩,
       ⟨(some 28), .bin .neq .no (.t 27) (.c (.int .i32 0)), (some (25, false)), none, false⟩,
       ⟨(some 29), .mv (.t 28), (some (25, false)), none, false⟩,
       ⟨(some 30), .fad 5 (.t 3), (some (29, true)), none, false⟩,
       ⟨(some 31), .load1 (.t 30), (some (29, true)), none, false⟩,
       ⟨(some 32), .bin .neq .no (.t 31) (.c (.int .i32 0)), (some (29, true)), none, false⟩,
       ⟨(some 33), .pick (.t 29) (.t 32) (.c (.bool false)), (some (25, false)), none, false⟩,
       ⟨(some 34), .mv (.t 33), (some (25, false)), none, false⟩,
       ⟨(some 35), .fad 5 (.t 2), (some (34, true)), none, false⟩,
       ⟨(some 36), .load1 (.t 35), (some (34, true)), none, false⟩,
       ⟨(some 37), .fad 5 (.t 3), (some (34, true)), none, false⟩,
       ⟨(some 38), .load1 (.t 37), (some (34, true)), none, false⟩,
       ⟨(some 39), .bin .neq .no (.t 36) (.t 38), (some (34, true)), none, false⟩,
       ⟨(some 40), .pick (.t 34) (.t 39) (.c (.bool false)), (some (25, false)), none, false⟩,
       ⟨(some 41), .pick (.t 25) (.c (.bool true)) (.t 40), none, none, false⟩])
    (.cond (.t 41)
     (.seq
      (.reg [⟨(some 42), .build [(.int .i64 0), (.int .i64 0), (.int .i64 0), (.int .i64 0), (.int .i64 0), (.int .i32 0)] [], none, none, false⟩,
         ⟨none, .store 6 (.t 4) (.t 42), none, none, false⟩,
         ⟨(some 5), .mv (.c (.bool false)), none, none, false⟩])
      (.ret))
     (.skip)))
   (.seq
    (.seq
     (.reg [⟨(some 43), .fad 5 (.t 3), none, none, false⟩,
        ⟨(some 44), .load1 (.t 43), none, none, false⟩,
        ⟨(some 45), .bin .eql .no (.t 44) (.c (.int .i32 0)), none, none, false⟩])
     (.cond (.t 45)
      (.seq
       (.reg [⟨(some 46), .loadn 6 (.t 3), none, none, false⟩,
          ⟨none, .store 6 (.t 4) (.t 46), none, none, false⟩,
          ⟨(some 5), .mv (.c (.bool true)), none, none, false⟩])
       (.ret))
      (.skip)))
    (.seq
     (.reg [⟨(some 47), .loadn 6 (.t 2), none, none, false⟩,
        ⟨none, .store 6 (.t 4) (.t 47), none, none, false⟩,
        ⟨(some 5), .mv (.c (.bool true)), none, none, false⟩])
     (.ret))))⟩

/- redpencil/dot.Compare -/
def a30 : AFn := ⟨17, [.t 4],
  .seq
  (.reg [⟨(some 2), .box 2 (.t 0), none, none, false⟩,
     ⟨(some 3), .box 2 (.t 1), none, none, false⟩,
     ⟨(some 4), .mv (.c (.int .i64 0)), none, none, false⟩])
  (.seq
   (.regd 1 [⟨(some 5), .fad 1 (.t 2), none, none, false⟩,
      ⟨(some 6), .load1 (.t 5), none, none, false⟩,
      ⟨(some 7), .fad 1 (.t 3), none, none, false⟩,
      ⟨(some 8), .load1 (.t 7), none, none, false⟩,
      ⟨(some 9), .call 40 true [(.t 6), (.t 8)], none, none, false⟩,
      ⟨(some 10), .fad 0 (.t 2), none, none, false⟩,
      ⟨(some 11), .load1 (.t 10), none, none, false⟩,
      ⟨(some 12), .fad 0 (.t 3), none, none, false⟩,
      ⟨(some 13), .load1 (.t 12), none, none, false⟩,
      ⟨(some 14), .call 40 false [(.t 11), (.t 13)], none, none, false⟩,
      ⟨(some 15), .bsl [(.int .i64 0), (.int .i64 0)] 2 1 [(0, (.t 9)), (1, (.t 14))], none, (some 0), false⟩,
      ⟨(some 16), .call 39 false [(.t 15)], none, none, false⟩,
      ⟨(some 4), .mv (.t 16), none, none, false⟩])
   (.ret))⟩

/- redpencil/node.Merge -/
def a31 : AFn := ⟨43, [.celln 4 6, .t 5],
  .seq
  (.reg [⟨(some 2), .box 6 (.t 0), none, none, false⟩,
     ⟨(some 3), .box 6 (.t 1), none, none, false⟩,
     ⟨(some 4), .alloc [(.int .i64 0), (.int .i64 0), (.int .i64 0), (.int .i64 0), (.int .i64 0), (.int .i32 0)], none, none, false⟩,
     ⟨(some 5), .mv (.c (.int .i64 0)), none, none, false⟩])
  (.seq
   (.block 0 (.seq
     (.reg [⟨(some 7), .loadn 6 (.t 2), none, none, false⟩,
        ⟨(some 8), .call 41 false [(.t 7)], none, none, false⟩,
        ⟨(some 9), .un .not (.t 8), none, none, false⟩,
        ⟨(some 10), .mv (.t 9), none, none, false⟩,
        ⟨(some 11), .loadn 6 (.t 3), (some (10, false)), none, false⟩,
        ⟨(some 12), .call 41 false [(.t 11)], (some (10, false)), none, false⟩,
        ⟨(some 13), .un .not (.t 12), (some (10, false)), none, false⟩,
        ⟨(some 14), .pick (.t 10) (.c (.bool true)) (.t 13), none, none, false⟩,
        ⟨(some 6), .mv (.t 14), none, none, false⟩])
     (.cond (.t 6)
      (.seq
       (.reg [⟨(some 15), .build [(.int .i64 0), (.int .i64 0), (.int .i64 0), (.int .i64 0), (.int .i64 0), (.int .i32 0)] [], none, none, false⟩,
          ⟨none, .store 6 (.t 4) (.t 15), none, none, false⟩,
          ⟨(some 5), .mv (.c (.int .i64 2)), none, none, false⟩])
       (.ret))
      (.seq
       (.regd 0 [⟨(some 17), .loadn 6 (.t 2), none, none, false⟩,
          ⟨(some 18), .call 42 true [(.t 17)], none, none, false⟩,
          ⟨(some 19), .loadn 6 (.t 3), none, none, false⟩,
          ⟨(some 20), .call 42 false [(.t 19)], none, none, false⟩,
          ⟨(some 21), .bin .neq (.fl [.i, .i, .i, .i, .i, .i]) (.t 18) (.t 20), none, none, false⟩,
          ⟨(some 22), .mv (.t 21), none, none, false⟩,
          ⟨(some 23), .loadn 6 (.t 2), (some (22, false)), none, false⟩,
          ⟨(some 24), .loadn 6 (.t 3), (some (22, false)), none, false⟩,
          ⟨(some 25), .bin .neq (.fl [.i, .i, .i, .i, .i, .i]) (.t 23) (.t 24), (some (22, false)), none, false⟩,
          ⟨(some 26), .mv (.t 25), (some (22, false)), none, false⟩,
          ⟨(some 27), .loadn 6 (.t 2), (some (26, true)), none, false⟩,
          ⟨(some 28), .call 43 false [(.t 27)], (some (26, true)), none, false⟩,
          ⟨(some 29), .un .not (.t 28), (some (26, true)), none, false⟩,
          ⟨(some 30), .pick (.t 26) (.t 29) (.c (.bool false)), (some (22, false)), none, false⟩,
          ⟨(some 31), .mv (.t 30), (some (22, false)), none, false⟩,
          ⟨(some 32), .loadn 6 (.t 3), (some (31, true)), none, false⟩,
          ⟨(some 33), .call 43 false [(.t 32)], (some (31, true)), none, false⟩,
          ⟨(some 34), .un .not (.t 33), (some (31, true)), none, false⟩,
          ⟨(some 35), .pick (.t 31) (.t 34) (.c (.bool false)), (some (22, false)), none, false⟩,
          ⟨(some 36), .pick (.t 22) (.c (.bool true)) (.t 35), none, none, false⟩,
          ⟨(some 16), .mv (.t 36), none, none, false⟩])
       (.cond (.t 16)
        (.seq
         (.reg [⟨(some 37), .build [(.int .i64 0), (.int .i64 0), (.int .i64 0), (.int .i64 0), (.int .i64 0), (.int .i32 0)] [], none, none, false⟩,
            ⟨none, .store 6 (.t 4) (.t 37), none, none, false⟩,
            ⟨(some 5), .mv (.c (.int .i64 15)), none, none, false⟩])
         (.ret))
        (.seq
         (.reg [⟨(some 39), .loadn 6 (.t 3), none, none, false⟩,
            ⟨(some 40), .call 43 false [(.t 39)], none, none, false⟩,
            ⟨(some 38), .mv (.t 40), none, none, false⟩])
         (.cond (.t 38)
          (.seq
           (.reg [⟨(some 41), .loadn 6 (.t 3), none, none, false⟩,
              ⟨none, .store 6 (.t 4) (.t 41), none, none, false⟩,
              ⟨(some 5), .mv (.c (.int .i64 0)), none, none, false⟩])
           (.ret))
          (.skip))))))))
   (.seq
    (.reg [⟨(some 42), .loadn 6 (.t 2), none, none, false⟩,
       ⟨none, .store 6 (.t 4) (.t 42), none, none, false⟩,
       ⟨(some 5), .mv (.c (.int .i64 0)), none, none, false⟩])
    (.ret)))⟩

/- redpencil/redpencilref14.put -/
def a32 : AFn := ⟨35, [.t 4],
  .seq
  (.reg [⟨(some 3), .box 6 (.t 1), none, none, false⟩,
     ⟨(some 4), .mv (.c .nils), none, none, false⟩])
  (.seq
   (.reg [⟨(some 5), .mv (.c (.int .i64 0)), none, none, false⟩])
   (.seq
    (.block 0 (.loop (.seq
       (.seq
        (.regd 0 [⟨(some 7), .mv (.t 5), none, none, false⟩,
           ⟨(some 8), .mv (.t 0), none, none, false⟩,
           ⟨(some 9), .len .sl (.t 8), none, none, false⟩,
           ⟨(some 10), .bin .lss .no (.t 7) (.t 9), none, none, false⟩,
           ⟨(some 11), .mv (.t 10), none, none, false⟩,
           ⟨(some 12), .mv (.t 0), (some (11, true)), none, false⟩,
           ⟨(some 13), .mv (.t 5), (some (11, true)), none, false⟩,
           ⟨(some 14), .iad 6 (.t 12) (.t 13), (some (11, true)), none, false⟩,
           ⟨(some 15), .fad 0 (.t 14), (some (11, true)), none, false⟩,
           ⟨(some 16), .loadn 2 (.t 15), (some (11, true)), none, false⟩,
           ⟨(some 17), .fad 0 (.t 3), (some (11, true)), none, false⟩,
           ⟨(some 18), .loadn 2 (.t 17), (some (11, true)), none, false⟩,
           ⟨(some 19), .call 28 false [(.t 16), (.t 18)], (some (11, true)), none, false⟩,
           ⟨(some 20), .pick (.t 11) (.t 19) (.c (.bool false)), none, none, false⟩])
        (.cond (.t 20)
         (.skip)
         (.exit 0)))
       (.block 1 (.reg [⟨(some 21), .mv (.t 5), none, none, false⟩,
           ⟨(some 22), .bin .add .no (.t 21) (.c (.int .i64 1)), none, none, false⟩,
           ⟨(some 5), .mv (.t 22), none, none, false⟩])))))
    (.seq
     (.regd 1 [⟨(some 23), .loadn 6 (.t 3), none, none, false⟩,
        ⟨(some 24), .bsl [(.int .i64 0), (.int .i64 0), (.int .i64 0), (.int .i64 0), (.int .i64 0), (.int .i32 0)] 1 6 [(0, (.t 23))], none, (some 0), false⟩,
        ⟨(some 25), .mv (.t 0), none, none, false⟩,
        ⟨(some 26), .mv (.t 5), none, none, false⟩,
        ⟨(some 27), .slc 6 (.t 25) (some (.t 26)) none none, none, none, false⟩,
        ⟨(some 28), .app 6 48 [(.int .i64 0), (.int .i64 0), (.int .i64 0), (.int .i64 0), (.int .i64 0), (.int .i32 0)] (.t 24) (.t 27), none, none, false⟩,
        ⟨(some 6), .mv (.t 28), none, none, false⟩])
     (.seq
      (.reg [⟨(some 29), .mv (.t 0), none, none, false⟩,
         ⟨(some 30), .mv (.t 5), none, none, false⟩,
         ⟨(some 31), .slc 6 (.t 29) none (some (.t 30)) none, none, none, false⟩,
         ⟨(some 32), .app 6 48 [(.int .i64 0), (.int .i64 0), (.int .i64 0), (.int .i64 0), (.int .i64 0), (.int .i32 0)] (.c .nils) (.t 31), none, none, false⟩,
         ⟨(some 33), .mv (.t 6), none, none, false⟩,
         ⟨(some 34), .app 6 48 [(.int .i64 0), (.int .i64 0), (.int .i64 0), (.int .i64 0), (.int .i64 0), (.int .i32 0)] (.t 32) (.t 33), none, none, false⟩,
         ⟨(some 4), .mv (.t 34), none, none, false⟩])
      (.ret)))))⟩

/- redpencil/join.All -/
def a33 : AFn := ⟨24, [.t 2, .t 3],
  .seq
  (.reg [⟨(some 2), .mv (.c .nils), none, none, false⟩,
     ⟨(some 3), .mv (.c (.int .i64 0)), none, none, false⟩])
  (.seq
   (.reg [⟨(some 4), .mv (.c .nils), none, none, false⟩])
   (.seq
    (.seq
     (.reg [⟨(some 7), .mv (.t 0), none, none, false⟩,
        ⟨(some 8), .len .sl (.t 7), none, none, false⟩,
        ⟨(some 9), .mv (.c (.int .i64 0)), none, none, false⟩])
     (.block 0 (.loop (.seq
        (.reg [⟨(some 10), .bin .lss .no (.t 9) (.t 8), none, none, false⟩])
        (.seq
         (.cond (.t 10)
          (.skip)
          (.exit 0))
         (.seq
          (.block 1 (.seq
            (.reg [⟨(some 11), .iad 1 (.t 7) (.t 9), none, none, false⟩,
               ⟨(some 12), .load1 (.t 11), none, none, false⟩,
               ⟨(some 6), .mv (.t 12), none, none, false⟩])
            (.seq
             (.seq
              (.reg [⟨(some 13), .mv (.t 6), none, none, false⟩,
                 ⟨(some 14), .call 20 false [(.t 13)], none, none, false⟩,
                 ⟨(some 15), .un .not (.t 14), none, none, false⟩])
              (.cond (.t 15)
               (.seq
                (.reg [⟨(some 2), .mv (.c .nils), none, none, false⟩,
                   ⟨(some 3), .mv (.c (.int .i64 2)), none, none, false⟩])
                (.ret))
               (.skip)))
             (.reg [⟨(some 16), .mv (.t 4), none, none, false⟩,
                ⟨(some 17), .mv (.t 6), none, none, false⟩,
                ⟨(some 18), .app 6 48 [(.int .i64 0), (.int .i64 0), (.int .i64 0), (.int .i64 0), (.int .i64 0), (.int .i32 0)] (.t 16) (.t 17), none, none, false⟩,
                ⟨(some 4), .mv (.t 18), none, none, false⟩]))))
          (.reg [⟨(some 19), .bin .add .no (.t 9) (.c (.int .i64 1)), none, none, false⟩,
             ⟨(some 9), .mv (.t 19), none, none, false⟩])))))))
    (.seq
     (.reg [⟨(some 20), .mv (.t 4), none, none, false⟩,
        ⟨(some 21), .call 44 false [(.t 20)], none, none, false⟩,
        ⟨(some 22), .ext (.t 21) 0, none, none, false⟩,
        ⟨(some 23), .ext (.t 21) 1, none, none, false⟩,
        ⟨(some 2), .mv (.t 22), none, none, false⟩,
        ⟨(some 3), .mv (.t 23), none, none, false⟩])
     (.ret))))⟩

/- redpencil/store.Valid -/
def a34 : AFn := ⟨11, [.t 2],
  .seq
  (.reg [⟨(some 2), .mv (.c (.bool false)), none, none, false⟩])
  (.seq
   (.reg [⟨(some 3), .mv (.t 0), none, none, false⟩,
      ⟨(some 4), .call 45 false [(.t 3), (.f 46)], none, none, false⟩,
      ⟨(some 5), .un .not (.t 4), none, none, false⟩,
      ⟨(some 6), .mv (.t 5), none, none, false⟩,
      ⟨(some 7), .mv (.t 0), (some (6, true)), none, false⟩,
      ⟨(some 8), .call 48 false [(.t 7)], (some (6, true)), none, false⟩,
      ⟨(some 9), .call 47 false [(.t 8)], (some (6, true)), none, false⟩,
      ⟨(some 10), .pick (.t 6) (.t 9) (.c (.bool false)), none, none, false⟩,
      ⟨(some 2), .mv (.t 10), none, none, false⟩])
   (.ret))⟩

/- slices.Clone[redpencil/api.State,redpencil/api.Node] -/
def a35 : AFn := ⟨8, [.t 2],
  .seq
  (.reg [⟨(some 2), .mv (.c .nils), none, none, false⟩])
  (.seq
   (.seq
    (.reg [⟨(some 3), .mv (.t 0), none, none, false⟩,
       ⟨(some 4), .bin .eql .ns (.t 3) (.c .nils), none, none, false⟩])
    (.cond (.t 4)
     (.seq
      (.reg [⟨(some 2), .mv (.c .nils), none, none, false⟩])
      (.ret))
     (.skip)))
   (.seq
    (.reg [⟨(some 5), .bsl [] 0 6 [], none, none, false⟩,
       ⟨(some 6), .mv (.t 0), none, none, false⟩,
       ⟨(some 7), .app 6 48 [(.int .i64 0), (.int .i64 0), (.int .i64 0), (.int .i64 0), (.int .i64 0), (.int .i32 0)] (.t 5) (.t 6), none, none, false⟩,
       ⟨(some 2), .mv (.t 7), none, none, false⟩])
    (.ret)))⟩

/- redpencil/store.Equal -/
def a36 : AFn := ⟨8, [.t 4],
  .seq
  (.reg [⟨(some 4), .mv (.c (.bool false)), none, none, false⟩])
  (.seq
   (.reg [⟨(some 5), .mv (.t 0), none, none, false⟩,
      ⟨(some 6), .mv (.t 1), none, none, false⟩,
      ⟨(some 7), .call 49 false [(.t 5), (.t 6)], none, none, false⟩,
      ⟨(some 4), .mv (.t 7), none, none, false⟩])
   (.ret))⟩

/- redpencil/redpencilref14.IsDot -/
def a37 : AFn := ⟨21, [.t 2],
  .seq
  (.reg [⟨(some 1), .box 2 (.t 0), none, none, false⟩,
     ⟨(some 2), .mv (.c (.bool false)), none, none, false⟩])
  (.seq
   (.reg [⟨(some 3), .fad 0 (.t 1), none, none, false⟩,
      ⟨(some 4), .load1 (.t 3), none, none, false⟩,
      ⟨(some 5), .bin .geq .no (.t 4) (.c (.int .i64 1)), none, none, false⟩,
      ⟨(some 6), .mv (.t 5), none, none, false⟩,
      ⟨(some 7), .fad 0 (.t 1), (some (6, true)), none, false⟩,
      ⟨(some 8), .load1 (.t 7), (some (6, true)), none, false⟩,
      ⟨(some 9), .bin .leq .no (.t 8) (.c (.int .i64 64)), (some (6, true)), none, false⟩,
      ⟨(some 10), .pick (.t 6) (.t 9) (.c (.bool false)), none, none, false⟩,
      ⟨(some 11), .mv (.t 10), none, none, false⟩,
      ⟨(some 12), .fad 1 (.t 1), (some (11, true)), none, false⟩,
      ⟨(some 13), .load1 (.t 12), (some (11, true)), none, false⟩,
      ⟨(some 14), .bin .geq .no (.t 13) (.c (.int .i64 1)), (some (11, true)), none, false⟩,
      ⟨(some 15), .pick (.t 11) (.t 14) (.c (.bool false)), none, none, false⟩,
      ⟨(some 16), .mv (.t 15), none, none, false⟩,
      ⟨(some 17), .fad 1 (.t 1), (some (16, true)), none, false⟩,
      ⟨(some 18), .load1 (.t 17), (some (16, true)), none, false⟩,
      ⟨(some 19), .bin .leq .no (.t 18) (.c (.int .i64 4294967295)), (some (16, true)), none, false⟩,
      ⟨(some 20), .pick (.t 16) (.t 19) (.c (.bool false)), none, none, false⟩,
      ⟨(some 2), .mv (.t 20), none, none, false⟩])
   (.ret))⟩

/- redpencil/redpencilref14.IsRune -/
def a38 : AFn := ⟨17, [.t 2],
  .seq
  (.reg [⟨(some 2), .mv (.c (.bool false)), none, none, false⟩])
  (.seq
   (.reg [⟨(some 3), .mv (.t 0), none, none, false⟩,
      ⟨(some 4), .bin .geq .no (.t 3) (.c (.int .i32 1)), none, none, false⟩,
      ⟨(some 5), .mv (.t 4), none, none, false⟩,
      ⟨(some 6), .mv (.t 0), (some (5, true)), none, false⟩,
      ⟨(some 7), .bin .leq .no (.t 6) (.c (.int .i32 1114111)), (some (5, true)), none, false⟩,
      ⟨(some 8), .pick (.t 5) (.t 7) (.c (.bool false)), none, none, false⟩,
      ⟨(some 9), .mv (.t 8), none, none, false⟩,
      ⟨(some 10), .mv (.t 0), (some (9, true)), none, false⟩,
      ⟨(some 11), .bin .lss .no (.t 10) (.c (.int .i32 55296)), (some (9, true)), none, false⟩,
      ⟨(some 12), .mv (.t 11), (some (9, true)), none, false⟩,
      ⟨(some 13), .mv (.t 0), (some (12, false)), none, false⟩,
      ⟨(some 14), .bin .gtr .no (.t 13) (.c (.int .i32 57343)), (some (12, false)), none, false⟩,
      ⟨(some 15), .pick (.t 12) (.c (.bool true)) (.t 14), (some (9, true)), none, false⟩,
      ⟨(some 16), .pick (.t 9) (.t 15) (.c (.bool false)), none, none, false⟩,
      ⟨(some 2), .mv (.t 16), none, none, false⟩])
   (.ret))⟩

/- cmp.Or[int] -/
def a39 : AFn := ⟨18, [.t 2],
  .seq
  (.reg [⟨(some 2), .mv (.c (.int .i64 0)), none, none, false⟩])
  (.seq
   (.reg [⟨(some 3), .mv (.c (.int .i64 0)), none, none, false⟩])
   (.seq
    (.seq
     (.reg [⟨(some 6), .mv (.t 0), none, none, false⟩,
        ⟨(some 7), .len .sl (.t 6), none, none, false⟩,
        ⟨(some 8), .mv (.c (.int .i64 0)), none, none, false⟩])
     (.block 0 (.loop (.seq
        (.reg [⟨(some 9), .bin .lss .no (.t 8) (.t 7), none, none, false⟩])
        (.seq
         (.cond (.t 9)
          (.skip)
          (.exit 0))
         (.seq
          (.block 1 (.seq
            (.reg [⟨(some 10), .iad 1 (.t 6) (.t 8), none, none, false⟩,
               ⟨(some 11), .load1 (.t 10), none, none, false⟩,
               ⟨(some 5), .mv (.t 11), none, none, false⟩])
            (.seq
             (.reg [⟨(some 12), .mv (.t 5), none, none, false⟩,
                ⟨(some 13), .mv (.t 3), none, none, false⟩,
                ⟨(some 14), .bin .neq .no (.t 12) (.t 13), none, none, false⟩])
             (.cond (.t 14)
              (.seq
               (.reg [⟨(some 15), .mv (.t 5), none, none, false⟩,
                  ⟨(some 2), .mv (.t 15), none, none, false⟩])
               (.ret))
              (.skip)))))
          (.reg [⟨(some 16), .bin .add .no (.t 8) (.c (.int .i64 1)), none, none, false⟩,
             ⟨(some 8), .mv (.t 16), none, none, false⟩])))))))
    (.seq
     (.reg [⟨(some 17), .mv (.t 3), none, none, false⟩,
        ⟨(some 2), .mv (.t 17), none, none, false⟩])
     (.ret))))⟩

/- cmp.Compare[int] -/
def a40 : AFn := ⟨20, [.t 4],
  .seq
  (.reg [⟨(some 4), .mv (.c (.int .i64 0)), none, none, false⟩])
  (.seq
   (.reg [⟨(some 7), .mv (.t 0), none, none, false⟩,
      ⟨(some 8), .call 50 false [(.t 7)], none, none, false⟩,
      ⟨(some 5), .mv (.t 8), none, none, false⟩])
   (.seq
    (.reg [⟨(some 9), .mv (.t 1), none, none, false⟩,
       ⟨(some 10), .call 50 false [(.t 9)], none, none, false⟩,
       ⟨(some 6), .mv (.t 10), none, none, false⟩])
    (.seq
     (.seq
      (.reg [⟨(some 11), .mv (.t 5), none, none, false⟩])
      (.cond (.t 11)
       (.seq
        (.seq
         (.reg [⟨(some 12), .mv (.t 6), none, none, false⟩])
         (.cond (.t 12)
          (.seq
           (.reg [⟨(some 4), .mv (.c (.int .i64 0)), none, none, false⟩])
           (.ret))
          (.skip)))
        (.seq
         (.reg [⟨(some 4), .mv (.c (.int .i64 (-1))), none, none, false⟩])
         (.ret)))
       (.skip)))
     (.seq
      (.seq
       (.reg [⟨(some 13), .mv (.t 6), none, none, false⟩])
       (.cond (.t 13)
        (.seq
         (.reg [⟨(some 4), .mv (.c (.int .i64 1)), none, none, false⟩])
         (.ret))
        (.skip)))
      (.seq
       (.seq
        (.reg [⟨(some 14), .mv (.t 0), none, none, false⟩,
           ⟨(some 15), .mv (.t 1), none, none, false⟩,
           ⟨(some 16), .bin .lss .no (.t 14) (.t 15), none, none, false⟩])
        (.cond (.t 16)
         (.seq
          (.reg [⟨(some 4), .mv (.c (.int .i64 (-1))), none, none, false⟩])
          (.ret))
         (.skip)))
       (.seq
        (.seq
         (.reg [⟨(some 17), .mv (.t 0), none, none, false⟩,
            ⟨(some 18), .mv (.t 1), none, none, false⟩,
            ⟨(some 19), .bin .gtr .no (.t 17) (.t 18), none, none, false⟩])
         (.cond (.t 19)
          (.seq
           (.reg [⟨(some 4), .mv (.c (.int .i64 1)), none, none, false⟩])
           (.ret))
          (.skip)))
        (.seq
         (.reg [⟨(some 4), .mv (.c (.int .i64 0)), none, none, false⟩])
         (.ret))))))))⟩

/- redpencil/node.Valid -/
def a41 : AFn := ⟨42, [.t 2],
  .seq
  (.reg [⟨(some 1), .box 6 (.t 0), none, none, false⟩,
     ⟨(some 2), .mv (.c (.bool false)), none, none, false⟩])
  (.seq
   (.reg [⟨(some 3), .fad 0 (.t 1), none, none, false⟩,
      ⟨(some 4), .loadn 2 (.t 3), none, none, false⟩,
      ⟨(some 5), .call 51 false [(.t 4)], none, none, false⟩,
      ⟨(some 6), .mv (.t 5), none, none, false⟩,
      ⟨(some 7), .fad 2 (.t 1), (some (6, true)), none, false⟩,
      ⟨(some 8), .loadn 2 (.t 7), (some (6, true)), none, false⟩,
      ⟨(some 9), .call 52 false [(.t 8)], (some (6, true)), none, false⟩,
      ⟨(some 10), .mv (.t 9), (some (6, true)), none, false⟩,
      ⟨(some 11), .fad 2 (.t 1), (some (10, false)), none, false⟩,
      ⟨(some 12), .loadn 2 (.t 11), (some (10, false)), none, false⟩,
      ⟨(some 13), .call 51 false [(.t 12)], (some (10, false)), none, false⟩,
      ⟨(some 14), .pick (.t 10) (.c (.bool true)) (.t 13), (some (6, true)), none, false⟩,
      ⟨(some 15), .pick (.t 6) (.t 14) (.c (.bool false)), none, none, false⟩,
      ⟨(some 16), .mv (.t 15), none, none, false⟩,
      ⟨(some 17), .fad 2 (.t 1), (some (16, true)), none, false⟩,
      ⟨(some 18), .loadn 2 (.t 17), (some (16, true)), none, false⟩,
      ⟨(some 19), .fad 0 (.t 1), (some (16, true)), none, false⟩,
      ⟨(some 20), .loadn 2 (.t 19), (some (16, true)), none, false⟩,
      ⟨(some 21), .bin .neq (.fl [.i, .i]) (.t 18) (.t 20), (some (16, true)), none, false⟩,
      ⟨(some 22), .pick (.t 16) (.t 21) (.c (.bool false)), none, none, false⟩,
      ⟨(some 23), .mv (.t 22), none, none, false⟩,
      ⟨(some 24), .fad 4 (.t 1), (some (23, true)), none, false⟩,
      ⟨(some 25), .load1 (.t 24), (some (23, true)), none, false⟩,
      ⟨(some 26), .bin .geq .no (.t 25) (.c (.int .i64 1)), (some (23, true)), none, false⟩,
      ⟨(some 27), .pick (.t 23) (.t 26) (.c (.bool false)), none, none, false⟩,
      ⟨(some 28), .mv (.t 27), none, none, false⟩,
      ⟨(some 29), .fad 4 (.t 1), (some (28, true)), none, false⟩,
      ⟨(some 30), .load1 (.t 29), (some (28, true)), none, false⟩,
      ⟨(some 31), .bin .leq .no (.t 30) (.c (.int .i64 4611686018427387904)), (some (28, true)), none, false⟩,
      ⟨(some 32), .pick (.t 28) (.t 31) (.c (.bool false)), none, none, false⟩,
      ⟨(some 33), .mv (.t 32), none, none, false⟩,
      ⟨(some 34), .loadn 6 (.t 1), (some (33, true)), none, false⟩,
      ⟨(some 35), .call 43 false [(.t 34)], (some (33, true)), none, false⟩,
      ⟨(some 36), .mv (.t 35), (some (33, true)), none, false⟩,
      ⟨(some 37), .fad 5 (.t 1), (some (36, false)), none, false⟩,
      ⟨(some 38), .load1 (.t 37), (some (36, false)), none, false⟩,
      ⟨(some 39), .call 53 false [(.t 38)], (some (36, false)), none, false⟩,
      ⟨(some 40), .pick (.t 36) (.c (.bool true)) (.t 39), (some (33, true)), none, false⟩,
      ⟨(some 41), .pick (.t 33) (.t 40) (.c (.bool false)), none, none, false⟩,
      ⟨(some 2), .mv (.t 41), none, none, false⟩])
   (.ret))⟩

/- redpencil/node.Kill -/
def a42 : AFn := ⟨5, [.celln 2 6],
  .seq
  (.reg [⟨(some 1), .box 6 (.t 0), none, none, false⟩,
     ⟨(some 2), .alloc [(.int .i64 0), (.int .i64 0), (.int .i64 0), (.int .i64 0), (.int .i64 0), (.int .i32 0)], none, none, false⟩])
  (.seq
   (.reg [⟨(some 3), .fad 5 (.t 1), none, none, false⟩,
      ⟨none, .store 1 (.t 3) (.c (.int .i32 0)), none, none, false⟩])
   (.seq
    (.reg [⟨(some 4), .loadn 6 (.t 1), none, none, false⟩,
       ⟨none, .store 6 (.t 2) (.t 4), none, none, false⟩])
    (.ret)))⟩

/- redpencil/node.Dead -/
def a43 : AFn := ⟨6, [.t 2],
  .seq
  (.reg [⟨(some 1), .box 6 (.t 0), none, none, false⟩,
     ⟨(some 2), .mv (.c (.bool false)), none, none, false⟩])
  (.seq
   (.reg [⟨(some 3), .fad 5 (.t 1), none, none, false⟩,
      ⟨(some 4), .load1 (.t 3), none, none, false⟩,
      ⟨(some 5), .bin .eql .no (.t 4) (.c (.int .i32 0)), none, none, false⟩,
      ⟨(some 2), .mv (.t 5), none, none, false⟩])
   (.ret))⟩

end Go.AM
