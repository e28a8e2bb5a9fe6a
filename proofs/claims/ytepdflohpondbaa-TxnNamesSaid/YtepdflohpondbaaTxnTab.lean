/- The functions, as the evaluator reads them. -/
import Derived.Test.YtepdflohpondbaaFwY2
set_option maxRecDepth 10000
namespace Go.Fw.Sy.Tx
open Go.Fw
def fi3 : FnInfo := { m := 47, res := [(.tmp 0)], ac :=
 (.seq (.ops [⟨(some 0), .mov (.c (.bool false)), none, []⟩])
 (.seq (.ops [⟨(some 7), .call 6 [], none, []⟩,
   ⟨(some 1), .mov (.t 7), none, []⟩])
 (.seq (.ops [⟨(some 8), .mov (.t 1), none, []⟩,
   ⟨(some 9), .build [(.int .i64 0), (.int .u8 0), (.int .u8 0), (.int .u8 0), (.int .u8 0), (.int .i64 0), (.int .u64 0), (.int .u64 0), (.int .u64 0), (.int .u64 0), (.int .u64 0), (.int .u64 0), (.int .u64 0)] [], none, []⟩,
   ⟨(some 10), .call 7 [(.t 8), (.t 9)], none, []⟩,
   ⟨(some 2), .mov (.t 10), none, []⟩])
 (.seq (.ops [⟨(some 12), .mov (.t 1), none, []⟩,
   ⟨(some 13), .build [(.int .u64 0), (.vsl 0 [] (some 0))] [(0, 1, (.c (.int .u64 1)))], none, []⟩,
   ⟨(some 14), .call 8 [(.t 12), (.t 13)], none, []⟩,
   ⟨(some 11), .mov (.t 14), none, []⟩,
   ⟨(some 15), .extract (.t 11) 0, none, []⟩,
   ⟨(some 16), .extract (.t 11) 1, none, []⟩,
   ⟨(some 17), .extract (.t 11) 2, none, []⟩,
   ⟨(some 3), .alloc [(.int .i64 0), (.int .i64 0), (.vsl 0 [] (some 0)), (.vsl 0 [] (some 0)), (.int .u64 0), (.int .u64 0)], none, []⟩,
   ⟨none, .store 6 (.t 3) (.t 15), none, []⟩,
   ⟨(some 4), .mov (.t 16), none, []⟩,
   ⟨(some 5), .mov (.t 17), none, []⟩])
 (.seq (.seq (.ops [⟨(some 6), .mov (.c (.int .i64 0)), none, []⟩])
  (.block 0 (.loop (.seq (.seq (.ops [⟨(some 18), .mov (.t 6), none, []⟩,
       ⟨(some 19), .bin .lss .none (.t 18) (.c (.int .i64 63)), none, []⟩])
     (.cond (.t 19)
      .skip
      (.exit 0)))
    (.seq (.block 1 (.ops [⟨(some 22), .mov (.t 1), none, []⟩,
       ⟨(some 23), .call 9 [(.t 22), (.c (.int .i64 9))], none, []⟩]))
    (.ops [⟨(some 20), .mov (.t 6), none, []⟩,
     ⟨(some 21), .bin .add .none (.t 20) (.c (.int .i64 1)), none, []⟩,
     ⟨(some 6), .mov (.t 21), none, []⟩]))))))
 (.seq (.ops [⟨(some 24), .call 10 [], none, []⟩,
   ⟨(some 25), .mov (.t 24), none, []⟩,
   ⟨(some 26), .pick (.t 25) (.c (.bool true)) (.c (.bool false)), none, []⟩,
   ⟨(some 27), .mov (.t 26), none, []⟩,
   ⟨(some 28), .pick (.t 27) (.c (.bool true)) (.c (.bool false)), none, []⟩,
   ⟨(some 29), .mov (.t 28), none, []⟩,
   ⟨(some 30), .mov (.t 2), (some (29, true)), []⟩,
   ⟨(some 31), .bin .eql .none (.t 30) (.c (.int .i64 0)), (some (29, true)), []⟩,
   ⟨(some 32), .pick (.t 29) (.t 31) (.c (.bool false)), none, []⟩,
   ⟨(some 33), .mov (.t 32), none, []⟩,
   ⟨(some 34), .mov (.t 5), (some (33, true)), []⟩,
   ⟨(some 35), .bin .eql .none (.t 34) (.c (.int .i64 111)), (some (33, true)), []⟩,
   ⟨(some 36), .pick (.t 33) (.t 35) (.c (.bool false)), none, []⟩,
   ⟨(some 37), .mov (.t 36), none, []⟩,
   ⟨(some 38), .mov (.t 1), (some (37, true)), []⟩,
   ⟨(some 39), .call 9 [(.t 38), (.c (.int .i64 1))], (some (37, true)), []⟩,
   ⟨(some 40), .bin .eql .none (.t 39) (.c (.int .i64 161)), (some (37, true)), []⟩,
   ⟨(some 41), .pick (.t 37) (.t 40) (.c (.bool false)), none, []⟩,
   ⟨(some 42), .mov (.t 41), none, []⟩,
   ⟨(some 43), .mov (.t 1), (some (42, true)), []⟩,
   ⟨(some 44), .call 11 [(.t 43)], (some (42, true)), []⟩,
   ⟨(some 45), .bin .eql .none (.t 44) (.c (.int .i64 64)), (some (42, true)), []⟩,
   ⟨(some 46), .pick (.t 42) (.t 45) (.c (.bool false)), none, []⟩,
   ⟨(some 0), .mov (.t 46), none, []⟩])
 .ret)))))) }
def fi4 : FnInfo := { m := 135, res := [(.tmp 4)], ac :=
 (.seq (.ops [⟨(some 2), .box (.t 0), none, []⟩,
   ⟨(some 4), .mov (.c (.bool false)), none, []⟩])
 (.seq (.seq (.ops [⟨(some 22), .call 10 [], none, []⟩,
    ⟨(some 23), .un .not (.t 22), none, []⟩])
  (.cond (.t 23)
   (.seq (.ops [⟨(some 4), .mov (.c (.bool false)), none, []⟩])
   .ret)
   .skip))
 (.seq (.seq (.ops [⟨(some 24), .mov (.t 1), none, []⟩,
    ⟨(some 25), .len .sl (.t 24), none, []⟩,
    ⟨(some 26), .bin .gtr .none (.t 25) (.c (.int .i64 64)), none, []⟩,
    ⟨(some 27), .mov (.t 26), none, []⟩,
    ⟨(some 28), .load (some 2) (.t 2), (some (27, false)), []⟩,
    ⟨(some 29), .call 12 [(.t 28)], (some (27, false)), []⟩,
    ⟨(some 30), .un .not (.t 29), (some (27, false)), []⟩,
    ⟨(some 31), .pick (.t 27) (.c (.bool true)) (.t 30), none, []⟩])
  (.cond (.t 31)
   (.seq (.ops [⟨(some 4), .mov (.c (.bool true)), none, []⟩])
   .ret)
   .skip))
 (.seq (.ops [⟨(some 32), .call 6 [], none, []⟩,
   ⟨(some 5), .mov (.t 32), none, []⟩])
 (.seq (.ops [⟨(some 33), .load (some 2) (.t 2), none, []⟩,
   ⟨(some 6), .alloc [(.int .u64 0), (.vsl 0 [] (some 0))], none, []⟩,
   ⟨none, .store 2 (.t 6) (.t 33), none, []⟩])
 (.seq (.seq (.ops [⟨(some 34), .mov (.t 1), none, []⟩,
    ⟨(some 35), .len .sl (.t 34), none, []⟩,
    ⟨(some 36), .mov (.c (.int .i64 0)), none, []⟩])
  (.block 0 (.loop (.seq (.ops [⟨(some 37), .bin .lss .none (.t 36) (.t 35), none, []⟩])
    (.seq (.cond (.t 37)
      .skip
      (.exit 0))
    (.seq (.block 1 (.seq (.ops [⟨(some 38), .indexAddr (.slice 14) (.t 34) (.t 36), none, []⟩,
        ⟨(some 39), .load (some 14) (.t 38), none, []⟩,
        ⟨(some 8), .alloc [(.bool false), (.int .i64 0), (.int .u8 0), (.int .u8 0), (.int .u8 0), (.int .u8 0), (.int .i64 0), (.int .u64 0), (.int .u64 0), (.int .u64 0), (.int .u64 0), (.int .u64 0), (.int .u64 0), (.int .u64 0)], none, []⟩,
        ⟨none, .store 14 (.t 8) (.t 39), none, []⟩])
      (.seq (.ops [⟨(some 40), .call 6 [], none, []⟩,
        ⟨(some 9), .mov (.t 40), none, []⟩])
      (.seq (.seq (.ops [⟨(some 41), .fieldAddr 0 (.t 8), none, []⟩,
         ⟨(some 42), .load none (.t 41), none, []⟩])
       (.cond (.t 42)
        (.seq (.ops [⟨(some 43), .mov (.t 5), none, []⟩,
          ⟨(some 44), .fieldAddr 1 (.t 8), none, []⟩,
          ⟨(some 45), .load (some 13) (.t 44), none, []⟩,
          ⟨(some 46), .call 7 [(.t 43), (.t 45)], none, []⟩])
        (.ops [⟨(some 47), .mov (.t 9), none, []⟩,
         ⟨(some 48), .fieldAddr 1 (.t 8), none, []⟩,
         ⟨(some 49), .load (some 13) (.t 48), none, []⟩,
         ⟨(some 50), .call 7 [(.t 47), (.t 49)], none, []⟩]))
        (.seq (.ops [⟨(some 51), .mov (.t 5), none, []⟩,
          ⟨(some 52), .fieldAddr 1 (.t 8), none, []⟩,
          ⟨(some 53), .fieldAddr 0 (.t 52), none, []⟩,
          ⟨(some 54), .load none (.t 53), none, []⟩,
          ⟨(some 55), .call 9 [(.t 51), (.t 54)], none, []⟩])
        (.ops [⟨(some 56), .mov (.t 9), none, []⟩,
         ⟨(some 57), .fieldAddr 1 (.t 8), none, []⟩,
         ⟨(some 58), .fieldAddr 0 (.t 57), none, []⟩,
         ⟨(some 59), .load none (.t 58), none, []⟩,
         ⟨(some 60), .call 9 [(.t 56), (.t 59)], none, []⟩]))))
      (.seq (.ops [⟨(some 62), .mov (.t 9), none, []⟩,
        ⟨(some 63), .load (some 2) (.t 6), none, []⟩,
        ⟨(some 64), .call 8 [(.t 62), (.t 63)], none, []⟩,
        ⟨(some 61), .mov (.t 64), none, []⟩,
        ⟨(some 65), .extract (.t 61) 0, none, []⟩,
        ⟨(some 66), .extract (.t 61) 1, none, []⟩,
        ⟨(some 67), .extract (.t 61) 2, none, []⟩,
        ⟨(some 10), .alloc [(.int .i64 0), (.int .i64 0), (.vsl 0 [] (some 0)), (.vsl 0 [] (some 0)), (.int .u64 0), (.int .u64 0)], none, []⟩,
        ⟨none, .store 6 (.t 10) (.t 65), none, []⟩,
        ⟨(some 11), .mov (.t 66), none, []⟩,
        ⟨(some 12), .mov (.t 67), none, []⟩])
      (.seq (.seq (.ops [⟨(some 68), .mov (.t 12), none, []⟩,
         ⟨(some 69), .bin .neq .none (.t 68) (.c (.int .i64 0)), none, []⟩])
       (.cond (.t 69)
        (.seq (.ops [⟨(some 4), .mov (.c (.bool true)), none, []⟩])
        .ret)
        .skip))
      (.seq (.ops [⟨(some 70), .mov (.t 11), none, []⟩])
      (.cond (.t 70)
       (.seq (.ops [⟨(some 72), .load (some 2) (.t 6), none, []⟩,
         ⟨(some 73), .load (some 6) (.t 10), none, []⟩,
         ⟨(some 74), .call 13 [(.t 72), (.t 73)], none, []⟩,
         ⟨(some 71), .mov (.t 74), none, []⟩,
         ⟨(some 75), .extract (.t 71) 0, none, []⟩,
         ⟨(some 76), .extract (.t 71) 1, none, []⟩,
         ⟨(some 13), .alloc [(.int .u64 0), (.vsl 0 [] (some 0))], none, []⟩,
         ⟨none, .store 2 (.t 13) (.t 75), none, []⟩,
         ⟨(some 14), .mov (.t 76), none, []⟩])
       (.seq (.seq (.ops [⟨(some 77), .mov (.t 14), none, []⟩,
          ⟨(some 78), .bin .neq .none (.t 77) (.c (.int .i64 0)), none, []⟩])
        (.cond (.t 78)
         (.seq (.ops [⟨(some 4), .mov (.c (.bool false)), none, []⟩])
         .ret)
         .skip))
       (.ops [⟨(some 79), .load (some 2) (.t 13), none, []⟩,
        ⟨none, .store 2 (.t 6) (.t 79), none, []⟩])))
       .skip))))))))
    (.ops [⟨(some 80), .bin .add .none (.t 36) (.c (.int .i64 1)), none, []⟩,
     ⟨(some 36), .mov (.t 80), none, []⟩])))))))
 (.seq (.ops [⟨(some 82), .mov (.t 5), none, []⟩,
   ⟨(some 83), .load (some 2) (.t 2), none, []⟩,
   ⟨(some 84), .call 8 [(.t 82), (.t 83)], none, []⟩,
   ⟨(some 81), .mov (.t 84), none, []⟩,
   ⟨(some 85), .extract (.t 81) 0, none, []⟩,
   ⟨(some 86), .extract (.t 81) 1, none, []⟩,
   ⟨(some 87), .extract (.t 81) 2, none, []⟩,
   ⟨(some 15), .alloc [(.int .i64 0), (.int .i64 0), (.vsl 0 [] (some 0)), (.vsl 0 [] (some 0)), (.int .u64 0), (.int .u64 0)], none, []⟩,
   ⟨none, .store 6 (.t 15) (.t 85), none, []⟩,
   ⟨(some 16), .mov (.t 86), none, []⟩,
   ⟨(some 17), .mov (.t 87), none, []⟩])
 (.seq (.seq (.ops [⟨(some 88), .mov (.t 17), none, []⟩,
    ⟨(some 89), .bin .neq .none (.t 88) (.c (.int .i64 0)), none, []⟩])
  (.cond (.t 89)
   (.seq (.ops [⟨(some 4), .mov (.c (.bool false)), none, []⟩])
   .ret)
   .skip))
 (.seq (.ops [⟨(some 90), .load (some 2) (.t 2), none, []⟩,
   ⟨(some 18), .alloc [(.int .u64 0), (.vsl 0 [] (some 0))], none, []⟩,
   ⟨none, .store 2 (.t 18) (.t 90), none, []⟩])
 (.seq (.seq (.ops [⟨(some 91), .mov (.t 16), none, []⟩])
  (.cond (.t 91)
   (.seq (.ops [⟨(some 93), .load (some 2) (.t 2), none, []⟩,
     ⟨(some 94), .load (some 6) (.t 15), none, []⟩,
     ⟨(some 95), .call 13 [(.t 93), (.t 94)], none, []⟩,
     ⟨(some 92), .mov (.t 95), none, []⟩,
     ⟨(some 96), .extract (.t 92) 0, none, []⟩,
     ⟨(some 97), .extract (.t 92) 1, none, []⟩,
     ⟨(some 19), .alloc [(.int .u64 0), (.vsl 0 [] (some 0))], none, []⟩,
     ⟨none, .store 2 (.t 19) (.t 96), none, []⟩,
     ⟨(some 20), .mov (.t 97), none, []⟩])
   (.seq (.seq (.ops [⟨(some 98), .mov (.t 20), none, []⟩,
      ⟨(some 99), .bin .neq .none (.t 98) (.c (.int .i64 0)), none, []⟩])
    (.cond (.t 99)
     (.seq (.ops [⟨(some 4), .mov (.c (.bool false)), none, []⟩])
     .ret)
     .skip))
   (.ops [⟨(some 100), .load (some 2) (.t 19), none, []⟩,
    ⟨none, .store 2 (.t 18) (.t 100), none, []⟩])))
   .skip))
 (.seq (.seq (.ops [⟨(some 101), .fieldAddr 1 (.t 18), none, []⟩,
    ⟨(some 102), .load none (.t 101), none, []⟩,
    ⟨(some 103), .len .sl (.t 102), none, []⟩,
    ⟨(some 104), .fieldAddr 1 (.t 6), none, []⟩,
    ⟨(some 105), .load none (.t 104), none, []⟩,
    ⟨(some 106), .len .sl (.t 105), none, []⟩,
    ⟨(some 107), .bin .neq .none (.t 103) (.t 106), none, []⟩,
    ⟨(some 108), .mov (.t 107), none, []⟩,
    ⟨(some 109), .fieldAddr 0 (.t 18), (some (108, false)), []⟩,
    ⟨(some 110), .load none (.t 109), (some (108, false)), []⟩,
    ⟨(some 111), .fieldAddr 0 (.t 6), (some (108, false)), []⟩,
    ⟨(some 112), .load none (.t 111), (some (108, false)), []⟩,
    ⟨(some 113), .bin .neq .none (.t 110) (.t 112), (some (108, false)), []⟩,
    ⟨(some 114), .pick (.t 108) (.c (.bool true)) (.t 113), none, []⟩])
  (.cond (.t 114)
   (.seq (.ops [⟨(some 4), .mov (.c (.bool false)), none, []⟩])
   .ret)
   .skip))
 (.seq (.seq (.ops [⟨(some 115), .fieldAddr 1 (.t 18), none, []⟩,
    ⟨(some 116), .load none (.t 115), none, []⟩,
    ⟨(some 117), .len .sl (.t 116), none, []⟩,
    ⟨(some 118), .mov (.c (.int .i64 0)), none, []⟩])
  (.block 2 (.loop (.seq (.ops [⟨(some 119), .bin .lss .none (.t 118) (.t 117), none, []⟩])
    (.seq (.cond (.t 119)
      .skip
      (.exit 2))
    (.seq (.block 3 (.seq (.ops [⟨(some 120), .mov (.t 118), none, []⟩,
        ⟨(some 21), .mov (.t 120), none, []⟩])
      (.seq (.drawn [⟨(some 121), .fieldAddr 1 (.t 18), none, []⟩,
        ⟨(some 122), .load none (.t 121), none, []⟩,
        ⟨(some 123), .mov (.t 21), none, [1]⟩,
        ⟨(some 124), .indexAddr (.slice 14) (.t 122) (.t 123), none, []⟩,
        ⟨(some 125), .fieldAddr 0 (.t 124), none, []⟩,
        ⟨(some 126), .load (some 13) (.t 125), none, []⟩,
        ⟨(some 127), .fieldAddr 1 (.t 6), none, [1, 5]⟩,
        ⟨(some 128), .load none (.t 127), none, [0, 1, 2, 3, 4, 5]⟩,
        ⟨(some 129), .mov (.t 21), none, [1, 5, 7]⟩,
        ⟨(some 130), .indexAddr (.slice 14) (.t 128) (.t 129), none, [1, 5]⟩,
        ⟨(some 131), .fieldAddr 0 (.t 130), none, [1, 5]⟩,
        ⟨(some 132), .load (some 13) (.t 131), none, [0, 1, 2, 3, 4, 5]⟩,
        ⟨(some 133), .bin .neq (.agg [.int, .int, .int, .int, .int, .int, .int, .int, .int, .int, .int, .int, .int]) (.t 126) (.t 132), none, []⟩])
      (.cond (.t 133)
       (.seq (.ops [⟨(some 4), .mov (.c (.bool false)), none, []⟩])
       .ret)
       .skip))))
    (.ops [⟨(some 134), .bin .add .none (.t 118) (.c (.int .i64 1)), none, []⟩,
     ⟨(some 118), .mov (.t 134), none, []⟩])))))))
 (.seq (.ops [⟨(some 4), .mov (.c (.bool true)), none, []⟩])
 .ret))))))))))))) }
def fi5 : FnInfo := { m := 157, res := [(.tmp 6)], ac :=
 (.seq (.ops [⟨(some 3), .box (.t 0), none, []⟩,
   ⟨(some 6), .mov (.c (.bool false)), none, []⟩])
 (.seq (.seq (.ops [⟨(some 19), .call 10 [], none, []⟩,
    ⟨(some 20), .un .not (.t 19), none, []⟩])
  (.cond (.t 20)
   (.seq (.ops [⟨(some 6), .mov (.c (.bool false)), none, []⟩])
   .ret)
   .skip))
 (.seq (.seq (.ops [⟨(some 21), .mov (.t 1), none, []⟩,
    ⟨(some 22), .len .sl (.t 21), none, []⟩,
    ⟨(some 23), .bin .lss .none (.t 22) (.c (.int .i64 1)), none, []⟩,
    ⟨(some 24), .mov (.t 23), none, []⟩,
    ⟨(some 25), .mov (.t 1), (some (24, false)), []⟩,
    ⟨(some 26), .len .sl (.t 25), (some (24, false)), []⟩,
    ⟨(some 27), .bin .gtr .none (.t 26) (.c (.int .i64 64)), (some (24, false)), []⟩,
    ⟨(some 28), .pick (.t 24) (.c (.bool true)) (.t 27), none, []⟩,
    ⟨(some 29), .mov (.t 28), none, []⟩,
    ⟨(some 30), .mov (.t 2), (some (29, false)), []⟩,
    ⟨(some 31), .bin .lss .none (.t 30) (.c (.int .i64 0)), (some (29, false)), []⟩,
    ⟨(some 32), .pick (.t 29) (.c (.bool true)) (.t 31), none, []⟩,
    ⟨(some 33), .mov (.t 32), none, []⟩,
    ⟨(some 34), .mov (.t 2), (some (33, false)), []⟩,
    ⟨(some 35), .mov (.t 1), (some (33, false)), []⟩,
    ⟨(some 36), .len .sl (.t 35), (some (33, false)), []⟩,
    ⟨(some 37), .bin .geq .none (.t 34) (.t 36), (some (33, false)), []⟩,
    ⟨(some 38), .pick (.t 33) (.c (.bool true)) (.t 37), none, []⟩,
    ⟨(some 39), .mov (.t 38), none, []⟩,
    ⟨(some 40), .load (some 2) (.t 3), (some (39, false)), []⟩,
    ⟨(some 41), .call 12 [(.t 40)], (some (39, false)), []⟩,
    ⟨(some 42), .un .not (.t 41), (some (39, false)), []⟩,
    ⟨(some 43), .pick (.t 39) (.c (.bool true)) (.t 42), none, []⟩])
  (.cond (.t 43)
   (.seq (.ops [⟨(some 6), .mov (.c (.bool true)), none, []⟩])
   .ret)
   .skip))
 (.seq (.ops [⟨(some 44), .call 6 [], none, []⟩,
   ⟨(some 45), .call 6 [], none, []⟩,
   ⟨(some 7), .mov (.t 44), none, []⟩,
   ⟨(some 8), .mov (.t 45), none, []⟩])
 (.seq (.seq (.ops [⟨(some 46), .mov (.t 1), none, []⟩,
    ⟨(some 47), .len .sl (.t 46), none, []⟩,
    ⟨(some 48), .mov (.c (.int .i64 0)), none, []⟩])
  (.block 0 (.loop (.seq (.ops [⟨(some 49), .bin .lss .none (.t 48) (.t 47), none, []⟩])
    (.seq (.cond (.t 49)
      .skip
      (.exit 0))
    (.seq (.block 1 (.seq (.ops [⟨(some 50), .mov (.t 48), none, []⟩,
        ⟨(some 9), .mov (.t 50), none, []⟩])
      (.seq (.ops [⟨(some 51), .mov (.t 1), none, []⟩,
        ⟨(some 52), .mov (.t 9), none, []⟩,
        ⟨(some 53), .slice (.slice 14) (.t 51) none (some (.t 52)) none, none, []⟩,
        ⟨(some 54), .len .sl (.t 53), none, []⟩,
        ⟨(some 55), .mov (.c (.int .i64 0)), none, []⟩])
      (.block 2 (.loop (.seq (.ops [⟨(some 56), .bin .lss .none (.t 55) (.t 54), none, []⟩])
        (.seq (.cond (.t 56)
          .skip
          (.exit 2))
        (.seq (.block 3 (.seq (.ops [⟨(some 57), .mov (.t 55), none, []⟩,
            ⟨(some 10), .mov (.t 57), none, []⟩])
          (.seq (.drawn [⟨(some 58), .mov (.t 1), none, []⟩,
            ⟨(some 59), .mov (.t 9), none, []⟩,
            ⟨(some 60), .indexAddr (.slice 14) (.t 58) (.t 59), none, []⟩,
            ⟨(some 61), .fieldAddr 1 (.t 60), none, []⟩,
            ⟨(some 62), .fieldAddr 0 (.t 61), none, []⟩,
            ⟨(some 63), .load none (.t 62), none, []⟩,
            ⟨(some 64), .mov (.t 1), none, [5]⟩,
            ⟨(some 65), .mov (.t 10), none, [5]⟩,
            ⟨(some 66), .indexAddr (.slice 14) (.t 64) (.t 65), none, [5]⟩,
            ⟨(some 67), .fieldAddr 1 (.t 66), none, [5]⟩,
            ⟨(some 68), .fieldAddr 0 (.t 67), none, [5]⟩,
            ⟨(some 69), .load none (.t 68), none, [0, 1, 2, 3, 4, 5]⟩,
            ⟨(some 70), .bin .eql .none (.t 63) (.t 69), none, []⟩])
          (.cond (.t 70)
           (.seq (.ops [⟨(some 6), .mov (.c (.bool true)), none, []⟩])
           .ret)
           .skip))))
        (.ops [⟨(some 71), .bin .add .none (.t 55) (.c (.int .i64 1)), none, []⟩,
         ⟨(some 55), .mov (.t 71), none, []⟩])))))))))
    (.ops [⟨(some 72), .bin .add .none (.t 48) (.c (.int .i64 1)), none, []⟩,
     ⟨(some 48), .mov (.t 72), none, []⟩])))))))
 (.seq (.seq (.ops [⟨(some 73), .mov (.t 1), none, []⟩,
    ⟨(some 74), .len .sl (.t 73), none, []⟩,
    ⟨(some 75), .mov (.c (.int .i64 0)), none, []⟩])
  (.block 4 (.loop (.seq (.ops [⟨(some 76), .bin .lss .none (.t 75) (.t 74), none, []⟩])
    (.seq (.cond (.t 76)
      .skip
      (.exit 4))
    (.seq (.block 5 (.seq (.ops [⟨(some 77), .mov (.t 75), none, []⟩,
        ⟨(some 11), .mov (.t 77), none, []⟩])
      (.seq (.ops [⟨(some 78), .mov (.t 11), none, []⟩,
        ⟨(some 79), .mov (.t 2), none, []⟩,
        ⟨(some 80), .bin .add .none (.t 78) (.t 79), none, []⟩,
        ⟨(some 12), .mov (.t 80), none, []⟩])
      (.seq (.seq (.ops [⟨(some 81), .mov (.t 12), none, []⟩,
         ⟨(some 82), .mov (.t 1), none, []⟩,
         ⟨(some 83), .len .sl (.t 82), none, []⟩,
         ⟨(some 84), .bin .geq .none (.t 81) (.t 83), none, []⟩])
       (.cond (.t 84)
        (.ops [⟨(some 85), .mov (.t 12), none, []⟩,
         ⟨(some 86), .mov (.t 1), none, []⟩,
         ⟨(some 87), .len .sl (.t 86), none, []⟩,
         ⟨(some 88), .bin .sub .none (.t 85) (.t 87), none, []⟩,
         ⟨(some 12), .mov (.t 88), none, []⟩])
        .skip))
      (.seq (.seq (.ops [⟨(some 89), .mov (.t 1), none, []⟩,
         ⟨(some 90), .mov (.t 11), none, []⟩,
         ⟨(some 91), .indexAddr (.slice 14) (.t 89) (.t 90), none, []⟩,
         ⟨(some 92), .fieldAddr 0 (.t 91), none, []⟩,
         ⟨(some 93), .load none (.t 92), none, []⟩])
       (.cond (.t 93)
        (.ops [⟨(some 94), .mov (.t 7), none, []⟩,
         ⟨(some 95), .mov (.t 1), none, []⟩,
         ⟨(some 96), .mov (.t 11), none, []⟩,
         ⟨(some 97), .indexAddr (.slice 14) (.t 95) (.t 96), none, []⟩,
         ⟨(some 98), .fieldAddr 1 (.t 97), none, []⟩,
         ⟨(some 99), .load (some 13) (.t 98), none, []⟩,
         ⟨(some 100), .call 7 [(.t 94), (.t 99)], none, []⟩])
        (.ops [⟨(some 101), .mov (.t 7), none, []⟩,
         ⟨(some 102), .mov (.t 1), none, []⟩,
         ⟨(some 103), .mov (.t 11), none, []⟩,
         ⟨(some 104), .indexAddr (.slice 14) (.t 102) (.t 103), none, []⟩,
         ⟨(some 105), .fieldAddr 1 (.t 104), none, []⟩,
         ⟨(some 106), .fieldAddr 0 (.t 105), none, []⟩,
         ⟨(some 107), .load none (.t 106), none, []⟩,
         ⟨(some 108), .call 9 [(.t 101), (.t 107)], none, []⟩])))
      (.seq (.ops [⟨(some 109), .mov (.t 1), none, []⟩,
        ⟨(some 110), .mov (.t 12), none, []⟩,
        ⟨(some 111), .indexAddr (.slice 14) (.t 109) (.t 110), none, []⟩,
        ⟨(some 112), .fieldAddr 0 (.t 111), none, []⟩,
        ⟨(some 113), .load none (.t 112), none, []⟩])
      (.cond (.t 113)
       (.ops [⟨(some 114), .mov (.t 8), none, []⟩,
        ⟨(some 115), .mov (.t 1), none, []⟩,
        ⟨(some 116), .mov (.t 12), none, []⟩,
        ⟨(some 117), .indexAddr (.slice 14) (.t 115) (.t 116), none, []⟩,
        ⟨(some 118), .fieldAddr 1 (.t 117), none, []⟩,
        ⟨(some 119), .load (some 13) (.t 118), none, []⟩,
        ⟨(some 120), .call 7 [(.t 114), (.t 119)], none, []⟩])
       (.ops [⟨(some 121), .mov (.t 8), none, []⟩,
        ⟨(some 122), .mov (.t 1), none, []⟩,
        ⟨(some 123), .mov (.t 12), none, []⟩,
        ⟨(some 124), .indexAddr (.slice 14) (.t 122) (.t 123), none, []⟩,
        ⟨(some 125), .fieldAddr 1 (.t 124), none, []⟩,
        ⟨(some 126), .fieldAddr 0 (.t 125), none, []⟩,
        ⟨(some 127), .load none (.t 126), none, []⟩,
        ⟨(some 128), .call 9 [(.t 121), (.t 127)], none, []⟩]))))))))
    (.ops [⟨(some 129), .bin .add .none (.t 75) (.c (.int .i64 1)), none, []⟩,
     ⟨(some 75), .mov (.t 129), none, []⟩])))))))
 (.seq (.ops [⟨(some 131), .mov (.t 7), none, []⟩,
   ⟨(some 132), .load (some 2) (.t 3), none, []⟩,
   ⟨(some 133), .call 8 [(.t 131), (.t 132)], none, []⟩,
   ⟨(some 130), .mov (.t 133), none, []⟩,
   ⟨(some 134), .extract (.t 130) 0, none, []⟩,
   ⟨(some 135), .extract (.t 130) 1, none, []⟩,
   ⟨(some 136), .extract (.t 130) 2, none, []⟩,
   ⟨(some 13), .alloc [(.int .i64 0), (.int .i64 0), (.vsl 0 [] (some 0)), (.vsl 0 [] (some 0)), (.int .u64 0), (.int .u64 0)], none, []⟩,
   ⟨none, .store 6 (.t 13) (.t 134), none, []⟩,
   ⟨(some 14), .mov (.t 135), none, []⟩,
   ⟨(some 15), .mov (.t 136), none, []⟩])
 (.seq (.ops [⟨(some 138), .mov (.t 8), none, []⟩,
   ⟨(some 139), .load (some 2) (.t 3), none, []⟩,
   ⟨(some 140), .call 8 [(.t 138), (.t 139)], none, []⟩,
   ⟨(some 137), .mov (.t 140), none, []⟩,
   ⟨(some 141), .extract (.t 137) 0, none, []⟩,
   ⟨(some 142), .extract (.t 137) 1, none, []⟩,
   ⟨(some 143), .extract (.t 137) 2, none, []⟩,
   ⟨(some 16), .alloc [(.int .i64 0), (.int .i64 0), (.vsl 0 [] (some 0)), (.vsl 0 [] (some 0)), (.int .u64 0), (.int .u64 0)], none, []⟩,
   ⟨none, .store 6 (.t 16) (.t 141), none, []⟩,
   ⟨(some 17), .mov (.t 142), none, []⟩,
   ⟨(some 18), .mov (.t 143), none, []⟩])
 (.seq (.ops [⟨(some 144), .load (some 6) (.t 13), none, []⟩,
   ⟨(some 145), .load (some 6) (.t 16), none, []⟩,
   ⟨(some 146), .call 14 [(.t 144), (.t 145)], none, []⟩,
   ⟨(some 147), .mov (.t 146), none, []⟩,
   ⟨(some 148), .mov (.t 14), (some (147, true)), []⟩,
   ⟨(some 149), .mov (.t 17), (some (147, true)), []⟩,
   ⟨(some 150), .bin .eql .bool (.t 148) (.t 149), (some (147, true)), []⟩,
   ⟨(some 151), .pick (.t 147) (.t 150) (.c (.bool false)), none, []⟩,
   ⟨(some 152), .mov (.t 151), none, []⟩,
   ⟨(some 153), .mov (.t 15), (some (152, true)), []⟩,
   ⟨(some 154), .mov (.t 18), (some (152, true)), []⟩,
   ⟨(some 155), .bin .eql .none (.t 153) (.t 154), (some (152, true)), []⟩,
   ⟨(some 156), .pick (.t 152) (.t 155) (.c (.bool false)), none, []⟩,
   ⟨(some 6), .mov (.t 156), none, []⟩])
 .ret))))))))) }
def fi6 : FnInfo := { m := 3, res := [(.tmp 0)], ac :=
 (.seq (.ops [⟨(some 0), .mov (.c .nilptr), none, []⟩])
 (.seq (.ops [⟨(some 1), .build [(.vsl 0 [] (some 0))] [], none, []⟩,
   ⟨(some 2), .box (.t 1), none, []⟩,
   ⟨(some 0), .mov (.t 2), none, []⟩])
 .ret)) }
def fi7 : FnInfo := { m := 9, res := [(.tmp 4)], ac :=
 (.seq (.ops [⟨(some 3), .box (.t 1), none, []⟩,
   ⟨(some 4), .mov (.c (.int .i64 0)), none, []⟩])
 (.seq (.ops [⟨(some 5), .mov (.t 0), none, []⟩,
   ⟨(some 6), .load (some 13) (.t 3), none, []⟩,
   ⟨(some 7), .build [(.int .i64 0), (.int .u8 0), (.int .u8 0), (.int .u8 0), (.int .u8 0), (.int .i64 0), (.int .u64 0), (.int .u64 0), (.int .u64 0), (.int .u64 0), (.int .u64 0), (.int .u64 0), (.int .u64 0), (.bool false)] [(0, 13, (.t 6)), (13, 1, (.c (.bool true)))], none, []⟩,
   ⟨(some 8), .call 15 [(.t 5), (.t 7)], none, []⟩,
   ⟨(some 4), .mov (.t 8), none, []⟩])
 .ret)) }
def fi8 : FnInfo := { m := 100, res := [(.cell 4 (some 6)), (.tmp 5), (.tmp 6)], ac :=
 (.seq (.ops [⟨(some 3), .box (.t 1), none, []⟩,
   ⟨(some 4), .alloc [(.int .i64 0), (.int .i64 0), (.vsl 0 [] (some 0)), (.vsl 0 [] (some 0)), (.int .u64 0), (.int .u64 0)], none, []⟩,
   ⟨(some 5), .mov (.c (.bool false)), none, []⟩,
   ⟨(some 6), .mov (.c (.int .i64 0)), none, []⟩])
 (.seq (.ops [⟨(some 18), .mkMap, none, []⟩,
   ⟨(some 7), .mov (.t 18), none, []⟩])
 (.seq (.seq (.ops [⟨(some 19), .mov (.t 0), none, []⟩,
    ⟨(some 20), .nilCheck (.t 19), none, []⟩,
    ⟨(some 21), .fieldAddr 0 (.t 20), none, []⟩,
    ⟨(some 22), .load none (.t 21), none, []⟩,
    ⟨(some 23), .len .sl (.t 22), none, []⟩,
    ⟨(some 24), .mov (.c (.int .i64 0)), none, []⟩])
  (.block 0 (.loop (.seq (.ops [⟨(some 25), .bin .lss .none (.t 24) (.t 23), none, []⟩])
    (.seq (.cond (.t 25)
      .skip
      (.exit 0))
    (.seq (.block 1 (.seq (.ops [⟨(some 26), .indexAddr (.slice 14) (.t 22) (.t 24), none, []⟩,
        ⟨(some 27), .load (some 14) (.t 26), none, []⟩,
        ⟨(some 9), .alloc [(.int .i64 0), (.int .u8 0), (.int .u8 0), (.int .u8 0), (.int .u8 0), (.int .i64 0), (.int .u64 0), (.int .u64 0), (.int .u64 0), (.int .u64 0), (.int .u64 0), (.int .u64 0), (.int .u64 0), (.bool false)], none, []⟩,
        ⟨none, .store 14 (.t 9) (.t 27), none, []⟩])
      (.ops [⟨(some 28), .mov (.t 7), none, []⟩,
       ⟨(some 29), .fieldAddr 0 (.t 9), none, []⟩,
       ⟨(some 30), .fieldAddr 0 (.t 29), none, []⟩,
       ⟨(some 31), .load none (.t 30), none, []⟩,
       ⟨(some 32), .load (some 14) (.t 9), none, []⟩,
       ⟨none, .mapUpdate (.leaf .int) (.t 28) (.t 31) (.t 32), none, []⟩])))
    (.ops [⟨(some 33), .bin .add .none (.t 24) (.c (.int .i64 1)), none, []⟩,
     ⟨(some 24), .mov (.t 33), none, []⟩])))))))
 (.seq (.ops [⟨(some 34), .build [(.int .i64 0), (.int .i64 0), (.vsl 0 [] (some 0)), (.vsl 0 [] (some 0)), (.int .u64 0), (.int .u64 0)] [(0, 1, (.c (.int .i64 1)))], none, []⟩,
   ⟨(some 10), .alloc [(.int .i64 0), (.int .i64 0), (.vsl 0 [] (some 0)), (.vsl 0 [] (some 0)), (.int .u64 0), (.int .u64 0)], none, []⟩,
   ⟨none, .store 6 (.t 10) (.t 34), none, []⟩])
 (.seq (.seq (.ops [⟨(some 35), .mov (.t 7), none, []⟩,
    ⟨(some 36), .call 17 [(.t 35)], none, []⟩,
    ⟨(some 37), .call 16 [(.t 36)], none, []⟩,
    ⟨(some 38), .len .sl (.t 37), none, []⟩,
    ⟨(some 39), .mov (.c (.int .i64 0)), none, []⟩])
  (.block 2 (.loop (.seq (.ops [⟨(some 40), .bin .lss .none (.t 39) (.t 38), none, []⟩])
    (.seq (.cond (.t 40)
      .skip
      (.exit 2))
    (.seq (.block 3 (.seq (.ops [⟨(some 41), .indexAddr (.slice 1) (.t 37) (.t 39), none, []⟩,
        ⟨(some 42), .load none (.t 41), none, []⟩,
        ⟨(some 12), .mov (.t 42), none, []⟩])
      (.seq (.ops [⟨(some 43), .mov (.t 7), none, []⟩,
        ⟨(some 44), .mov (.t 12), none, []⟩,
        ⟨(some 45), .lookup (.leaf .int) (.agg [(.int .i64 0), (.int .u8 0), (.int .u8 0), (.int .u8 0), (.int .u8 0), (.int .i64 0), (.int .u64 0), (.int .u64 0), (.int .u64 0), (.int .u64 0), (.int .u64 0), (.int .u64 0), (.int .u64 0), (.bool false)]) (.t 43) (.t 44) false, none, []⟩,
        ⟨(some 13), .alloc [(.int .i64 0), (.int .u8 0), (.int .u8 0), (.int .u8 0), (.int .u8 0), (.int .i64 0), (.int .u64 0), (.int .u64 0), (.int .u64 0), (.int .u64 0), (.int .u64 0), (.int .u64 0), (.int .u64 0), (.bool false)], none, []⟩,
        ⟨none, .store 14 (.t 13) (.t 45), none, []⟩])
      (.seq (.ops [⟨(some 47), .load (some 2) (.t 3), none, []⟩,
        ⟨(some 48), .mov (.t 12), none, []⟩,
        ⟨(some 49), .call 18 [(.t 47), (.t 48)], none, []⟩,
        ⟨(some 46), .mov (.t 49), none, []⟩,
        ⟨(some 50), .extract (.t 46) 0, none, []⟩,
        ⟨(some 51), .extract (.t 46) 1, none, []⟩,
        ⟨(some 14), .alloc [(.int .i64 0), (.int .u8 0), (.int .u8 0), (.int .u8 0), (.int .u8 0), (.int .i64 0), (.int .u64 0), (.int .u64 0), (.int .u64 0), (.int .u64 0), (.int .u64 0), (.int .u64 0), (.int .u64 0), (.int .u64 0)], none, []⟩,
        ⟨none, .store 14 (.t 14) (.t 50), none, []⟩,
        ⟨(some 15), .mov (.t 51), none, []⟩])
      (.block 4 (.seq (.ops [⟨(some 53), .fieldAddr 13 (.t 13), none, []⟩,
         ⟨(some 54), .load none (.t 53), none, []⟩,
         ⟨(some 55), .mov (.t 54), none, []⟩,
         ⟨(some 56), .fieldAddr 0 (.t 13), (some (55, true)), []⟩,
         ⟨(some 57), .load (some 13) (.t 56), (some (55, true)), []⟩,
         ⟨(some 58), .call 19 [(.t 57)], (some (55, true)), []⟩,
         ⟨(some 59), .un .not (.t 58), (some (55, true)), []⟩,
         ⟨(some 60), .pick (.t 55) (.t 59) (.c (.bool false)), none, []⟩,
         ⟨(some 52), .mov (.t 60), none, []⟩])
       (.cond (.t 52)
        (.seq (.ops [⟨(some 61), .build [(.int .i64 0), (.int .i64 0), (.vsl 0 [] (some 0)), (.vsl 0 [] (some 0)), (.int .u64 0), (.int .u64 0)] [], none, []⟩,
          ⟨none, .store 6 (.t 4) (.t 61), none, []⟩,
          ⟨(some 5), .mov (.c (.bool false)), none, []⟩,
          ⟨(some 6), .mov (.c (.int .i64 111)), none, []⟩])
        .ret)
        (.seq (.ops [⟨(some 63), .fieldAddr 13 (.t 13), none, []⟩,
          ⟨(some 64), .load none (.t 63), none, []⟩,
          ⟨(some 62), .mov (.t 64), none, []⟩])
        (.cond (.t 62)
         (.ops [⟨(some 65), .fieldAddr 2 (.t 10), none, []⟩,
          ⟨(some 66), .load none (.t 65), none, []⟩,
          ⟨(some 67), .fieldAddr 0 (.t 13), none, []⟩,
          ⟨(some 68), .load (some 13) (.t 67), none, []⟩,
          ⟨(some 69), .buildSlice 13 1 [(.int .i64 0), (.int .u8 0), (.int .u8 0), (.int .u8 0), (.int .u8 0), (.int .i64 0), (.int .u64 0), (.int .u64 0), (.int .u64 0), (.int .u64 0), (.int .u64 0), (.int .u64 0), (.int .u64 0)] [(0, 13, (.t 68))], none, []⟩,
          ⟨(some 70), .append 13 80 (.t 66) (.t 69), none, []⟩,
          ⟨(some 71), .fieldAddr 2 (.t 10), none, []⟩,
          ⟨none, .store 1 (.t 71) (.t 70), none, []⟩])
         (.seq (.ops [⟨(some 73), .mov (.t 15), none, []⟩,
           ⟨(some 72), .mov (.t 73), none, []⟩])
         (.cond (.t 72)
          (.ops [⟨(some 74), .fieldAddr 3 (.t 10), none, []⟩,
           ⟨(some 75), .load none (.t 74), none, []⟩,
           ⟨(some 76), .mov (.t 12), none, []⟩,
           ⟨(some 77), .buildSlice 1 1 [(.int .i64 0)] [(0, 1, (.t 76))], none, []⟩,
           ⟨(some 78), .append 1 8 (.t 75) (.t 77), none, []⟩,
           ⟨(some 79), .fieldAddr 3 (.t 10), none, []⟩,
           ⟨none, .store 1 (.t 79) (.t 78), none, []⟩])
          .skip)))))))))))
    (.ops [⟨(some 80), .bin .add .none (.t 39) (.c (.int .i64 1)), none, []⟩,
     ⟨(some 39), .mov (.t 80), none, []⟩])))))))
 (.seq (.seq (.ops [⟨(some 81), .fieldAddr 2 (.t 10), none, []⟩,
    ⟨(some 82), .load none (.t 81), none, []⟩,
    ⟨(some 83), .len .sl (.t 82), none, []⟩,
    ⟨(some 84), .fieldAddr 3 (.t 10), none, []⟩,
    ⟨(some 85), .load none (.t 84), none, []⟩,
    ⟨(some 86), .len .sl (.t 85), none, []⟩,
    ⟨(some 87), .bin .add .none (.t 83) (.t 86), none, []⟩,
    ⟨(some 88), .bin .eql .none (.t 87) (.c (.int .i64 0)), none, []⟩])
  (.cond (.t 88)
   (.seq (.ops [⟨(some 89), .build [(.int .i64 0), (.int .i64 0), (.vsl 0 [] (some 0)), (.vsl 0 [] (some 0)), (.int .u64 0), (.int .u64 0)] [], none, []⟩,
     ⟨none, .store 6 (.t 4) (.t 89), none, []⟩,
     ⟨(some 5), .mov (.c (.bool false)), none, []⟩,
     ⟨(some 6), .mov (.c (.int .i64 0)), none, []⟩])
   .ret)
   .skip))
 (.seq (.seq (.ops [⟨(some 91), .load (some 2) (.t 3), none, []⟩,
    ⟨(some 92), .load (some 6) (.t 10), none, []⟩,
    ⟨(some 93), .call 13 [(.t 91), (.t 92)], none, []⟩,
    ⟨(some 90), .mov (.t 93), none, []⟩,
    ⟨(some 94), .extract (.t 90) 0, none, []⟩,
    ⟨(some 95), .extract (.t 90) 1, none, []⟩,
    ⟨(some 16), .alloc [(.int .u64 0), (.vsl 0 [] (some 0))], none, []⟩,
    ⟨none, .store 2 (.t 16) (.t 94), none, []⟩,
    ⟨(some 17), .mov (.t 95), none, []⟩])
  (.seq (.ops [⟨(some 96), .mov (.t 17), none, []⟩,
    ⟨(some 97), .bin .neq .none (.t 96) (.c (.int .i64 0)), none, []⟩])
  (.cond (.t 97)
   (.seq (.ops [⟨(some 98), .build [(.int .i64 0), (.int .i64 0), (.vsl 0 [] (some 0)), (.vsl 0 [] (some 0)), (.int .u64 0), (.int .u64 0)] [], none, []⟩,
     ⟨none, .store 6 (.t 4) (.t 98), none, []⟩,
     ⟨(some 5), .mov (.c (.bool false)), none, []⟩,
     ⟨(some 6), .mov (.c (.int .i64 111)), none, []⟩])
   .ret)
   .skip)))
 (.seq (.ops [⟨(some 99), .load (some 6) (.t 10), none, []⟩,
   ⟨none, .store 6 (.t 4) (.t 99), none, []⟩,
   ⟨(some 5), .mov (.c (.bool true)), none, []⟩,
   ⟨(some 6), .mov (.c (.int .i64 0)), none, []⟩])
 .ret)))))))) }
def fi9 : FnInfo := { m := 10, res := [(.tmp 4)], ac :=
 (.seq (.ops [⟨(some 4), .mov (.c (.int .i64 0)), none, []⟩])
 (.seq (.ops [⟨(some 5), .mov (.t 0), none, []⟩,
   ⟨(some 6), .mov (.t 1), none, []⟩,
   ⟨(some 7), .build [(.int .i64 0), (.int .u8 0), (.int .u8 0), (.int .u8 0), (.int .u8 0), (.int .i64 0), (.int .u64 0), (.int .u64 0), (.int .u64 0), (.int .u64 0), (.int .u64 0), (.int .u64 0), (.int .u64 0)] [(0, 1, (.t 6))], none, []⟩,
   ⟨(some 8), .build [(.int .i64 0), (.int .u8 0), (.int .u8 0), (.int .u8 0), (.int .u8 0), (.int .i64 0), (.int .u64 0), (.int .u64 0), (.int .u64 0), (.int .u64 0), (.int .u64 0), (.int .u64 0), (.int .u64 0), (.bool false)] [(0, 13, (.t 7)), (13, 1, (.c (.bool false)))], none, []⟩,
   ⟨(some 9), .call 15 [(.t 5), (.t 8)], none, []⟩,
   ⟨(some 4), .mov (.t 9), none, []⟩])
 .ret)) }
def fi10 : FnInfo := { m := 82, res := [(.tmp 0)], ac :=
 (.seq (.ops [⟨(some 0), .mov (.c (.bool false)), none, []⟩])
 (.seq (.ops [⟨(some 9), .call 6 [], none, []⟩,
   ⟨(some 1), .mov (.t 9), none, []⟩])
 (.seq (.seq (.ops [⟨(some 10), .mov (.t 1), none, []⟩,
    ⟨(some 11), .bin .eql .ptr (.t 10) (.c .nilptr), none, []⟩,
    ⟨(some 12), .mov (.t 11), none, []⟩,
    ⟨(some 13), .mov (.t 1), (some (12, false)), []⟩,
    ⟨(some 14), .call 20 [(.c (.int .i64 3))], (some (12, false)), []⟩,
    ⟨(some 15), .call 7 [(.t 13), (.t 14)], (some (12, false)), []⟩,
    ⟨(some 16), .bin .neq .none (.t 15) (.c (.int .i64 0)), (some (12, false)), []⟩,
    ⟨(some 17), .pick (.t 12) (.c (.bool true)) (.t 16), none, []⟩,
    ⟨(some 18), .mov (.t 17), none, []⟩,
    ⟨(some 19), .mov (.t 1), (some (18, false)), []⟩,
    ⟨(some 20), .call 9 [(.t 19), (.c (.int .i64 3))], (some (18, false)), []⟩,
    ⟨(some 21), .bin .neq .none (.t 20) (.c (.int .i64 0)), (some (18, false)), []⟩,
    ⟨(some 22), .pick (.t 18) (.c (.bool true)) (.t 21), none, []⟩])
  (.cond (.t 22)
   (.seq (.ops [⟨(some 0), .mov (.c (.bool false)), none, []⟩])
   .ret)
   .skip))
 (.seq (.ops [⟨(some 24), .mov (.t 1), none, []⟩,
   ⟨(some 25), .build [(.int .u64 0), (.vsl 0 [] (some 0))] [(0, 1, (.c (.int .u64 1)))], none, []⟩,
   ⟨(some 26), .call 8 [(.t 24), (.t 25)], none, []⟩,
   ⟨(some 23), .mov (.t 26), none, []⟩,
   ⟨(some 27), .extract (.t 23) 0, none, []⟩,
   ⟨(some 28), .extract (.t 23) 1, none, []⟩,
   ⟨(some 29), .extract (.t 23) 2, none, []⟩,
   ⟨(some 2), .alloc [(.int .i64 0), (.int .i64 0), (.vsl 0 [] (some 0)), (.vsl 0 [] (some 0)), (.int .u64 0), (.int .u64 0)], none, []⟩,
   ⟨none, .store 6 (.t 2) (.t 27), none, []⟩,
   ⟨(some 3), .mov (.t 28), none, []⟩,
   ⟨(some 4), .mov (.t 29), none, []⟩])
 (.seq (.ops [⟨(some 30), .mov (.t 1), none, []⟩,
   ⟨(some 31), .call 20 [(.c (.int .i64 4))], none, []⟩,
   ⟨(some 32), .call 7 [(.t 30), (.t 31)], none, []⟩,
   ⟨(some 5), .mov (.t 32), none, []⟩])
 (.seq (.ops [⟨(some 34), .mov (.t 1), none, []⟩,
   ⟨(some 35), .build [(.int .u64 0), (.vsl 0 [] (some 0))] [(0, 1, (.c (.int .u64 1)))], none, []⟩,
   ⟨(some 36), .call 8 [(.t 34), (.t 35)], none, []⟩,
   ⟨(some 33), .mov (.t 36), none, []⟩,
   ⟨(some 37), .extract (.t 33) 0, none, []⟩,
   ⟨(some 38), .extract (.t 33) 1, none, []⟩,
   ⟨(some 39), .extract (.t 33) 2, none, []⟩,
   ⟨(some 6), .alloc [(.int .i64 0), (.int .i64 0), (.vsl 0 [] (some 0)), (.vsl 0 [] (some 0)), (.int .u64 0), (.int .u64 0)], none, []⟩,
   ⟨none, .store 6 (.t 6) (.t 37), none, []⟩,
   ⟨(some 7), .mov (.t 38), none, []⟩,
   ⟨(some 8), .mov (.t 39), none, []⟩])
 (.seq (.drawn [⟨(some 40), .mov (.t 3), none, []⟩,
   ⟨(some 41), .un .not (.t 40), none, []⟩,
   ⟨(some 42), .mov (.t 41), none, []⟩,
   ⟨(some 43), .mov (.t 4), (some (42, true)), []⟩,
   ⟨(some 44), .bin .eql .none (.t 43) (.c (.int .i64 0)), (some (42, true)), []⟩,
   ⟨(some 45), .pick (.t 42) (.t 44) (.c (.bool false)), none, []⟩,
   ⟨(some 46), .mov (.t 45), none, []⟩,
   ⟨(some 47), .mov (.t 5), (some (46, true)), []⟩,
   ⟨(some 48), .bin .eql .none (.t 47) (.c (.int .i64 0)), (some (46, true)), []⟩,
   ⟨(some 49), .pick (.t 46) (.t 48) (.c (.bool false)), none, []⟩,
   ⟨(some 50), .mov (.t 49), none, []⟩,
   ⟨(some 51), .mov (.t 7), (some (50, true)), []⟩,
   ⟨(some 52), .pick (.t 50) (.t 51) (.c (.bool false)), none, []⟩,
   ⟨(some 53), .mov (.t 52), none, []⟩,
   ⟨(some 54), .mov (.t 8), (some (53, true)), []⟩,
   ⟨(some 55), .bin .eql .none (.t 54) (.c (.int .i64 0)), (some (53, true)), []⟩,
   ⟨(some 56), .pick (.t 53) (.t 55) (.c (.bool false)), none, []⟩,
   ⟨(some 57), .mov (.t 56), none, []⟩,
   ⟨(some 58), .fieldAddr 2 (.t 6), (some (57, true)), []⟩,
   ⟨(some 59), .load none (.t 58), (some (57, true)), []⟩,
   ⟨(some 60), .len .sl (.t 59), (some (57, true)), []⟩,
   ⟨(some 61), .bin .eql .none (.t 60) (.c (.int .i64 1)), (some (57, true)), []⟩,
   ⟨(some 62), .pick (.t 57) (.t 61) (.c (.bool false)), none, []⟩,
   ⟨(some 63), .mov (.t 62), none, []⟩,
   ⟨(some 64), .fieldAddr 2 (.t 6), (some (63, true)), []⟩,
   ⟨(some 65), .load none (.t 64), (some (63, true)), []⟩,
   ⟨(some 66), .indexAddr (.slice 13) (.t 65) (.c (.int .i64 0)), (some (63, true)), []⟩,
   ⟨(some 67), .load (some 13) (.t 66), (some (63, true)), []⟩,
   ⟨(some 68), .call 20 [(.c (.int .i64 4))], (some (63, true)), [24, 25, 26, 27]⟩,
   ⟨(some 69), .bin .eql (.agg [.int, .int, .int, .int, .int, .int, .int, .int, .int, .int, .int, .int, .int]) (.t 67) (.t 68), (some (63, true)), []⟩,
   ⟨(some 70), .pick (.t 63) (.t 69) (.c (.bool false)), none, []⟩,
   ⟨(some 71), .mov (.t 70), none, []⟩,
   ⟨(some 72), .fieldAddr 3 (.t 6), (some (71, true)), []⟩,
   ⟨(some 73), .load none (.t 72), (some (71, true)), []⟩,
   ⟨(some 74), .len .sl (.t 73), (some (71, true)), []⟩,
   ⟨(some 75), .bin .eql .none (.t 74) (.c (.int .i64 0)), (some (71, true)), []⟩,
   ⟨(some 76), .pick (.t 71) (.t 75) (.c (.bool false)), none, []⟩,
   ⟨(some 77), .mov (.t 76), none, []⟩,
   ⟨(some 78), .mov (.t 1), (some (77, true)), []⟩,
   ⟨(some 79), .call 11 [(.t 78)], (some (77, true)), []⟩,
   ⟨(some 80), .bin .eql .none (.t 79) (.c (.int .i64 3)), (some (77, true)), []⟩,
   ⟨(some 81), .pick (.t 77) (.t 80) (.c (.bool false)), none, []⟩,
   ⟨(some 0), .mov (.t 81), none, []⟩])
 .ret))))))) }
def fi11 : FnInfo := { m := 8, res := [(.tmp 2)], ac :=
 (.seq (.ops [⟨(some 2), .mov (.c (.int .i64 0)), none, []⟩])
 (.seq (.ops [⟨(some 3), .mov (.t 0), none, []⟩,
   ⟨(some 4), .nilCheck (.t 3), none, []⟩,
   ⟨(some 5), .fieldAddr 0 (.t 4), none, []⟩,
   ⟨(some 6), .load none (.t 5), none, []⟩,
   ⟨(some 7), .len .sl (.t 6), none, []⟩,
   ⟨(some 2), .mov (.t 7), none, []⟩])
 .ret)) }
def fi12 : FnInfo := { m := 40, res := [(.tmp 2)], ac :=
 (.seq (.ops [⟨(some 1), .box (.t 0), none, []⟩,
   ⟨(some 2), .mov (.c (.bool false)), none, []⟩])
 (.seq (.seq (.ops [⟨(some 6), .fieldAddr 0 (.t 1), none, []⟩,
    ⟨(some 7), .load none (.t 6), none, []⟩,
    ⟨(some 8), .bin .lss .none (.t 7) (.c (.int .u64 1)), none, []⟩,
    ⟨(some 9), .mov (.t 8), none, []⟩,
    ⟨(some 10), .fieldAddr 0 (.t 1), (some (9, false)), []⟩,
    ⟨(some 11), .load none (.t 10), (some (9, false)), []⟩,
    ⟨(some 12), .bin .gtr .none (.t 11) (.c (.int .u64 281474976710656)), (some (9, false)), []⟩,
    ⟨(some 13), .pick (.t 9) (.c (.bool true)) (.t 12), none, []⟩,
    ⟨(some 14), .mov (.t 13), none, []⟩,
    ⟨(some 15), .fieldAddr 1 (.t 1), (some (14, false)), []⟩,
    ⟨(some 16), .load none (.t 15), (some (14, false)), []⟩,
    ⟨(some 17), .len .sl (.t 16), (some (14, false)), []⟩,
    ⟨(some 18), .bin .gtr .none (.t 17) (.c (.int .i64 8)), (some (14, false)), []⟩,
    ⟨(some 19), .pick (.t 14) (.c (.bool true)) (.t 18), none, []⟩])
  (.cond (.t 19)
   (.seq (.ops [⟨(some 2), .mov (.c (.bool false)), none, []⟩])
   .ret)
   .skip))
 (.seq (.ops [⟨(some 20), .buildSlice 13 0 [] [], none, []⟩,
   ⟨(some 3), .mov (.t 20), none, []⟩])
 (.seq (.seq (.ops [⟨(some 21), .fieldAddr 1 (.t 1), none, []⟩,
    ⟨(some 22), .load none (.t 21), none, []⟩,
    ⟨(some 23), .len .sl (.t 22), none, []⟩,
    ⟨(some 24), .mov (.c (.int .i64 0)), none, []⟩])
  (.block 0 (.loop (.seq (.ops [⟨(some 25), .bin .lss .none (.t 24) (.t 23), none, []⟩])
    (.seq (.cond (.t 25)
      .skip
      (.exit 0))
    (.seq (.block 1 (.seq (.ops [⟨(some 26), .indexAddr (.slice 14) (.t 22) (.t 24), none, []⟩,
        ⟨(some 27), .load (some 14) (.t 26), none, []⟩,
        ⟨(some 5), .alloc [(.int .i64 0), (.int .u8 0), (.int .u8 0), (.int .u8 0), (.int .u8 0), (.int .i64 0), (.int .u64 0), (.int .u64 0), (.int .u64 0), (.int .u64 0), (.int .u64 0), (.int .u64 0), (.int .u64 0), (.int .u64 0)], none, []⟩,
        ⟨none, .store 14 (.t 5) (.t 27), none, []⟩])
      (.seq (.seq (.ops [⟨(some 28), .fieldAddr 13 (.t 5), none, []⟩,
         ⟨(some 29), .load none (.t 28), none, []⟩,
         ⟨(some 30), .bin .gtr .none (.t 29) (.c (.int .u64 281474976710656)), none, []⟩])
       (.cond (.t 30)
        (.seq (.ops [⟨(some 2), .mov (.c (.bool false)), none, []⟩])
        .ret)
        .skip))
      (.ops [⟨(some 31), .mov (.t 3), none, []⟩,
       ⟨(some 32), .fieldAddr 0 (.t 5), none, []⟩,
       ⟨(some 33), .load (some 13) (.t 32), none, []⟩,
       ⟨(some 34), .buildSlice 13 1 [(.int .i64 0), (.int .u8 0), (.int .u8 0), (.int .u8 0), (.int .u8 0), (.int .i64 0), (.int .u64 0), (.int .u64 0), (.int .u64 0), (.int .u64 0), (.int .u64 0), (.int .u64 0), (.int .u64 0)] [(0, 13, (.t 33))], none, []⟩,
       ⟨(some 35), .append 13 80 (.t 31) (.t 34), none, []⟩,
       ⟨(some 3), .mov (.t 35), none, []⟩]))))
    (.ops [⟨(some 36), .bin .add .none (.t 24) (.c (.int .i64 1)), none, []⟩,
     ⟨(some 24), .mov (.t 36), none, []⟩])))))))
 (.seq (.ops [⟨(some 37), .mov (.t 3), none, []⟩,
   ⟨(some 38), .call 21 [(.t 37)], none, []⟩,
   ⟨(some 39), .bin .eql .none (.t 38) (.c (.int .i64 0)), none, []⟩,
   ⟨(some 2), .mov (.t 39), none, []⟩])
 .ret))))) }
def fi13 : FnInfo := { m := 85, res := [(.cell 4 (some 2)), (.tmp 5)], ac :=
 (.seq (.ops [⟨(some 2), .box (.t 0), none, []⟩,
   ⟨(some 3), .box (.t 1), none, []⟩,
   ⟨(some 4), .alloc [(.int .u64 0), (.vsl 0 [] (some 0))], none, []⟩,
   ⟨(some 5), .mov (.c (.int .i64 0)), none, []⟩])
 (.seq (.drawn [⟨(some 10), .fieldAddr 0 (.t 2), none, []⟩,
   ⟨(some 11), .load none (.t 10), none, []⟩,
   ⟨(some 12), .fieldAddr 1 (.t 2), none, [1]⟩,
   ⟨(some 13), .load none (.t 12), none, [0, 1]⟩,
   ⟨(some 14), .call 22 [(.t 13)], none, [0, 1]⟩,
   ⟨(some 15), .build [(.int .u64 0), (.vsl 0 [] (some 0))] [(0, 1, (.t 11)), (1, 1, (.t 14))], none, []⟩,
   ⟨(some 6), .alloc [(.int .u64 0), (.vsl 0 [] (some 0))], none, [0, 1, 2, 3, 4, 5]⟩,
   ⟨none, .store 2 (.t 6) (.t 15), none, []⟩])
 (.seq (.seq (.ops [⟨(some 16), .load (some 2) (.t 2), none, []⟩,
    ⟨(some 17), .call 23 [(.t 16)], none, []⟩,
    ⟨(some 18), .un .not (.t 17), none, []⟩,
    ⟨(some 19), .mov (.t 18), none, []⟩,
    ⟨(some 20), .load (some 6) (.t 3), (some (19, false)), []⟩,
    ⟨(some 21), .call 24 [(.t 20)], (some (19, false)), []⟩,
    ⟨(some 22), .un .not (.t 21), (some (19, false)), []⟩,
    ⟨(some 23), .pick (.t 19) (.c (.bool true)) (.t 22), none, []⟩])
  (.cond (.t 23)
   (.seq (.ops [⟨(some 24), .load (some 2) (.t 6), none, []⟩,
     ⟨none, .store 2 (.t 4) (.t 24), none, []⟩,
     ⟨(some 5), .mov (.c (.int .i64 131)), none, []⟩])
   .ret)
   .skip))
 (.seq (.drawn [⟨(some 25), .fieldAddr 0 (.t 2), none, []⟩,
   ⟨(some 26), .load none (.t 25), none, []⟩,
   ⟨(some 27), .fieldAddr 1 (.t 2), none, [1]⟩,
   ⟨(some 28), .load none (.t 27), none, [0, 1]⟩,
   ⟨(some 29), .call 22 [(.t 28)], none, [0, 1]⟩,
   ⟨(some 30), .build [(.int .u64 0), (.vsl 0 [] (some 0))] [(0, 1, (.t 26)), (1, 1, (.t 29))], none, []⟩,
   ⟨(some 7), .alloc [(.int .u64 0), (.vsl 0 [] (some 0))], none, [0, 1, 2, 3, 4, 5]⟩,
   ⟨none, .store 2 (.t 7) (.t 30), none, []⟩])
 (.seq (.ops [⟨(some 8), .mov (.c (.bool false)), none, []⟩])
 (.seq (.seq (.ops [⟨(some 31), .fieldAddr 0 (.t 3), none, []⟩,
    ⟨(some 32), .load none (.t 31), none, []⟩])
  (.block 0 (.seq (.ops [⟨(some 34), .bin .eql .none (.t 32) (.c (.int .i64 1)), none, []⟩,
     ⟨(some 33), .mov (.t 34), none, []⟩])
   (.cond (.t 33)
    (.ops [⟨(some 36), .fieldAddr 1 (.t 7), none, []⟩,
     ⟨(some 37), .load none (.t 36), none, []⟩,
     ⟨(some 38), .load (some 6) (.t 3), none, []⟩,
     ⟨(some 39), .call 25 [(.t 37), (.t 38)], none, []⟩,
     ⟨(some 35), .mov (.t 39), none, []⟩,
     ⟨(some 40), .extract (.t 35) 0, none, []⟩,
     ⟨(some 41), .extract (.t 35) 1, none, []⟩,
     ⟨(some 42), .fieldAddr 1 (.t 7), none, []⟩,
     ⟨none, .store 1 (.t 42) (.t 40), none, []⟩,
     ⟨(some 8), .mov (.t 41), none, []⟩])
    (.seq (.ops [⟨(some 44), .bin .eql .none (.t 32) (.c (.int .i64 2)), none, []⟩,
      ⟨(some 43), .mov (.t 44), none, []⟩])
    (.cond (.t 43)
     (.ops [⟨(some 46), .fieldAddr 1 (.t 7), none, []⟩,
      ⟨(some 47), .load none (.t 46), none, []⟩,
      ⟨(some 48), .load (some 6) (.t 3), none, []⟩,
      ⟨(some 49), .call 26 [(.t 47), (.t 48)], none, []⟩,
      ⟨(some 45), .mov (.t 49), none, []⟩,
      ⟨(some 50), .extract (.t 45) 0, none, []⟩,
      ⟨(some 51), .extract (.t 45) 1, none, []⟩,
      ⟨(some 52), .fieldAddr 1 (.t 7), none, []⟩,
      ⟨none, .store 1 (.t 52) (.t 50), none, []⟩,
      ⟨(some 8), .mov (.t 51), none, []⟩])
     (.seq (.ops [⟨(some 54), .bin .eql .none (.t 32) (.c (.int .i64 3)), none, []⟩,
       ⟨(some 53), .mov (.t 54), none, []⟩])
     (.cond (.t 53)
      (.seq (.ops [⟨(some 55), .fieldAddr 5 (.t 3), none, []⟩,
        ⟨(some 56), .load none (.t 55), none, []⟩,
        ⟨(some 57), .fieldAddr 0 (.t 2), none, []⟩,
        ⟨(some 58), .load none (.t 57), none, []⟩,
        ⟨(some 59), .bin .add .none (.t 58) (.c (.int .u64 1)), none, []⟩,
        ⟨(some 60), .bin .eql .none (.t 56) (.t 59), none, []⟩,
        ⟨(some 8), .mov (.t 60), none, []⟩])
      (.seq (.ops [⟨(some 61), .fieldAddr 5 (.t 3), none, []⟩,
        ⟨(some 62), .load none (.t 61), none, []⟩,
        ⟨(some 63), .fieldAddr 0 (.t 7), none, []⟩,
        ⟨none, .store 1 (.t 63) (.t 62), none, []⟩])
      (.seq (.ops [⟨(some 64), .fieldAddr 1 (.t 7), none, []⟩,
        ⟨(some 65), .load none (.t 64), none, []⟩,
        ⟨(some 66), .len .sl (.t 65), none, []⟩,
        ⟨(some 67), .mov (.c (.int .i64 0)), none, []⟩])
      (.block 1 (.loop (.seq (.ops [⟨(some 68), .bin .lss .none (.t 67) (.t 66), none, []⟩])
        (.seq (.cond (.t 68)
          .skip
          (.exit 1))
        (.seq (.block 2 (.seq (.ops [⟨(some 69), .mov (.t 67), none, []⟩,
            ⟨(some 9), .mov (.t 69), none, []⟩])
          (.ops [⟨(some 70), .fieldAddr 1 (.t 7), none, []⟩,
           ⟨(some 71), .load none (.t 70), none, []⟩,
           ⟨(some 72), .mov (.t 9), none, []⟩,
           ⟨(some 73), .indexAddr (.slice 14) (.t 71) (.t 72), none, []⟩,
           ⟨(some 74), .fieldAddr 13 (.t 73), none, []⟩,
           ⟨none, .store 1 (.t 74) (.c (.int .u64 0)), none, []⟩])))
        (.ops [⟨(some 75), .bin .add .none (.t 67) (.c (.int .i64 1)), none, []⟩,
         ⟨(some 67), .mov (.t 75), none, []⟩])))))))))
      .skip))))))))
 (.seq (.seq (.ops [⟨(some 76), .mov (.t 8), none, []⟩,
    ⟨(some 77), .un .not (.t 76), none, []⟩,
    ⟨(some 78), .mov (.t 77), none, []⟩,
    ⟨(some 79), .load (some 2) (.t 7), (some (78, false)), []⟩,
    ⟨(some 80), .call 23 [(.t 79)], (some (78, false)), []⟩,
    ⟨(some 81), .un .not (.t 80), (some (78, false)), []⟩,
    ⟨(some 82), .pick (.t 78) (.c (.bool true)) (.t 81), none, []⟩])
  (.cond (.t 82)
   (.seq (.ops [⟨(some 83), .load (some 2) (.t 6), none, []⟩,
     ⟨none, .store 2 (.t 4) (.t 83), none, []⟩,
     ⟨(some 5), .mov (.c (.int .i64 131)), none, []⟩])
   .ret)
   .skip))
 (.seq (.ops [⟨(some 84), .load (some 2) (.t 7), none, []⟩,
   ⟨none, .store 2 (.t 4) (.t 84), none, []⟩,
   ⟨(some 5), .mov (.c (.int .i64 0)), none, []⟩])
 .ret)))))))) }
def fi14 : FnInfo := { m := 87, res := [(.tmp 4)], ac :=
 (.seq (.ops [⟨(some 2), .box (.t 0), none, []⟩,
   ⟨(some 3), .box (.t 1), none, []⟩,
   ⟨(some 4), .mov (.c (.bool false)), none, []⟩])
 (.seq (.seq (.ops [⟨(some 7), .fieldAddr 0 (.t 2), none, []⟩,
    ⟨(some 8), .load none (.t 7), none, []⟩,
    ⟨(some 9), .fieldAddr 0 (.t 3), none, []⟩,
    ⟨(some 10), .load none (.t 9), none, []⟩,
    ⟨(some 11), .bin .neq .none (.t 8) (.t 10), none, []⟩,
    ⟨(some 12), .mov (.t 11), none, []⟩,
    ⟨(some 13), .fieldAddr 1 (.t 2), (some (12, false)), []⟩,
    ⟨(some 14), .load none (.t 13), (some (12, false)), []⟩,
    ⟨(some 15), .fieldAddr 1 (.t 3), (some (12, false)), []⟩,
    ⟨(some 16), .load none (.t 15), (some (12, false)), []⟩,
    ⟨(some 17), .bin .neq .none (.t 14) (.t 16), (some (12, false)), []⟩,
    ⟨(some 18), .pick (.t 12) (.c (.bool true)) (.t 17), none, []⟩,
    ⟨(some 19), .mov (.t 18), none, []⟩,
    ⟨(some 20), .fieldAddr 4 (.t 2), (some (19, false)), []⟩,
    ⟨(some 21), .load none (.t 20), (some (19, false)), []⟩,
    ⟨(some 22), .fieldAddr 4 (.t 3), (some (19, false)), []⟩,
    ⟨(some 23), .load none (.t 22), (some (19, false)), []⟩,
    ⟨(some 24), .bin .neq .none (.t 21) (.t 23), (some (19, false)), []⟩,
    ⟨(some 25), .pick (.t 19) (.c (.bool true)) (.t 24), none, []⟩,
    ⟨(some 26), .mov (.t 25), none, []⟩,
    ⟨(some 27), .fieldAddr 5 (.t 2), (some (26, false)), []⟩,
    ⟨(some 28), .load none (.t 27), (some (26, false)), []⟩,
    ⟨(some 29), .fieldAddr 5 (.t 3), (some (26, false)), []⟩,
    ⟨(some 30), .load none (.t 29), (some (26, false)), []⟩,
    ⟨(some 31), .bin .neq .none (.t 28) (.t 30), (some (26, false)), []⟩,
    ⟨(some 32), .pick (.t 26) (.c (.bool true)) (.t 31), none, []⟩,
    ⟨(some 33), .mov (.t 32), none, []⟩,
    ⟨(some 34), .fieldAddr 2 (.t 2), (some (33, false)), []⟩,
    ⟨(some 35), .load none (.t 34), (some (33, false)), []⟩,
    ⟨(some 36), .len .sl (.t 35), (some (33, false)), []⟩,
    ⟨(some 37), .fieldAddr 2 (.t 3), (some (33, false)), []⟩,
    ⟨(some 38), .load none (.t 37), (some (33, false)), []⟩,
    ⟨(some 39), .len .sl (.t 38), (some (33, false)), []⟩,
    ⟨(some 40), .bin .neq .none (.t 36) (.t 39), (some (33, false)), []⟩,
    ⟨(some 41), .pick (.t 33) (.c (.bool true)) (.t 40), none, []⟩,
    ⟨(some 42), .mov (.t 41), none, []⟩,
    ⟨(some 43), .fieldAddr 3 (.t 2), (some (42, false)), []⟩,
    ⟨(some 44), .load none (.t 43), (some (42, false)), []⟩,
    ⟨(some 45), .len .sl (.t 44), (some (42, false)), []⟩,
    ⟨(some 46), .fieldAddr 3 (.t 3), (some (42, false)), []⟩,
    ⟨(some 47), .load none (.t 46), (some (42, false)), []⟩,
    ⟨(some 48), .len .sl (.t 47), (some (42, false)), []⟩,
    ⟨(some 49), .bin .neq .none (.t 45) (.t 48), (some (42, false)), []⟩,
    ⟨(some 50), .pick (.t 42) (.c (.bool true)) (.t 49), none, []⟩])
  (.cond (.t 50)
   (.seq (.ops [⟨(some 4), .mov (.c (.bool false)), none, []⟩])
   .ret)
   .skip))
 (.seq (.seq (.ops [⟨(some 51), .fieldAddr 2 (.t 2), none, []⟩,
    ⟨(some 52), .load none (.t 51), none, []⟩,
    ⟨(some 53), .len .sl (.t 52), none, []⟩,
    ⟨(some 54), .mov (.c (.int .i64 0)), none, []⟩])
  (.block 0 (.loop (.seq (.ops [⟨(some 55), .bin .lss .none (.t 54) (.t 53), none, []⟩])
    (.seq (.cond (.t 55)
      .skip
      (.exit 0))
    (.seq (.block 1 (.seq (.ops [⟨(some 56), .mov (.t 54), none, []⟩,
        ⟨(some 5), .mov (.t 56), none, []⟩])
      (.seq (.drawn [⟨(some 57), .fieldAddr 2 (.t 2), none, []⟩,
        ⟨(some 58), .load none (.t 57), none, []⟩,
        ⟨(some 59), .mov (.t 5), none, [1]⟩,
        ⟨(some 60), .indexAddr (.slice 13) (.t 58) (.t 59), none, []⟩,
        ⟨(some 61), .load (some 13) (.t 60), none, []⟩,
        ⟨(some 62), .fieldAddr 2 (.t 3), none, [1, 4]⟩,
        ⟨(some 63), .load none (.t 62), none, [0, 1, 2, 3, 4]⟩,
        ⟨(some 64), .mov (.t 5), none, [1, 4, 6]⟩,
        ⟨(some 65), .indexAddr (.slice 13) (.t 63) (.t 64), none, [1, 4]⟩,
        ⟨(some 66), .load (some 13) (.t 65), none, [0, 1, 2, 3, 4]⟩,
        ⟨(some 67), .bin .neq (.agg [.int, .int, .int, .int, .int, .int, .int, .int, .int, .int, .int, .int, .int]) (.t 61) (.t 66), none, []⟩])
      (.cond (.t 67)
       (.seq (.ops [⟨(some 4), .mov (.c (.bool false)), none, []⟩])
       .ret)
       .skip))))
    (.ops [⟨(some 68), .bin .add .none (.t 54) (.c (.int .i64 1)), none, []⟩,
     ⟨(some 54), .mov (.t 68), none, []⟩])))))))
 (.seq (.seq (.ops [⟨(some 69), .fieldAddr 3 (.t 2), none, []⟩,
    ⟨(some 70), .load none (.t 69), none, []⟩,
    ⟨(some 71), .len .sl (.t 70), none, []⟩,
    ⟨(some 72), .mov (.c (.int .i64 0)), none, []⟩])
  (.block 2 (.loop (.seq (.ops [⟨(some 73), .bin .lss .none (.t 72) (.t 71), none, []⟩])
    (.seq (.cond (.t 73)
      .skip
      (.exit 2))
    (.seq (.block 3 (.seq (.ops [⟨(some 74), .mov (.t 72), none, []⟩,
        ⟨(some 6), .mov (.t 74), none, []⟩])
      (.seq (.drawn [⟨(some 75), .fieldAddr 3 (.t 2), none, []⟩,
        ⟨(some 76), .load none (.t 75), none, []⟩,
        ⟨(some 77), .mov (.t 6), none, [1]⟩,
        ⟨(some 78), .indexAddr (.slice 1) (.t 76) (.t 77), none, []⟩,
        ⟨(some 79), .load none (.t 78), none, []⟩,
        ⟨(some 80), .fieldAddr 3 (.t 3), none, [1, 4]⟩,
        ⟨(some 81), .load none (.t 80), none, [0, 1, 2, 3, 4]⟩,
        ⟨(some 82), .mov (.t 6), none, [1, 4, 6]⟩,
        ⟨(some 83), .indexAddr (.slice 1) (.t 81) (.t 82), none, [1, 4]⟩,
        ⟨(some 84), .load none (.t 83), none, [0, 1, 2, 3, 4]⟩,
        ⟨(some 85), .bin .neq .none (.t 79) (.t 84), none, []⟩])
      (.cond (.t 85)
       (.seq (.ops [⟨(some 4), .mov (.c (.bool false)), none, []⟩])
       .ret)
       .skip))))
    (.ops [⟨(some 86), .bin .add .none (.t 72) (.c (.int .i64 1)), none, []⟩,
     ⟨(some 72), .mov (.t 86), none, []⟩])))))))
 (.seq (.ops [⟨(some 4), .mov (.c (.bool true)), none, []⟩])
 .ret))))) }
def fi15 : FnInfo := { m := 21, res := [(.tmp 4)], ac :=
 (.seq (.ops [⟨(some 3), .box (.t 1), none, []⟩,
   ⟨(some 4), .mov (.c (.int .i64 0)), none, []⟩])
 (.seq (.seq (.ops [⟨(some 5), .mov (.t 0), none, []⟩,
    ⟨(some 6), .nilCheck (.t 5), none, []⟩,
    ⟨(some 7), .fieldAddr 0 (.t 6), none, []⟩,
    ⟨(some 8), .load none (.t 7), none, []⟩,
    ⟨(some 9), .len .sl (.t 8), none, []⟩,
    ⟨(some 10), .bin .geq .none (.t 9) (.c (.int .i64 64)), none, []⟩])
  (.cond (.t 10)
   (.seq (.ops [⟨(some 4), .mov (.c (.int .i64 161)), none, []⟩])
   .ret)
   .skip))
 (.seq (.drawn [⟨(some 11), .mov (.t 0), none, []⟩,
   ⟨(some 12), .mov (.t 0), none, []⟩,
   ⟨(some 13), .nilCheck (.t 12), none, []⟩,
   ⟨(some 14), .fieldAddr 0 (.t 13), none, []⟩,
   ⟨(some 15), .load none (.t 14), none, [0]⟩,
   ⟨(some 16), .load (some 14) (.t 3), none, [0, 1, 2, 3, 4]⟩,
   ⟨(some 17), .buildSlice 14 1 [(.int .i64 0), (.int .u8 0), (.int .u8 0), (.int .u8 0), (.int .u8 0), (.int .i64 0), (.int .u64 0), (.int .u64 0), (.int .u64 0), (.int .u64 0), (.int .u64 0), (.int .u64 0), (.int .u64 0), (.bool false)] [(0, 14, (.t 16))], none, [0, 1, 2, 3, 4]⟩,
   ⟨(some 18), .append 14 88 (.t 15) (.t 17), none, [0]⟩,
   ⟨(some 19), .nilCheck (.t 11), none, []⟩,
   ⟨(some 20), .fieldAddr 0 (.t 19), none, []⟩,
   ⟨none, .store 1 (.t 20) (.t 18), none, []⟩])
 (.seq (.ops [⟨(some 4), .mov (.c (.int .i64 0)), none, []⟩])
 .ret)))) }
def fi17 : FnInfo := { m := 4, res := [(.tmp 2)], ac :=
 (.seq (.ops [⟨(some 1), .box (.t 0), none, []⟩,
   ⟨(some 2), .mov (.c .nilfunc), none, []⟩])
 (.seq (.ops [⟨(some 3), .mkFunc (.func 29) [] [(.t 1)], none, []⟩,
   ⟨(some 2), .mov (.t 3), none, []⟩])
 .ret)) }
def fi18 : FnInfo := { m := 19, res := [(.cell 4 (some 14)), (.tmp 5)], ac :=
 (.seq (.ops [⟨(some 2), .box (.t 0), none, []⟩,
   ⟨(some 4), .alloc [(.int .i64 0), (.int .u8 0), (.int .u8 0), (.int .u8 0), (.int .u8 0), (.int .i64 0), (.int .u64 0), (.int .u64 0), (.int .u64 0), (.int .u64 0), (.int .u64 0), (.int .u64 0), (.int .u64 0), (.int .u64 0)], none, []⟩,
   ⟨(some 5), .mov (.c (.bool false)), none, []⟩])
 (.seq (.ops [⟨(some 7), .fieldAddr 1 (.t 2), none, []⟩,
   ⟨(some 8), .load none (.t 7), none, []⟩,
   ⟨(some 9), .mov (.t 1), none, []⟩,
   ⟨(some 10), .call 30 [(.t 8), (.t 9)], none, []⟩,
   ⟨(some 6), .mov (.t 10), none, []⟩])
 (.seq (.seq (.ops [⟨(some 11), .mov (.t 6), none, []⟩,
    ⟨(some 12), .bin .lss .none (.t 11) (.c (.int .i64 0)), none, []⟩])
  (.cond (.t 12)
   (.seq (.ops [⟨(some 13), .build [(.int .i64 0), (.int .u8 0), (.int .u8 0), (.int .u8 0), (.int .u8 0), (.int .i64 0), (.int .u64 0), (.int .u64 0), (.int .u64 0), (.int .u64 0), (.int .u64 0), (.int .u64 0), (.int .u64 0), (.int .u64 0)] [], none, []⟩,
     ⟨none, .store 14 (.t 4) (.t 13), none, []⟩,
     ⟨(some 5), .mov (.c (.bool false)), none, []⟩])
   .ret)
   .skip))
 (.seq (.ops [⟨(some 14), .fieldAddr 1 (.t 2), none, []⟩,
   ⟨(some 15), .load none (.t 14), none, []⟩,
   ⟨(some 16), .mov (.t 6), none, []⟩,
   ⟨(some 17), .indexAddr (.slice 14) (.t 15) (.t 16), none, []⟩,
   ⟨(some 18), .load (some 14) (.t 17), none, []⟩,
   ⟨none, .store 14 (.t 4) (.t 18), none, []⟩,
   ⟨(some 5), .mov (.c (.bool true)), none, []⟩])
 .ret)))) }
def fi19 : FnInfo := { m := 46, res := [(.tmp 2)], ac :=
 (.seq (.ops [⟨(some 1), .box (.t 0), none, []⟩,
   ⟨(some 2), .mov (.c (.bool false)), none, []⟩])
 (.seq (.ops [⟨(some 3), .mov (.c (.func (.func 31) [] [])), none, []⟩])
 (.seq (.ops [⟨(some 4), .mov (.c (.func (.func 32) [] [])), none, []⟩])
 (.seq (.ops [⟨(some 6), .fieldAddr 11 (.t 1), none, []⟩,
   ⟨(some 7), .load none (.t 6), none, []⟩,
   ⟨(some 8), .fieldAddr 12 (.t 1), none, []⟩,
   ⟨(some 9), .load none (.t 8), none, []⟩,
   ⟨(some 10), .buildSlice 1 2 [(.int .u64 0), (.int .u64 0)] [(0, 1, (.t 7)), (1, 1, (.t 9))], none, []⟩,
   ⟨(some 5), .mov (.t 10), none, []⟩])
 (.seq (.block 0 (.seq (.ops [⟨(some 12), .fieldAddr 0 (.t 1), none, []⟩,
     ⟨(some 13), .load none (.t 12), none, []⟩,
     ⟨(some 14), .bin .lss .none (.t 13) (.c (.int .i64 1)), none, []⟩,
     ⟨(some 15), .mov (.t 14), none, []⟩,
     ⟨(some 16), .fieldAddr 0 (.t 1), (some (15, false)), []⟩,
     ⟨(some 17), .load none (.t 16), (some (15, false)), []⟩,
     ⟨(some 18), .bin .gtr .none (.t 17) (.c (.int .i64 255)), (some (15, false)), []⟩,
     ⟨(some 19), .pick (.t 15) (.c (.bool true)) (.t 18), none, []⟩,
     ⟨(some 20), .mov (.t 19), none, []⟩,
     ⟨(some 21), .fieldAddr 1 (.t 1), (some (20, false)), []⟩,
     ⟨(some 22), .load (some 5) (.t 21), (some (20, false)), []⟩,
     ⟨(some 23), .call 33 [(.t 22)], (some (20, false)), []⟩,
     ⟨(some 24), .un .not (.t 23), (some (20, false)), []⟩,
     ⟨(some 25), .pick (.t 20) (.c (.bool true)) (.t 24), none, []⟩,
     ⟨(some 11), .mov (.t 25), none, []⟩])
   (.cond (.t 11)
    (.seq (.ops [⟨(some 2), .mov (.c (.bool false)), none, []⟩])
    .ret)
    (.seq (.ops [⟨(some 27), .mov (.t 5), none, []⟩,
      ⟨(some 28), .fieldAddr 6 (.t 1), none, []⟩,
      ⟨(some 29), .load none (.t 28), none, []⟩,
      ⟨(some 30), .fieldAddr 7 (.t 1), none, []⟩,
      ⟨(some 31), .load none (.t 30), none, []⟩,
      ⟨(some 32), .fieldAddr 8 (.t 1), none, []⟩,
      ⟨(some 33), .load none (.t 32), none, []⟩,
      ⟨(some 34), .fieldAddr 9 (.t 1), none, []⟩,
      ⟨(some 35), .load none (.t 34), none, []⟩,
      ⟨(some 36), .fieldAddr 10 (.t 1), none, []⟩,
      ⟨(some 37), .load none (.t 36), none, []⟩,
      ⟨(some 38), .buildSlice 1 5 [(.int .u64 0), (.int .u64 0), (.int .u64 0), (.int .u64 0), (.int .u64 0)] [(0, 1, (.t 29)), (1, 1, (.t 31)), (2, 1, (.t 33)), (3, 1, (.t 35)), (4, 1, (.t 37))], none, []⟩,
      ⟨(some 39), .append 1 8 (.t 27) (.t 38), none, []⟩,
      ⟨(some 40), .mov (.t 3), none, []⟩,
      ⟨(some 41), .call 34 [(.t 39), (.t 40)], none, []⟩,
      ⟨(some 26), .mov (.t 41), none, []⟩])
    (.cond (.t 26)
     (.seq (.ops [⟨(some 2), .mov (.c (.bool false)), none, []⟩])
     .ret)
     .skip)))))
 (.seq (.ops [⟨(some 42), .mov (.t 5), none, []⟩,
   ⟨(some 43), .mov (.t 4), none, []⟩,
   ⟨(some 44), .call 34 [(.t 42), (.t 43)], none, []⟩,
   ⟨(some 45), .un .not (.t 44), none, []⟩,
   ⟨(some 2), .mov (.t 45), none, []⟩])
 .ret)))))) }
def fi20 : FnInfo := { m := 9, res := [(.cell 2 (some 13))], ac :=
 (.seq (.ops [⟨(some 2), .alloc [(.int .i64 0), (.int .u8 0), (.int .u8 0), (.int .u8 0), (.int .u8 0), (.int .i64 0), (.int .u64 0), (.int .u64 0), (.int .u64 0), (.int .u64 0), (.int .u64 0), (.int .u64 0), (.int .u64 0)], none, []⟩])
 (.seq (.ops [⟨(some 3), .mov (.t 0), none, []⟩,
   ⟨(some 4), .mov (.t 0), none, []⟩,
   ⟨(some 5), .conv (.int .u8) (.t 4), none, []⟩,
   ⟨(some 6), .build [(.int .u8 0), (.int .u8 0), (.int .u8 0), (.int .u8 0)] [(0, 1, (.c (.int .u8 10))), (1, 1, (.t 5))], none, []⟩,
   ⟨(some 7), .build [(.int .u8 0), (.int .u8 0), (.int .u8 0), (.int .u8 0), (.int .i64 0)] [(0, 4, (.t 6)), (4, 1, (.c (.int .i64 16)))], none, []⟩,
   ⟨(some 8), .build [(.int .i64 0), (.int .u8 0), (.int .u8 0), (.int .u8 0), (.int .u8 0), (.int .i64 0), (.int .u64 0), (.int .u64 0), (.int .u64 0), (.int .u64 0), (.int .u64 0), (.int .u64 0), (.int .u64 0)] [(0, 1, (.t 3)), (1, 5, (.t 7)), (10, 1, (.c (.int .u64 9000))), (11, 1, (.c (.int .u64 1500))), (12, 1, (.c (.int .u64 1500)))], none, []⟩,
   ⟨none, .store 13 (.t 2) (.t 8), none, []⟩])
 .ret)) }
def fi21 : FnInfo := { m := 52, res := [(.tmp 2)], ac :=
 (.seq (.ops [⟨(some 2), .mov (.c (.int .i64 0)), none, []⟩])
 (.seq (.seq (.ops [⟨(some 5), .mov (.t 0), none, []⟩,
    ⟨(some 6), .len .sl (.t 5), none, []⟩,
    ⟨(some 7), .bin .gtr .none (.t 6) (.c (.int .i64 8)), none, []⟩])
  (.cond (.t 7)
   (.seq (.ops [⟨(some 2), .mov (.c (.int .i64 111)), none, []⟩])
   .ret)
   .skip))
 (.seq (.seq (.ops [⟨(some 8), .mov (.t 0), none, []⟩,
    ⟨(some 9), .len .sl (.t 8), none, []⟩,
    ⟨(some 10), .mov (.c (.int .i64 0)), none, []⟩])
  (.block 0 (.loop (.seq (.ops [⟨(some 11), .bin .lss .none (.t 10) (.t 9), none, []⟩])
    (.seq (.cond (.t 11)
      .skip
      (.exit 0))
    (.seq (.block 1 (.seq (.ops [⟨(some 12), .mov (.t 10), none, []⟩,
        ⟨(some 3), .mov (.t 12), none, []⟩])
      (.seq (.seq (.ops [⟨(some 13), .mov (.t 0), none, []⟩,
         ⟨(some 14), .mov (.t 3), none, []⟩,
         ⟨(some 15), .indexAddr (.slice 13) (.t 13) (.t 14), none, []⟩,
         ⟨(some 16), .load (some 13) (.t 15), none, []⟩,
         ⟨(some 17), .call 35 [(.t 16)], none, []⟩,
         ⟨(some 18), .un .not (.t 17), none, []⟩])
       (.cond (.t 18)
        (.seq (.ops [⟨(some 2), .mov (.c (.int .i64 111)), none, []⟩])
        .ret)
        .skip))
      (.seq (.ops [⟨(some 19), .mov (.t 0), none, []⟩,
        ⟨(some 20), .mov (.t 3), none, []⟩,
        ⟨(some 21), .slice (.slice 13) (.t 19) none (some (.t 20)) none, none, []⟩,
        ⟨(some 22), .len .sl (.t 21), none, []⟩,
        ⟨(some 23), .mov (.c (.int .i64 0)), none, []⟩])
      (.block 2 (.loop (.seq (.ops [⟨(some 24), .bin .lss .none (.t 23) (.t 22), none, []⟩])
        (.seq (.cond (.t 24)
          .skip
          (.exit 2))
        (.seq (.block 3 (.seq (.ops [⟨(some 25), .mov (.t 23), none, []⟩,
            ⟨(some 4), .mov (.t 25), none, []⟩])
          (.seq (.drawn [⟨(some 26), .mov (.t 0), none, []⟩,
            ⟨(some 27), .mov (.t 4), none, []⟩,
            ⟨(some 28), .indexAddr (.slice 13) (.t 26) (.t 27), none, []⟩,
            ⟨(some 29), .fieldAddr 0 (.t 28), none, []⟩,
            ⟨(some 30), .load none (.t 29), none, []⟩,
            ⟨(some 31), .mov (.t 0), none, [4]⟩,
            ⟨(some 32), .mov (.t 3), none, [4]⟩,
            ⟨(some 33), .indexAddr (.slice 13) (.t 31) (.t 32), none, [4]⟩,
            ⟨(some 34), .fieldAddr 0 (.t 33), none, [4]⟩,
            ⟨(some 35), .load none (.t 34), none, [0, 1, 2, 3, 4]⟩,
            ⟨(some 36), .bin .geq .none (.t 30) (.t 35), none, []⟩,
            ⟨(some 37), .mov (.t 36), none, []⟩,
            ⟨(some 38), .mov (.t 0), (some (37, false)), []⟩,
            ⟨(some 39), .mov (.t 4), (some (37, false)), []⟩,
            ⟨(some 40), .indexAddr (.slice 13) (.t 38) (.t 39), (some (37, false)), []⟩,
            ⟨(some 41), .fieldAddr 1 (.t 40), (some (37, false)), []⟩,
            ⟨(some 42), .load (some 5) (.t 41), (some (37, false)), []⟩,
            ⟨(some 43), .mov (.t 0), (some (37, false)), [16]⟩,
            ⟨(some 44), .mov (.t 3), (some (37, false)), [16]⟩,
            ⟨(some 45), .indexAddr (.slice 13) (.t 43) (.t 44), (some (37, false)), [16]⟩,
            ⟨(some 46), .fieldAddr 1 (.t 45), (some (37, false)), [16]⟩,
            ⟨(some 47), .load (some 5) (.t 46), (some (37, false)), [12, 13, 14, 15, 16]⟩,
            ⟨(some 48), .bin .eql (.agg [.int, .int, .int, .int, .int]) (.t 42) (.t 47), (some (37, false)), []⟩,
            ⟨(some 49), .pick (.t 37) (.c (.bool true)) (.t 48), none, []⟩])
          (.cond (.t 49)
           (.seq (.ops [⟨(some 2), .mov (.c (.int .i64 111)), none, []⟩])
           .ret)
           .skip))))
        (.ops [⟨(some 50), .bin .add .none (.t 23) (.c (.int .i64 1)), none, []⟩,
         ⟨(some 23), .mov (.t 50), none, []⟩]))))))))))
    (.ops [⟨(some 51), .bin .add .none (.t 10) (.c (.int .i64 1)), none, []⟩,
     ⟨(some 10), .mov (.t 51), none, []⟩])))))))
 (.seq (.ops [⟨(some 2), .mov (.c (.int .i64 0)), none, []⟩])
 .ret)))) }
def fi22 : FnInfo := { m := 8, res := [(.tmp 2)], ac :=
 (.seq (.ops [⟨(some 2), .mov (.c (.vsl 0 [] (some 0))), none, []⟩])
 (.seq (.seq (.ops [⟨(some 3), .mov (.t 0), none, []⟩,
    ⟨(some 4), .bin .eql .sl (.t 3) (.c (.vsl 0 [] (some 0))), none, []⟩])
  (.cond (.t 4)
   (.seq (.ops [⟨(some 2), .mov (.c (.vsl 0 [] (some 0))), none, []⟩])
   .ret)
   .skip))
 (.seq (.ops [⟨(some 5), .buildSlice 14 0 [] [], none, []⟩,
   ⟨(some 6), .mov (.t 0), none, []⟩,
   ⟨(some 7), .append 14 88 (.t 5) (.t 6), none, []⟩,
   ⟨(some 2), .mov (.t 7), none, []⟩])
 .ret))) }
def fi23 : FnInfo := { m := 28, res := [(.tmp 2)], ac :=
 (.seq (.ops [⟨(some 1), .box (.t 0), none, []⟩,
   ⟨(some 2), .mov (.c (.bool false)), none, []⟩])
 (.seq (.seq (.ops [⟨(some 3), .fieldAddr 0 (.t 1), none, []⟩,
    ⟨(some 4), .load none (.t 3), none, []⟩,
    ⟨(some 5), .bin .lss .none (.t 4) (.c (.int .u64 1)), none, []⟩,
    ⟨(some 6), .mov (.t 5), none, []⟩,
    ⟨(some 7), .fieldAddr 0 (.t 1), (some (6, false)), []⟩,
    ⟨(some 8), .load none (.t 7), (some (6, false)), []⟩,
    ⟨(some 9), .bin .gtr .none (.t 8) (.c (.int .u64 281474976710656)), (some (6, false)), []⟩,
    ⟨(some 10), .pick (.t 6) (.c (.bool true)) (.t 9), none, []⟩,
    ⟨(some 11), .mov (.t 10), none, []⟩,
    ⟨(some 12), .fieldAddr 1 (.t 1), (some (11, false)), []⟩,
    ⟨(some 13), .load none (.t 12), (some (11, false)), []⟩,
    ⟨(some 14), .len .sl (.t 13), (some (11, false)), []⟩,
    ⟨(some 15), .bin .gtr .none (.t 14) (.c (.int .i64 8)), (some (11, false)), []⟩,
    ⟨(some 16), .pick (.t 11) (.c (.bool true)) (.t 15), none, []⟩,
    ⟨(some 17), .mov (.t 16), none, []⟩,
    ⟨(some 18), .fieldAddr 1 (.t 1), (some (17, false)), []⟩,
    ⟨(some 19), .load none (.t 18), (some (17, false)), []⟩,
    ⟨(some 20), .call 37 [(.t 19)], (some (17, false)), []⟩,
    ⟨(some 21), .call 36 [(.t 20)], (some (17, false)), []⟩,
    ⟨(some 22), .bin .neq .none (.t 21) (.c (.int .i64 0)), (some (17, false)), []⟩,
    ⟨(some 23), .pick (.t 17) (.c (.bool true)) (.t 22), none, []⟩])
  (.cond (.t 23)
   (.seq (.ops [⟨(some 2), .mov (.c (.bool false)), none, []⟩])
   .ret)
   .skip))
 (.seq (.ops [⟨(some 24), .fieldAddr 1 (.t 1), none, []⟩,
   ⟨(some 25), .load none (.t 24), none, []⟩,
   ⟨(some 26), .call 38 [(.t 25), (.c (.func (.func 39) [] []))], none, []⟩,
   ⟨(some 27), .un .not (.t 26), none, []⟩,
   ⟨(some 2), .mov (.t 27), none, []⟩])
 .ret))) }
def fi24 : FnInfo := { m := 76, res := [(.tmp 2)], ac :=
 (.seq (.ops [⟨(some 1), .box (.t 0), none, []⟩,
   ⟨(some 2), .mov (.c (.bool false)), none, []⟩])
 (.seq (.seq (.ops [⟨(some 4), .fieldAddr 0 (.t 1), none, []⟩,
    ⟨(some 5), .load none (.t 4), none, []⟩])
  (.block 0 (.seq (.ops [⟨(some 7), .bin .eql .none (.t 5) (.c (.int .i64 1)), none, []⟩,
     ⟨(some 6), .mov (.t 7), none, []⟩])
   (.cond (.t 6)
    (.seq (.ops [⟨(some 8), .fieldAddr 2 (.t 1), none, []⟩,
      ⟨(some 9), .load none (.t 8), none, []⟩,
      ⟨(some 10), .len .sl (.t 9), none, []⟩,
      ⟨(some 11), .fieldAddr 3 (.t 1), none, []⟩,
      ⟨(some 12), .load none (.t 11), none, []⟩,
      ⟨(some 13), .len .sl (.t 12), none, []⟩,
      ⟨(some 14), .bin .add .none (.t 10) (.t 13), none, []⟩,
      ⟨(some 15), .bin .gtr .none (.t 14) (.c (.int .i64 0)), none, []⟩,
      ⟨(some 3), .mov (.t 15), none, []⟩])
    (.seq (.ops [⟨(some 16), .mov (.t 3), none, []⟩,
      ⟨(some 17), .mov (.t 16), none, []⟩,
      ⟨(some 18), .fieldAddr 2 (.t 1), (some (17, true)), []⟩,
      ⟨(some 19), .load none (.t 18), (some (17, true)), []⟩,
      ⟨(some 20), .call 36 [(.t 19)], (some (17, true)), []⟩,
      ⟨(some 21), .bin .eql .none (.t 20) (.c (.int .i64 0)), (some (17, true)), []⟩,
      ⟨(some 22), .pick (.t 17) (.t 21) (.c (.bool false)), none, []⟩,
      ⟨(some 23), .mov (.t 22), none, []⟩,
      ⟨(some 24), .fieldAddr 3 (.t 1), (some (23, true)), []⟩,
      ⟨(some 25), .load none (.t 24), (some (23, true)), []⟩,
      ⟨(some 26), .fieldAddr 2 (.t 1), (some (23, true)), []⟩,
      ⟨(some 27), .load none (.t 26), (some (23, true)), []⟩,
      ⟨(some 28), .call 40 [(.t 25), (.t 27)], (some (23, true)), []⟩,
      ⟨(some 29), .pick (.t 23) (.t 28) (.c (.bool false)), none, []⟩,
      ⟨(some 30), .mov (.t 29), none, []⟩,
      ⟨(some 31), .load (some 6) (.t 1), (some (30, true)), []⟩,
      ⟨(some 32), .fieldAddr 0 (.t 1), (some (30, true)), []⟩,
      ⟨(some 33), .load none (.t 32), (some (30, true)), []⟩,
      ⟨(some 34), .fieldAddr 2 (.t 1), (some (30, true)), []⟩,
      ⟨(some 35), .load none (.t 34), (some (30, true)), []⟩,
      ⟨(some 36), .fieldAddr 3 (.t 1), (some (30, true)), []⟩,
      ⟨(some 37), .load none (.t 36), (some (30, true)), []⟩,
      ⟨(some 38), .build [(.int .i64 0), (.int .i64 0), (.vsl 0 [] (some 0)), (.vsl 0 [] (some 0)), (.int .u64 0), (.int .u64 0)] [(0, 1, (.t 33)), (2, 1, (.t 35)), (3, 1, (.t 37))], (some (30, true)), []⟩,
      ⟨(some 39), .call 41 [(.t 31), (.t 38)], (some (30, true)), []⟩,
      ⟨(some 40), .pick (.t 30) (.t 39) (.c (.bool false)), none, []⟩,
      ⟨(some 2), .mov (.t 40), none, []⟩])
    .ret))
    (.seq (.ops [⟨(some 42), .bin .eql .none (.t 5) (.c (.int .i64 2)), none, []⟩,
      ⟨(some 41), .mov (.t 42), none, []⟩])
    (.cond (.t 41)
     (.seq (.ops [⟨(some 43), .fieldAddr 1 (.t 1), none, []⟩,
       ⟨(some 44), .load none (.t 43), none, []⟩,
       ⟨(some 45), .call 42 [(.t 44)], none, []⟩,
       ⟨(some 46), .mov (.t 45), none, []⟩,
       ⟨(some 47), .fieldAddr 4 (.t 1), (some (46, true)), []⟩,
       ⟨(some 48), .load none (.t 47), (some (46, true)), []⟩,
       ⟨(some 49), .call 43 [(.t 48)], (some (46, true)), []⟩,
       ⟨(some 50), .pick (.t 46) (.t 49) (.c (.bool false)), none, []⟩,
       ⟨(some 51), .mov (.t 50), none, []⟩,
       ⟨(some 52), .load (some 6) (.t 1), (some (51, true)), []⟩,
       ⟨(some 53), .fieldAddr 0 (.t 1), (some (51, true)), []⟩,
       ⟨(some 54), .load none (.t 53), (some (51, true)), []⟩,
       ⟨(some 55), .fieldAddr 1 (.t 1), (some (51, true)), []⟩,
       ⟨(some 56), .load none (.t 55), (some (51, true)), []⟩,
       ⟨(some 57), .fieldAddr 4 (.t 1), (some (51, true)), []⟩,
       ⟨(some 58), .load none (.t 57), (some (51, true)), []⟩,
       ⟨(some 59), .build [(.int .i64 0), (.int .i64 0), (.vsl 0 [] (some 0)), (.vsl 0 [] (some 0)), (.int .u64 0), (.int .u64 0)] [(0, 1, (.t 54)), (1, 1, (.t 56)), (4, 1, (.t 58))], (some (51, true)), []⟩,
       ⟨(some 60), .call 41 [(.t 52), (.t 59)], (some (51, true)), []⟩,
       ⟨(some 61), .pick (.t 51) (.t 60) (.c (.bool false)), none, []⟩,
       ⟨(some 2), .mov (.t 61), none, []⟩])
     .ret)
     (.seq (.ops [⟨(some 63), .bin .eql .none (.t 5) (.c (.int .i64 3)), none, []⟩,
       ⟨(some 62), .mov (.t 63), none, []⟩])
     (.cond (.t 62)
      (.seq (.ops [⟨(some 64), .fieldAddr 5 (.t 1), none, []⟩,
        ⟨(some 65), .load none (.t 64), none, []⟩,
        ⟨(some 66), .call 43 [(.t 65)], none, []⟩,
        ⟨(some 67), .mov (.t 66), none, []⟩,
        ⟨(some 68), .load (some 6) (.t 1), (some (67, true)), []⟩,
        ⟨(some 69), .fieldAddr 0 (.t 1), (some (67, true)), []⟩,
        ⟨(some 70), .load none (.t 69), (some (67, true)), []⟩,
        ⟨(some 71), .fieldAddr 5 (.t 1), (some (67, true)), []⟩,
        ⟨(some 72), .load none (.t 71), (some (67, true)), []⟩,
        ⟨(some 73), .build [(.int .i64 0), (.int .i64 0), (.vsl 0 [] (some 0)), (.vsl 0 [] (some 0)), (.int .u64 0), (.int .u64 0)] [(0, 1, (.t 70)), (5, 1, (.t 72))], (some (67, true)), []⟩,
        ⟨(some 74), .call 41 [(.t 68), (.t 73)], (some (67, true)), []⟩,
        ⟨(some 75), .pick (.t 67) (.t 74) (.c (.bool false)), none, []⟩,
        ⟨(some 2), .mov (.t 75), none, []⟩])
      .ret)
      .skip))))))))
 (.seq (.ops [⟨(some 2), .mov (.c (.bool false)), none, []⟩])
 .ret))) }
def fi25 : FnInfo := { m := 57, res := [(.tmp 4), (.tmp 5)], ac :=
 (.seq (.ops [⟨(some 3), .box (.t 1), none, []⟩,
   ⟨(some 4), .mov (.c (.vsl 0 [] (some 0))), none, []⟩,
   ⟨(some 5), .mov (.c (.bool false)), none, []⟩])
 (.seq (.seq (.ops [⟨(some 12), .fieldAddr 3 (.t 3), none, []⟩,
    ⟨(some 13), .load none (.t 12), none, []⟩,
    ⟨(some 14), .len .sl (.t 13), none, []⟩,
    ⟨(some 15), .mov (.c (.int .i64 0)), none, []⟩])
  (.block 0 (.loop (.seq (.ops [⟨(some 16), .bin .lss .none (.t 15) (.t 14), none, []⟩])
    (.seq (.cond (.t 16)
      .skip
      (.exit 0))
    (.seq (.block 1 (.seq (.ops [⟨(some 17), .indexAddr (.slice 1) (.t 13) (.t 15), none, []⟩,
        ⟨(some 18), .load none (.t 17), none, []⟩,
        ⟨(some 7), .mov (.t 18), none, []⟩])
      (.seq (.ops [⟨(some 19), .mov (.t 0), none, []⟩,
        ⟨(some 20), .mov (.t 7), none, []⟩,
        ⟨(some 21), .call 30 [(.t 19), (.t 20)], none, []⟩,
        ⟨(some 8), .mov (.t 21), none, []⟩])
      (.seq (.seq (.ops [⟨(some 22), .mov (.t 8), none, []⟩,
         ⟨(some 23), .bin .lss .none (.t 22) (.c (.int .i64 0)), none, []⟩])
       (.cond (.t 23)
        (.seq (.ops [⟨(some 4), .mov (.c (.vsl 0 [] (some 0))), none, []⟩,
          ⟨(some 5), .mov (.c (.bool false)), none, []⟩])
        .ret)
        .skip))
      (.ops [⟨(some 24), .mov (.t 0), none, []⟩,
       ⟨(some 25), .mov (.t 8), none, []⟩,
       ⟨(some 26), .mov (.t 8), none, []⟩,
       ⟨(some 27), .bin .add .none (.t 26) (.c (.int .i64 1)), none, []⟩,
       ⟨(some 28), .call 44 [(.t 24), (.t 25), (.t 27)], none, []⟩,
       ⟨(some 0), .mov (.t 28), none, []⟩])))))
    (.ops [⟨(some 29), .bin .add .none (.t 15) (.c (.int .i64 1)), none, []⟩,
     ⟨(some 15), .mov (.t 29), none, []⟩])))))))
 (.seq (.seq (.ops [⟨(some 30), .fieldAddr 2 (.t 3), none, []⟩,
    ⟨(some 31), .load none (.t 30), none, []⟩,
    ⟨(some 32), .len .sl (.t 31), none, []⟩,
    ⟨(some 33), .mov (.c (.int .i64 0)), none, []⟩])
  (.block 2 (.loop (.seq (.ops [⟨(some 34), .bin .lss .none (.t 33) (.t 32), none, []⟩])
    (.seq (.cond (.t 34)
      .skip
      (.exit 2))
    (.seq (.block 3 (.seq (.ops [⟨(some 35), .indexAddr (.slice 13) (.t 31) (.t 33), none, []⟩,
        ⟨(some 36), .load (some 13) (.t 35), none, []⟩,
        ⟨(some 10), .alloc [(.int .i64 0), (.int .u8 0), (.int .u8 0), (.int .u8 0), (.int .u8 0), (.int .i64 0), (.int .u64 0), (.int .u64 0), (.int .u64 0), (.int .u64 0), (.int .u64 0), (.int .u64 0), (.int .u64 0)], none, []⟩,
        ⟨none, .store 13 (.t 10) (.t 36), none, []⟩])
      (.seq (.seq (.ops [⟨(some 37), .mov (.t 0), none, []⟩,
         ⟨(some 38), .fieldAddr 0 (.t 10), none, []⟩,
         ⟨(some 39), .load none (.t 38), none, []⟩,
         ⟨(some 40), .call 30 [(.t 37), (.t 39)], none, []⟩,
         ⟨(some 11), .mov (.t 40), none, []⟩])
       (.seq (.ops [⟨(some 41), .mov (.t 11), none, []⟩,
         ⟨(some 42), .bin .geq .none (.t 41) (.c (.int .i64 0)), none, []⟩])
       (.cond (.t 42)
        (.seq (.ops [⟨(some 43), .mov (.t 0), none, []⟩,
          ⟨(some 44), .mov (.t 11), none, []⟩,
          ⟨(some 45), .load (some 13) (.t 10), none, []⟩,
          ⟨(some 46), .indexAddr (.slice 14) (.t 43) (.t 44), none, []⟩,
          ⟨(some 47), .fieldAddr 0 (.t 46), none, []⟩,
          ⟨none, .store 13 (.t 47) (.t 45), none, []⟩])
        (.exit 3))
        .skip)))
      (.ops [⟨(some 48), .mov (.t 0), none, []⟩,
       ⟨(some 49), .load (some 13) (.t 10), none, []⟩,
       ⟨(some 50), .build [(.int .i64 0), (.int .u8 0), (.int .u8 0), (.int .u8 0), (.int .u8 0), (.int .i64 0), (.int .u64 0), (.int .u64 0), (.int .u64 0), (.int .u64 0), (.int .u64 0), (.int .u64 0), (.int .u64 0), (.int .u64 0)] [(0, 13, (.t 49))], none, []⟩,
       ⟨(some 51), .buildSlice 14 1 [(.int .i64 0), (.int .u8 0), (.int .u8 0), (.int .u8 0), (.int .u8 0), (.int .i64 0), (.int .u64 0), (.int .u64 0), (.int .u64 0), (.int .u64 0), (.int .u64 0), (.int .u64 0), (.int .u64 0), (.int .u64 0)] [(0, 14, (.t 50))], none, []⟩,
       ⟨(some 52), .append 14 88 (.t 48) (.t 51), none, []⟩,
       ⟨(some 0), .mov (.t 52), none, []⟩]))))
    (.ops [⟨(some 53), .bin .add .none (.t 33) (.c (.int .i64 1)), none, []⟩,
     ⟨(some 33), .mov (.t 53), none, []⟩])))))))
 (.seq (.ops [⟨(some 54), .mov (.t 0), none, []⟩,
   ⟨(some 55), .call 45 [(.t 54), (.c (.func (.func 46) [] []))], none, []⟩])
 (.seq (.ops [⟨(some 56), .mov (.t 0), none, []⟩,
   ⟨(some 4), .mov (.t 56), none, []⟩,
   ⟨(some 5), .mov (.c (.bool true)), none, []⟩])
 .ret))))) }
def fi26 : FnInfo := { m := 41, res := [(.tmp 4), (.tmp 5)], ac :=
 (.seq (.ops [⟨(some 3), .box (.t 1), none, []⟩,
   ⟨(some 4), .mov (.c (.vsl 0 [] (some 0))), none, []⟩,
   ⟨(some 5), .mov (.c (.bool false)), none, []⟩])
 (.seq (.ops [⟨(some 7), .mov (.t 0), none, []⟩,
   ⟨(some 8), .fieldAddr 1 (.t 3), none, []⟩,
   ⟨(some 9), .load none (.t 8), none, []⟩,
   ⟨(some 10), .call 30 [(.t 7), (.t 9)], none, []⟩,
   ⟨(some 6), .mov (.t 10), none, []⟩])
 (.seq (.seq (.drawn [⟨(some 11), .mov (.t 6), none, []⟩,
    ⟨(some 12), .bin .lss .none (.t 11) (.c (.int .i64 0)), none, []⟩,
    ⟨(some 13), .mov (.t 12), none, []⟩,
    ⟨(some 14), .fieldAddr 4 (.t 3), (some (13, false)), []⟩,
    ⟨(some 15), .load none (.t 14), (some (13, false)), []⟩,
    ⟨(some 16), .mov (.t 0), (some (13, false)), [4]⟩,
    ⟨(some 17), .mov (.t 6), (some (13, false)), [4]⟩,
    ⟨(some 18), .indexAddr (.slice 14) (.t 16) (.t 17), (some (13, false)), [4]⟩,
    ⟨(some 19), .fieldAddr 13 (.t 18), (some (13, false)), [4]⟩,
    ⟨(some 20), .load none (.t 19), (some (13, false)), [3, 4]⟩,
    ⟨(some 21), .bin .lss .none (.t 15) (.t 20), (some (13, false)), []⟩,
    ⟨(some 22), .pick (.t 13) (.c (.bool true)) (.t 21), none, []⟩,
    ⟨(some 23), .mov (.t 22), none, []⟩,
    ⟨(some 24), .fieldAddr 4 (.t 3), (some (23, false)), []⟩,
    ⟨(some 25), .load none (.t 24), (some (23, false)), []⟩,
    ⟨(some 26), .mov (.t 0), (some (23, false)), [14]⟩,
    ⟨(some 27), .mov (.t 6), (some (23, false)), [14]⟩,
    ⟨(some 28), .indexAddr (.slice 14) (.t 26) (.t 27), (some (23, false)), [14]⟩,
    ⟨(some 29), .fieldAddr 0 (.t 28), (some (23, false)), [14]⟩,
    ⟨(some 30), .fieldAddr 10 (.t 29), (some (23, false)), [14]⟩,
    ⟨(some 31), .load none (.t 30), (some (23, false)), [13, 14]⟩,
    ⟨(some 32), .bin .gtr .none (.t 25) (.t 31), (some (23, false)), []⟩,
    ⟨(some 33), .pick (.t 23) (.c (.bool true)) (.t 32), none, []⟩])
  (.cond (.t 33)
   (.seq (.ops [⟨(some 4), .mov (.c (.vsl 0 [] (some 0))), none, []⟩,
     ⟨(some 5), .mov (.c (.bool false)), none, []⟩])
   .ret)
   .skip))
 (.seq (.ops [⟨(some 34), .mov (.t 0), none, []⟩,
   ⟨(some 35), .mov (.t 6), none, []⟩,
   ⟨(some 36), .fieldAddr 4 (.t 3), none, []⟩,
   ⟨(some 37), .load none (.t 36), none, []⟩,
   ⟨(some 38), .indexAddr (.slice 14) (.t 34) (.t 35), none, []⟩,
   ⟨(some 39), .fieldAddr 13 (.t 38), none, []⟩,
   ⟨none, .store 1 (.t 39) (.t 37), none, []⟩])
 (.seq (.ops [⟨(some 40), .mov (.t 0), none, []⟩,
   ⟨(some 4), .mov (.t 40), none, []⟩,
   ⟨(some 5), .mov (.c (.bool true)), none, []⟩])
 .ret))))) }
def fi30 : FnInfo := { m := 8, res := [(.tmp 4)], ac :=
 (.seq (.ops [⟨(some 3), .box (.t 1), none, []⟩,
   ⟨(some 4), .mov (.c (.int .i64 0)), none, []⟩])
 (.seq (.ops [⟨(some 5), .mov (.t 0), none, []⟩,
   ⟨(some 6), .mkFunc (.func 52) [] [(.t 3)], none, []⟩,
   ⟨(some 7), .call 51 [(.t 5), (.t 6)], none, []⟩,
   ⟨(some 4), .mov (.t 7), none, []⟩])
 .ret)) }
def fi31 : FnInfo := { m := 5, res := [(.tmp 2)], ac :=
 (.seq (.ops [⟨(some 2), .mov (.c (.bool false)), none, []⟩])
 (.seq (.ops [⟨(some 3), .mov (.t 0), none, []⟩,
   ⟨(some 4), .bin .gtr .none (.t 3) (.c (.int .u64 281474976710656)), none, []⟩,
   ⟨(some 2), .mov (.t 4), none, []⟩])
 .ret)) }
def fi32 : FnInfo := { m := 5, res := [(.tmp 2)], ac :=
 (.seq (.ops [⟨(some 2), .mov (.c (.bool false)), none, []⟩])
 (.seq (.ops [⟨(some 3), .mov (.t 0), none, []⟩,
   ⟨(some 4), .bin .lss .none (.t 3) (.c (.int .u64 1500)), none, []⟩,
   ⟨(some 2), .mov (.t 4), none, []⟩])
 .ret)) }
def fi33 : FnInfo := { m := 20, res := [(.tmp 2)], ac :=
 (.seq (.ops [⟨(some 1), .box (.t 0), none, []⟩,
   ⟨(some 2), .mov (.c (.bool false)), none, []⟩])
 (.seq (.drawn [⟨(some 3), .fieldAddr 4 (.t 1), none, []⟩,
   ⟨(some 4), .load none (.t 3), none, []⟩,
   ⟨(some 5), .bin .geq .none (.t 4) (.c (.int .i64 0)), none, []⟩,
   ⟨(some 6), .mov (.t 5), none, []⟩,
   ⟨(some 7), .fieldAddr 4 (.t 1), (some (6, true)), []⟩,
   ⟨(some 8), .load none (.t 7), (some (6, true)), []⟩,
   ⟨(some 9), .bin .leq .none (.t 8) (.c (.int .i64 32)), (some (6, true)), []⟩,
   ⟨(some 10), .pick (.t 6) (.t 9) (.c (.bool false)), none, []⟩,
   ⟨(some 11), .mov (.t 10), none, []⟩,
   ⟨(some 12), .fieldAddr 0 (.t 1), (some (11, true)), []⟩,
   ⟨(some 13), .load (some 4) (.t 12), (some (11, true)), []⟩,
   ⟨(some 14), .fieldAddr 4 (.t 1), (some (11, true)), [10]⟩,
   ⟨(some 15), .load none (.t 14), (some (11, true)), [9, 10]⟩,
   ⟨(some 16), .call 53 [(.t 13), (.t 15)], (some (11, true)), []⟩,
   ⟨(some 17), .load (some 5) (.t 1), (some (11, true)), [9, 10, 11, 12, 13]⟩,
   ⟨(some 18), .bin .eql (.agg [.int, .int, .int, .int, .int]) (.t 16) (.t 17), (some (11, true)), []⟩,
   ⟨(some 19), .pick (.t 11) (.t 18) (.c (.bool false)), none, []⟩,
   ⟨(some 2), .mov (.t 19), none, []⟩])
 .ret)) }
def fi34 : FnInfo := { m := 9, res := [(.tmp 4)], ac :=
 (.seq (.ops [⟨(some 4), .mov (.c (.bool false)), none, []⟩])
 (.seq (.ops [⟨(some 5), .mov (.t 0), none, []⟩,
   ⟨(some 6), .mov (.t 1), none, []⟩,
   ⟨(some 7), .call 54 [(.t 5), (.t 6)], none, []⟩,
   ⟨(some 8), .bin .geq .none (.t 7) (.c (.int .i64 0)), none, []⟩,
   ⟨(some 4), .mov (.t 8), none, []⟩])
 .ret)) }
def fi35 : FnInfo := { m := 48, res := [(.tmp 2)], ac :=
 (.seq (.ops [⟨(some 1), .box (.t 0), none, []⟩,
   ⟨(some 2), .mov (.c (.bool false)), none, []⟩])
 (.seq (.seq (.ops [⟨(some 5), .fieldAddr 0 (.t 1), none, []⟩,
    ⟨(some 6), .load none (.t 5), none, []⟩,
    ⟨(some 7), .bin .lss .none (.t 6) (.c (.int .i64 1)), none, []⟩,
    ⟨(some 8), .mov (.t 7), none, []⟩,
    ⟨(some 9), .fieldAddr 0 (.t 1), (some (8, false)), []⟩,
    ⟨(some 10), .load none (.t 9), (some (8, false)), []⟩,
    ⟨(some 11), .bin .gtr .none (.t 10) (.c (.int .i64 255)), (some (8, false)), []⟩,
    ⟨(some 12), .pick (.t 8) (.c (.bool true)) (.t 11), none, []⟩,
    ⟨(some 13), .mov (.t 12), none, []⟩,
    ⟨(some 14), .fieldAddr 1 (.t 1), (some (13, false)), []⟩,
    ⟨(some 15), .load (some 5) (.t 14), (some (13, false)), []⟩,
    ⟨(some 16), .call 55 [(.t 15)], (some (13, false)), []⟩,
    ⟨(some 17), .un .not (.t 16), (some (13, false)), []⟩,
    ⟨(some 18), .pick (.t 13) (.c (.bool true)) (.t 17), none, []⟩])
  (.cond (.t 18)
   (.seq (.ops [⟨(some 2), .mov (.c (.bool false)), none, []⟩])
   .ret)
   .skip))
 (.seq (.seq (.ops [⟨(some 19), .fieldAddr 6 (.t 1), none, []⟩,
    ⟨(some 20), .load none (.t 19), none, []⟩,
    ⟨(some 21), .fieldAddr 7 (.t 1), none, []⟩,
    ⟨(some 22), .load none (.t 21), none, []⟩,
    ⟨(some 23), .fieldAddr 8 (.t 1), none, []⟩,
    ⟨(some 24), .load none (.t 23), none, []⟩,
    ⟨(some 25), .fieldAddr 9 (.t 1), none, []⟩,
    ⟨(some 26), .load none (.t 25), none, []⟩,
    ⟨(some 27), .fieldAddr 10 (.t 1), none, []⟩,
    ⟨(some 28), .load none (.t 27), none, []⟩,
    ⟨(some 29), .fieldAddr 11 (.t 1), none, []⟩,
    ⟨(some 30), .load none (.t 29), none, []⟩,
    ⟨(some 31), .fieldAddr 12 (.t 1), none, []⟩,
    ⟨(some 32), .load none (.t 31), none, []⟩,
    ⟨(some 33), .build [(.int .u64 0), (.int .u64 0), (.int .u64 0), (.int .u64 0), (.int .u64 0), (.int .u64 0), (.int .u64 0)] [(0, 1, (.t 20)), (1, 1, (.t 22)), (2, 1, (.t 24)), (3, 1, (.t 26)), (4, 1, (.t 28)), (5, 1, (.t 30)), (6, 1, (.t 32))], none, []⟩,
    ⟨(some 34), .mov (.c (.int .i64 0)), none, []⟩])
  (.block 0 (.loop (.seq (.ops [⟨(some 35), .bin .lss .none (.t 34) (.c (.int .i64 7)), none, []⟩])
    (.seq (.cond (.t 35)
      .skip
      (.exit 0))
    (.seq (.block 1 (.seq (.ops [⟨(some 36), .index (.array 7 1) none (.t 33) (.t 34), none, []⟩,
        ⟨(some 4), .mov (.t 36), none, []⟩])
      (.seq (.ops [⟨(some 37), .mov (.t 4), none, []⟩,
        ⟨(some 38), .bin .gtr .none (.t 37) (.c (.int .u64 281474976710656)), none, []⟩])
      (.cond (.t 38)
       (.seq (.ops [⟨(some 2), .mov (.c (.bool false)), none, []⟩])
       .ret)
       .skip))))
    (.ops [⟨(some 39), .bin .add .none (.t 34) (.c (.int .i64 1)), none, []⟩,
     ⟨(some 34), .mov (.t 39), none, []⟩])))))))
 (.seq (.ops [⟨(some 40), .fieldAddr 11 (.t 1), none, []⟩,
   ⟨(some 41), .load none (.t 40), none, []⟩,
   ⟨(some 42), .bin .geq .none (.t 41) (.c (.int .u64 1500)), none, []⟩,
   ⟨(some 43), .mov (.t 42), none, []⟩,
   ⟨(some 44), .fieldAddr 12 (.t 1), (some (43, true)), []⟩,
   ⟨(some 45), .load none (.t 44), (some (43, true)), []⟩,
   ⟨(some 46), .bin .geq .none (.t 45) (.c (.int .u64 1500)), (some (43, true)), []⟩,
   ⟨(some 47), .pick (.t 43) (.t 46) (.c (.bool false)), none, []⟩,
   ⟨(some 2), .mov (.t 47), none, []⟩])
 .ret)))) }
def fi36 : FnInfo := { m := 50, res := [(.tmp 2)], ac :=
 (.seq (.ops [⟨(some 2), .mov (.c (.int .i64 0)), none, []⟩])
 (.seq (.seq (.ops [⟨(some 6), .mov (.t 0), none, []⟩,
    ⟨(some 7), .len .sl (.t 6), none, []⟩,
    ⟨(some 8), .bin .gtr .none (.t 7) (.c (.int .i64 8)), none, []⟩])
  (.cond (.t 8)
   (.seq (.ops [⟨(some 2), .mov (.c (.int .i64 111)), none, []⟩])
   .ret)
   .skip))
 (.seq (.ops [⟨(some 9), .mkMap, none, []⟩,
   ⟨(some 3), .mov (.t 9), none, []⟩])
 (.seq (.seq (.ops [⟨(some 10), .mov (.t 0), none, []⟩,
    ⟨(some 11), .len .sl (.t 10), none, []⟩,
    ⟨(some 12), .mov (.c (.int .i64 0)), none, []⟩])
  (.block 0 (.loop (.seq (.ops [⟨(some 13), .bin .lss .none (.t 12) (.t 11), none, []⟩])
    (.seq (.cond (.t 13)
      .skip
      (.exit 0))
    (.seq (.block 1 (.seq (.ops [⟨(some 14), .mov (.t 12), none, []⟩,
        ⟨(some 15), .indexAddr (.slice 13) (.t 10) (.t 12), none, []⟩,
        ⟨(some 16), .load (some 13) (.t 15), none, []⟩,
        ⟨(some 5), .alloc [(.int .i64 0), (.int .u8 0), (.int .u8 0), (.int .u8 0), (.int .u8 0), (.int .i64 0), (.int .u64 0), (.int .u64 0), (.int .u64 0), (.int .u64 0), (.int .u64 0), (.int .u64 0), (.int .u64 0)], none, []⟩,
        ⟨(some 4), .mov (.t 14), none, []⟩,
        ⟨none, .store 13 (.t 5) (.t 16), none, []⟩])
      (.seq (.drawnM 3 5 [⟨(some 17), .mov (.t 3), none, []⟩,
        ⟨(some 18), .fieldAddr 1 (.t 5), none, []⟩,
        ⟨(some 19), .load (some 5) (.t 18), none, [0]⟩,
        ⟨(some 20), .lookup (.agg [.int, .int, .int, .int, .int]) (.int .i64 0) (.t 17) (.t 19) false, none, []⟩,
        ⟨(some 21), .bin .add .none (.t 20) (.c (.int .i64 1)), none, []⟩,
        ⟨(some 22), .mapEntry (.agg [.int, .int, .int, .int, .int]) (.int .i64 0) (.t 17) (.t 19), none, [4]⟩,
        ⟨(some 23), .extract (.t 22) 1, none, [3]⟩,
        ⟨none, .entryStore (.t 17) (.t 23) (.t 21), none, []⟩])
      (.seq (.drawn [⟨(some 24), .load (some 13) (.t 5), none, []⟩,
        ⟨(some 25), .call 19 [(.t 24)], none, []⟩,
        ⟨(some 26), .un .not (.t 25), none, []⟩,
        ⟨(some 27), .mov (.t 26), none, []⟩,
        ⟨(some 28), .mov (.t 3), (some (27, false)), []⟩,
        ⟨(some 29), .fieldAddr 1 (.t 5), (some (27, false)), []⟩,
        ⟨(some 30), .load (some 5) (.t 29), (some (27, false)), [4]⟩,
        ⟨(some 31), .lookup (.agg [.int, .int, .int, .int, .int]) (.int .i64 0) (.t 28) (.t 30) false, (some (27, false)), []⟩,
        ⟨(some 32), .bin .gtr .none (.t 31) (.c (.int .i64 1)), (some (27, false)), []⟩,
        ⟨(some 33), .pick (.t 27) (.c (.bool true)) (.t 32), none, []⟩,
        ⟨(some 34), .mov (.t 33), none, []⟩,
        ⟨(some 35), .mov (.t 4), (some (34, false)), []⟩,
        ⟨(some 36), .bin .gtr .none (.t 35) (.c (.int .i64 0)), (some (34, false)), []⟩,
        ⟨(some 37), .mov (.t 36), (some (34, false)), []⟩,
        ⟨(some 38), .fieldAddr 0 (.t 5), (some (37, true)), []⟩,
        ⟨(some 39), .load none (.t 38), (some (37, true)), []⟩,
        ⟨(some 40), .mov (.t 0), (some (37, true)), [15]⟩,
        ⟨(some 41), .mov (.t 4), (some (37, true)), [15]⟩,
        ⟨(some 42), .bin .sub .none (.t 41) (.c (.int .i64 1)), (some (37, true)), [15]⟩,
        ⟨(some 43), .indexAddr (.slice 13) (.t 40) (.t 42), (some (37, true)), [15]⟩,
        ⟨(some 44), .fieldAddr 0 (.t 43), (some (37, true)), [15]⟩,
        ⟨(some 45), .load none (.t 44), (some (37, true)), [14, 15]⟩,
        ⟨(some 46), .bin .leq .none (.t 39) (.t 45), (some (37, true)), []⟩,
        ⟨(some 47), .pick (.t 37) (.t 46) (.c (.bool false)), (some (34, false)), []⟩,
        ⟨(some 48), .pick (.t 34) (.c (.bool true)) (.t 47), none, []⟩])
      (.cond (.t 48)
       (.seq (.ops [⟨(some 2), .mov (.c (.int .i64 111)), none, []⟩])
       .ret)
       .skip)))))
    (.ops [⟨(some 49), .bin .add .none (.t 12) (.c (.int .i64 1)), none, []⟩,
     ⟨(some 12), .mov (.t 49), none, []⟩])))))))
 (.seq (.ops [⟨(some 2), .mov (.c (.int .i64 0)), none, []⟩])
 .ret))))) }
def fi37 : FnInfo := { m := 19, res := [(.tmp 2)], ac :=
 (.seq (.ops [⟨(some 2), .mov (.c (.vsl 0 [] (some 0))), none, []⟩])
 (.seq (.ops [⟨(some 3), .mov (.c (.vsl 0 [] (some 0))), none, []⟩])
 (.seq (.seq (.ops [⟨(some 6), .mov (.t 0), none, []⟩,
    ⟨(some 7), .len .sl (.t 6), none, []⟩,
    ⟨(some 8), .mov (.c (.int .i64 0)), none, []⟩])
  (.block 0 (.loop (.seq (.ops [⟨(some 9), .bin .lss .none (.t 8) (.t 7), none, []⟩])
    (.seq (.cond (.t 9)
      .skip
      (.exit 0))
    (.seq (.block 1 (.seq (.ops [⟨(some 10), .indexAddr (.slice 14) (.t 6) (.t 8), none, []⟩,
        ⟨(some 11), .load (some 14) (.t 10), none, []⟩,
        ⟨(some 5), .alloc [(.int .i64 0), (.int .u8 0), (.int .u8 0), (.int .u8 0), (.int .u8 0), (.int .i64 0), (.int .u64 0), (.int .u64 0), (.int .u64 0), (.int .u64 0), (.int .u64 0), (.int .u64 0), (.int .u64 0), (.int .u64 0)], none, []⟩,
        ⟨none, .store 14 (.t 5) (.t 11), none, []⟩])
      (.ops [⟨(some 12), .mov (.t 3), none, []⟩,
       ⟨(some 13), .fieldAddr 0 (.t 5), none, []⟩,
       ⟨(some 14), .load (some 13) (.t 13), none, []⟩,
       ⟨(some 15), .buildSlice 13 1 [(.int .i64 0), (.int .u8 0), (.int .u8 0), (.int .u8 0), (.int .u8 0), (.int .i64 0), (.int .u64 0), (.int .u64 0), (.int .u64 0), (.int .u64 0), (.int .u64 0), (.int .u64 0), (.int .u64 0)] [(0, 13, (.t 14))], none, []⟩,
       ⟨(some 16), .append 13 80 (.t 12) (.t 15), none, []⟩,
       ⟨(some 3), .mov (.t 16), none, []⟩])))
    (.ops [⟨(some 17), .bin .add .none (.t 8) (.c (.int .i64 1)), none, []⟩,
     ⟨(some 8), .mov (.t 17), none, []⟩])))))))
 (.seq (.ops [⟨(some 18), .mov (.t 3), none, []⟩,
   ⟨(some 2), .mov (.t 18), none, []⟩])
 .ret)))) }
def fi38 : FnInfo := { m := 9, res := [(.tmp 4)], ac :=
 (.seq (.ops [⟨(some 4), .mov (.c (.bool false)), none, []⟩])
 (.seq (.ops [⟨(some 5), .mov (.t 0), none, []⟩,
   ⟨(some 6), .mov (.t 1), none, []⟩,
   ⟨(some 7), .call 51 [(.t 5), (.t 6)], none, []⟩,
   ⟨(some 8), .bin .geq .none (.t 7) (.c (.int .i64 0)), none, []⟩,
   ⟨(some 4), .mov (.t 8), none, []⟩])
 .ret)) }
def fi39 : FnInfo := { m := 6, res := [(.tmp 2)], ac :=
 (.seq (.ops [⟨(some 1), .box (.t 0), none, []⟩,
   ⟨(some 2), .mov (.c (.bool false)), none, []⟩])
 (.seq (.ops [⟨(some 3), .fieldAddr 13 (.t 1), none, []⟩,
   ⟨(some 4), .load none (.t 3), none, []⟩,
   ⟨(some 5), .bin .gtr .none (.t 4) (.c (.int .u64 281474976710656)), none, []⟩,
   ⟨(some 2), .mov (.t 5), none, []⟩])
 .ret)) }
def fi40 : FnInfo := { m := 38, res := [(.tmp 4)], ac :=
 (.seq (.ops [⟨(some 2), .box (.t 0), none, []⟩,
   ⟨(some 4), .mov (.c (.bool false)), none, []⟩])
 (.seq (.seq (.ops [⟨(some 7), .load none (.t 2), none, []⟩,
    ⟨(some 8), .len .sl (.t 7), none, []⟩,
    ⟨(some 9), .bin .gtr .none (.t 8) (.c (.int .i64 8)), none, []⟩])
  (.cond (.t 9)
   (.seq (.ops [⟨(some 4), .mov (.c (.bool false)), none, []⟩])
   .ret)
   .skip))
 (.seq (.seq (.ops [⟨(some 10), .load none (.t 2), none, []⟩,
    ⟨(some 11), .len .sl (.t 10), none, []⟩,
    ⟨(some 12), .mov (.c (.int .i64 0)), none, []⟩])
  (.block 0 (.loop (.seq (.ops [⟨(some 13), .bin .lss .none (.t 12) (.t 11), none, []⟩])
    (.seq (.cond (.t 13)
      .skip
      (.exit 0))
    (.seq (.block 1 (.seq (.ops [⟨(some 14), .mov (.t 12), none, []⟩,
        ⟨(some 15), .indexAddr (.slice 1) (.t 10) (.t 12), none, []⟩,
        ⟨(some 16), .load none (.t 15), none, []⟩,
        ⟨(some 5), .mov (.t 14), none, []⟩,
        ⟨(some 6), .mov (.t 16), none, []⟩])
      (.seq (.ops [⟨(some 17), .mov (.t 6), none, []⟩,
        ⟨(some 18), .call 42 [(.t 17)], none, []⟩,
        ⟨(some 19), .un .not (.t 18), none, []⟩,
        ⟨(some 20), .mov (.t 19), none, []⟩,
        ⟨(some 21), .mov (.t 5), (some (20, false)), []⟩,
        ⟨(some 22), .bin .gtr .none (.t 21) (.c (.int .i64 0)), (some (20, false)), []⟩,
        ⟨(some 23), .mov (.t 22), (some (20, false)), []⟩,
        ⟨(some 24), .mov (.t 6), (some (23, true)), []⟩,
        ⟨(some 25), .load none (.t 2), (some (23, true)), []⟩,
        ⟨(some 26), .mov (.t 5), (some (23, true)), []⟩,
        ⟨(some 27), .bin .sub .none (.t 26) (.c (.int .i64 1)), (some (23, true)), []⟩,
        ⟨(some 28), .indexAddr (.slice 1) (.t 25) (.t 27), (some (23, true)), []⟩,
        ⟨(some 29), .load none (.t 28), (some (23, true)), []⟩,
        ⟨(some 30), .bin .leq .none (.t 24) (.t 29), (some (23, true)), []⟩,
        ⟨(some 31), .pick (.t 23) (.t 30) (.c (.bool false)), (some (20, false)), []⟩,
        ⟨(some 32), .pick (.t 20) (.c (.bool true)) (.t 31), none, []⟩])
      (.cond (.t 32)
       (.seq (.ops [⟨(some 4), .mov (.c (.bool false)), none, []⟩])
       .ret)
       .skip))))
    (.ops [⟨(some 33), .bin .add .none (.t 12) (.c (.int .i64 1)), none, []⟩,
     ⟨(some 12), .mov (.t 33), none, []⟩])))))))
 (.seq (.ops [⟨(some 34), .mov (.t 1), none, []⟩,
   ⟨(some 35), .mkFunc (.func 57) [] [(.t 2)], none, []⟩,
   ⟨(some 36), .call 56 [(.t 34), (.t 35)], none, []⟩,
   ⟨(some 37), .un .not (.t 36), none, []⟩,
   ⟨(some 4), .mov (.t 37), none, []⟩])
 .ret)))) }
def fi41 : FnInfo := { m := 45, res := [(.tmp 4)], ac :=
 (.seq (.ops [⟨(some 2), .box (.t 0), none, []⟩,
   ⟨(some 3), .box (.t 1), none, []⟩,
   ⟨(some 4), .mov (.c (.bool false)), none, []⟩])
 (.seq (.ops [⟨(some 5), .fieldAddr 0 (.t 2), none, []⟩,
   ⟨(some 6), .load none (.t 5), none, []⟩,
   ⟨(some 7), .fieldAddr 0 (.t 3), none, []⟩,
   ⟨(some 8), .load none (.t 7), none, []⟩,
   ⟨(some 9), .bin .eql .none (.t 6) (.t 8), none, []⟩,
   ⟨(some 10), .mov (.t 9), none, []⟩,
   ⟨(some 11), .fieldAddr 1 (.t 2), (some (10, true)), []⟩,
   ⟨(some 12), .load none (.t 11), (some (10, true)), []⟩,
   ⟨(some 13), .fieldAddr 1 (.t 3), (some (10, true)), []⟩,
   ⟨(some 14), .load none (.t 13), (some (10, true)), []⟩,
   ⟨(some 15), .bin .eql .none (.t 12) (.t 14), (some (10, true)), []⟩,
   ⟨(some 16), .pick (.t 10) (.t 15) (.c (.bool false)), none, []⟩,
   ⟨(some 17), .mov (.t 16), none, []⟩,
   ⟨(some 18), .fieldAddr 4 (.t 2), (some (17, true)), []⟩,
   ⟨(some 19), .load none (.t 18), (some (17, true)), []⟩,
   ⟨(some 20), .fieldAddr 4 (.t 3), (some (17, true)), []⟩,
   ⟨(some 21), .load none (.t 20), (some (17, true)), []⟩,
   ⟨(some 22), .bin .eql .none (.t 19) (.t 21), (some (17, true)), []⟩,
   ⟨(some 23), .pick (.t 17) (.t 22) (.c (.bool false)), none, []⟩,
   ⟨(some 24), .mov (.t 23), none, []⟩,
   ⟨(some 25), .fieldAddr 5 (.t 2), (some (24, true)), []⟩,
   ⟨(some 26), .load none (.t 25), (some (24, true)), []⟩,
   ⟨(some 27), .fieldAddr 5 (.t 3), (some (24, true)), []⟩,
   ⟨(some 28), .load none (.t 27), (some (24, true)), []⟩,
   ⟨(some 29), .bin .eql .none (.t 26) (.t 28), (some (24, true)), []⟩,
   ⟨(some 30), .pick (.t 24) (.t 29) (.c (.bool false)), none, []⟩,
   ⟨(some 31), .mov (.t 30), none, []⟩,
   ⟨(some 32), .fieldAddr 2 (.t 2), (some (31, true)), []⟩,
   ⟨(some 33), .load none (.t 32), (some (31, true)), []⟩,
   ⟨(some 34), .fieldAddr 2 (.t 3), (some (31, true)), []⟩,
   ⟨(some 35), .load none (.t 34), (some (31, true)), []⟩,
   ⟨(some 36), .call 59 [(.t 33), (.t 35)], (some (31, true)), []⟩,
   ⟨(some 37), .pick (.t 31) (.t 36) (.c (.bool false)), none, []⟩,
   ⟨(some 38), .mov (.t 37), none, []⟩,
   ⟨(some 39), .fieldAddr 3 (.t 2), (some (38, true)), []⟩,
   ⟨(some 40), .load none (.t 39), (some (38, true)), []⟩,
   ⟨(some 41), .fieldAddr 3 (.t 3), (some (38, true)), []⟩,
   ⟨(some 42), .load none (.t 41), (some (38, true)), []⟩,
   ⟨(some 43), .call 60 [(.t 40), (.t 42)], (some (38, true)), []⟩,
   ⟨(some 44), .pick (.t 38) (.t 43) (.c (.bool false)), none, []⟩,
   ⟨(some 4), .mov (.t 44), none, []⟩])
 .ret)) }
def fi42 : FnInfo := { m := 9, res := [(.tmp 2)], ac :=
 (.seq (.ops [⟨(some 2), .mov (.c (.bool false)), none, []⟩])
 (.seq (.ops [⟨(some 3), .mov (.t 0), none, []⟩,
   ⟨(some 4), .bin .geq .none (.t 3) (.c (.int .i64 1)), none, []⟩,
   ⟨(some 5), .mov (.t 4), none, []⟩,
   ⟨(some 6), .mov (.t 0), (some (5, true)), []⟩,
   ⟨(some 7), .bin .leq .none (.t 6) (.c (.int .i64 255)), (some (5, true)), []⟩,
   ⟨(some 8), .pick (.t 5) (.t 7) (.c (.bool false)), none, []⟩,
   ⟨(some 2), .mov (.t 8), none, []⟩])
 .ret)) }
def fi43 : FnInfo := { m := 9, res := [(.tmp 2)], ac :=
 (.seq (.ops [⟨(some 2), .mov (.c (.bool false)), none, []⟩])
 (.seq (.ops [⟨(some 3), .mov (.t 0), none, []⟩,
   ⟨(some 4), .bin .geq .none (.t 3) (.c (.int .u64 1)), none, []⟩,
   ⟨(some 5), .mov (.t 4), none, []⟩,
   ⟨(some 6), .mov (.t 0), (some (5, true)), []⟩,
   ⟨(some 7), .bin .leq .none (.t 6) (.c (.int .u64 281474976710656)), (some (5, true)), []⟩,
   ⟨(some 8), .pick (.t 5) (.t 7) (.c (.bool false)), none, []⟩,
   ⟨(some 2), .mov (.t 8), none, []⟩])
 .ret)) }
def fi44 : FnInfo := { m := 33, res := [(.tmp 6)], ac :=
 (.seq (.ops [⟨(some 6), .mov (.c (.vsl 0 [] (some 0))), none, []⟩])
 (.seq (.ops [⟨(some 8), .mov (.t 0), none, []⟩,
   ⟨(some 9), .mov (.t 1), none, []⟩,
   ⟨(some 10), .mov (.t 2), none, []⟩,
   ⟨(some 11), .mov (.t 0), none, []⟩,
   ⟨(some 12), .len .sl (.t 11), none, []⟩,
   ⟨(some 13), .slice (.slice 14) (.t 8) (some (.t 9)) (some (.t 10)) (some (.t 12)), none, []⟩])
 (.seq (.seq (.ops [⟨(some 14), .mov (.t 1), none, []⟩,
    ⟨(some 15), .mov (.t 2), none, []⟩,
    ⟨(some 16), .bin .eql .none (.t 14) (.t 15), none, []⟩])
  (.cond (.t 16)
   (.seq (.ops [⟨(some 17), .mov (.t 0), none, []⟩,
     ⟨(some 6), .mov (.t 17), none, []⟩])
   .ret)
   .skip))
 (.seq (.ops [⟨(some 18), .mov (.t 0), none, []⟩,
   ⟨(some 19), .len .sl (.t 18), none, []⟩,
   ⟨(some 7), .mov (.t 19), none, []⟩])
 (.seq (.drawn [⟨(some 20), .mov (.t 0), none, []⟩,
   ⟨(some 21), .mov (.t 1), none, []⟩,
   ⟨(some 22), .slice (.slice 14) (.t 20) none (some (.t 21)) none, none, []⟩,
   ⟨(some 23), .mov (.t 0), none, [2]⟩,
   ⟨(some 24), .mov (.t 2), none, [2]⟩,
   ⟨(some 25), .slice (.slice 14) (.t 23) (some (.t 24)) none none, none, [0, 1, 2]⟩,
   ⟨(some 26), .append 14 88 (.t 22) (.t 25), none, []⟩,
   ⟨(some 0), .mov (.t 26), none, []⟩])
 (.seq (.ops [⟨(some 27), .mov (.t 0), none, []⟩,
   ⟨(some 28), .mov (.t 0), none, []⟩,
   ⟨(some 29), .len .sl (.t 28), none, []⟩,
   ⟨(some 30), .mov (.t 7), none, []⟩,
   ⟨(some 31), .slice (.slice 14) (.t 27) (some (.t 29)) (some (.t 30)) none, none, []⟩,
   ⟨none, .clear 14 [(.int .i64 0), (.int .u8 0), (.int .u8 0), (.int .u8 0), (.int .u8 0), (.int .i64 0), (.int .u64 0), (.int .u64 0), (.int .u64 0), (.int .u64 0), (.int .u64 0), (.int .u64 0), (.int .u64 0), (.int .u64 0)] (.t 31), none, []⟩])
 (.seq (.ops [⟨(some 32), .mov (.t 0), none, []⟩,
   ⟨(some 6), .mov (.t 32), none, []⟩])
 .ret))))))) }
def fi45 : FnInfo := { m := 14, res := [], ac :=
 (.seq (.ops [⟨(some 5), .mov (.t 0), none, []⟩,
   ⟨(some 6), .len .sl (.t 5), none, []⟩,
   ⟨(some 4), .mov (.t 6), none, []⟩])
 (.ops [⟨(some 7), .mov (.t 0), none, []⟩,
  ⟨(some 8), .mov (.t 4), none, []⟩,
  ⟨(some 9), .mov (.t 4), none, []⟩,
  ⟨(some 10), .conv (.int .u64) (.t 9), none, []⟩,
  ⟨(some 11), .call 50 [(.t 10)], none, []⟩,
  ⟨(some 12), .mov (.t 1), none, []⟩,
  ⟨(some 13), .call 61 [(.t 7), (.c (.int .i64 0)), (.t 8), (.t 11), (.t 12)], none, []⟩])) }
def fi46 : FnInfo := { m := 12, res := [(.tmp 4)], ac :=
 (.seq (.ops [⟨(some 2), .box (.t 0), none, []⟩,
   ⟨(some 3), .box (.t 1), none, []⟩,
   ⟨(some 4), .mov (.c (.int .i64 0)), none, []⟩])
 (.seq (.ops [⟨(some 5), .fieldAddr 0 (.t 2), none, []⟩,
   ⟨(some 6), .fieldAddr 0 (.t 5), none, []⟩,
   ⟨(some 7), .load none (.t 6), none, []⟩,
   ⟨(some 8), .fieldAddr 0 (.t 3), none, []⟩,
   ⟨(some 9), .fieldAddr 0 (.t 8), none, []⟩,
   ⟨(some 10), .load none (.t 9), none, []⟩,
   ⟨(some 11), .call 47 [(.t 7), (.t 10)], none, []⟩,
   ⟨(some 4), .mov (.t 11), none, []⟩])
 .ret)) }
def fi47 : FnInfo := { m := 20, res := [(.tmp 4)], ac :=
 (.seq (.ops [⟨(some 4), .mov (.c (.int .i64 0)), none, []⟩])
 (.seq (.ops [⟨(some 7), .mov (.t 0), none, []⟩,
   ⟨(some 8), .call 62 [(.t 7)], none, []⟩,
   ⟨(some 5), .mov (.t 8), none, []⟩])
 (.seq (.ops [⟨(some 9), .mov (.t 1), none, []⟩,
   ⟨(some 10), .call 62 [(.t 9)], none, []⟩,
   ⟨(some 6), .mov (.t 10), none, []⟩])
 (.seq (.seq (.ops [⟨(some 11), .mov (.t 5), none, []⟩])
  (.cond (.t 11)
   (.seq (.seq (.ops [⟨(some 12), .mov (.t 6), none, []⟩])
    (.cond (.t 12)
     (.seq (.ops [⟨(some 4), .mov (.c (.int .i64 0)), none, []⟩])
     .ret)
     .skip))
   (.seq (.ops [⟨(some 4), .mov (.c (.int .i64 (-1))), none, []⟩])
   .ret))
   .skip))
 (.seq (.seq (.ops [⟨(some 13), .mov (.t 6), none, []⟩])
  (.cond (.t 13)
   (.seq (.ops [⟨(some 4), .mov (.c (.int .i64 1)), none, []⟩])
   .ret)
   .skip))
 (.seq (.seq (.ops [⟨(some 14), .mov (.t 0), none, []⟩,
    ⟨(some 15), .mov (.t 1), none, []⟩,
    ⟨(some 16), .bin .lss .none (.t 14) (.t 15), none, []⟩])
  (.cond (.t 16)
   (.seq (.ops [⟨(some 4), .mov (.c (.int .i64 (-1))), none, []⟩])
   .ret)
   .skip))
 (.seq (.seq (.ops [⟨(some 17), .mov (.t 0), none, []⟩,
    ⟨(some 18), .mov (.t 1), none, []⟩,
    ⟨(some 19), .bin .gtr .none (.t 17) (.t 18), none, []⟩])
  (.cond (.t 19)
   (.seq (.ops [⟨(some 4), .mov (.c (.int .i64 1)), none, []⟩])
   .ret)
   .skip))
 (.seq (.ops [⟨(some 4), .mov (.c (.int .i64 0)), none, []⟩])
 .ret)))))))) }
def fi50 : FnInfo := { m := 8, res := [(.tmp 2)], ac :=
 (.seq (.ops [⟨(some 2), .mov (.c (.int .i64 0)), none, []⟩])
 (.seq (.cond (.c (.bool false))
   (.seq (.ops [⟨(some 3), .mov (.t 0), none, []⟩,
     ⟨(some 4), .conv (.int .u32) (.t 3), none, []⟩,
     ⟨(some 5), .call 72 [(.t 4)], none, []⟩,
     ⟨(some 2), .mov (.t 5), none, []⟩])
   .ret)
   .skip)
 (.seq (.ops [⟨(some 6), .mov (.t 0), none, []⟩,
   ⟨(some 7), .call 73 [(.t 6)], none, []⟩,
   ⟨(some 2), .mov (.t 7), none, []⟩])
 .ret))) }
def fi51 : FnInfo := { m := 19, res := [(.tmp 4)], ac :=
 (.seq (.ops [⟨(some 4), .mov (.c (.int .i64 0)), none, []⟩])
 (.seq (.seq (.ops [⟨(some 6), .mov (.t 0), none, []⟩,
    ⟨(some 7), .len .sl (.t 6), none, []⟩,
    ⟨(some 8), .mov (.c (.int .i64 0)), none, []⟩])
  (.block 0 (.loop (.seq (.ops [⟨(some 9), .bin .lss .none (.t 8) (.t 7), none, []⟩])
    (.seq (.cond (.t 9)
      .skip
      (.exit 0))
    (.seq (.block 1 (.seq (.ops [⟨(some 10), .mov (.t 8), none, []⟩,
        ⟨(some 5), .mov (.t 10), none, []⟩])
      (.seq (.ops [⟨(some 11), .mov (.t 1), none, []⟩,
        ⟨(some 12), .mov (.t 0), none, []⟩,
        ⟨(some 13), .mov (.t 5), none, []⟩,
        ⟨(some 14), .indexAddr (.slice 14) (.t 12) (.t 13), none, []⟩,
        ⟨(some 15), .load (some 14) (.t 14), none, []⟩,
        ⟨(some 16), .callv (.t 11) [(.t 15)], none, []⟩])
      (.cond (.t 16)
       (.seq (.ops [⟨(some 17), .mov (.t 5), none, []⟩,
         ⟨(some 4), .mov (.t 17), none, []⟩])
       .ret)
       .skip))))
    (.ops [⟨(some 18), .bin .add .none (.t 8) (.c (.int .i64 1)), none, []⟩,
     ⟨(some 8), .mov (.t 18), none, []⟩])))))))
 (.seq (.ops [⟨(some 4), .mov (.c (.int .i64 (-1))), none, []⟩])
 .ret))) }
def fi52 : FnInfo := { m := 9, res := [(.tmp 3)], ac :=
 (.seq (.ops [⟨(some 2), .box (.t 0), none, []⟩,
   ⟨(some 3), .mov (.c (.bool false)), none, []⟩])
 (.seq (.ops [⟨(some 4), .fieldAddr 0 (.t 2), none, []⟩,
   ⟨(some 5), .fieldAddr 0 (.t 4), none, []⟩,
   ⟨(some 6), .load none (.t 5), none, []⟩,
   ⟨(some 7), .load none (.t 1), none, []⟩,
   ⟨(some 8), .bin .eql .none (.t 6) (.t 7), none, []⟩,
   ⟨(some 3), .mov (.t 8), none, []⟩])
 .ret)) }
def fi53 : FnInfo := { m := 15, res := [(.cell 4 (some 5))], ac :=
 (.seq (.ops [⟨(some 2), .box (.t 0), none, []⟩,
   ⟨(some 4), .alloc [(.int .u8 0), (.int .u8 0), (.int .u8 0), (.int .u8 0), (.int .i64 0)], none, []⟩])
 (.seq (.ops [⟨(some 5), .load (some 4) (.t 2), none, []⟩,
   ⟨(some 6), .call 75 [(.t 5)], none, []⟩,
   ⟨(some 7), .mov (.t 1), none, []⟩,
   ⟨(some 8), .call 76 [(.t 7)], none, []⟩,
   ⟨(some 9), .bin .and .none (.t 6) (.t 8), none, []⟩,
   ⟨(some 10), .call 74 [(.t 9)], none, []⟩,
   ⟨(some 11), .mov (.t 1), none, []⟩,
   ⟨(some 12), .minmax false [(.t 11), (.c (.int .i64 32))], none, []⟩,
   ⟨(some 13), .minmax true [(.c (.int .i64 0)), (.t 12)], none, []⟩,
   ⟨(some 14), .build [(.int .u8 0), (.int .u8 0), (.int .u8 0), (.int .u8 0), (.int .i64 0)] [(0, 4, (.t 10)), (4, 1, (.t 13))], none, []⟩,
   ⟨none, .store 5 (.t 4) (.t 14), none, []⟩])
 .ret)) }
def fi54 : FnInfo := { m := 19, res := [(.tmp 4)], ac :=
 (.seq (.ops [⟨(some 4), .mov (.c (.int .i64 0)), none, []⟩])
 (.seq (.seq (.ops [⟨(some 6), .mov (.t 0), none, []⟩,
    ⟨(some 7), .len .sl (.t 6), none, []⟩,
    ⟨(some 8), .mov (.c (.int .i64 0)), none, []⟩])
  (.block 0 (.loop (.seq (.ops [⟨(some 9), .bin .lss .none (.t 8) (.t 7), none, []⟩])
    (.seq (.cond (.t 9)
      .skip
      (.exit 0))
    (.seq (.block 1 (.seq (.ops [⟨(some 10), .mov (.t 8), none, []⟩,
        ⟨(some 5), .mov (.t 10), none, []⟩])
      (.seq (.ops [⟨(some 11), .mov (.t 1), none, []⟩,
        ⟨(some 12), .mov (.t 0), none, []⟩,
        ⟨(some 13), .mov (.t 5), none, []⟩,
        ⟨(some 14), .indexAddr (.slice 1) (.t 12) (.t 13), none, []⟩,
        ⟨(some 15), .load none (.t 14), none, []⟩,
        ⟨(some 16), .callv (.t 11) [(.t 15)], none, []⟩])
      (.cond (.t 16)
       (.seq (.ops [⟨(some 17), .mov (.t 5), none, []⟩,
         ⟨(some 4), .mov (.t 17), none, []⟩])
       .ret)
       .skip))))
    (.ops [⟨(some 18), .bin .add .none (.t 8) (.c (.int .i64 1)), none, []⟩,
     ⟨(some 8), .mov (.t 18), none, []⟩])))))))
 (.seq (.ops [⟨(some 4), .mov (.c (.int .i64 (-1))), none, []⟩])
 .ret))) }
def fi55 : FnInfo := { m := 18, res := [(.tmp 2)], ac :=
 (.seq (.ops [⟨(some 1), .box (.t 0), none, []⟩,
   ⟨(some 2), .mov (.c (.bool false)), none, []⟩])
 (.seq (.drawn [⟨(some 3), .fieldAddr 4 (.t 1), none, []⟩,
   ⟨(some 4), .load none (.t 3), none, []⟩,
   ⟨(some 5), .call 77 [(.t 4)], none, []⟩,
   ⟨(some 6), .fieldAddr 4 (.t 1), none, [1, 2]⟩,
   ⟨(some 7), .load none (.t 6), none, [0, 1, 2]⟩,
   ⟨(some 8), .bin .eql .none (.t 5) (.t 7), none, []⟩,
   ⟨(some 9), .mov (.t 8), none, []⟩,
   ⟨(some 10), .fieldAddr 0 (.t 1), (some (9, true)), []⟩,
   ⟨(some 11), .load (some 4) (.t 10), (some (9, true)), []⟩,
   ⟨(some 12), .fieldAddr 4 (.t 1), (some (9, true)), [8]⟩,
   ⟨(some 13), .load none (.t 12), (some (9, true)), [7, 8]⟩,
   ⟨(some 14), .call 78 [(.t 11), (.t 13)], (some (9, true)), []⟩,
   ⟨(some 15), .load (some 5) (.t 1), (some (9, true)), [7, 8, 9, 10, 11]⟩,
   ⟨(some 16), .bin .eql (.agg [.int, .int, .int, .int, .int]) (.t 14) (.t 15), (some (9, true)), []⟩,
   ⟨(some 17), .pick (.t 9) (.t 16) (.c (.bool false)), none, []⟩,
   ⟨(some 2), .mov (.t 17), none, []⟩])
 .ret)) }
def fi56 : FnInfo := { m := 9, res := [(.tmp 4)], ac :=
 (.seq (.ops [⟨(some 4), .mov (.c (.bool false)), none, []⟩])
 (.seq (.ops [⟨(some 5), .mov (.t 0), none, []⟩,
   ⟨(some 6), .mov (.t 1), none, []⟩,
   ⟨(some 7), .call 79 [(.t 5), (.t 6)], none, []⟩,
   ⟨(some 8), .bin .geq .none (.t 7) (.c (.int .i64 0)), none, []⟩,
   ⟨(some 4), .mov (.t 8), none, []⟩])
 .ret)) }
def fi57 : FnInfo := { m := 8, res := [(.tmp 3)], ac :=
 (.seq (.ops [⟨(some 2), .box (.t 0), none, []⟩,
   ⟨(some 3), .mov (.c (.bool false)), none, []⟩])
 (.seq (.ops [⟨(some 4), .load none (.t 1), none, []⟩,
   ⟨(some 5), .fieldAddr 0 (.t 2), none, []⟩,
   ⟨(some 6), .load none (.t 5), none, []⟩,
   ⟨(some 7), .call 58 [(.t 4), (.t 6)], none, []⟩,
   ⟨(some 3), .mov (.t 7), none, []⟩])
 .ret)) }
def fi58 : FnInfo := { m := 9, res := [(.tmp 4)], ac :=
 (.seq (.ops [⟨(some 4), .mov (.c (.bool false)), none, []⟩])
 (.seq (.ops [⟨(some 5), .mov (.t 0), none, []⟩,
   ⟨(some 6), .mov (.t 1), none, []⟩,
   ⟨(some 7), .call 80 [(.t 5), (.t 6)], none, []⟩,
   ⟨(some 8), .bin .geq .none (.t 7) (.c (.int .i64 0)), none, []⟩,
   ⟨(some 4), .mov (.t 8), none, []⟩])
 .ret)) }
def fi59 : FnInfo := { m := 26, res := [(.tmp 4)], ac :=
 (.seq (.ops [⟨(some 4), .mov (.c (.bool false)), none, []⟩])
 (.seq (.seq (.ops [⟨(some 6), .mov (.t 0), none, []⟩,
    ⟨(some 7), .len .sl (.t 6), none, []⟩,
    ⟨(some 8), .mov (.t 1), none, []⟩,
    ⟨(some 9), .len .sl (.t 8), none, []⟩,
    ⟨(some 10), .bin .neq .none (.t 7) (.t 9), none, []⟩])
  (.cond (.t 10)
   (.seq (.ops [⟨(some 4), .mov (.c (.bool false)), none, []⟩])
   .ret)
   .skip))
 (.seq (.seq (.ops [⟨(some 11), .mov (.t 0), none, []⟩,
    ⟨(some 12), .len .sl (.t 11), none, []⟩,
    ⟨(some 13), .mov (.c (.int .i64 0)), none, []⟩])
  (.block 0 (.loop (.seq (.ops [⟨(some 14), .bin .lss .none (.t 13) (.t 12), none, []⟩])
    (.seq (.cond (.t 14)
      .skip
      (.exit 0))
    (.seq (.block 1 (.seq (.ops [⟨(some 15), .mov (.t 13), none, []⟩,
        ⟨(some 5), .mov (.t 15), none, []⟩])
      (.seq (.drawn [⟨(some 16), .mov (.t 0), none, []⟩,
        ⟨(some 17), .mov (.t 5), none, []⟩,
        ⟨(some 18), .indexAddr (.slice 13) (.t 16) (.t 17), none, []⟩,
        ⟨(some 19), .load (some 13) (.t 18), none, []⟩,
        ⟨(some 20), .mov (.t 1), none, [3]⟩,
        ⟨(some 21), .mov (.t 5), none, [3]⟩,
        ⟨(some 22), .indexAddr (.slice 13) (.t 20) (.t 21), none, [3]⟩,
        ⟨(some 23), .load (some 13) (.t 22), none, [0, 1, 2, 3]⟩,
        ⟨(some 24), .bin .neq (.agg [.int, .int, .int, .int, .int, .int, .int, .int, .int, .int, .int, .int, .int]) (.t 19) (.t 23), none, []⟩])
      (.cond (.t 24)
       (.seq (.ops [⟨(some 4), .mov (.c (.bool false)), none, []⟩])
       .ret)
       .skip))))
    (.ops [⟨(some 25), .bin .add .none (.t 13) (.c (.int .i64 1)), none, []⟩,
     ⟨(some 13), .mov (.t 25), none, []⟩])))))))
 (.seq (.ops [⟨(some 4), .mov (.c (.bool true)), none, []⟩])
 .ret)))) }
def fi60 : FnInfo := { m := 26, res := [(.tmp 4)], ac :=
 (.seq (.ops [⟨(some 4), .mov (.c (.bool false)), none, []⟩])
 (.seq (.seq (.ops [⟨(some 6), .mov (.t 0), none, []⟩,
    ⟨(some 7), .len .sl (.t 6), none, []⟩,
    ⟨(some 8), .mov (.t 1), none, []⟩,
    ⟨(some 9), .len .sl (.t 8), none, []⟩,
    ⟨(some 10), .bin .neq .none (.t 7) (.t 9), none, []⟩])
  (.cond (.t 10)
   (.seq (.ops [⟨(some 4), .mov (.c (.bool false)), none, []⟩])
   .ret)
   .skip))
 (.seq (.seq (.ops [⟨(some 11), .mov (.t 0), none, []⟩,
    ⟨(some 12), .len .sl (.t 11), none, []⟩,
    ⟨(some 13), .mov (.c (.int .i64 0)), none, []⟩])
  (.block 0 (.loop (.seq (.ops [⟨(some 14), .bin .lss .none (.t 13) (.t 12), none, []⟩])
    (.seq (.cond (.t 14)
      .skip
      (.exit 0))
    (.seq (.block 1 (.seq (.ops [⟨(some 15), .mov (.t 13), none, []⟩,
        ⟨(some 5), .mov (.t 15), none, []⟩])
      (.seq (.drawn [⟨(some 16), .mov (.t 0), none, []⟩,
        ⟨(some 17), .mov (.t 5), none, []⟩,
        ⟨(some 18), .indexAddr (.slice 1) (.t 16) (.t 17), none, []⟩,
        ⟨(some 19), .load none (.t 18), none, []⟩,
        ⟨(some 20), .mov (.t 1), none, [3]⟩,
        ⟨(some 21), .mov (.t 5), none, [3]⟩,
        ⟨(some 22), .indexAddr (.slice 1) (.t 20) (.t 21), none, [3]⟩,
        ⟨(some 23), .load none (.t 22), none, [0, 1, 2, 3]⟩,
        ⟨(some 24), .bin .neq .none (.t 19) (.t 23), none, []⟩])
      (.cond (.t 24)
       (.seq (.ops [⟨(some 4), .mov (.c (.bool false)), none, []⟩])
       .ret)
       .skip))))
    (.ops [⟨(some 25), .bin .add .none (.t 13) (.c (.int .i64 1)), none, []⟩,
     ⟨(some 13), .mov (.t 25), none, []⟩])))))))
 (.seq (.ops [⟨(some 4), .mov (.c (.bool true)), none, []⟩])
 .ret)))) }
def fi61 : FnInfo := { m := 148, res := [], ac :=
 (.seq (.ops [⟨(some 10), .mov (.c (.bool true)), none, []⟩])
 (.seq (.ops [⟨(some 11), .mov (.c (.bool true)), none, []⟩])
 (.block 0 (.loop (.block 1 (.seq (.ops [⟨(some 21), .mov (.t 2), none, []⟩,
      ⟨(some 22), .mov (.t 1), none, []⟩,
      ⟨(some 23), .bin .sub .none (.t 21) (.t 22), none, []⟩,
      ⟨(some 12), .mov (.t 23), none, []⟩])
    (.seq (.seq (.ops [⟨(some 24), .mov (.t 12), none, []⟩,
       ⟨(some 25), .bin .leq .none (.t 24) (.c (.int .i64 12)), none, []⟩])
     (.cond (.t 25)
      (.seq (.ops [⟨(some 26), .mov (.t 0), none, []⟩,
        ⟨(some 27), .mov (.t 1), none, []⟩,
        ⟨(some 28), .mov (.t 2), none, []⟩,
        ⟨(some 29), .mov (.t 4), none, []⟩,
        ⟨(some 30), .call 81 [(.t 26), (.t 27), (.t 28), (.t 29)], none, []⟩])
      .ret)
      .skip))
    (.seq (.seq (.ops [⟨(some 31), .mov (.t 3), none, []⟩,
       ⟨(some 32), .bin .eql .none (.t 31) (.c (.int .i64 0)), none, []⟩])
     (.cond (.t 32)
      (.seq (.ops [⟨(some 33), .mov (.t 0), none, []⟩,
        ⟨(some 34), .mov (.t 1), none, []⟩,
        ⟨(some 35), .mov (.t 2), none, []⟩,
        ⟨(some 36), .mov (.t 4), none, []⟩,
        ⟨(some 37), .call 82 [(.t 33), (.t 34), (.t 35), (.t 36)], none, []⟩])
      .ret)
      .skip))
    (.seq (.seq (.ops [⟨(some 38), .mov (.t 10), none, []⟩,
       ⟨(some 39), .un .not (.t 38), none, []⟩])
     (.cond (.t 39)
      (.seq (.ops [⟨(some 40), .mov (.t 0), none, []⟩,
        ⟨(some 41), .mov (.t 1), none, []⟩,
        ⟨(some 42), .mov (.t 2), none, []⟩,
        ⟨(some 43), .mov (.t 4), none, []⟩,
        ⟨(some 44), .call 83 [(.t 40), (.t 41), (.t 42), (.t 43)], none, []⟩])
      (.ops [⟨(some 45), .mov (.t 3), none, []⟩,
       ⟨(some 46), .bin .sub .none (.t 45) (.c (.int .i64 1)), none, []⟩,
       ⟨(some 3), .mov (.t 46), none, []⟩]))
      .skip))
    (.seq (.ops [⟨(some 48), .mov (.t 0), none, []⟩,
      ⟨(some 49), .mov (.t 1), none, []⟩,
      ⟨(some 50), .mov (.t 2), none, []⟩,
      ⟨(some 51), .mov (.t 4), none, []⟩,
      ⟨(some 52), .call 84 [(.t 48), (.t 49), (.t 50), (.t 51)], none, []⟩,
      ⟨(some 47), .mov (.t 52), none, []⟩,
      ⟨(some 53), .extract (.t 47) 0, none, []⟩,
      ⟨(some 54), .extract (.t 47) 1, none, []⟩,
      ⟨(some 13), .mov (.t 53), none, []⟩,
      ⟨(some 14), .mov (.t 54), none, []⟩])
    (.seq (.seq (.ops [⟨(some 55), .mov (.t 14), none, []⟩,
       ⟨(some 56), .bin .eql .none (.t 55) (.c (.int .i64 2)), none, []⟩])
     (.cond (.t 56)
      (.seq (.ops [⟨(some 57), .mov (.t 0), none, []⟩,
        ⟨(some 58), .mov (.t 1), none, []⟩,
        ⟨(some 59), .mov (.t 2), none, []⟩,
        ⟨(some 60), .mov (.t 4), none, []⟩,
        ⟨(some 61), .call 85 [(.t 57), (.t 58), (.t 59), (.t 60)], none, []⟩])
      (.seq (.ops [⟨(some 62), .mov (.t 2), none, []⟩,
        ⟨(some 63), .bin .sub .none (.t 62) (.c (.int .i64 1)), none, []⟩,
        ⟨(some 64), .mov (.t 13), none, []⟩,
        ⟨(some 65), .mov (.t 1), none, []⟩,
        ⟨(some 66), .bin .sub .none (.t 64) (.t 65), none, []⟩,
        ⟨(some 67), .bin .sub .none (.t 63) (.t 66), none, []⟩,
        ⟨(some 13), .mov (.t 67), none, []⟩])
      (.ops [⟨(some 14), .mov (.c (.int .i64 1)), none, []⟩])))
      .skip))
    (.seq (.seq (.ops [⟨(some 68), .mov (.t 10), none, []⟩,
       ⟨(some 69), .mov (.t 68), none, []⟩,
       ⟨(some 70), .mov (.t 11), (some (69, true)), []⟩,
       ⟨(some 71), .pick (.t 69) (.t 70) (.c (.bool false)), none, []⟩,
       ⟨(some 72), .mov (.t 71), none, []⟩,
       ⟨(some 73), .mov (.t 14), (some (72, true)), []⟩,
       ⟨(some 74), .bin .eql .none (.t 73) (.c (.int .i64 1)), (some (72, true)), []⟩,
       ⟨(some 75), .pick (.t 72) (.t 74) (.c (.bool false)), none, []⟩])
     (.cond (.t 75)
      (.seq (.ops [⟨(some 76), .mov (.t 0), none, []⟩,
        ⟨(some 77), .mov (.t 1), none, []⟩,
        ⟨(some 78), .mov (.t 2), none, []⟩,
        ⟨(some 79), .mov (.t 4), none, []⟩,
        ⟨(some 80), .call 86 [(.t 76), (.t 77), (.t 78), (.t 79)], none, []⟩])
      (.cond (.t 80)
       .ret
       .skip))
      .skip))
    (.seq (.seq (.drawn [⟨(some 81), .mov (.t 1), none, []⟩,
       ⟨(some 82), .bin .gtr .none (.t 81) (.c (.int .i64 0)), none, []⟩,
       ⟨(some 83), .mov (.t 82), none, []⟩,
       ⟨(some 84), .mov (.t 4), (some (83, true)), []⟩,
       ⟨(some 85), .mov (.t 0), (some (83, true)), []⟩,
       ⟨(some 86), .mov (.t 1), (some (83, true)), []⟩,
       ⟨(some 87), .bin .sub .none (.t 86) (.c (.int .i64 1)), (some (83, true)), []⟩,
       ⟨(some 88), .indexAddr (.slice 14) (.t 85) (.t 87), (some (83, true)), []⟩,
       ⟨(some 89), .load (some 14) (.t 88), (some (83, true)), [3]⟩,
       ⟨(some 90), .mov (.t 0), (some (83, true)), [8]⟩,
       ⟨(some 91), .mov (.t 13), (some (83, true)), [8]⟩,
       ⟨(some 92), .indexAddr (.slice 14) (.t 90) (.t 91), (some (83, true)), [8]⟩,
       ⟨(some 93), .load (some 14) (.t 92), (some (83, true)), [3, 4, 5, 6, 7, 8]⟩,
       ⟨(some 94), .callv (.t 84) [(.t 89), (.t 93)], (some (83, true)), []⟩,
       ⟨(some 95), .bin .lss .none (.t 94) (.c (.int .i64 0)), (some (83, true)), []⟩,
       ⟨(some 96), .un .not (.t 95), (some (83, true)), []⟩,
       ⟨(some 97), .pick (.t 83) (.t 96) (.c (.bool false)), none, []⟩])
     (.cond (.t 97)
      (.seq (.ops [⟨(some 98), .mov (.t 0), none, []⟩,
        ⟨(some 99), .mov (.t 1), none, []⟩,
        ⟨(some 100), .mov (.t 2), none, []⟩,
        ⟨(some 101), .mov (.t 13), none, []⟩,
        ⟨(some 102), .mov (.t 4), none, []⟩,
        ⟨(some 103), .call 87 [(.t 98), (.t 99), (.t 100), (.t 101), (.t 102)], none, []⟩,
        ⟨(some 15), .mov (.t 103), none, []⟩])
      (.seq (.ops [⟨(some 104), .mov (.t 15), none, []⟩,
        ⟨(some 1), .mov (.t 104), none, []⟩])
      (.exit 1)))
      .skip))
    (.seq (.ops [⟨(some 106), .mov (.t 0), none, []⟩,
      ⟨(some 107), .mov (.t 1), none, []⟩,
      ⟨(some 108), .mov (.t 2), none, []⟩,
      ⟨(some 109), .mov (.t 13), none, []⟩,
      ⟨(some 110), .mov (.t 4), none, []⟩,
      ⟨(some 111), .call 88 [(.t 106), (.t 107), (.t 108), (.t 109), (.t 110)], none, []⟩,
      ⟨(some 105), .mov (.t 111), none, []⟩,
      ⟨(some 112), .extract (.t 105) 0, none, []⟩,
      ⟨(some 113), .extract (.t 105) 1, none, []⟩,
      ⟨(some 16), .mov (.t 112), none, []⟩,
      ⟨(some 17), .mov (.t 113), none, []⟩])
    (.seq (.ops [⟨(some 114), .mov (.t 17), none, []⟩,
      ⟨(some 11), .mov (.t 114), none, []⟩])
    (.seq (.ops [⟨(some 115), .mov (.t 16), none, []⟩,
      ⟨(some 116), .mov (.t 1), none, []⟩,
      ⟨(some 117), .bin .sub .none (.t 115) (.t 116), none, []⟩,
      ⟨(some 118), .mov (.t 2), none, []⟩,
      ⟨(some 119), .mov (.t 16), none, []⟩,
      ⟨(some 120), .bin .sub .none (.t 118) (.t 119), none, []⟩,
      ⟨(some 18), .mov (.t 117), none, []⟩,
      ⟨(some 19), .mov (.t 120), none, []⟩])
    (.seq (.ops [⟨(some 121), .mov (.t 12), none, []⟩,
      ⟨(some 122), .bin .quo .none (.t 121) (.c (.int .i64 8)), none, []⟩,
      ⟨(some 20), .mov (.t 122), none, []⟩])
    (.seq (.ops [⟨(some 123), .mov (.t 18), none, []⟩,
      ⟨(some 124), .mov (.t 19), none, []⟩,
      ⟨(some 125), .bin .lss .none (.t 123) (.t 124), none, []⟩])
    (.cond (.t 125)
     (.seq (.ops [⟨(some 126), .mov (.t 18), none, []⟩,
       ⟨(some 127), .mov (.t 20), none, []⟩,
       ⟨(some 128), .bin .geq .none (.t 126) (.t 127), none, []⟩,
       ⟨(some 10), .mov (.t 128), none, []⟩])
     (.seq (.ops [⟨(some 129), .mov (.t 0), none, []⟩,
       ⟨(some 130), .mov (.t 1), none, []⟩,
       ⟨(some 131), .mov (.t 16), none, []⟩,
       ⟨(some 132), .mov (.t 3), none, []⟩,
       ⟨(some 133), .mov (.t 4), none, []⟩,
       ⟨(some 134), .call 61 [(.t 129), (.t 130), (.t 131), (.t 132), (.t 133)], none, []⟩])
     (.ops [⟨(some 135), .mov (.t 16), none, []⟩,
      ⟨(some 136), .bin .add .none (.t 135) (.c (.int .i64 1)), none, []⟩,
      ⟨(some 1), .mov (.t 136), none, []⟩])))
     (.seq (.ops [⟨(some 137), .mov (.t 19), none, []⟩,
       ⟨(some 138), .mov (.t 20), none, []⟩,
       ⟨(some 139), .bin .geq .none (.t 137) (.t 138), none, []⟩,
       ⟨(some 10), .mov (.t 139), none, []⟩])
     (.seq (.ops [⟨(some 140), .mov (.t 0), none, []⟩,
       ⟨(some 141), .mov (.t 16), none, []⟩,
       ⟨(some 142), .bin .add .none (.t 141) (.c (.int .i64 1)), none, []⟩,
       ⟨(some 143), .mov (.t 2), none, []⟩,
       ⟨(some 144), .mov (.t 3), none, []⟩,
       ⟨(some 145), .mov (.t 4), none, []⟩,
       ⟨(some 146), .call 61 [(.t 140), (.t 142), (.t 143), (.t 144), (.t 145)], none, []⟩])
     (.ops [⟨(some 147), .mov (.t 16), none, []⟩,
      ⟨(some 2), .mov (.t 147), none, []⟩])))))))))))))))))))))) }
def fi62 : FnInfo := { m := 6, res := [(.tmp 2)], ac :=
 (.seq (.ops [⟨(some 2), .mov (.c (.bool false)), none, []⟩])
 (.seq (.ops [⟨(some 3), .mov (.t 0), none, []⟩,
   ⟨(some 4), .mov (.t 0), none, []⟩,
   ⟨(some 5), .bin .neq .none (.t 3) (.t 4), none, []⟩,
   ⟨(some 2), .mov (.t 5), none, []⟩])
 .ret)) }
def fi72 : FnInfo := { m := 19, res := [(.tmp 2)], ac :=
 (.seq (.ops [⟨(some 2), .mov (.c (.int .i64 0)), none, []⟩])
 (.seq (.seq (.ops [⟨(some 3), .mov (.t 0), none, []⟩,
    ⟨(some 4), .bin .geq .none (.t 3) (.c (.int .u32 65536)), none, []⟩])
  (.cond (.t 4)
   (.seq (.ops [⟨(some 5), .mov (.t 0), none, []⟩,
     ⟨(some 6), .bin .shr .none (.t 5) (.c (.int .u64 16)), none, []⟩,
     ⟨(some 0), .mov (.t 6), none, []⟩])
   (.ops [⟨(some 2), .mov (.c (.int .i64 16)), none, []⟩]))
   .skip))
 (.seq (.seq (.ops [⟨(some 7), .mov (.t 0), none, []⟩,
    ⟨(some 8), .bin .geq .none (.t 7) (.c (.int .u32 256)), none, []⟩])
  (.cond (.t 8)
   (.seq (.ops [⟨(some 9), .mov (.t 0), none, []⟩,
     ⟨(some 10), .bin .shr .none (.t 9) (.c (.int .u64 8)), none, []⟩,
     ⟨(some 0), .mov (.t 10), none, []⟩])
   (.ops [⟨(some 11), .mov (.t 2), none, []⟩,
    ⟨(some 12), .bin .add .none (.t 11) (.c (.int .i64 8)), none, []⟩,
    ⟨(some 2), .mov (.t 12), none, []⟩]))
   .skip))
 (.seq (.ops [⟨(some 13), .mov (.t 2), none, []⟩,
   ⟨(some 14), .mov (.t 0), none, []⟩,
   ⟨(some 15), .conv (.int .u8) (.t 14), none, []⟩,
   ⟨(some 16), .index .str none (.c (.str ⟨#[0, 1, 2, 2, 3, 3, 3, 3, 4, 4, 4, 4, 4, 4, 4, 4, 5, 5, 5, 5, 5, 5, 5, 5, 5, 5, 5, 5, 5, 5, 5, 5, 6, 6, 6, 6, 6, 6, 6, 6, 6, 6, 6, 6, 6, 6, 6, 6, 6, 6, 6, 6, 6, 6, 6, 6, 6, 6, 6, 6, 6, 6, 6, 6, 7, 7, 7, 7, 7, 7, 7, 7, 7, 7, 7, 7, 7, 7, 7, 7, 7, 7, 7, 7, 7, 7, 7, 7, 7, 7, 7, 7, 7, 7, 7, 7, 7, 7, 7, 7, 7, 7, 7, 7, 7, 7, 7, 7, 7, 7, 7, 7, 7, 7, 7, 7, 7, 7, 7, 7, 7, 7, 7, 7, 7, 7, 7, 7, 8, 8, 8, 8, 8, 8, 8, 8, 8, 8, 8, 8, 8, 8, 8, 8, 8, 8, 8, 8, 8, 8, 8, 8, 8, 8, 8, 8, 8, 8, 8, 8, 8, 8, 8, 8, 8, 8, 8, 8, 8, 8, 8, 8, 8, 8, 8, 8, 8, 8, 8, 8, 8, 8, 8, 8, 8, 8, 8, 8, 8, 8, 8, 8, 8, 8, 8, 8, 8, 8, 8, 8, 8, 8, 8, 8, 8, 8, 8, 8, 8, 8, 8, 8, 8, 8, 8, 8, 8, 8, 8, 8, 8, 8, 8, 8, 8, 8, 8, 8, 8, 8, 8, 8, 8, 8, 8, 8, 8, 8, 8, 8, 8, 8, 8, 8, 8, 8, 8, 8, 8, 8, 8, 8, 8, 8, 8, 8]⟩)) (.t 15), none, []⟩,
   ⟨(some 17), .conv (.int .i64) (.t 16), none, []⟩,
   ⟨(some 18), .bin .add .none (.t 13) (.t 17), none, []⟩,
   ⟨(some 2), .mov (.t 18), none, []⟩])
 .ret)))) }
def fi73 : FnInfo := { m := 25, res := [(.tmp 2)], ac :=
 (.seq (.ops [⟨(some 2), .mov (.c (.int .i64 0)), none, []⟩])
 (.seq (.seq (.ops [⟨(some 3), .mov (.t 0), none, []⟩,
    ⟨(some 4), .bin .geq .none (.t 3) (.c (.int .u64 4294967296)), none, []⟩])
  (.cond (.t 4)
   (.seq (.ops [⟨(some 5), .mov (.t 0), none, []⟩,
     ⟨(some 6), .bin .shr .none (.t 5) (.c (.int .u64 32)), none, []⟩,
     ⟨(some 0), .mov (.t 6), none, []⟩])
   (.ops [⟨(some 2), .mov (.c (.int .i64 32)), none, []⟩]))
   .skip))
 (.seq (.seq (.ops [⟨(some 7), .mov (.t 0), none, []⟩,
    ⟨(some 8), .bin .geq .none (.t 7) (.c (.int .u64 65536)), none, []⟩])
  (.cond (.t 8)
   (.seq (.ops [⟨(some 9), .mov (.t 0), none, []⟩,
     ⟨(some 10), .bin .shr .none (.t 9) (.c (.int .u64 16)), none, []⟩,
     ⟨(some 0), .mov (.t 10), none, []⟩])
   (.ops [⟨(some 11), .mov (.t 2), none, []⟩,
    ⟨(some 12), .bin .add .none (.t 11) (.c (.int .i64 16)), none, []⟩,
    ⟨(some 2), .mov (.t 12), none, []⟩]))
   .skip))
 (.seq (.seq (.ops [⟨(some 13), .mov (.t 0), none, []⟩,
    ⟨(some 14), .bin .geq .none (.t 13) (.c (.int .u64 256)), none, []⟩])
  (.cond (.t 14)
   (.seq (.ops [⟨(some 15), .mov (.t 0), none, []⟩,
     ⟨(some 16), .bin .shr .none (.t 15) (.c (.int .u64 8)), none, []⟩,
     ⟨(some 0), .mov (.t 16), none, []⟩])
   (.ops [⟨(some 17), .mov (.t 2), none, []⟩,
    ⟨(some 18), .bin .add .none (.t 17) (.c (.int .i64 8)), none, []⟩,
    ⟨(some 2), .mov (.t 18), none, []⟩]))
   .skip))
 (.seq (.ops [⟨(some 19), .mov (.t 2), none, []⟩,
   ⟨(some 20), .mov (.t 0), none, []⟩,
   ⟨(some 21), .conv (.int .u8) (.t 20), none, []⟩,
   ⟨(some 22), .index .str none (.c (.str ⟨#[0, 1, 2, 2, 3, 3, 3, 3, 4, 4, 4, 4, 4, 4, 4, 4, 5, 5, 5, 5, 5, 5, 5, 5, 5, 5, 5, 5, 5, 5, 5, 5, 6, 6, 6, 6, 6, 6, 6, 6, 6, 6, 6, 6, 6, 6, 6, 6, 6, 6, 6, 6, 6, 6, 6, 6, 6, 6, 6, 6, 6, 6, 6, 6, 7, 7, 7, 7, 7, 7, 7, 7, 7, 7, 7, 7, 7, 7, 7, 7, 7, 7, 7, 7, 7, 7, 7, 7, 7, 7, 7, 7, 7, 7, 7, 7, 7, 7, 7, 7, 7, 7, 7, 7, 7, 7, 7, 7, 7, 7, 7, 7, 7, 7, 7, 7, 7, 7, 7, 7, 7, 7, 7, 7, 7, 7, 7, 7, 8, 8, 8, 8, 8, 8, 8, 8, 8, 8, 8, 8, 8, 8, 8, 8, 8, 8, 8, 8, 8, 8, 8, 8, 8, 8, 8, 8, 8, 8, 8, 8, 8, 8, 8, 8, 8, 8, 8, 8, 8, 8, 8, 8, 8, 8, 8, 8, 8, 8, 8, 8, 8, 8, 8, 8, 8, 8, 8, 8, 8, 8, 8, 8, 8, 8, 8, 8, 8, 8, 8, 8, 8, 8, 8, 8, 8, 8, 8, 8, 8, 8, 8, 8, 8, 8, 8, 8, 8, 8, 8, 8, 8, 8, 8, 8, 8, 8, 8, 8, 8, 8, 8, 8, 8, 8, 8, 8, 8, 8, 8, 8, 8, 8, 8, 8, 8, 8, 8, 8, 8, 8, 8, 8, 8, 8, 8, 8]⟩)) (.t 21), none, []⟩,
   ⟨(some 23), .conv (.int .i64) (.t 22), none, []⟩,
   ⟨(some 24), .bin .add .none (.t 19) (.t 23), none, []⟩,
   ⟨(some 2), .mov (.t 24), none, []⟩])
 .ret))))) }
def fi74 : FnInfo := { m := 15, res := [(.cell 2 (some 4))], ac :=
 (.seq (.ops [⟨(some 2), .alloc [(.int .u8 0), (.int .u8 0), (.int .u8 0), (.int .u8 0)], none, []⟩])
 (.seq (.ops [⟨(some 3), .mov (.t 0), none, []⟩,
   ⟨(some 4), .bin .shr .none (.t 3) (.c (.int .u64 24)), none, []⟩,
   ⟨(some 5), .conv (.int .u8) (.t 4), none, []⟩,
   ⟨(some 6), .mov (.t 0), none, []⟩,
   ⟨(some 7), .bin .shr .none (.t 6) (.c (.int .u64 16)), none, []⟩,
   ⟨(some 8), .conv (.int .u8) (.t 7), none, []⟩,
   ⟨(some 9), .mov (.t 0), none, []⟩,
   ⟨(some 10), .bin .shr .none (.t 9) (.c (.int .u64 8)), none, []⟩,
   ⟨(some 11), .conv (.int .u8) (.t 10), none, []⟩,
   ⟨(some 12), .mov (.t 0), none, []⟩,
   ⟨(some 13), .conv (.int .u8) (.t 12), none, []⟩,
   ⟨(some 14), .build [(.int .u8 0), (.int .u8 0), (.int .u8 0), (.int .u8 0)] [(0, 1, (.t 5)), (1, 1, (.t 8)), (2, 1, (.t 11)), (3, 1, (.t 13))], none, []⟩,
   ⟨none, .store 4 (.t 2) (.t 14), none, []⟩])
 .ret)) }
def fi75 : FnInfo := { m := 17, res := [(.tmp 2)], ac :=
 (.seq (.ops [⟨(some 1), .box (.t 0), none, []⟩,
   ⟨(some 2), .mov (.c (.int .u32 0)), none, []⟩])
 (.seq (.ops [⟨(some 3), .mov (.c (.int .u32 0)), none, []⟩])
 (.seq (.seq (.ops [⟨(some 6), .load (some 4) (.t 1), none, []⟩,
    ⟨(some 7), .mov (.c (.int .i64 0)), none, []⟩])
  (.block 0 (.loop (.seq (.ops [⟨(some 8), .bin .lss .none (.t 7) (.c (.int .i64 4)), none, []⟩])
    (.seq (.cond (.t 8)
      .skip
      (.exit 0))
    (.seq (.block 1 (.seq (.ops [⟨(some 9), .index (.array 4 1) none (.t 6) (.t 7), none, []⟩,
        ⟨(some 5), .mov (.t 9), none, []⟩])
      (.ops [⟨(some 10), .mov (.t 3), none, []⟩,
       ⟨(some 11), .bin .shl .none (.t 10) (.c (.int .u64 8)), none, []⟩,
       ⟨(some 12), .mov (.t 5), none, []⟩,
       ⟨(some 13), .conv (.int .u32) (.t 12), none, []⟩,
       ⟨(some 14), .bin .or .none (.t 11) (.t 13), none, []⟩,
       ⟨(some 3), .mov (.t 14), none, []⟩])))
    (.ops [⟨(some 15), .bin .add .none (.t 7) (.c (.int .i64 1)), none, []⟩,
     ⟨(some 7), .mov (.t 15), none, []⟩])))))))
 (.seq (.ops [⟨(some 16), .mov (.t 3), none, []⟩,
   ⟨(some 2), .mov (.t 16), none, []⟩])
 .ret)))) }
def fi76 : FnInfo := { m := 8, res := [(.tmp 2)], ac :=
 (.seq (.ops [⟨(some 2), .mov (.c (.int .u32 0)), none, []⟩])
 (.seq (.ops [⟨(some 3), .mov (.t 0), none, []⟩,
   ⟨(some 4), .minmax false [(.t 3), (.c (.int .i64 32))], none, []⟩,
   ⟨(some 5), .minmax true [(.c (.int .i64 0)), (.t 4)], none, []⟩,
   ⟨(some 6), .bin .sub .none (.c (.int .i64 32)) (.t 5), none, []⟩,
   ⟨(some 7), .bin .shl .none (.c (.int .u32 4294967295)) (.t 6), none, []⟩,
   ⟨(some 2), .mov (.t 7), none, []⟩])
 .ret)) }
def fi77 : FnInfo := { m := 8, res := [(.tmp 2)], ac :=
 (.seq (.ops [⟨(some 2), .mov (.c (.int .i64 0)), none, []⟩])
 (.seq (.seq (.ops [⟨(some 3), .mov (.t 0), none, []⟩,
    ⟨(some 4), .bin .lss .none (.t 3) (.c (.int .i64 0)), none, []⟩])
  (.cond (.t 4)
   (.seq (.ops [⟨(some 2), .mov (.c (.int .i64 0)), none, []⟩])
   .ret)
   .skip))
 (.seq (.seq (.ops [⟨(some 5), .mov (.t 0), none, []⟩,
    ⟨(some 6), .bin .gtr .none (.t 5) (.c (.int .i64 32)), none, []⟩])
  (.cond (.t 6)
   (.seq (.ops [⟨(some 2), .mov (.c (.int .i64 32)), none, []⟩])
   .ret)
   .skip))
 (.seq (.ops [⟨(some 7), .mov (.t 0), none, []⟩,
   ⟨(some 2), .mov (.t 7), none, []⟩])
 .ret)))) }
def fi78 : FnInfo := { m := 31, res := [(.cell 4 (some 5))], ac :=
 (.seq (.ops [⟨(some 2), .box (.t 0), none, []⟩,
   ⟨(some 4), .alloc [(.int .u8 0), (.int .u8 0), (.int .u8 0), (.int .u8 0), (.int .i64 0)], none, []⟩])
 (.seq (.ops [⟨(some 9), .load (some 4) (.t 2), none, []⟩,
   ⟨(some 10), .call 94 [(.t 9)], none, []⟩,
   ⟨(some 5), .mov (.t 10), none, []⟩])
 (.seq (.ops [⟨(some 11), .mov (.t 1), none, []⟩,
   ⟨(some 12), .call 77 [(.t 11)], none, []⟩,
   ⟨(some 6), .mov (.t 12), none, []⟩])
 (.seq (.seq (.ops [⟨(some 13), .mov (.t 6), none, []⟩,
    ⟨(some 7), .mov (.t 13), none, []⟩])
  (.block 0 (.loop (.seq (.seq (.ops [⟨(some 14), .mov (.t 7), none, []⟩,
       ⟨(some 15), .bin .lss .none (.t 14) (.c (.int .i64 32)), none, []⟩])
     (.cond (.t 15)
      .skip
      (.exit 0)))
    (.seq (.block 1 (.ops [⟨(some 18), .mov (.t 5), none, []⟩,
       ⟨(some 19), .bin .quo .none (.t 18) (.c (.int .u32 2)), none, []⟩,
       ⟨(some 5), .mov (.t 19), none, []⟩]))
    (.ops [⟨(some 16), .mov (.t 7), none, []⟩,
     ⟨(some 17), .bin .add .none (.t 16) (.c (.int .i64 1)), none, []⟩,
     ⟨(some 7), .mov (.t 17), none, []⟩]))))))
 (.seq (.seq (.ops [⟨(some 20), .mov (.t 6), none, []⟩,
    ⟨(some 8), .mov (.t 20), none, []⟩])
  (.block 2 (.loop (.seq (.seq (.ops [⟨(some 21), .mov (.t 8), none, []⟩,
       ⟨(some 22), .bin .lss .none (.t 21) (.c (.int .i64 32)), none, []⟩])
     (.cond (.t 22)
      .skip
      (.exit 2)))
    (.seq (.block 3 (.ops [⟨(some 25), .mov (.t 5), none, []⟩,
       ⟨(some 26), .bin .mul .none (.t 25) (.c (.int .u32 2)), none, []⟩,
       ⟨(some 5), .mov (.t 26), none, []⟩]))
    (.ops [⟨(some 23), .mov (.t 8), none, []⟩,
     ⟨(some 24), .bin .add .none (.t 23) (.c (.int .i64 1)), none, []⟩,
     ⟨(some 8), .mov (.t 24), none, []⟩]))))))
 (.seq (.ops [⟨(some 27), .mov (.t 5), none, []⟩,
   ⟨(some 28), .call 95 [(.t 27)], none, []⟩,
   ⟨(some 29), .mov (.t 6), none, []⟩,
   ⟨(some 30), .build [(.int .u8 0), (.int .u8 0), (.int .u8 0), (.int .u8 0), (.int .i64 0)] [(0, 4, (.t 28)), (4, 1, (.t 29))], none, []⟩,
   ⟨none, .store 5 (.t 4) (.t 30), none, []⟩])
 .ret)))))) }
def fi79 : FnInfo := { m := 19, res := [(.tmp 4)], ac :=
 (.seq (.ops [⟨(some 4), .mov (.c (.int .i64 0)), none, []⟩])
 (.seq (.seq (.ops [⟨(some 6), .mov (.t 0), none, []⟩,
    ⟨(some 7), .len .sl (.t 6), none, []⟩,
    ⟨(some 8), .mov (.c (.int .i64 0)), none, []⟩])
  (.block 0 (.loop (.seq (.ops [⟨(some 9), .bin .lss .none (.t 8) (.t 7), none, []⟩])
    (.seq (.cond (.t 9)
      .skip
      (.exit 0))
    (.seq (.block 1 (.seq (.ops [⟨(some 10), .mov (.t 8), none, []⟩,
        ⟨(some 5), .mov (.t 10), none, []⟩])
      (.seq (.ops [⟨(some 11), .mov (.t 1), none, []⟩,
        ⟨(some 12), .mov (.t 0), none, []⟩,
        ⟨(some 13), .mov (.t 5), none, []⟩,
        ⟨(some 14), .indexAddr (.slice 13) (.t 12) (.t 13), none, []⟩,
        ⟨(some 15), .load (some 13) (.t 14), none, []⟩,
        ⟨(some 16), .callv (.t 11) [(.t 15)], none, []⟩])
      (.cond (.t 16)
       (.seq (.ops [⟨(some 17), .mov (.t 5), none, []⟩,
         ⟨(some 4), .mov (.t 17), none, []⟩])
       .ret)
       .skip))))
    (.ops [⟨(some 18), .bin .add .none (.t 8) (.c (.int .i64 1)), none, []⟩,
     ⟨(some 8), .mov (.t 18), none, []⟩])))))))
 (.seq (.ops [⟨(some 4), .mov (.c (.int .i64 (-1))), none, []⟩])
 .ret))) }
def fi80 : FnInfo := { m := 19, res := [(.tmp 4)], ac :=
 (.seq (.ops [⟨(some 4), .mov (.c (.int .i64 0)), none, []⟩])
 (.seq (.seq (.ops [⟨(some 6), .mov (.t 0), none, []⟩,
    ⟨(some 7), .len .sl (.t 6), none, []⟩,
    ⟨(some 8), .mov (.c (.int .i64 0)), none, []⟩])
  (.block 0 (.loop (.seq (.ops [⟨(some 9), .bin .lss .none (.t 8) (.t 7), none, []⟩])
    (.seq (.cond (.t 9)
      .skip
      (.exit 0))
    (.seq (.block 1 (.seq (.ops [⟨(some 10), .mov (.t 8), none, []⟩,
        ⟨(some 5), .mov (.t 10), none, []⟩])
      (.seq (.ops [⟨(some 11), .mov (.t 1), none, []⟩,
        ⟨(some 12), .mov (.t 0), none, []⟩,
        ⟨(some 13), .mov (.t 5), none, []⟩,
        ⟨(some 14), .indexAddr (.slice 1) (.t 12) (.t 13), none, []⟩,
        ⟨(some 15), .load none (.t 14), none, []⟩,
        ⟨(some 16), .bin .eql .none (.t 11) (.t 15), none, []⟩])
      (.cond (.t 16)
       (.seq (.ops [⟨(some 17), .mov (.t 5), none, []⟩,
         ⟨(some 4), .mov (.t 17), none, []⟩])
       .ret)
       .skip))))
    (.ops [⟨(some 18), .bin .add .none (.t 8) (.c (.int .i64 1)), none, []⟩,
     ⟨(some 8), .mov (.t 18), none, []⟩])))))))
 (.seq (.ops [⟨(some 4), .mov (.c (.int .i64 (-1))), none, []⟩])
 .ret))) }
def fi81 : FnInfo := { m := 53, res := [], ac :=
 (.seq (.ops [⟨(some 10), .mov (.t 1), none, []⟩,
   ⟨(some 11), .bin .add .none (.t 10) (.c (.int .i64 1)), none, []⟩,
   ⟨(some 8), .mov (.t 11), none, []⟩])
 (.block 0 (.loop (.seq (.seq (.ops [⟨(some 12), .mov (.t 8), none, []⟩,
      ⟨(some 13), .mov (.t 2), none, []⟩,
      ⟨(some 14), .bin .lss .none (.t 12) (.t 13), none, []⟩])
    (.cond (.t 14)
     .skip
     (.exit 0)))
   (.seq (.block 1 (.seq (.ops [⟨(some 17), .mov (.t 8), none, []⟩,
       ⟨(some 9), .mov (.t 17), none, []⟩])
     (.block 2 (.loop (.seq (.seq (.drawn [⟨(some 18), .mov (.t 9), none, []⟩,
          ⟨(some 19), .mov (.t 1), none, []⟩,
          ⟨(some 20), .bin .gtr .none (.t 18) (.t 19), none, []⟩,
          ⟨(some 21), .mov (.t 20), none, []⟩,
          ⟨(some 22), .mov (.t 3), (some (21, true)), []⟩,
          ⟨(some 23), .mov (.t 0), (some (21, true)), []⟩,
          ⟨(some 24), .mov (.t 9), (some (21, true)), []⟩,
          ⟨(some 25), .indexAddr (.slice 14) (.t 23) (.t 24), (some (21, true)), []⟩,
          ⟨(some 26), .load (some 14) (.t 25), (some (21, true)), [4]⟩,
          ⟨(some 27), .mov (.t 0), (some (21, true)), [8]⟩,
          ⟨(some 28), .mov (.t 9), (some (21, true)), [8]⟩,
          ⟨(some 29), .bin .sub .none (.t 28) (.c (.int .i64 1)), (some (21, true)), [8]⟩,
          ⟨(some 30), .indexAddr (.slice 14) (.t 27) (.t 29), (some (21, true)), [8]⟩,
          ⟨(some 31), .load (some 14) (.t 30), (some (21, true)), [4, 5, 6, 7, 8]⟩,
          ⟨(some 32), .callv (.t 22) [(.t 26), (.t 31)], (some (21, true)), []⟩,
          ⟨(some 33), .bin .lss .none (.t 32) (.c (.int .i64 0)), (some (21, true)), []⟩,
          ⟨(some 34), .pick (.t 21) (.t 33) (.c (.bool false)), none, []⟩])
        (.cond (.t 34)
         .skip
         (.exit 2)))
       (.seq (.block 3 (.drawn [⟨(some 37), .mov (.t 0), none, []⟩,
          ⟨(some 38), .mov (.t 9), none, []⟩,
          ⟨(some 39), .mov (.t 0), none, []⟩,
          ⟨(some 40), .mov (.t 9), none, []⟩,
          ⟨(some 41), .bin .sub .none (.t 40) (.c (.int .i64 1)), none, []⟩,
          ⟨(some 42), .mov (.t 0), none, []⟩,
          ⟨(some 43), .mov (.t 9), none, []⟩,
          ⟨(some 44), .bin .sub .none (.t 43) (.c (.int .i64 1)), none, []⟩,
          ⟨(some 45), .indexAddr (.slice 14) (.t 42) (.t 44), none, []⟩,
          ⟨(some 46), .load (some 14) (.t 45), none, [0, 1, 2, 3, 4]⟩,
          ⟨(some 47), .mov (.t 0), none, [9]⟩,
          ⟨(some 48), .mov (.t 9), none, [9]⟩,
          ⟨(some 49), .indexAddr (.slice 14) (.t 47) (.t 48), none, [9]⟩,
          ⟨(some 50), .load (some 14) (.t 49), none, [0, 1, 2, 3, 4, 5, 6, 7, 8, 9]⟩,
          ⟨(some 51), .indexAddr (.slice 14) (.t 37) (.t 38), none, []⟩,
          ⟨none, .store 14 (.t 51) (.t 46), none, [2, 3, 4]⟩,
          ⟨(some 52), .indexAddr (.slice 14) (.t 39) (.t 41), none, []⟩,
          ⟨none, .store 14 (.t 52) (.t 50), none, []⟩]))
       (.ops [⟨(some 35), .mov (.t 9), none, []⟩,
        ⟨(some 36), .bin .sub .none (.t 35) (.c (.int .i64 1)), none, []⟩,
        ⟨(some 9), .mov (.t 36), none, []⟩])))))))
   (.ops [⟨(some 15), .mov (.t 8), none, []⟩,
    ⟨(some 16), .bin .add .none (.t 15) (.c (.int .i64 1)), none, []⟩,
    ⟨(some 8), .mov (.t 16), none, []⟩])))))) }
def fi94 : FnInfo := { m := 21, res := [(.tmp 2)], ac :=
 (.seq (.ops [⟨(some 1), .box (.t 0), none, []⟩,
   ⟨(some 2), .mov (.c (.int .u32 0)), none, []⟩])
 (.seq (.ops [⟨(some 3), .indexAddr (.array 4 1) (.t 1) (.c (.int .i64 0)), none, []⟩,
   ⟨(some 4), .load none (.t 3), none, []⟩,
   ⟨(some 5), .conv (.int .u32) (.t 4), none, []⟩,
   ⟨(some 6), .bin .mul .none (.t 5) (.c (.int .u32 16777216)), none, []⟩,
   ⟨(some 7), .indexAddr (.array 4 1) (.t 1) (.c (.int .i64 1)), none, []⟩,
   ⟨(some 8), .load none (.t 7), none, []⟩,
   ⟨(some 9), .conv (.int .u32) (.t 8), none, []⟩,
   ⟨(some 10), .bin .mul .none (.t 9) (.c (.int .u32 65536)), none, []⟩,
   ⟨(some 11), .bin .add .none (.t 6) (.t 10), none, []⟩,
   ⟨(some 12), .indexAddr (.array 4 1) (.t 1) (.c (.int .i64 2)), none, []⟩,
   ⟨(some 13), .load none (.t 12), none, []⟩,
   ⟨(some 14), .conv (.int .u32) (.t 13), none, []⟩,
   ⟨(some 15), .bin .mul .none (.t 14) (.c (.int .u32 256)), none, []⟩,
   ⟨(some 16), .bin .add .none (.t 11) (.t 15), none, []⟩,
   ⟨(some 17), .indexAddr (.array 4 1) (.t 1) (.c (.int .i64 3)), none, []⟩,
   ⟨(some 18), .load none (.t 17), none, []⟩,
   ⟨(some 19), .conv (.int .u32) (.t 18), none, []⟩,
   ⟨(some 20), .bin .add .none (.t 16) (.t 19), none, []⟩,
   ⟨(some 2), .mov (.t 20), none, []⟩])
 .ret)) }
def fi95 : FnInfo := { m := 18, res := [(.cell 2 (some 4))], ac :=
 (.seq (.ops [⟨(some 2), .alloc [(.int .u8 0), (.int .u8 0), (.int .u8 0), (.int .u8 0)], none, []⟩])
 (.seq (.ops [⟨(some 3), .mov (.t 0), none, []⟩,
   ⟨(some 4), .bin .quo .none (.t 3) (.c (.int .u32 16777216)), none, []⟩,
   ⟨(some 5), .conv (.int .u8) (.t 4), none, []⟩,
   ⟨(some 6), .mov (.t 0), none, []⟩,
   ⟨(some 7), .bin .quo .none (.t 6) (.c (.int .u32 65536)), none, []⟩,
   ⟨(some 8), .bin .rem .none (.t 7) (.c (.int .u32 256)), none, []⟩,
   ⟨(some 9), .conv (.int .u8) (.t 8), none, []⟩,
   ⟨(some 10), .mov (.t 0), none, []⟩,
   ⟨(some 11), .bin .quo .none (.t 10) (.c (.int .u32 256)), none, []⟩,
   ⟨(some 12), .bin .rem .none (.t 11) (.c (.int .u32 256)), none, []⟩,
   ⟨(some 13), .conv (.int .u8) (.t 12), none, []⟩,
   ⟨(some 14), .mov (.t 0), none, []⟩,
   ⟨(some 15), .bin .rem .none (.t 14) (.c (.int .u32 256)), none, []⟩,
   ⟨(some 16), .conv (.int .u8) (.t 15), none, []⟩,
   ⟨(some 17), .build [(.int .u8 0), (.int .u8 0), (.int .u8 0), (.int .u8 0)] [(0, 1, (.t 5)), (1, 1, (.t 9)), (2, 1, (.t 13)), (3, 1, (.t 16))], none, []⟩,
   ⟨none, .store 4 (.t 2) (.t 17), none, []⟩])
 .ret)) }
def tbl : FuncId → Option FnInfo
  | 3 => some fi3
  | 4 => some fi4
  | 5 => some fi5
  | 6 => some fi6
  | 7 => some fi7
  | 8 => some fi8
  | 9 => some fi9
  | 10 => some fi10
  | 11 => some fi11
  | 12 => some fi12
  | 13 => some fi13
  | 14 => some fi14
  | 15 => some fi15
  | 17 => some fi17
  | 18 => some fi18
  | 19 => some fi19
  | 20 => some fi20
  | 21 => some fi21
  | 22 => some fi22
  | 23 => some fi23
  | 24 => some fi24
  | 25 => some fi25
  | 26 => some fi26
  | 30 => some fi30
  | 31 => some fi31
  | 32 => some fi32
  | 33 => some fi33
  | 34 => some fi34
  | 35 => some fi35
  | 36 => some fi36
  | 37 => some fi37
  | 38 => some fi38
  | 39 => some fi39
  | 40 => some fi40
  | 41 => some fi41
  | 42 => some fi42
  | 43 => some fi43
  | 44 => some fi44
  | 45 => some fi45
  | 46 => some fi46
  | 47 => some fi47
  | 50 => some fi50
  | 51 => some fi51
  | 52 => some fi52
  | 53 => some fi53
  | 54 => some fi54
  | 55 => some fi55
  | 56 => some fi56
  | 57 => some fi57
  | 58 => some fi58
  | 59 => some fi59
  | 60 => some fi60
  | 61 => some fi61
  | 62 => some fi62
  | 72 => some fi72
  | 73 => some fi73
  | 74 => some fi74
  | 75 => some fi75
  | 76 => some fi76
  | 77 => some fi77
  | 78 => some fi78
  | 79 => some fi79
  | 80 => some fi80
  | 81 => some fi81
  | 94 => some fi94
  | 95 => some fi95
  | _ => none
end Go.Fw.Sy.Tx
