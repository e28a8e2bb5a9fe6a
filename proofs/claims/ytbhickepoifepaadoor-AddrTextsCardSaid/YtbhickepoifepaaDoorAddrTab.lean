/- A part of the proof: a table of the compiled functions. -/
import Derived.Test.YtbhickepoifepaaDoorFwY2
set_option maxRecDepth 10000
namespace Go.Fw.Sy.Ad

def fi3 : FnInfo := { m := 81, res := [(.tmp 4)], ac :=
 (.seq (.ops [⟨(some 2), .box (.t 0), none, []⟩,
   ⟨(some 3), .box (.t 1), none, []⟩,
   ⟨(some 4), .mov (.c (.bool false)), none, []⟩])
 (.seq (.seq (.ops [⟨(some 8), .call 7 [], none, []⟩,
    ⟨(some 9), .un .not (.t 8), none, []⟩])
  (.cond (.t 9)
   (.seq (.ops [⟨(some 4), .mov (.c (.bool false)), none, []⟩])
   .ret)
   .skip))
 (.seq (.seq (.ops [⟨(some 10), .indexAddr (.array 2 1) (.t 3) (.c (.int .i64 0)), none, []⟩,
    ⟨(some 11), .load none (.t 10), none, []⟩,
    ⟨(some 12), .bin .lss .none (.t 11) (.c (.int .i64 0)), none, []⟩,
    ⟨(some 13), .mov (.t 12), none, []⟩,
    ⟨(some 14), .indexAddr (.array 2 1) (.t 3) (.c (.int .i64 1)), (some (13, false)), []⟩,
    ⟨(some 15), .load none (.t 14), (some (13, false)), []⟩,
    ⟨(some 16), .indexAddr (.array 2 1) (.t 3) (.c (.int .i64 0)), (some (13, false)), []⟩,
    ⟨(some 17), .load none (.t 16), (some (13, false)), []⟩,
    ⟨(some 18), .bin .lss .none (.t 15) (.t 17), (some (13, false)), []⟩,
    ⟨(some 19), .pick (.t 13) (.c (.bool true)) (.t 18), none, []⟩,
    ⟨(some 20), .mov (.t 19), none, []⟩,
    ⟨(some 21), .indexAddr (.array 2 1) (.t 3) (.c (.int .i64 1)), (some (20, false)), []⟩,
    ⟨(some 22), .load none (.t 21), (some (20, false)), []⟩,
    ⟨(some 23), .bin .gtr .none (.t 22) (.c (.int .i64 32)), (some (20, false)), []⟩,
    ⟨(some 24), .pick (.t 20) (.c (.bool true)) (.t 23), none, []⟩])
  (.cond (.t 24)
   (.seq (.ops [⟨(some 4), .mov (.c (.bool true)), none, []⟩])
   .ret)
   .skip))
 (.seq (.drawn [⟨(some 25), .load (some 4) (.t 2), none, []⟩,
   ⟨(some 26), .indexAddr (.array 2 1) (.t 3) (.c (.int .i64 0)), none, [0]⟩,
   ⟨(some 27), .load none (.t 26), none, [0]⟩,
   ⟨(some 28), .call 8 [(.t 25), (.t 27)], none, []⟩,
   ⟨(some 29), .load (some 4) (.t 2), none, [0, 1, 2, 3]⟩,
   ⟨(some 30), .indexAddr (.array 2 1) (.t 3) (.c (.int .i64 1)), none, [0, 2, 3, 4]⟩,
   ⟨(some 31), .load none (.t 30), none, [0, 1, 2, 3, 4]⟩,
   ⟨(some 32), .call 8 [(.t 29), (.t 31)], none, []⟩,
   ⟨(some 5), .alloc [(.int .u8 0), (.int .u8 0), (.int .u8 0), (.int .u8 0), (.int .i64 0)], none, [0, 1, 2, 3, 4, 5, 6, 7]⟩,
   ⟨(some 6), .alloc [(.int .u8 0), (.int .u8 0), (.int .u8 0), (.int .u8 0), (.int .i64 0)], none, [0, 1, 2, 3, 4, 5, 6, 7, 8]⟩,
   ⟨none, .store 5 (.t 5) (.t 28), none, []⟩,
   ⟨none, .store 5 (.t 6) (.t 32), none, []⟩])
 (.seq (.seq (.drawn [⟨(some 33), .fieldAddr 0 (.t 6), none, []⟩,
    ⟨(some 34), .load (some 4) (.t 33), none, []⟩,
    ⟨(some 35), .indexAddr (.array 2 1) (.t 3) (.c (.int .i64 0)), none, [1]⟩,
    ⟨(some 36), .load none (.t 35), none, [0, 1]⟩,
    ⟨(some 37), .call 8 [(.t 34), (.t 36)], none, []⟩,
    ⟨(some 38), .load (some 5) (.t 5), none, [0, 1, 2, 3, 4]⟩,
    ⟨(some 39), .bin .neq (.agg [.int, .int, .int, .int, .int]) (.t 37) (.t 38), none, []⟩,
    ⟨(some 40), .mov (.t 39), none, []⟩,
    ⟨(some 41), .load (some 5) (.t 6), (some (40, false)), []⟩,
    ⟨(some 42), .load (some 5) (.t 5), (some (40, false)), [8]⟩,
    ⟨(some 43), .call 9 [(.t 41), (.t 42)], (some (40, false)), []⟩,
    ⟨(some 44), .un .not (.t 43), (some (40, false)), []⟩,
    ⟨(some 45), .pick (.t 40) (.c (.bool true)) (.t 44), none, []⟩,
    ⟨(some 46), .mov (.t 45), none, []⟩,
    ⟨(some 47), .load (some 4) (.t 2), (some (46, false)), []⟩,
    ⟨(some 48), .load (some 5) (.t 5), (some (46, false)), [14]⟩,
    ⟨(some 49), .call 10 [(.t 47), (.t 48)], (some (46, false)), []⟩,
    ⟨(some 50), .un .not (.t 49), (some (46, false)), []⟩,
    ⟨(some 51), .pick (.t 46) (.c (.bool true)) (.t 50), none, []⟩,
    ⟨(some 52), .mov (.t 51), none, []⟩,
    ⟨(some 53), .load (some 4) (.t 2), (some (52, false)), []⟩,
    ⟨(some 54), .load (some 5) (.t 6), (some (52, false)), [20]⟩,
    ⟨(some 55), .call 10 [(.t 53), (.t 54)], (some (52, false)), []⟩,
    ⟨(some 56), .un .not (.t 55), (some (52, false)), []⟩,
    ⟨(some 57), .pick (.t 52) (.c (.bool true)) (.t 56), none, []⟩])
  (.cond (.t 57)
   (.seq (.ops [⟨(some 4), .mov (.c (.bool false)), none, []⟩])
   .ret)
   .skip))
 (.seq (.seq (.ops [⟨(some 58), .indexAddr (.array 2 1) (.t 3) (.c (.int .i64 0)), none, []⟩,
    ⟨(some 59), .load none (.t 58), none, []⟩,
    ⟨(some 60), .bin .eql .none (.t 59) (.c (.int .i64 0)), none, []⟩])
  (.cond (.t 60)
   (.seq (.ops [⟨(some 61), .load (some 5) (.t 5), none, []⟩,
     ⟨(some 62), .build [(.int .u8 0), (.int .u8 0), (.int .u8 0), (.int .u8 0), (.int .i64 0)] [], none, []⟩,
     ⟨(some 63), .bin .eql (.agg [.int, .int, .int, .int, .int]) (.t 61) (.t 62), none, []⟩,
     ⟨(some 4), .mov (.t 63), none, []⟩])
   .ret)
   .skip))
 (.seq (.drawn [⟨(some 64), .load (some 4) (.t 2), none, []⟩,
   ⟨(some 65), .call 12 [(.t 64)], none, []⟩,
   ⟨(some 66), .indexAddr (.array 2 1) (.t 3) (.c (.int .i64 0)), none, [0, 1]⟩,
   ⟨(some 67), .load none (.t 66), none, [0, 1]⟩,
   ⟨(some 68), .bin .sub .none (.c (.int .i64 32)) (.t 67), none, [0, 1]⟩,
   ⟨(some 69), .bin .shl .none (.c (.int .u32 1)) (.t 68), none, [0, 1]⟩,
   ⟨(some 70), .bin .xor .none (.t 65) (.t 69), none, []⟩,
   ⟨(some 71), .call 11 [(.t 70)], none, []⟩,
   ⟨(some 7), .alloc [(.int .u8 0), (.int .u8 0), (.int .u8 0), (.int .u8 0)], none, [0, 1, 2, 3, 4, 5, 6, 7]⟩,
   ⟨none, .store 4 (.t 7) (.t 71), none, []⟩])
 (.seq (.ops [⟨(some 72), .load (some 4) (.t 7), none, []⟩,
   ⟨(some 73), .load (some 5) (.t 5), none, []⟩,
   ⟨(some 74), .call 10 [(.t 72), (.t 73)], none, []⟩,
   ⟨(some 75), .un .not (.t 74), none, []⟩,
   ⟨(some 76), .mov (.t 75), none, []⟩,
   ⟨(some 77), .load (some 5) (.t 6), (some (76, true)), []⟩,
   ⟨(some 78), .load (some 5) (.t 5), (some (76, true)), []⟩,
   ⟨(some 79), .call 9 [(.t 77), (.t 78)], (some (76, true)), []⟩,
   ⟨(some 80), .pick (.t 76) (.t 79) (.c (.bool false)), none, []⟩,
   ⟨(some 4), .mov (.t 80), none, []⟩])
 .ret)))))))) }
def fi4 : FnInfo := { m := 72, res := [(.tmp 6)], ac :=
 (.seq (.ops [⟨(some 3), .box (.t 0), none, []⟩,
   ⟨(some 4), .box (.t 1), none, []⟩,
   ⟨(some 6), .mov (.c (.bool false)), none, []⟩])
 (.seq (.seq (.ops [⟨(some 15), .call 7 [], none, []⟩,
    ⟨(some 16), .un .not (.t 15), none, []⟩])
  (.cond (.t 16)
   (.seq (.ops [⟨(some 6), .mov (.c (.bool false)), none, []⟩])
   .ret)
   .skip))
 (.seq (.seq (.ops [⟨(some 17), .mov (.t 2), none, []⟩,
    ⟨(some 18), .len .str (.t 17), none, []⟩,
    ⟨(some 19), .bin .gtr .none (.t 18) (.c (.int .i64 200)), none, []⟩])
  (.cond (.t 19)
   (.seq (.ops [⟨(some 6), .mov (.c (.bool true)), none, []⟩])
   .ret)
   .skip))
 (.seq (.ops [⟨(some 21), .mov (.t 2), none, []⟩,
   ⟨(some 22), .call 13 [(.t 21)], none, []⟩,
   ⟨(some 20), .mov (.t 22), none, []⟩,
   ⟨(some 23), .extract (.t 20) 0, none, []⟩,
   ⟨(some 24), .extract (.t 20) 1, none, []⟩,
   ⟨(some 7), .alloc [(.int .u8 0), (.int .u8 0), (.int .u8 0), (.int .u8 0)], none, []⟩,
   ⟨none, .store 4 (.t 7) (.t 23), none, []⟩,
   ⟨(some 8), .mov (.t 24), none, []⟩])
 (.seq (.ops [⟨(some 26), .mov (.t 2), none, []⟩,
   ⟨(some 27), .call 14 [(.t 26)], none, []⟩,
   ⟨(some 25), .mov (.t 27), none, []⟩,
   ⟨(some 28), .extract (.t 25) 0, none, []⟩,
   ⟨(some 29), .extract (.t 25) 1, none, []⟩,
   ⟨(some 9), .alloc [(.int .u8 0), (.int .u8 0), (.int .u8 0), (.int .u8 0)], none, []⟩,
   ⟨none, .store 4 (.t 9) (.t 28), none, []⟩,
   ⟨(some 10), .mov (.t 29), none, []⟩])
 (.seq (.ops [⟨(some 31), .mov (.t 2), none, []⟩,
   ⟨(some 32), .call 15 [(.t 31)], none, []⟩,
   ⟨(some 30), .mov (.t 32), none, []⟩,
   ⟨(some 33), .extract (.t 30) 0, none, []⟩,
   ⟨(some 34), .extract (.t 30) 1, none, []⟩,
   ⟨(some 11), .alloc [(.int .u8 0), (.int .u8 0), (.int .u8 0), (.int .u8 0), (.int .i64 0)], none, []⟩,
   ⟨none, .store 5 (.t 11) (.t 33), none, []⟩,
   ⟨(some 12), .mov (.t 34), none, []⟩])
 (.seq (.ops [⟨(some 36), .mov (.t 2), none, []⟩,
   ⟨(some 37), .call 16 [(.t 36)], none, []⟩,
   ⟨(some 35), .mov (.t 37), none, []⟩,
   ⟨(some 38), .extract (.t 35) 0, none, []⟩,
   ⟨(some 39), .extract (.t 35) 1, none, []⟩,
   ⟨(some 13), .alloc [(.int .u8 0), (.int .u8 0), (.int .u8 0), (.int .u8 0), (.int .i64 0)], none, []⟩,
   ⟨none, .store 5 (.t 13) (.t 38), none, []⟩,
   ⟨(some 14), .mov (.t 39), none, []⟩])
 (.seq (.drawn [⟨(some 40), .load (some 4) (.t 3), none, []⟩,
   ⟨(some 41), .call 17 [(.t 40)], none, []⟩,
   ⟨(some 42), .load (some 4) (.t 3), none, [0, 1]⟩,
   ⟨(some 43), .call 18 [(.t 42)], none, []⟩,
   ⟨(some 44), .bin .eql .none (.t 41) (.t 43), none, []⟩,
   ⟨(some 45), .mov (.t 44), none, []⟩,
   ⟨(some 46), .load (some 5) (.t 4), (some (45, true)), []⟩,
   ⟨(some 47), .call 19 [(.t 46)], (some (45, true)), []⟩,
   ⟨(some 48), .load (some 5) (.t 4), (some (45, true)), [6, 7]⟩,
   ⟨(some 49), .call 20 [(.t 48)], (some (45, true)), []⟩,
   ⟨(some 50), .bin .eql .none (.t 47) (.t 49), (some (45, true)), []⟩,
   ⟨(some 51), .pick (.t 45) (.t 50) (.c (.bool false)), none, []⟩,
   ⟨(some 52), .mov (.t 51), none, []⟩,
   ⟨(some 53), .load (some 4) (.t 7), (some (52, true)), []⟩,
   ⟨(some 54), .load (some 4) (.t 9), (some (52, true)), [13]⟩,
   ⟨(some 55), .bin .eql (.agg [.int, .int, .int, .int]) (.t 53) (.t 54), (some (52, true)), []⟩,
   ⟨(some 56), .pick (.t 52) (.t 55) (.c (.bool false)), none, []⟩,
   ⟨(some 57), .mov (.t 56), none, []⟩,
   ⟨(some 58), .mov (.t 8), (some (57, true)), []⟩,
   ⟨(some 59), .mov (.t 10), (some (57, true)), []⟩,
   ⟨(some 60), .bin .eql .none (.t 58) (.t 59), (some (57, true)), []⟩,
   ⟨(some 61), .pick (.t 57) (.t 60) (.c (.bool false)), none, []⟩,
   ⟨(some 62), .mov (.t 61), none, []⟩,
   ⟨(some 63), .load (some 5) (.t 11), (some (62, true)), []⟩,
   ⟨(some 64), .load (some 5) (.t 13), (some (62, true)), [23]⟩,
   ⟨(some 65), .bin .eql (.agg [.int, .int, .int, .int, .int]) (.t 63) (.t 64), (some (62, true)), []⟩,
   ⟨(some 66), .pick (.t 62) (.t 65) (.c (.bool false)), none, []⟩,
   ⟨(some 67), .mov (.t 66), none, []⟩,
   ⟨(some 68), .mov (.t 12), (some (67, true)), []⟩,
   ⟨(some 69), .mov (.t 14), (some (67, true)), []⟩,
   ⟨(some 70), .bin .eql .none (.t 68) (.t 69), (some (67, true)), []⟩,
   ⟨(some 71), .pick (.t 67) (.t 70) (.c (.bool false)), none, []⟩,
   ⟨(some 6), .mov (.t 71), none, []⟩])
 .ret)))))))) }
def fi5 : FnInfo := { m := 54, res := [(.tmp 4)], ac :=
 (.seq (.ops [⟨(some 2), .box (.t 0), none, []⟩,
   ⟨(some 3), .box (.t 1), none, []⟩,
   ⟨(some 4), .mov (.c (.bool false)), none, []⟩])
 (.seq (.seq (.ops [⟨(some 9), .call 7 [], none, []⟩,
    ⟨(some 10), .un .not (.t 9), none, []⟩])
  (.cond (.t 10)
   (.seq (.ops [⟨(some 4), .mov (.c (.bool false)), none, []⟩])
   .ret)
   .skip))
 (.seq (.ops [⟨(some 12), .load (some 4) (.t 2), none, []⟩,
   ⟨(some 13), .call 17 [(.t 12)], none, []⟩,
   ⟨(some 14), .call 13 [(.t 13)], none, []⟩,
   ⟨(some 11), .mov (.t 14), none, []⟩,
   ⟨(some 15), .extract (.t 11) 0, none, []⟩,
   ⟨(some 16), .extract (.t 11) 1, none, []⟩,
   ⟨(some 5), .alloc [(.int .u8 0), (.int .u8 0), (.int .u8 0), (.int .u8 0)], none, []⟩,
   ⟨none, .store 4 (.t 5) (.t 15), none, []⟩,
   ⟨(some 6), .mov (.t 16), none, []⟩])
 (.seq (.seq (.drawn [⟨(some 17), .mov (.t 6), none, []⟩,
    ⟨(some 18), .bin .neq .none (.t 17) (.c (.int .i64 0)), none, []⟩,
    ⟨(some 19), .mov (.t 18), none, []⟩,
    ⟨(some 20), .load (some 4) (.t 5), (some (19, false)), []⟩,
    ⟨(some 21), .load (some 4) (.t 2), (some (19, false)), [3]⟩,
    ⟨(some 22), .bin .neq (.agg [.int, .int, .int, .int]) (.t 20) (.t 21), (some (19, false)), []⟩,
    ⟨(some 23), .pick (.t 19) (.c (.bool true)) (.t 22), none, []⟩,
    ⟨(some 24), .mov (.t 23), none, []⟩,
    ⟨(some 25), .load (some 4) (.t 2), (some (24, false)), []⟩,
    ⟨(some 26), .call 12 [(.t 25)], (some (24, false)), []⟩,
    ⟨(some 27), .call 11 [(.t 26)], (some (24, false)), []⟩,
    ⟨(some 28), .load (some 4) (.t 2), (some (24, false)), [8, 9, 10]⟩,
    ⟨(some 29), .bin .neq (.agg [.int, .int, .int, .int]) (.t 27) (.t 28), (some (24, false)), []⟩,
    ⟨(some 30), .pick (.t 24) (.c (.bool true)) (.t 29), none, []⟩])
  (.cond (.t 30)
   (.seq (.ops [⟨(some 4), .mov (.c (.bool false)), none, []⟩])
   .ret)
   .skip))
 (.seq (.ops [⟨(some 32), .load (some 5) (.t 3), none, []⟩,
   ⟨(some 33), .call 19 [(.t 32)], none, []⟩,
   ⟨(some 34), .call 15 [(.t 33)], none, []⟩,
   ⟨(some 31), .mov (.t 34), none, []⟩,
   ⟨(some 35), .extract (.t 31) 0, none, []⟩,
   ⟨(some 36), .extract (.t 31) 1, none, []⟩,
   ⟨(some 7), .alloc [(.int .u8 0), (.int .u8 0), (.int .u8 0), (.int .u8 0), (.int .i64 0)], none, []⟩,
   ⟨none, .store 5 (.t 7) (.t 35), none, []⟩,
   ⟨(some 8), .mov (.t 36), none, []⟩])
 (.seq (.seq (.ops [⟨(some 37), .load (some 5) (.t 3), none, []⟩,
    ⟨(some 38), .call 21 [(.t 37)], none, []⟩,
    ⟨(some 39), .un .not (.t 38), none, []⟩])
  (.cond (.t 39)
   (.seq (.ops [⟨(some 40), .mov (.t 8), none, []⟩,
     ⟨(some 41), .bin .eql .none (.t 40) (.c (.int .i64 41)), none, []⟩,
     ⟨(some 42), .mov (.t 41), none, []⟩,
     ⟨(some 43), .load (some 5) (.t 7), (some (42, true)), []⟩,
     ⟨(some 44), .build [(.int .u8 0), (.int .u8 0), (.int .u8 0), (.int .u8 0), (.int .i64 0)] [], (some (42, true)), []⟩,
     ⟨(some 45), .bin .eql (.agg [.int, .int, .int, .int, .int]) (.t 43) (.t 44), (some (42, true)), []⟩,
     ⟨(some 46), .pick (.t 42) (.t 45) (.c (.bool false)), none, []⟩,
     ⟨(some 4), .mov (.t 46), none, []⟩])
   .ret)
   .skip))
 (.seq (.ops [⟨(some 47), .mov (.t 8), none, []⟩,
   ⟨(some 48), .bin .eql .none (.t 47) (.c (.int .i64 0)), none, []⟩,
   ⟨(some 49), .mov (.t 48), none, []⟩,
   ⟨(some 50), .load (some 5) (.t 7), (some (49, true)), []⟩,
   ⟨(some 51), .load (some 5) (.t 3), (some (49, true)), []⟩,
   ⟨(some 52), .bin .eql (.agg [.int, .int, .int, .int, .int]) (.t 50) (.t 51), (some (49, true)), []⟩,
   ⟨(some 53), .pick (.t 49) (.t 52) (.c (.bool false)), none, []⟩,
   ⟨(some 4), .mov (.t 53), none, []⟩])
 .ret))))))) }
def fi6 : FnInfo := { m := 44, res := [(.tmp 0)], ac :=
 (.seq (.ops [⟨(some 0), .mov (.c (.bool false)), none, []⟩])
 (.seq (.ops [⟨(some 6), .call 13 [(.c (.str ⟨#[49, 46, 50, 46, 51]⟩))], none, []⟩,
   ⟨(some 5), .mov (.t 6), none, []⟩,
   ⟨(some 7), .extract (.t 5) 0, none, []⟩,
   ⟨(some 8), .extract (.t 5) 1, none, []⟩,
   ⟨(some 1), .alloc [(.int .u8 0), (.int .u8 0), (.int .u8 0), (.int .u8 0)], none, []⟩,
   ⟨none, .store 4 (.t 1) (.t 7), none, []⟩,
   ⟨(some 2), .mov (.t 8), none, []⟩])
 (.seq (.ops [⟨(some 10), .call 15 [(.c (.str ⟨#[49, 48, 46, 49, 46, 48, 46, 48, 47, 56]⟩))], none, []⟩,
   ⟨(some 9), .mov (.t 10), none, []⟩,
   ⟨(some 11), .extract (.t 9) 0, none, []⟩,
   ⟨(some 12), .extract (.t 9) 1, none, []⟩,
   ⟨(some 3), .alloc [(.int .u8 0), (.int .u8 0), (.int .u8 0), (.int .u8 0), (.int .i64 0)], none, []⟩,
   ⟨none, .store 5 (.t 3) (.t 11), none, []⟩,
   ⟨(some 4), .mov (.t 12), none, []⟩])
 (.seq (.ops [⟨(some 13), .call 7 [], none, []⟩,
   ⟨(some 14), .mov (.t 13), none, []⟩,
   ⟨(some 15), .pick (.t 14) (.c (.bool true)) (.c (.bool false)), none, []⟩,
   ⟨(some 16), .mov (.t 15), none, []⟩,
   ⟨(some 17), .mov (.t 2), (some (16, true)), []⟩,
   ⟨(some 18), .bin .eql .none (.t 17) (.c (.int .i64 41)), (some (16, true)), []⟩,
   ⟨(some 19), .pick (.t 16) (.t 18) (.c (.bool false)), none, []⟩,
   ⟨(some 20), .mov (.t 19), none, []⟩,
   ⟨(some 21), .mov (.t 4), (some (20, true)), []⟩,
   ⟨(some 22), .bin .eql .none (.t 21) (.c (.int .i64 41)), (some (20, true)), []⟩,
   ⟨(some 23), .pick (.t 20) (.t 22) (.c (.bool false)), none, []⟩,
   ⟨(some 24), .mov (.t 23), none, []⟩,
   ⟨(some 25), .call 22 [(.c (.int .i64 32))], (some (24, true)), []⟩,
   ⟨(some 26), .call 12 [(.t 25)], (some (24, true)), []⟩,
   ⟨(some 27), .bin .eql .none (.t 26) (.c (.int .u32 4294967295)), (some (24, true)), []⟩,
   ⟨(some 28), .pick (.t 24) (.t 27) (.c (.bool false)), none, []⟩,
   ⟨(some 29), .mov (.t 28), none, []⟩,
   ⟨(some 30), .call 22 [(.c (.int .i64 0))], (some (29, true)), []⟩,
   ⟨(some 31), .call 12 [(.t 30)], (some (29, true)), []⟩,
   ⟨(some 32), .bin .eql .none (.t 31) (.c (.int .u32 0)), (some (29, true)), []⟩,
   ⟨(some 33), .pick (.t 29) (.t 32) (.c (.bool false)), none, []⟩,
   ⟨(some 34), .mov (.t 33), none, []⟩,
   ⟨(some 35), .call 22 [(.c (.int .i64 (-5)))], (some (34, true)), []⟩,
   ⟨(some 36), .call 12 [(.t 35)], (some (34, true)), []⟩,
   ⟨(some 37), .bin .eql .none (.t 36) (.c (.int .u32 0)), (some (34, true)), []⟩,
   ⟨(some 38), .pick (.t 34) (.t 37) (.c (.bool false)), none, []⟩,
   ⟨(some 39), .mov (.t 38), none, []⟩,
   ⟨(some 40), .call 22 [(.c (.int .i64 1))], (some (39, true)), []⟩,
   ⟨(some 41), .call 12 [(.t 40)], (some (39, true)), []⟩,
   ⟨(some 42), .bin .eql .none (.t 41) (.c (.int .u32 2147483648)), (some (39, true)), []⟩,
   ⟨(some 43), .pick (.t 39) (.t 42) (.c (.bool false)), none, []⟩,
   ⟨(some 0), .mov (.t 43), none, []⟩])
 .ret)))) }
def fi7 : FnInfo := { m := 26, res := [(.tmp 0)], ac :=
 (.seq (.ops [⟨(some 0), .mov (.c (.bool false)), none, []⟩])
 (.seq (.ops [⟨(some 5), .call 13 [(.c (.str ⟨#[49, 48, 46, 49, 46, 50, 46, 51]⟩))], none, []⟩,
   ⟨(some 4), .mov (.t 5), none, []⟩,
   ⟨(some 6), .extract (.t 4) 0, none, []⟩,
   ⟨(some 7), .extract (.t 4) 1, none, []⟩,
   ⟨(some 1), .alloc [(.int .u8 0), (.int .u8 0), (.int .u8 0), (.int .u8 0)], none, []⟩,
   ⟨none, .store 4 (.t 1) (.t 6), none, []⟩,
   ⟨(some 2), .mov (.t 7), none, []⟩])
 (.seq (.ops [⟨(some 8), .load (some 4) (.t 1), none, []⟩,
   ⟨(some 9), .call 8 [(.t 8), (.c (.int .i64 8))], none, []⟩,
   ⟨(some 3), .alloc [(.int .u8 0), (.int .u8 0), (.int .u8 0), (.int .u8 0), (.int .i64 0)], none, []⟩,
   ⟨none, .store 5 (.t 3) (.t 9), none, []⟩])
 (.seq (.ops [⟨(some 10), .mov (.t 2), none, []⟩,
   ⟨(some 11), .bin .eql .none (.t 10) (.c (.int .i64 0)), none, []⟩,
   ⟨(some 12), .mov (.t 11), none, []⟩,
   ⟨(some 13), .load (some 5) (.t 3), (some (12, true)), []⟩,
   ⟨(some 14), .call 19 [(.t 13)], (some (12, true)), []⟩,
   ⟨(some 15), .bin .eql .none (.t 14) (.c (.str ⟨#[49, 48, 46, 48, 46, 48, 46, 48, 47, 56]⟩)), (some (12, true)), []⟩,
   ⟨(some 16), .pick (.t 12) (.t 15) (.c (.bool false)), none, []⟩,
   ⟨(some 17), .mov (.t 16), none, []⟩,
   ⟨(some 18), .load (some 4) (.t 1), (some (17, true)), []⟩,
   ⟨(some 19), .load (some 5) (.t 3), (some (17, true)), []⟩,
   ⟨(some 20), .call 10 [(.t 18), (.t 19)], (some (17, true)), []⟩,
   ⟨(some 21), .pick (.t 17) (.t 20) (.c (.bool false)), none, []⟩,
   ⟨(some 22), .mov (.t 21), none, []⟩,
   ⟨(some 23), .load (some 5) (.t 3), (some (22, true)), []⟩,
   ⟨(some 24), .call 21 [(.t 23)], (some (22, true)), []⟩,
   ⟨(some 25), .pick (.t 22) (.t 24) (.c (.bool false)), none, []⟩,
   ⟨(some 0), .mov (.t 25), none, []⟩])
 .ret)))) }
def fi8 : FnInfo := { m := 15, res := [(.cell 4 (some 5))], ac :=
 (.seq (.ops [⟨(some 2), .box (.t 0), none, []⟩,
   ⟨(some 4), .alloc [(.int .u8 0), (.int .u8 0), (.int .u8 0), (.int .u8 0), (.int .i64 0)], none, []⟩])
 (.seq (.ops [⟨(some 5), .load (some 4) (.t 2), none, []⟩,
   ⟨(some 6), .call 12 [(.t 5)], none, []⟩,
   ⟨(some 7), .mov (.t 1), none, []⟩,
   ⟨(some 8), .call 23 [(.t 7)], none, []⟩,
   ⟨(some 9), .bin .and .none (.t 6) (.t 8), none, []⟩,
   ⟨(some 10), .call 11 [(.t 9)], none, []⟩,
   ⟨(some 11), .mov (.t 1), none, []⟩,
   ⟨(some 12), .minmax false [(.t 11), (.c (.int .i64 32))], none, []⟩,
   ⟨(some 13), .minmax true [(.c (.int .i64 0)), (.t 12)], none, []⟩,
   ⟨(some 14), .build [(.int .u8 0), (.int .u8 0), (.int .u8 0), (.int .u8 0), (.int .i64 0)] [(0, 4, (.t 10)), (4, 1, (.t 13))], none, []⟩,
   ⟨none, .store 5 (.t 4) (.t 14), none, []⟩])
 .ret)) }
def fi9 : FnInfo := { m := 20, res := [(.tmp 4)], ac :=
 (.seq (.ops [⟨(some 2), .box (.t 0), none, []⟩,
   ⟨(some 3), .box (.t 1), none, []⟩,
   ⟨(some 4), .mov (.c (.bool false)), none, []⟩])
 (.seq (.ops [⟨(some 5), .load (some 5) (.t 2), none, []⟩,
   ⟨(some 6), .call 21 [(.t 5)], none, []⟩,
   ⟨(some 7), .mov (.t 6), none, []⟩,
   ⟨(some 8), .fieldAddr 4 (.t 2), (some (7, true)), []⟩,
   ⟨(some 9), .load none (.t 8), (some (7, true)), []⟩,
   ⟨(some 10), .fieldAddr 4 (.t 3), (some (7, true)), []⟩,
   ⟨(some 11), .load none (.t 10), (some (7, true)), []⟩,
   ⟨(some 12), .bin .geq .none (.t 9) (.t 11), (some (7, true)), []⟩,
   ⟨(some 13), .pick (.t 7) (.t 12) (.c (.bool false)), none, []⟩,
   ⟨(some 14), .mov (.t 13), none, []⟩,
   ⟨(some 15), .fieldAddr 0 (.t 2), (some (14, true)), []⟩,
   ⟨(some 16), .load (some 4) (.t 15), (some (14, true)), []⟩,
   ⟨(some 17), .load (some 5) (.t 3), (some (14, true)), []⟩,
   ⟨(some 18), .call 10 [(.t 16), (.t 17)], (some (14, true)), []⟩,
   ⟨(some 19), .pick (.t 14) (.t 18) (.c (.bool false)), none, []⟩,
   ⟨(some 4), .mov (.t 19), none, []⟩])
 .ret)) }
def fi10 : FnInfo := { m := 15, res := [(.tmp 4)], ac :=
 (.seq (.ops [⟨(some 2), .box (.t 0), none, []⟩,
   ⟨(some 3), .box (.t 1), none, []⟩,
   ⟨(some 4), .mov (.c (.bool false)), none, []⟩])
 (.seq (.drawn [⟨(some 5), .load (some 5) (.t 3), none, []⟩,
   ⟨(some 6), .call 21 [(.t 5)], none, []⟩,
   ⟨(some 7), .mov (.t 6), none, []⟩,
   ⟨(some 8), .load (some 4) (.t 2), (some (7, true)), []⟩,
   ⟨(some 9), .fieldAddr 4 (.t 3), (some (7, true)), [3]⟩,
   ⟨(some 10), .load none (.t 9), (some (7, true)), [3]⟩,
   ⟨(some 11), .call 8 [(.t 8), (.t 10)], (some (7, true)), []⟩,
   ⟨(some 12), .load (some 5) (.t 3), (some (7, true)), [3, 4, 5, 6]⟩,
   ⟨(some 13), .bin .eql (.agg [.int, .int, .int, .int, .int]) (.t 11) (.t 12), (some (7, true)), []⟩,
   ⟨(some 14), .pick (.t 7) (.t 13) (.c (.bool false)), none, []⟩,
   ⟨(some 4), .mov (.t 14), none, []⟩])
 .ret)) }
def fi11 : FnInfo := { m := 15, res := [(.cell 2 (some 4))], ac :=
 (.seq (.ops [⟨(some 2), .alloc [(.int .u8 0), (.int .u8 0), (.int .u8 0), (.int .u8 0)], none, []⟩])
 (.seq (.ops [⟨(some 3), .mov (.t 0), none, []⟩,
   ⟨(some 4), .bin .shr .none (.t 3) (.c (.int .u64 24)), none, []⟩,
   ⟨(some 5), .conv (.int .u8) (.t 4), none, []⟩,
   ⟨(some 6), .mov (.t 0), none, []⟩,
   ⟨(some 7), .bin .shr .none (.t 6) (.c (.int .u64 16)), none, []⟩,
   ⟨(some 8), .conv (.int .u8) (.t 7), none, []⟩,
   ⟨(some 9), .mov (.t 0), none, []⟩,
   ⟨(some 10), .bin .shr .none (.t 9) (.c (.int .u64 8)), none, []⟩,
   ⟨(some 11), .conv (.int .u8) (.t 10), none, []⟩,
   ⟨(some 12), .mov (.t 0), none, []⟩,
   ⟨(some 13), .conv (.int .u8) (.t 12), none, []⟩,
   ⟨(some 14), .build [(.int .u8 0), (.int .u8 0), (.int .u8 0), (.int .u8 0)] [(0, 1, (.t 5)), (1, 1, (.t 8)), (2, 1, (.t 11)), (3, 1, (.t 13))], none, []⟩,
   ⟨none, .store 4 (.t 2) (.t 14), none, []⟩])
 .ret)) }
def fi12 : FnInfo := { m := 17, res := [(.tmp 2)], ac :=
 (.seq (.ops [⟨(some 1), .box (.t 0), none, []⟩,
   ⟨(some 2), .mov (.c (.int .u32 0)), none, []⟩])
 (.seq (.ops [⟨(some 3), .mov (.c (.int .u32 0)), none, []⟩])
 (.seq (.seq (.ops [⟨(some 6), .load (some 4) (.t 1), none, []⟩,
    ⟨(some 7), .mov (.c (.int .i64 0)), none, []⟩])
  (.block 0 (.loop (.seq (.ops [⟨(some 8), .bin .lss .none (.t 7) (.c (.int .i64 4)), none, []⟩])
    (.seq (.cond (.t 8)
      .skip
      (.exit 0))
    (.seq (.block 1 (.seq (.ops [⟨(some 9), .index (.array 4 1) none (.t 6) (.t 7), none, []⟩,
        ⟨(some 5), .mov (.t 9), none, []⟩])
      (.ops [⟨(some 10), .mov (.t 3), none, []⟩,
       ⟨(some 11), .bin .shl .none (.t 10) (.c (.int .u64 8)), none, []⟩,
       ⟨(some 12), .mov (.t 5), none, []⟩,
       ⟨(some 13), .conv (.int .u32) (.t 12), none, []⟩,
       ⟨(some 14), .bin .or .none (.t 11) (.t 13), none, []⟩,
       ⟨(some 3), .mov (.t 14), none, []⟩])))
    (.ops [⟨(some 15), .bin .add .none (.t 7) (.c (.int .i64 1)), none, []⟩,
     ⟨(some 7), .mov (.t 15), none, []⟩])))))))
 (.seq (.ops [⟨(some 16), .mov (.t 3), none, []⟩,
   ⟨(some 2), .mov (.t 16), none, []⟩])
 .ret)))) }
def fi13 : FnInfo := { m := 41, res := [(.cell 2 (some 4)), (.tmp 3)], ac :=
 (.seq (.ops [⟨(some 2), .alloc [(.int .u8 0), (.int .u8 0), (.int .u8 0), (.int .u8 0)], none, []⟩,
   ⟨(some 3), .mov (.c (.int .i64 0)), none, []⟩])
 (.seq (.ops [⟨(some 4), .alloc [(.int .u8 0), (.int .u8 0), (.int .u8 0), (.int .u8 0)], none, []⟩])
 (.seq (.seq (.ops [⟨(some 11), .mov (.c (.int .i64 0)), none, []⟩])
  (.block 0 (.loop (.seq (.ops [⟨(some 12), .bin .lss .none (.t 11) (.c (.int .i64 4)), none, []⟩])
    (.seq (.cond (.t 12)
      .skip
      (.exit 0))
    (.seq (.block 1 (.seq (.ops [⟨(some 13), .mov (.t 11), none, []⟩,
        ⟨(some 5), .mov (.t 13), none, []⟩])
      (.seq (.ops [⟨(some 15), .mov (.t 0), none, []⟩,
        ⟨(some 16), .call 24 [(.t 15), (.c (.str ⟨#[46]⟩))], none, []⟩,
        ⟨(some 14), .mov (.t 16), none, []⟩,
        ⟨(some 17), .extract (.t 14) 0, none, []⟩,
        ⟨(some 18), .extract (.t 14) 1, none, []⟩,
        ⟨(some 19), .extract (.t 14) 2, none, []⟩,
        ⟨(some 6), .mov (.t 17), none, []⟩,
        ⟨(some 7), .mov (.t 18), none, []⟩,
        ⟨(some 8), .mov (.t 19), none, []⟩])
      (.seq (.ops [⟨(some 21), .mov (.t 6), none, []⟩,
        ⟨(some 22), .call 25 [(.t 21), (.c (.int .i64 255))], none, []⟩,
        ⟨(some 20), .mov (.t 22), none, []⟩,
        ⟨(some 23), .extract (.t 20) 0, none, []⟩,
        ⟨(some 24), .extract (.t 20) 1, none, []⟩,
        ⟨(some 9), .mov (.t 23), none, []⟩,
        ⟨(some 10), .mov (.t 24), none, []⟩])
      (.seq (.seq (.ops [⟨(some 25), .mov (.t 10), none, []⟩,
         ⟨(some 26), .un .not (.t 25), none, []⟩,
         ⟨(some 27), .mov (.t 26), none, []⟩,
         ⟨(some 28), .mov (.t 8), (some (27, false)), []⟩,
         ⟨(some 29), .mov (.t 5), (some (27, false)), []⟩,
         ⟨(some 30), .bin .lss .none (.t 29) (.c (.int .i64 3)), (some (27, false)), []⟩,
         ⟨(some 31), .bin .neq .bool (.t 28) (.t 30), (some (27, false)), []⟩,
         ⟨(some 32), .pick (.t 27) (.c (.bool true)) (.t 31), none, []⟩])
       (.cond (.t 32)
        (.seq (.ops [⟨(some 33), .build [(.int .u8 0), (.int .u8 0), (.int .u8 0), (.int .u8 0)] [], none, []⟩,
          ⟨none, .store 4 (.t 2) (.t 33), none, []⟩,
          ⟨(some 3), .mov (.c (.int .i64 41)), none, []⟩])
        .ret)
        .skip))
      (.seq (.ops [⟨(some 34), .mov (.t 5), none, []⟩,
        ⟨(some 35), .mov (.t 9), none, []⟩,
        ⟨(some 36), .conv (.int .u8) (.t 35), none, []⟩,
        ⟨(some 37), .indexAddr (.array 4 1) (.t 4) (.t 34), none, []⟩,
        ⟨none, .store 1 (.t 37) (.t 36), none, []⟩])
      (.ops [⟨(some 38), .mov (.t 7), none, []⟩,
       ⟨(some 0), .mov (.t 38), none, []⟩])))))))
    (.ops [⟨(some 39), .bin .add .none (.t 11) (.c (.int .i64 1)), none, []⟩,
     ⟨(some 11), .mov (.t 39), none, []⟩])))))))
 (.seq (.ops [⟨(some 40), .load (some 4) (.t 4), none, []⟩,
   ⟨none, .store 4 (.t 2) (.t 40), none, []⟩,
   ⟨(some 3), .mov (.c (.int .i64 0)), none, []⟩])
 .ret)))) }
def fi14 : FnInfo := { m := 36, res := [(.cell 2 (some 4)), (.tmp 3)], ac :=
 (.seq (.ops [⟨(some 2), .alloc [(.int .u8 0), (.int .u8 0), (.int .u8 0), (.int .u8 0)], none, []⟩,
   ⟨(some 3), .mov (.c (.int .i64 0)), none, []⟩])
 (.seq (.ops [⟨(some 8), .mov (.t 0), none, []⟩,
   ⟨(some 9), .call 26 [(.t 8)], none, []⟩,
   ⟨(some 4), .mov (.t 9), none, []⟩])
 (.seq (.seq (.ops [⟨(some 10), .mov (.t 4), none, []⟩,
    ⟨(some 11), .len .sl (.t 10), none, []⟩,
    ⟨(some 12), .bin .neq .none (.t 11) (.c (.int .i64 4)), none, []⟩])
  (.cond (.t 12)
   (.seq (.ops [⟨(some 13), .build [(.int .u8 0), (.int .u8 0), (.int .u8 0), (.int .u8 0)] [], none, []⟩,
     ⟨none, .store 4 (.t 2) (.t 13), none, []⟩,
     ⟨(some 3), .mov (.c (.int .i64 41)), none, []⟩])
   .ret)
   .skip))
 (.seq (.ops [⟨(some 14), .build [(.int .u8 0), (.int .u8 0), (.int .u8 0), (.int .u8 0)] [], none, []⟩,
   ⟨(some 5), .alloc [(.int .u8 0), (.int .u8 0), (.int .u8 0), (.int .u8 0)], none, []⟩,
   ⟨none, .store 4 (.t 5) (.t 14), none, []⟩])
 (.seq (.seq (.ops [⟨(some 15), .mov (.t 4), none, []⟩,
    ⟨(some 16), .len .sl (.t 15), none, []⟩,
    ⟨(some 17), .mov (.c (.int .i64 0)), none, []⟩])
  (.block 0 (.loop (.seq (.ops [⟨(some 18), .bin .lss .none (.t 17) (.t 16), none, []⟩])
    (.seq (.cond (.t 18)
      .skip
      (.exit 0))
    (.seq (.block 1 (.seq (.ops [⟨(some 19), .mov (.t 17), none, []⟩,
        ⟨(some 20), .indexAddr (.slice 1) (.t 15) (.t 17), none, []⟩,
        ⟨(some 21), .load none (.t 20), none, []⟩,
        ⟨(some 6), .mov (.t 19), none, []⟩,
        ⟨(some 7), .mov (.t 21), none, []⟩])
      (.seq (.seq (.ops [⟨(some 22), .mov (.t 7), none, []⟩,
         ⟨(some 23), .bin .gtr .none (.t 22) (.c (.int .i64 255)), none, []⟩])
       (.cond (.t 23)
        (.seq (.ops [⟨(some 24), .build [(.int .u8 0), (.int .u8 0), (.int .u8 0), (.int .u8 0)] [], none, []⟩,
          ⟨none, .store 4 (.t 2) (.t 24), none, []⟩,
          ⟨(some 3), .mov (.c (.int .i64 41)), none, []⟩])
        .ret)
        .skip))
      (.ops [⟨(some 25), .mov (.t 6), none, []⟩,
       ⟨(some 26), .mov (.t 7), none, []⟩,
       ⟨(some 27), .conv (.int .u8) (.t 26), none, []⟩,
       ⟨(some 28), .indexAddr (.array 4 1) (.t 5) (.t 25), none, []⟩,
       ⟨none, .store 1 (.t 28) (.t 27), none, []⟩]))))
    (.ops [⟨(some 29), .bin .add .none (.t 17) (.c (.int .i64 1)), none, []⟩,
     ⟨(some 17), .mov (.t 29), none, []⟩])))))))
 (.seq (.seq (.ops [⟨(some 30), .load (some 4) (.t 5), none, []⟩,
    ⟨(some 31), .call 18 [(.t 30)], none, []⟩,
    ⟨(some 32), .mov (.t 0), none, []⟩,
    ⟨(some 33), .bin .neq .none (.t 31) (.t 32), none, []⟩])
  (.cond (.t 33)
   (.seq (.ops [⟨(some 34), .build [(.int .u8 0), (.int .u8 0), (.int .u8 0), (.int .u8 0)] [], none, []⟩,
     ⟨none, .store 4 (.t 2) (.t 34), none, []⟩,
     ⟨(some 3), .mov (.c (.int .i64 41)), none, []⟩])
   .ret)
   .skip))
 (.seq (.ops [⟨(some 35), .load (some 4) (.t 5), none, []⟩,
   ⟨none, .store 4 (.t 2) (.t 35), none, []⟩,
   ⟨(some 3), .mov (.c (.int .i64 0)), none, []⟩])
 .ret))))))) }
def fi15 : FnInfo := { m := 44, res := [(.cell 2 (some 5)), (.tmp 3)], ac :=
 (.seq (.ops [⟨(some 2), .alloc [(.int .u8 0), (.int .u8 0), (.int .u8 0), (.int .u8 0), (.int .i64 0)], none, []⟩,
   ⟨(some 3), .mov (.c (.int .i64 0)), none, []⟩])
 (.seq (.ops [⟨(some 13), .mov (.t 0), none, []⟩,
   ⟨(some 14), .call 24 [(.t 13), (.c (.str ⟨#[47]⟩))], none, []⟩,
   ⟨(some 12), .mov (.t 14), none, []⟩,
   ⟨(some 15), .extract (.t 12) 0, none, []⟩,
   ⟨(some 16), .extract (.t 12) 1, none, []⟩,
   ⟨(some 17), .extract (.t 12) 2, none, []⟩,
   ⟨(some 4), .mov (.t 15), none, []⟩,
   ⟨(some 5), .mov (.t 16), none, []⟩,
   ⟨(some 6), .mov (.t 17), none, []⟩])
 (.seq (.ops [⟨(some 19), .mov (.t 4), none, []⟩,
   ⟨(some 20), .call 13 [(.t 19)], none, []⟩,
   ⟨(some 18), .mov (.t 20), none, []⟩,
   ⟨(some 21), .extract (.t 18) 0, none, []⟩,
   ⟨(some 22), .extract (.t 18) 1, none, []⟩,
   ⟨(some 7), .alloc [(.int .u8 0), (.int .u8 0), (.int .u8 0), (.int .u8 0)], none, []⟩,
   ⟨none, .store 4 (.t 7) (.t 21), none, []⟩,
   ⟨(some 8), .mov (.t 22), none, []⟩])
 (.seq (.ops [⟨(some 24), .mov (.t 5), none, []⟩,
   ⟨(some 25), .call 25 [(.t 24), (.c (.int .i64 32))], none, []⟩,
   ⟨(some 23), .mov (.t 25), none, []⟩,
   ⟨(some 26), .extract (.t 23) 0, none, []⟩,
   ⟨(some 27), .extract (.t 23) 1, none, []⟩,
   ⟨(some 9), .mov (.t 26), none, []⟩,
   ⟨(some 10), .mov (.t 27), none, []⟩])
 (.seq (.ops [⟨(some 28), .load (some 4) (.t 7), none, []⟩,
   ⟨(some 29), .mov (.t 9), none, []⟩,
   ⟨(some 30), .build [(.int .u8 0), (.int .u8 0), (.int .u8 0), (.int .u8 0), (.int .i64 0)] [(0, 4, (.t 28)), (4, 1, (.t 29))], none, []⟩,
   ⟨(some 11), .alloc [(.int .u8 0), (.int .u8 0), (.int .u8 0), (.int .u8 0), (.int .i64 0)], none, []⟩,
   ⟨none, .store 5 (.t 11) (.t 30), none, []⟩])
 (.seq (.seq (.ops [⟨(some 31), .mov (.t 8), none, []⟩,
    ⟨(some 32), .bin .neq .none (.t 31) (.c (.int .i64 0)), none, []⟩,
    ⟨(some 33), .mov (.t 32), none, []⟩,
    ⟨(some 34), .mov (.t 10), (some (33, false)), []⟩,
    ⟨(some 35), .un .not (.t 34), (some (33, false)), []⟩,
    ⟨(some 36), .pick (.t 33) (.c (.bool true)) (.t 35), none, []⟩,
    ⟨(some 37), .mov (.t 36), none, []⟩,
    ⟨(some 38), .load (some 5) (.t 11), (some (37, false)), []⟩,
    ⟨(some 39), .call 21 [(.t 38)], (some (37, false)), []⟩,
    ⟨(some 40), .un .not (.t 39), (some (37, false)), []⟩,
    ⟨(some 41), .pick (.t 37) (.c (.bool true)) (.t 40), none, []⟩])
  (.cond (.t 41)
   (.seq (.ops [⟨(some 42), .build [(.int .u8 0), (.int .u8 0), (.int .u8 0), (.int .u8 0), (.int .i64 0)] [], none, []⟩,
     ⟨none, .store 5 (.t 2) (.t 42), none, []⟩,
     ⟨(some 3), .mov (.c (.int .i64 41)), none, []⟩])
   .ret)
   .skip))
 (.seq (.ops [⟨(some 43), .load (some 5) (.t 11), none, []⟩,
   ⟨none, .store 5 (.t 2) (.t 43), none, []⟩,
   ⟨(some 3), .mov (.c (.int .i64 0)), none, []⟩])
 .ret))))))) }
def fi16 : FnInfo := { m := 67, res := [(.cell 2 (some 5)), (.tmp 3)], ac :=
 (.seq (.ops [⟨(some 2), .alloc [(.int .u8 0), (.int .u8 0), (.int .u8 0), (.int .u8 0), (.int .i64 0)], none, []⟩,
   ⟨(some 3), .mov (.c (.int .i64 0)), none, []⟩])
 (.seq (.ops [⟨(some 6), .mov (.t 0), none, []⟩,
   ⟨(some 7), .call 26 [(.t 6)], none, []⟩,
   ⟨(some 4), .mov (.t 7), none, []⟩])
 (.seq (.seq (.ops [⟨(some 8), .mov (.t 4), none, []⟩,
    ⟨(some 9), .len .sl (.t 8), none, []⟩,
    ⟨(some 10), .bin .neq .none (.t 9) (.c (.int .i64 5)), none, []⟩,
    ⟨(some 11), .mov (.t 10), none, []⟩,
    ⟨(some 12), .mov (.t 4), (some (11, false)), []⟩,
    ⟨(some 13), .indexAddr (.slice 1) (.t 12) (.c (.int .i64 0)), (some (11, false)), []⟩,
    ⟨(some 14), .load none (.t 13), (some (11, false)), []⟩,
    ⟨(some 15), .bin .gtr .none (.t 14) (.c (.int .i64 255)), (some (11, false)), []⟩,
    ⟨(some 16), .pick (.t 11) (.c (.bool true)) (.t 15), none, []⟩,
    ⟨(some 17), .mov (.t 16), none, []⟩,
    ⟨(some 18), .mov (.t 4), (some (17, false)), []⟩,
    ⟨(some 19), .indexAddr (.slice 1) (.t 18) (.c (.int .i64 1)), (some (17, false)), []⟩,
    ⟨(some 20), .load none (.t 19), (some (17, false)), []⟩,
    ⟨(some 21), .bin .gtr .none (.t 20) (.c (.int .i64 255)), (some (17, false)), []⟩,
    ⟨(some 22), .pick (.t 17) (.c (.bool true)) (.t 21), none, []⟩,
    ⟨(some 23), .mov (.t 22), none, []⟩,
    ⟨(some 24), .mov (.t 4), (some (23, false)), []⟩,
    ⟨(some 25), .indexAddr (.slice 1) (.t 24) (.c (.int .i64 2)), (some (23, false)), []⟩,
    ⟨(some 26), .load none (.t 25), (some (23, false)), []⟩,
    ⟨(some 27), .bin .gtr .none (.t 26) (.c (.int .i64 255)), (some (23, false)), []⟩,
    ⟨(some 28), .pick (.t 23) (.c (.bool true)) (.t 27), none, []⟩,
    ⟨(some 29), .mov (.t 28), none, []⟩,
    ⟨(some 30), .mov (.t 4), (some (29, false)), []⟩,
    ⟨(some 31), .indexAddr (.slice 1) (.t 30) (.c (.int .i64 3)), (some (29, false)), []⟩,
    ⟨(some 32), .load none (.t 31), (some (29, false)), []⟩,
    ⟨(some 33), .bin .gtr .none (.t 32) (.c (.int .i64 255)), (some (29, false)), []⟩,
    ⟨(some 34), .pick (.t 29) (.c (.bool true)) (.t 33), none, []⟩])
  (.cond (.t 34)
   (.seq (.ops [⟨(some 35), .build [(.int .u8 0), (.int .u8 0), (.int .u8 0), (.int .u8 0), (.int .i64 0)] [], none, []⟩,
     ⟨none, .store 5 (.t 2) (.t 35), none, []⟩,
     ⟨(some 3), .mov (.c (.int .i64 41)), none, []⟩])
   .ret)
   .skip))
 (.seq (.drawn [⟨(some 36), .mov (.t 4), none, []⟩,
   ⟨(some 37), .indexAddr (.slice 1) (.t 36) (.c (.int .i64 0)), none, []⟩,
   ⟨(some 38), .load none (.t 37), none, []⟩,
   ⟨(some 39), .conv (.int .u8) (.t 38), none, []⟩,
   ⟨(some 40), .mov (.t 4), none, [2, 3]⟩,
   ⟨(some 41), .indexAddr (.slice 1) (.t 40) (.c (.int .i64 1)), none, [2, 3]⟩,
   ⟨(some 42), .load none (.t 41), none, [0, 1, 2, 3]⟩,
   ⟨(some 43), .conv (.int .u8) (.t 42), none, [0, 1, 2, 3]⟩,
   ⟨(some 44), .mov (.t 4), none, [2, 3, 6, 7]⟩,
   ⟨(some 45), .indexAddr (.slice 1) (.t 44) (.c (.int .i64 2)), none, [2, 3, 6, 7]⟩,
   ⟨(some 46), .load none (.t 45), none, [0, 1, 2, 3, 4, 5, 6, 7]⟩,
   ⟨(some 47), .conv (.int .u8) (.t 46), none, [0, 1, 2, 3, 4, 5, 6, 7]⟩,
   ⟨(some 48), .mov (.t 4), none, [2, 3, 6, 7, 10, 11]⟩,
   ⟨(some 49), .indexAddr (.slice 1) (.t 48) (.c (.int .i64 3)), none, [2, 3, 6, 7, 10, 11]⟩,
   ⟨(some 50), .load none (.t 49), none, [0, 1, 2, 3, 4, 5, 6, 7, 8, 9, 10, 11]⟩,
   ⟨(some 51), .conv (.int .u8) (.t 50), none, [0, 1, 2, 3, 4, 5, 6, 7, 8, 9, 10, 11]⟩,
   ⟨(some 52), .build [(.int .u8 0), (.int .u8 0), (.int .u8 0), (.int .u8 0)] [(0, 1, (.t 39)), (1, 1, (.t 43)), (2, 1, (.t 47)), (3, 1, (.t 51))], none, []⟩,
   ⟨(some 53), .mov (.t 4), none, [2, 3, 6, 7, 10, 11, 14, 15]⟩,
   ⟨(some 54), .indexAddr (.slice 1) (.t 53) (.c (.int .i64 4)), none, [2, 3, 6, 7, 10, 11, 14, 15]⟩,
   ⟨(some 55), .load none (.t 54), none, [0, 1, 2, 3, 4, 5, 6, 7, 8, 9, 10, 11, 12, 13, 14, 15, 16]⟩,
   ⟨(some 56), .build [(.int .u8 0), (.int .u8 0), (.int .u8 0), (.int .u8 0), (.int .i64 0)] [(0, 4, (.t 52)), (4, 1, (.t 55))], none, []⟩,
   ⟨(some 5), .alloc [(.int .u8 0), (.int .u8 0), (.int .u8 0), (.int .u8 0), (.int .i64 0)], none, [0, 1, 2, 3, 4, 5, 6, 7, 8, 9, 10, 11, 12, 13, 14, 15, 16, 17, 18, 19, 20]⟩,
   ⟨none, .store 5 (.t 5) (.t 56), none, []⟩])
 (.seq (.seq (.ops [⟨(some 57), .mov (.t 0), none, []⟩,
    ⟨(some 58), .bin .eql .none (.t 57) (.c (.str ⟨#[]⟩)), none, []⟩,
    ⟨(some 59), .mov (.t 58), none, []⟩,
    ⟨(some 60), .load (some 5) (.t 5), (some (59, false)), []⟩,
    ⟨(some 61), .call 20 [(.t 60)], (some (59, false)), []⟩,
    ⟨(some 62), .mov (.t 0), (some (59, false)), []⟩,
    ⟨(some 63), .bin .neq .none (.t 61) (.t 62), (some (59, false)), []⟩,
    ⟨(some 64), .pick (.t 59) (.c (.bool true)) (.t 63), none, []⟩])
  (.cond (.t 64)
   (.seq (.ops [⟨(some 65), .build [(.int .u8 0), (.int .u8 0), (.int .u8 0), (.int .u8 0), (.int .i64 0)] [], none, []⟩,
     ⟨none, .store 5 (.t 2) (.t 65), none, []⟩,
     ⟨(some 3), .mov (.c (.int .i64 41)), none, []⟩])
   .ret)
   .skip))
 (.seq (.ops [⟨(some 66), .load (some 5) (.t 5), none, []⟩,
   ⟨none, .store 5 (.t 2) (.t 66), none, []⟩,
   ⟨(some 3), .mov (.c (.int .i64 0)), none, []⟩])
 .ret)))))) }
def fi17 : FnInfo := { m := 19, res := [(.tmp 2)], ac :=
 (.seq (.ops [⟨(some 1), .box (.t 0), none, []⟩,
   ⟨(some 2), .mov (.c (.str ⟨#[]⟩)), none, []⟩])
 (.seq (.ops [⟨(some 3), .mov (.c (.vsl 0 [] (some 0))), none, []⟩])
 (.seq (.seq (.ops [⟨(some 6), .load (some 4) (.t 1), none, []⟩,
    ⟨(some 7), .mov (.c (.int .i64 0)), none, []⟩])
  (.block 0 (.loop (.seq (.ops [⟨(some 8), .bin .lss .none (.t 7) (.c (.int .i64 4)), none, []⟩])
    (.seq (.cond (.t 8)
      .skip
      (.exit 0))
    (.seq (.block 1 (.seq (.ops [⟨(some 9), .index (.array 4 1) none (.t 6) (.t 7), none, []⟩,
        ⟨(some 5), .mov (.t 9), none, []⟩])
      (.ops [⟨(some 10), .mov (.t 3), none, []⟩,
       ⟨(some 11), .mov (.t 5), none, []⟩,
       ⟨(some 12), .conv (.int .i64) (.t 11), none, []⟩,
       ⟨(some 13), .call 27 [(.t 12)], none, []⟩,
       ⟨(some 14), .buildSlice 1 1 [(.str ⟨#[]⟩)] [(0, 1, (.t 13))], none, []⟩,
       ⟨(some 15), .append 1 16 (.t 10) (.t 14), none, []⟩,
       ⟨(some 3), .mov (.t 15), none, []⟩])))
    (.ops [⟨(some 16), .bin .add .none (.t 7) (.c (.int .i64 1)), none, []⟩,
     ⟨(some 7), .mov (.t 16), none, []⟩])))))))
 (.seq (.ops [⟨(some 17), .mov (.t 3), none, []⟩,
   ⟨(some 18), .call 28 [(.t 17), (.c (.str ⟨#[46]⟩))], none, []⟩,
   ⟨(some 2), .mov (.t 18), none, []⟩])
 .ret)))) }
def fi18 : FnInfo := { m := 25, res := [(.tmp 2)], ac :=
 (.seq (.ops [⟨(some 1), .box (.t 0), none, []⟩,
   ⟨(some 2), .mov (.c (.str ⟨#[]⟩)), none, []⟩])
 (.seq (.drawn [⟨(some 3), .indexAddr (.array 4 1) (.t 1) (.c (.int .i64 0)), none, []⟩,
   ⟨(some 4), .load none (.t 3), none, []⟩,
   ⟨(some 5), .conv (.int .i64) (.t 4), none, []⟩,
   ⟨(some 6), .call 29 [(.t 5)], none, []⟩,
   ⟨(some 7), .bin .add .none (.t 6) (.c (.str ⟨#[46]⟩)), none, []⟩,
   ⟨(some 8), .indexAddr (.array 4 1) (.t 1) (.c (.int .i64 1)), none, [1, 2, 3]⟩,
   ⟨(some 9), .load none (.t 8), none, [0, 1, 2, 3, 4]⟩,
   ⟨(some 10), .conv (.int .i64) (.t 9), none, [0, 1, 2, 3, 4]⟩,
   ⟨(some 11), .call 29 [(.t 10)], none, [4]⟩,
   ⟨(some 12), .bin .add .none (.t 7) (.t 11), none, []⟩,
   ⟨(some 13), .bin .add .none (.t 12) (.c (.str ⟨#[46]⟩)), none, []⟩,
   ⟨(some 14), .indexAddr (.array 4 1) (.t 1) (.c (.int .i64 2)), none, [1, 2, 3, 6, 7, 8]⟩,
   ⟨(some 15), .load none (.t 14), none, [0, 1, 2, 3, 4, 5, 6, 7, 8, 9, 10]⟩,
   ⟨(some 16), .conv (.int .i64) (.t 15), none, [0, 1, 2, 3, 4, 5, 6, 7, 8, 9, 10]⟩,
   ⟨(some 17), .call 29 [(.t 16)], none, [4, 9, 10]⟩,
   ⟨(some 18), .bin .add .none (.t 13) (.t 17), none, []⟩,
   ⟨(some 19), .bin .add .none (.t 18) (.c (.str ⟨#[46]⟩)), none, []⟩,
   ⟨(some 20), .indexAddr (.array 4 1) (.t 1) (.c (.int .i64 3)), none, [1, 2, 3, 6, 7, 8, 12, 13, 14]⟩,
   ⟨(some 21), .load none (.t 20), none, [0, 1, 2, 3, 4, 5, 6, 7, 8, 9, 10, 11, 12, 13, 14, 15, 16]⟩,
   ⟨(some 22), .conv (.int .i64) (.t 21), none, [0, 1, 2, 3, 4, 5, 6, 7, 8, 9, 10, 11, 12, 13, 14, 15, 16]⟩,
   ⟨(some 23), .call 29 [(.t 22)], none, [4, 9, 10, 15, 16]⟩,
   ⟨(some 24), .bin .add .none (.t 19) (.t 23), none, []⟩,
   ⟨(some 2), .mov (.t 24), none, []⟩])
 .ret)) }
def fi19 : FnInfo := { m := 14, res := [(.tmp 2)], ac :=
 (.seq (.ops [⟨(some 1), .box (.t 0), none, []⟩,
   ⟨(some 2), .mov (.c (.str ⟨#[]⟩)), none, []⟩])
 (.seq (.seq (.ops [⟨(some 3), .load (some 5) (.t 1), none, []⟩,
    ⟨(some 4), .call 21 [(.t 3)], none, []⟩,
    ⟨(some 5), .un .not (.t 4), none, []⟩])
  (.cond (.t 5)
   (.seq (.ops [⟨(some 2), .mov (.c (.str ⟨#[]⟩)), none, []⟩])
   .ret)
   .skip))
 (.seq (.drawn [⟨(some 6), .fieldAddr 0 (.t 1), none, []⟩,
   ⟨(some 7), .load (some 4) (.t 6), none, []⟩,
   ⟨(some 8), .call 17 [(.t 7)], none, []⟩,
   ⟨(some 9), .bin .add .none (.t 8) (.c (.str ⟨#[47]⟩)), none, []⟩,
   ⟨(some 10), .fieldAddr 4 (.t 1), none, [1, 2]⟩,
   ⟨(some 11), .load none (.t 10), none, [0, 1, 2, 3]⟩,
   ⟨(some 12), .call 27 [(.t 11)], none, [3]⟩,
   ⟨(some 13), .bin .add .none (.t 9) (.t 12), none, []⟩,
   ⟨(some 2), .mov (.t 13), none, []⟩])
 .ret))) }
def fi20 : FnInfo := { m := 14, res := [(.tmp 2)], ac :=
 (.seq (.ops [⟨(some 1), .box (.t 0), none, []⟩,
   ⟨(some 2), .mov (.c (.str ⟨#[]⟩)), none, []⟩])
 (.seq (.seq (.ops [⟨(some 3), .load (some 5) (.t 1), none, []⟩,
    ⟨(some 4), .call 30 [(.t 3)], none, []⟩,
    ⟨(some 5), .un .not (.t 4), none, []⟩])
  (.cond (.t 5)
   (.seq (.ops [⟨(some 2), .mov (.c (.str ⟨#[]⟩)), none, []⟩])
   .ret)
   .skip))
 (.seq (.drawn [⟨(some 6), .fieldAddr 0 (.t 1), none, []⟩,
   ⟨(some 7), .load (some 4) (.t 6), none, []⟩,
   ⟨(some 8), .call 18 [(.t 7)], none, []⟩,
   ⟨(some 9), .bin .add .none (.t 8) (.c (.str ⟨#[47]⟩)), none, []⟩,
   ⟨(some 10), .fieldAddr 4 (.t 1), none, [1, 2]⟩,
   ⟨(some 11), .load none (.t 10), none, [0, 1, 2, 3]⟩,
   ⟨(some 12), .call 29 [(.t 11)], none, [3]⟩,
   ⟨(some 13), .bin .add .none (.t 9) (.t 12), none, []⟩,
   ⟨(some 2), .mov (.t 13), none, []⟩])
 .ret))) }
def fi21 : FnInfo := { m := 20, res := [(.tmp 2)], ac :=
 (.seq (.ops [⟨(some 1), .box (.t 0), none, []⟩,
   ⟨(some 2), .mov (.c (.bool false)), none, []⟩])
 (.seq (.drawn [⟨(some 3), .fieldAddr 4 (.t 1), none, []⟩,
   ⟨(some 4), .load none (.t 3), none, []⟩,
   ⟨(some 5), .bin .geq .none (.t 4) (.c (.int .i64 0)), none, []⟩,
   ⟨(some 6), .mov (.t 5), none, []⟩,
   ⟨(some 7), .fieldAddr 4 (.t 1), (some (6, true)), []⟩,
   ⟨(some 8), .load none (.t 7), (some (6, true)), []⟩,
   ⟨(some 9), .bin .leq .none (.t 8) (.c (.int .i64 32)), (some (6, true)), []⟩,
   ⟨(some 10), .pick (.t 6) (.t 9) (.c (.bool false)), none, []⟩,
   ⟨(some 11), .mov (.t 10), none, []⟩,
   ⟨(some 12), .fieldAddr 0 (.t 1), (some (11, true)), []⟩,
   ⟨(some 13), .load (some 4) (.t 12), (some (11, true)), []⟩,
   ⟨(some 14), .fieldAddr 4 (.t 1), (some (11, true)), [10]⟩,
   ⟨(some 15), .load none (.t 14), (some (11, true)), [9, 10]⟩,
   ⟨(some 16), .call 8 [(.t 13), (.t 15)], (some (11, true)), []⟩,
   ⟨(some 17), .load (some 5) (.t 1), (some (11, true)), [9, 10, 11, 12, 13]⟩,
   ⟨(some 18), .bin .eql (.agg [.int, .int, .int, .int, .int]) (.t 16) (.t 17), (some (11, true)), []⟩,
   ⟨(some 19), .pick (.t 11) (.t 18) (.c (.bool false)), none, []⟩,
   ⟨(some 2), .mov (.t 19), none, []⟩])
 .ret)) }
def fi22 : FnInfo := { m := 6, res := [(.cell 2 (some 4))], ac :=
 (.seq (.ops [⟨(some 2), .alloc [(.int .u8 0), (.int .u8 0), (.int .u8 0), (.int .u8 0)], none, []⟩])
 (.seq (.ops [⟨(some 3), .mov (.t 0), none, []⟩,
   ⟨(some 4), .call 23 [(.t 3)], none, []⟩,
   ⟨(some 5), .call 11 [(.t 4)], none, []⟩,
   ⟨none, .store 4 (.t 2) (.t 5), none, []⟩])
 .ret)) }
def fi23 : FnInfo := { m := 8, res := [(.tmp 2)], ac :=
 (.seq (.ops [⟨(some 2), .mov (.c (.int .u32 0)), none, []⟩])
 (.seq (.ops [⟨(some 3), .mov (.t 0), none, []⟩,
   ⟨(some 4), .minmax false [(.t 3), (.c (.int .i64 32))], none, []⟩,
   ⟨(some 5), .minmax true [(.c (.int .i64 0)), (.t 4)], none, []⟩,
   ⟨(some 6), .bin .sub .none (.c (.int .i64 32)) (.t 5), none, []⟩,
   ⟨(some 7), .bin .shl .none (.c (.int .u32 4294967295)) (.t 6), none, []⟩,
   ⟨(some 2), .mov (.t 7), none, []⟩])
 .ret)) }
def fi25 : FnInfo := { m := 31, res := [(.tmp 4), (.tmp 5)], ac :=
 (.seq (.ops [⟨(some 4), .mov (.c (.int .i64 0)), none, []⟩,
   ⟨(some 5), .mov (.c (.bool false)), none, []⟩])
 (.seq (.ops [⟨(some 9), .mov (.t 0), none, []⟩,
   ⟨(some 10), .call 32 [(.t 9)], none, []⟩,
   ⟨(some 8), .mov (.t 10), none, []⟩,
   ⟨(some 11), .extract (.t 8) 0, none, []⟩,
   ⟨(some 12), .extract (.t 8) 1, none, []⟩,
   ⟨(some 6), .mov (.t 11), none, []⟩,
   ⟨(some 7), .mov (.t 12), none, []⟩])
 (.seq (.ops [⟨(some 13), .mov (.t 6), none, []⟩,
   ⟨(some 14), .mov (.t 7), none, []⟩,
   ⟨(some 15), .bin .eql .iface (.t 14) (.c .niliface), none, []⟩,
   ⟨(some 16), .mov (.t 15), none, []⟩,
   ⟨(some 17), .mov (.t 6), (some (16, true)), []⟩,
   ⟨(some 18), .bin .geq .none (.t 17) (.c (.int .i64 0)), (some (16, true)), []⟩,
   ⟨(some 19), .pick (.t 16) (.t 18) (.c (.bool false)), none, []⟩,
   ⟨(some 20), .mov (.t 19), none, []⟩,
   ⟨(some 21), .mov (.t 6), (some (20, true)), []⟩,
   ⟨(some 22), .mov (.t 1), (some (20, true)), []⟩,
   ⟨(some 23), .bin .leq .none (.t 21) (.t 22), (some (20, true)), []⟩,
   ⟨(some 24), .pick (.t 20) (.t 23) (.c (.bool false)), none, []⟩,
   ⟨(some 25), .mov (.t 24), none, []⟩,
   ⟨(some 26), .mov (.t 6), (some (25, true)), []⟩,
   ⟨(some 27), .call 27 [(.t 26)], (some (25, true)), []⟩,
   ⟨(some 28), .mov (.t 0), (some (25, true)), []⟩,
   ⟨(some 29), .bin .eql .none (.t 27) (.t 28), (some (25, true)), []⟩,
   ⟨(some 30), .pick (.t 25) (.t 29) (.c (.bool false)), none, []⟩,
   ⟨(some 4), .mov (.t 13), none, []⟩,
   ⟨(some 5), .mov (.t 30), none, []⟩])
 .ret))) }
def fi26 : FnInfo := { m := 48, res := [(.tmp 2)], ac :=
 (.seq (.ops [⟨(some 2), .mov (.c (.vsl 0 [] (some 0))), none, []⟩])
 (.seq (.ops [⟨(some 6), .buildSlice 1 1 [(.int .i64 0)] [(0, 1, (.c (.int .i64 0)))], none, []⟩,
   ⟨(some 3), .mov (.t 6), none, []⟩])
 (.seq (.seq (.ops [⟨(some 4), .mov (.c (.int .i64 0)), none, []⟩])
  (.block 0 (.loop (.seq (.seq (.ops [⟨(some 7), .mov (.t 4), none, []⟩,
       ⟨(some 8), .mov (.t 0), none, []⟩,
       ⟨(some 9), .len .str (.t 8), none, []⟩,
       ⟨(some 10), .bin .lss .none (.t 7) (.t 9), none, []⟩])
     (.cond (.t 10)
      .skip
      (.exit 0)))
    (.seq (.block 1 (.seq (.ops [⟨(some 13), .mov (.t 0), none, []⟩,
        ⟨(some 14), .mov (.t 4), none, []⟩,
        ⟨(some 15), .index .str none (.t 13) (.t 14), none, []⟩,
        ⟨(some 16), .bin .geq .none (.t 15) (.c (.int .u8 48)), none, []⟩,
        ⟨(some 17), .mov (.t 16), none, []⟩,
        ⟨(some 18), .mov (.t 0), (some (17, true)), []⟩,
        ⟨(some 19), .mov (.t 4), (some (17, true)), []⟩,
        ⟨(some 20), .index .str none (.t 18) (.t 19), (some (17, true)), []⟩,
        ⟨(some 21), .bin .leq .none (.t 20) (.c (.int .u8 57)), (some (17, true)), []⟩,
        ⟨(some 22), .pick (.t 17) (.t 21) (.c (.bool false)), none, []⟩])
      (.cond (.t 22)
       (.seq (.ops [⟨(some 23), .mov (.t 3), none, []⟩,
         ⟨(some 24), .mov (.t 3), none, []⟩,
         ⟨(some 25), .len .sl (.t 24), none, []⟩,
         ⟨(some 26), .bin .sub .none (.t 25) (.c (.int .i64 1)), none, []⟩,
         ⟨(some 27), .indexAddr (.slice 1) (.t 23) (.t 26), none, []⟩,
         ⟨(some 28), .load none (.t 27), none, []⟩,
         ⟨(some 5), .mov (.t 28), none, []⟩])
       (.seq (.ops [⟨(some 29), .mov (.t 5), none, []⟩,
         ⟨(some 30), .bin .lss .none (.t 29) (.c (.int .i64 1000)), none, []⟩])
       (.cond (.t 30)
        (.ops [⟨(some 31), .mov (.t 3), none, []⟩,
         ⟨(some 32), .mov (.t 3), none, []⟩,
         ⟨(some 33), .len .sl (.t 32), none, []⟩,
         ⟨(some 34), .bin .sub .none (.t 33) (.c (.int .i64 1)), none, []⟩,
         ⟨(some 35), .mov (.t 5), none, []⟩,
         ⟨(some 36), .bin .mul .none (.c (.int .i64 10)) (.t 35), none, []⟩,
         ⟨(some 37), .mov (.t 0), none, []⟩,
         ⟨(some 38), .mov (.t 4), none, []⟩,
         ⟨(some 39), .index .str none (.t 37) (.t 38), none, []⟩,
         ⟨(some 40), .conv (.int .i64) (.t 39), none, []⟩,
         ⟨(some 41), .bin .add .none (.t 36) (.t 40), none, []⟩,
         ⟨(some 42), .bin .sub .none (.t 41) (.c (.int .i64 48)), none, []⟩,
         ⟨(some 43), .indexAddr (.slice 1) (.t 31) (.t 34), none, []⟩,
         ⟨none, .store 1 (.t 43) (.t 42), none, []⟩])
        .skip)))
       (.ops [⟨(some 44), .mov (.t 3), none, []⟩,
        ⟨(some 45), .buildSlice 1 1 [(.int .i64 0)] [(0, 1, (.c (.int .i64 0)))], none, []⟩,
        ⟨(some 46), .append 1 8 (.t 44) (.t 45), none, []⟩,
        ⟨(some 3), .mov (.t 46), none, []⟩]))))
    (.ops [⟨(some 11), .mov (.t 4), none, []⟩,
     ⟨(some 12), .bin .add .none (.t 11) (.c (.int .i64 1)), none, []⟩,
     ⟨(some 4), .mov (.t 12), none, []⟩]))))))
 (.seq (.ops [⟨(some 47), .mov (.t 3), none, []⟩,
   ⟨(some 2), .mov (.t 47), none, []⟩])
 .ret)))) }
def fi29 : FnInfo := { m := 16, res := [(.tmp 2)], ac :=
 (.seq (.ops [⟨(some 2), .mov (.c (.str ⟨#[]⟩)), none, []⟩])
 (.seq (.seq (.ops [⟨(some 3), .mov (.t 0), none, []⟩,
    ⟨(some 4), .bin .lss .none (.t 3) (.c (.int .i64 10)), none, []⟩])
  (.cond (.t 4)
   (.seq (.ops [⟨(some 5), .mov (.t 0), none, []⟩,
     ⟨(some 6), .mov (.t 0), none, []⟩,
     ⟨(some 7), .bin .add .none (.t 6) (.c (.int .i64 1)), none, []⟩,
     ⟨(some 8), .slice .str (.c (.str ⟨#[48, 49, 50, 51, 52, 53, 54, 55, 56, 57]⟩)) (some (.t 5)) (some (.t 7)) none, none, []⟩,
     ⟨(some 2), .mov (.t 8), none, []⟩])
   .ret)
   .skip))
 (.seq (.ops [⟨(some 9), .mov (.t 0), none, []⟩,
   ⟨(some 10), .bin .quo .none (.t 9) (.c (.int .i64 10)), none, []⟩,
   ⟨(some 11), .call 29 [(.t 10)], none, []⟩,
   ⟨(some 12), .mov (.t 0), none, []⟩,
   ⟨(some 13), .bin .rem .none (.t 12) (.c (.int .i64 10)), none, []⟩,
   ⟨(some 14), .call 29 [(.t 13)], none, []⟩,
   ⟨(some 15), .bin .add .none (.t 11) (.t 14), none, []⟩,
   ⟨(some 2), .mov (.t 15), none, []⟩])
 .ret))) }
def fi30 : FnInfo := { m := 18, res := [(.tmp 2)], ac :=
 (.seq (.ops [⟨(some 1), .box (.t 0), none, []⟩,
   ⟨(some 2), .mov (.c (.bool false)), none, []⟩])
 (.seq (.drawn [⟨(some 3), .fieldAddr 4 (.t 1), none, []⟩,
   ⟨(some 4), .load none (.t 3), none, []⟩,
   ⟨(some 5), .call 37 [(.t 4)], none, []⟩,
   ⟨(some 6), .fieldAddr 4 (.t 1), none, [1, 2]⟩,
   ⟨(some 7), .load none (.t 6), none, [0, 1, 2]⟩,
   ⟨(some 8), .bin .eql .none (.t 5) (.t 7), none, []⟩,
   ⟨(some 9), .mov (.t 8), none, []⟩,
   ⟨(some 10), .fieldAddr 0 (.t 1), (some (9, true)), []⟩,
   ⟨(some 11), .load (some 4) (.t 10), (some (9, true)), []⟩,
   ⟨(some 12), .fieldAddr 4 (.t 1), (some (9, true)), [8]⟩,
   ⟨(some 13), .load none (.t 12), (some (9, true)), [7, 8]⟩,
   ⟨(some 14), .call 38 [(.t 11), (.t 13)], (some (9, true)), []⟩,
   ⟨(some 15), .load (some 5) (.t 1), (some (9, true)), [7, 8, 9, 10, 11]⟩,
   ⟨(some 16), .bin .eql (.agg [.int, .int, .int, .int, .int]) (.t 14) (.t 15), (some (9, true)), []⟩,
   ⟨(some 17), .pick (.t 9) (.t 16) (.c (.bool false)), none, []⟩,
   ⟨(some 2), .mov (.t 17), none, []⟩])
 .ret)) }
def fi37 : FnInfo := { m := 8, res := [(.tmp 2)], ac :=
 (.seq (.ops [⟨(some 2), .mov (.c (.int .i64 0)), none, []⟩])
 (.seq (.seq (.ops [⟨(some 3), .mov (.t 0), none, []⟩,
    ⟨(some 4), .bin .lss .none (.t 3) (.c (.int .i64 0)), none, []⟩])
  (.cond (.t 4)
   (.seq (.ops [⟨(some 2), .mov (.c (.int .i64 0)), none, []⟩])
   .ret)
   .skip))
 (.seq (.seq (.ops [⟨(some 5), .mov (.t 0), none, []⟩,
    ⟨(some 6), .bin .gtr .none (.t 5) (.c (.int .i64 32)), none, []⟩])
  (.cond (.t 6)
   (.seq (.ops [⟨(some 2), .mov (.c (.int .i64 32)), none, []⟩])
   .ret)
   .skip))
 (.seq (.ops [⟨(some 7), .mov (.t 0), none, []⟩,
   ⟨(some 2), .mov (.t 7), none, []⟩])
 .ret)))) }
def fi38 : FnInfo := { m := 31, res := [(.cell 4 (some 5))], ac :=
 (.seq (.ops [⟨(some 2), .box (.t 0), none, []⟩,
   ⟨(some 4), .alloc [(.int .u8 0), (.int .u8 0), (.int .u8 0), (.int .u8 0), (.int .i64 0)], none, []⟩])
 (.seq (.ops [⟨(some 9), .load (some 4) (.t 2), none, []⟩,
   ⟨(some 10), .call 45 [(.t 9)], none, []⟩,
   ⟨(some 5), .mov (.t 10), none, []⟩])
 (.seq (.ops [⟨(some 11), .mov (.t 1), none, []⟩,
   ⟨(some 12), .call 37 [(.t 11)], none, []⟩,
   ⟨(some 6), .mov (.t 12), none, []⟩])
 (.seq (.seq (.ops [⟨(some 13), .mov (.t 6), none, []⟩,
    ⟨(some 7), .mov (.t 13), none, []⟩])
  (.block 0 (.loop (.seq (.seq (.ops [⟨(some 14), .mov (.t 7), none, []⟩,
       ⟨(some 15), .bin .lss .none (.t 14) (.c (.int .i64 32)), none, []⟩])
     (.cond (.t 15)
      .skip
      (.exit 0)))
    (.seq (.block 1 (.ops [⟨(some 18), .mov (.t 5), none, []⟩,
       ⟨(some 19), .bin .quo .none (.t 18) (.c (.int .u32 2)), none, []⟩,
       ⟨(some 5), .mov (.t 19), none, []⟩]))
    (.ops [⟨(some 16), .mov (.t 7), none, []⟩,
     ⟨(some 17), .bin .add .none (.t 16) (.c (.int .i64 1)), none, []⟩,
     ⟨(some 7), .mov (.t 17), none, []⟩]))))))
 (.seq (.seq (.ops [⟨(some 20), .mov (.t 6), none, []⟩,
    ⟨(some 8), .mov (.t 20), none, []⟩])
  (.block 2 (.loop (.seq (.seq (.ops [⟨(some 21), .mov (.t 8), none, []⟩,
       ⟨(some 22), .bin .lss .none (.t 21) (.c (.int .i64 32)), none, []⟩])
     (.cond (.t 22)
      .skip
      (.exit 2)))
    (.seq (.block 3 (.ops [⟨(some 25), .mov (.t 5), none, []⟩,
       ⟨(some 26), .bin .mul .none (.t 25) (.c (.int .u32 2)), none, []⟩,
       ⟨(some 5), .mov (.t 26), none, []⟩]))
    (.ops [⟨(some 23), .mov (.t 8), none, []⟩,
     ⟨(some 24), .bin .add .none (.t 23) (.c (.int .i64 1)), none, []⟩,
     ⟨(some 8), .mov (.t 24), none, []⟩]))))))
 (.seq (.ops [⟨(some 27), .mov (.t 5), none, []⟩,
   ⟨(some 28), .call 46 [(.t 27)], none, []⟩,
   ⟨(some 29), .mov (.t 6), none, []⟩,
   ⟨(some 30), .build [(.int .u8 0), (.int .u8 0), (.int .u8 0), (.int .u8 0), (.int .i64 0)] [(0, 4, (.t 28)), (4, 1, (.t 29))], none, []⟩,
   ⟨none, .store 5 (.t 4) (.t 30), none, []⟩])
 .ret)))))) }
def fi45 : FnInfo := { m := 21, res := [(.tmp 2)], ac :=
 (.seq (.ops [⟨(some 1), .box (.t 0), none, []⟩,
   ⟨(some 2), .mov (.c (.int .u32 0)), none, []⟩])
 (.seq (.ops [⟨(some 3), .indexAddr (.array 4 1) (.t 1) (.c (.int .i64 0)), none, []⟩,
   ⟨(some 4), .load none (.t 3), none, []⟩,
   ⟨(some 5), .conv (.int .u32) (.t 4), none, []⟩,
   ⟨(some 6), .bin .mul .none (.t 5) (.c (.int .u32 16777216)), none, []⟩,
   ⟨(some 7), .indexAddr (.array 4 1) (.t 1) (.c (.int .i64 1)), none, []⟩,
   ⟨(some 8), .load none (.t 7), none, []⟩,
   ⟨(some 9), .conv (.int .u32) (.t 8), none, []⟩,
   ⟨(some 10), .bin .mul .none (.t 9) (.c (.int .u32 65536)), none, []⟩,
   ⟨(some 11), .bin .add .none (.t 6) (.t 10), none, []⟩,
   ⟨(some 12), .indexAddr (.array 4 1) (.t 1) (.c (.int .i64 2)), none, []⟩,
   ⟨(some 13), .load none (.t 12), none, []⟩,
   ⟨(some 14), .conv (.int .u32) (.t 13), none, []⟩,
   ⟨(some 15), .bin .mul .none (.t 14) (.c (.int .u32 256)), none, []⟩,
   ⟨(some 16), .bin .add .none (.t 11) (.t 15), none, []⟩,
   ⟨(some 17), .indexAddr (.array 4 1) (.t 1) (.c (.int .i64 3)), none, []⟩,
   ⟨(some 18), .load none (.t 17), none, []⟩,
   ⟨(some 19), .conv (.int .u32) (.t 18), none, []⟩,
   ⟨(some 20), .bin .add .none (.t 16) (.t 19), none, []⟩,
   ⟨(some 2), .mov (.t 20), none, []⟩])
 .ret)) }
def fi46 : FnInfo := { m := 18, res := [(.cell 2 (some 4))], ac :=
 (.seq (.ops [⟨(some 2), .alloc [(.int .u8 0), (.int .u8 0), (.int .u8 0), (.int .u8 0)], none, []⟩])
 (.seq (.ops [⟨(some 3), .mov (.t 0), none, []⟩,
   ⟨(some 4), .bin .quo .none (.t 3) (.c (.int .u32 16777216)), none, []⟩,
   ⟨(some 5), .conv (.int .u8) (.t 4), none, []⟩,
   ⟨(some 6), .mov (.t 0), none, []⟩,
   ⟨(some 7), .bin .quo .none (.t 6) (.c (.int .u32 65536)), none, []⟩,
   ⟨(some 8), .bin .rem .none (.t 7) (.c (.int .u32 256)), none, []⟩,
   ⟨(some 9), .conv (.int .u8) (.t 8), none, []⟩,
   ⟨(some 10), .mov (.t 0), none, []⟩,
   ⟨(some 11), .bin .quo .none (.t 10) (.c (.int .u32 256)), none, []⟩,
   ⟨(some 12), .bin .rem .none (.t 11) (.c (.int .u32 256)), none, []⟩,
   ⟨(some 13), .conv (.int .u8) (.t 12), none, []⟩,
   ⟨(some 14), .mov (.t 0), none, []⟩,
   ⟨(some 15), .bin .rem .none (.t 14) (.c (.int .u32 256)), none, []⟩,
   ⟨(some 16), .conv (.int .u8) (.t 15), none, []⟩,
   ⟨(some 17), .build [(.int .u8 0), (.int .u8 0), (.int .u8 0), (.int .u8 0)] [(0, 1, (.t 5)), (1, 1, (.t 9)), (2, 1, (.t 13)), (3, 1, (.t 16))], none, []⟩,
   ⟨none, .store 4 (.t 2) (.t 17), none, []⟩])
 .ret)) }
end Go.Fw.Sy.Ad
