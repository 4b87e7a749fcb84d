import Derived.Test.YtfmonjbhfocjbaaGreatDoorAvS
import Derived.Test.YtfmonjbhfocjbaaGreatDoorProg
namespace Go.Av.U
open Go Go.Av Go.Proofs
def extB : CallO := fun f args σ => match f, args with
  | 10, [] => some (.bool true, σ)
  | _, _ => none
/-- hammock/hammocklaw20.InstrStack -/
def T5 : TC :=
  .op ⟨(some 1), (.box 45 (.t 0)), none⟩ <|
  .op ⟨(some 2), (.mv (.c (.bool false))), none⟩ <|
  .op ⟨(some 6), (.foff 3 (.t 1)), none⟩ <|
  .op ⟨(some 7), (.load false 1 (.t 6)), none⟩ <|
  .op ⟨(some 8), (.lenl (.t 7)), none⟩ <|
  .op ⟨(some 9), (.ibin .gtr (.t 8) (.c (.int .i64 300))), none⟩ <|
  .cond (.t 9)
    (.op ⟨(some 10), (.call (.c (.fn (.func 10) [] [])) []), none⟩ <|
      .op ⟨(some 2), (.mv (.t 10)), none⟩ <|
      .ret [(.t 2)])
    (.op ⟨(some 11), (.load true 4 (.t 1)), none⟩ <|
      .op ⟨(some 12), (.call (.c (.fn (.func 19) [] [])) [(.t 11)]), none⟩ <|
      .op ⟨(some 3), (.alloc 46 [(.int .i64 0), (.int .i64 0), (.int .i64 0), (.sl .nil 0 [])]), none⟩ <|
      .op ⟨none, (.store 4 (.t 3) (.t 12)), none⟩ <|
      .op ⟨(some 13), (.load true 4 (.t 3)), none⟩ <|
      .op ⟨(some 14), (.call (.c (.fn (.func 20) [] [])) [(.t 13)]), none⟩ <|
      .op ⟨(some 4), (.mv (.t 14)), none⟩ <|
      .op ⟨(some 15), (.load true 4 (.t 3)), none⟩ <|
      .op ⟨(some 16), (.call (.c (.fn (.func 21) [] [])) [(.t 15)]), none⟩ <|
      .op ⟨(some 5), (.mv (.t 16)), none⟩ <|
      .op ⟨(some 17), (.mv (.t 4)), none⟩ <|
      .op ⟨(some 18), (.ibin .geq (.t 17) (.c (.int .i64 0))), none⟩ <|
      .op ⟨(some 19), (.mv (.t 18)), none⟩ <|
      .op ⟨(some 20), (.mv (.t 4)), (some (19, true))⟩ <|
      .op ⟨(some 21), (.mv (.t 5)), (some (19, true))⟩ <|
      .op ⟨(some 22), (.ibin .add (.t 20) (.t 21)), (some (19, true))⟩ <|
      .op ⟨(some 23), (.ibin .geq (.t 22) (.c (.int .i64 0))), (some (19, true))⟩ <|
      .op ⟨(some 24), (.pick (.t 19) (.t 23) (.c (.bool false))), none⟩ <|
      .op ⟨(some 25), (.mv (.t 24)), none⟩ <|
      .op ⟨(some 26), (.load true 4 (.t 3)), (some (25, true))⟩ <|
      .op ⟨(some 27), (.call (.c (.fn (.func 22) [] [])) [(.t 26)]), (some (25, true))⟩ <|
      .op ⟨(some 28), (.mv (.t 27)), (some (25, true))⟩ <|
      .op ⟨(some 29), (.mv (.t 4)), (some (28, false))⟩ <|
      .op ⟨(some 30), (.ibin .eql (.t 29) (.c (.int .i64 0))), (some (28, false))⟩ <|
      .op ⟨(some 31), (.mv (.t 30)), (some (28, false))⟩ <|
      .op ⟨(some 32), (.mv (.t 5)), (some (31, true))⟩ <|
      .op ⟨(some 33), (.ibin .eql (.t 32) (.c (.int .i64 0))), (some (31, true))⟩ <|
      .op ⟨(some 34), (.pick (.t 31) (.t 33) (.c (.bool false))), (some (28, false))⟩ <|
      .op ⟨(some 35), (.pick (.t 28) (.c (.bool true)) (.t 34)), (some (25, true))⟩ <|
      .op ⟨(some 36), (.pick (.t 25) (.t 35) (.c (.bool false))), none⟩ <|
      .op ⟨(some 37), (.mv (.t 36)), none⟩ <|
      .op ⟨(some 38), (.call (.c (.fn (.func 10) [] [])) []), (some (37, true))⟩ <|
      .op ⟨(some 39), (.pick (.t 37) (.t 38) (.c (.bool false))), none⟩ <|
      .op ⟨(some 2), (.mv (.t 39)), none⟩ <|
      .ret [(.t 2)])
def fc5 : FC := ⟨⟨false, false⟩, T5, lookL []⟩
/-- hammock/hammocklaw20.OwnInstr -/
def T19 : TC :=
  .op ⟨(some 1), (.box 45 (.t 0)), none⟩ <|
  .op ⟨(some 2), (.alloc 46 [(.int .i64 0), (.int .i64 0), (.int .i64 0), (.sl .nil 0 [])]), none⟩ <|
  .op ⟨(some 3), (.foff 0 (.t 1)), none⟩ <|
  .op ⟨(some 4), (.load false 1 (.t 3)), none⟩ <|
  .op ⟨(some 5), (.foff 1 (.t 1)), none⟩ <|
  .op ⟨(some 6), (.load false 1 (.t 5)), none⟩ <|
  .op ⟨(some 7), (.foff 2 (.t 1)), none⟩ <|
  .op ⟨(some 8), (.load false 1 (.t 7)), none⟩ <|
  .op ⟨(some 9), (.bsl 2 (.agg [(.int .i64 0), (.int .i64 0)]) 0 []), none⟩ <|
  .op ⟨(some 10), (.foff 3 (.t 1)), none⟩ <|
  .op ⟨(some 11), (.load false 1 (.t 10)), none⟩ <|
  .op ⟨(some 12), (.app 138 2 16 (.t 9) (.t 11)), none⟩ <|
  .again ⟨(some 8), (.load false 1 (.t 7)), none⟩ <|
  .again ⟨(some 6), (.load false 1 (.t 5)), none⟩ <|
  .again ⟨(some 4), (.load false 1 (.t 3)), none⟩ <|
  .op ⟨(some 13), (.build [(.int .i64 0), (.int .i64 0), (.int .i64 0), (.sl .nil 0 [])] [(0, 1, (.t 4)), (1, 1, (.t 6)), (2, 1, (.t 8)), (3, 1, (.t 12))]), none⟩ <|
  .op ⟨none, (.store 4 (.t 2) (.t 13)), none⟩ <|
  .ret [(.c true 4 2)]
def fc19 : FC := ⟨⟨false, false⟩, T19, lookL []⟩
/-- hammock/instr.Reads -/
def T20 : TC :=
  .op ⟨(some 1), (.box 46 (.t 0)), none⟩ <|
  .op ⟨(some 2), (.mv (.c (.int .i64 0))), none⟩ <|
  .op ⟨(some 5), (.load true 4 (.t 1)), none⟩ <|
  .op ⟨(some 6), (.call (.c (.fn (.func 22) [] [])) [(.t 5)]), none⟩ <|
  .op ⟨(some 7), (.not (.t 6)), none⟩ <|
  .cond (.t 7)
    (.op ⟨(some 2), (.mv (.c (.int .i64 0))), none⟩ <|
      .ret [(.t 2)])
    (.op ⟨(some 9), (.load true 4 (.t 1)), none⟩ <|
      .op ⟨(some 10), (.call (.c (.fn (.func 71) [] [])) [(.t 9)]), none⟩ <|
      .op ⟨(some 8), (.mv (.t 10)), none⟩ <|
      .op ⟨(some 11), (.extr 0 (.t 8)), none⟩ <|
      .op ⟨(some 12), (.extr 1 (.t 8)), none⟩ <|
      .op ⟨(some 3), (.alloc 141 [(.str ⟨#[]⟩), (.int .i64 0), (.int .i64 0), (.int .i64 0), (.int .i64 0), (.int .i64 0), (.int .i64 0), (.int .i64 0)]), none⟩ <|
      .op ⟨none, (.store 8 (.t 3) (.t 11)), none⟩ <|
      .op ⟨(some 4), (.mv (.t 12)), none⟩ <|
      .op ⟨(some 13), (.foff 4 (.t 3)), none⟩ <|
      .op ⟨(some 14), (.load false 1 (.t 13)), none⟩ <|
      .op ⟨(some 15), (.foff 5 (.t 3)), none⟩ <|
      .op ⟨(some 16), (.load false 1 (.t 15)), none⟩ <|
      .op ⟨(some 17), (.foff 1 (.t 1)), none⟩ <|
      .op ⟨(some 18), (.load false 1 (.t 17)), none⟩ <|
      .op ⟨(some 19), (.ibin .mul (.t 16) (.t 18)), none⟩ <|
      .op ⟨(some 20), (.ibin .add (.t 14) (.t 19)), none⟩ <|
      .op ⟨(some 21), (.foff 2 (.t 1)), none⟩ <|
      .op ⟨(some 22), (.load false 1 (.t 21)), none⟩ <|
      .op ⟨(some 23), (.ibin .add (.t 20) (.t 22)), none⟩ <|
      .op ⟨(some 2), (.mv (.t 23)), none⟩ <|
      .ret [(.t 2)])
def fc20 : FC := ⟨⟨false, false⟩, T20, lookL []⟩
/-- hammock/instr.Leaves -/
def T21 : TC :=
  .op ⟨(some 1), (.box 46 (.t 0)), none⟩ <|
  .op ⟨(some 2), (.mv (.c (.int .i64 0))), none⟩ <|
  .op ⟨(some 5), (.load true 4 (.t 1)), none⟩ <|
  .op ⟨(some 6), (.call (.c (.fn (.func 22) [] [])) [(.t 5)]), none⟩ <|
  .op ⟨(some 7), (.not (.t 6)), none⟩ <|
  .cond (.t 7)
    (.op ⟨(some 2), (.mv (.c (.int .i64 0))), none⟩ <|
      .ret [(.t 2)])
    (.op ⟨(some 9), (.load true 4 (.t 1)), none⟩ <|
      .op ⟨(some 10), (.call (.c (.fn (.func 71) [] [])) [(.t 9)]), none⟩ <|
      .op ⟨(some 8), (.mv (.t 10)), none⟩ <|
      .op ⟨(some 11), (.extr 0 (.t 8)), none⟩ <|
      .op ⟨(some 12), (.extr 1 (.t 8)), none⟩ <|
      .op ⟨(some 3), (.alloc 141 [(.str ⟨#[]⟩), (.int .i64 0), (.int .i64 0), (.int .i64 0), (.int .i64 0), (.int .i64 0), (.int .i64 0), (.int .i64 0)]), none⟩ <|
      .op ⟨none, (.store 8 (.t 3) (.t 11)), none⟩ <|
      .op ⟨(some 4), (.mv (.t 12)), none⟩ <|
      .op ⟨(some 13), (.foff 6 (.t 3)), none⟩ <|
      .op ⟨(some 14), (.load false 1 (.t 13)), none⟩ <|
      .op ⟨(some 15), (.foff 7 (.t 3)), none⟩ <|
      .op ⟨(some 16), (.load false 1 (.t 15)), none⟩ <|
      .op ⟨(some 17), (.foff 1 (.t 1)), none⟩ <|
      .op ⟨(some 18), (.load false 1 (.t 17)), none⟩ <|
      .op ⟨(some 19), (.ibin .mul (.t 16) (.t 18)), none⟩ <|
      .op ⟨(some 20), (.ibin .add (.t 14) (.t 19)), none⟩ <|
      .op ⟨(some 21), (.foff 2 (.t 1)), none⟩ <|
      .op ⟨(some 22), (.load false 1 (.t 21)), none⟩ <|
      .op ⟨(some 23), (.ibin .sub (.t 20) (.t 22)), none⟩ <|
      .op ⟨(some 2), (.mv (.t 23)), none⟩ <|
      .ret [(.t 2)])
def fc21 : FC := ⟨⟨false, false⟩, T21, lookL []⟩
/-- hammock/instr.Right -/
def T22 : TC :=
  .op ⟨(some 1), (.box 46 (.t 0)), none⟩ <|
  .op ⟨(some 2), (.mv (.c (.bool false))), none⟩ <|
  .op ⟨(some 6), (.load true 4 (.t 1)), none⟩ <|
  .op ⟨(some 7), (.call (.c (.fn (.func 71) [] [])) [(.t 6)]), none⟩ <|
  .op ⟨(some 5), (.mv (.t 7)), none⟩ <|
  .op ⟨(some 8), (.extr 0 (.t 5)), none⟩ <|
  .op ⟨(some 9), (.extr 1 (.t 5)), none⟩ <|
  .op ⟨(some 3), (.alloc 141 [(.str ⟨#[]⟩), (.int .i64 0), (.int .i64 0), (.int .i64 0), (.int .i64 0), (.int .i64 0), (.int .i64 0), (.int .i64 0)]), none⟩ <|
  .op ⟨none, (.store 8 (.t 3) (.t 8)), none⟩ <|
  .op ⟨(some 4), (.mv (.t 9)), none⟩ <|
  .op ⟨(some 11), (.mv (.t 4)), none⟩ <|
  .op ⟨(some 12), (.not (.t 11)), none⟩ <|
  .op ⟨(some 13), (.mv (.t 12)), none⟩ <|
  .op ⟨(some 14), (.foff 1 (.t 3)), (some (13, false))⟩ <|
  .op ⟨(some 15), (.load false 1 (.t 14)), (some (13, false))⟩ <|
  .op ⟨(some 16), (.ibin .lss (.t 15) (.c (.int .i64 2))), (some (13, false))⟩ <|
  .op ⟨(some 17), (.mv (.t 16)), (some (13, false))⟩ <|
  .op ⟨(some 18), (.foff 2 (.t 1)), (some (17, true))⟩ <|
  .op ⟨(some 19), (.load false 1 (.t 18)), (some (17, true))⟩ <|
  .op ⟨(some 20), (.ibin .neq (.t 19) (.c (.int .i64 0))), (some (17, true))⟩ <|
  .op ⟨(some 21), (.pick (.t 17) (.t 20) (.c (.bool false))), (some (13, false))⟩ <|
  .op ⟨(some 22), (.pick (.t 13) (.c (.bool true)) (.t 21)), none⟩ <|
  .op ⟨(some 23), (.mv (.t 22)), none⟩ <|
  .op ⟨(some 24), (.foff 1 (.t 3)), (some (23, false))⟩ <|
  .op ⟨(some 25), (.load false 1 (.t 24)), (some (23, false))⟩ <|
  .op ⟨(some 26), (.ibin .lss (.t 25) (.c (.int .i64 1))), (some (23, false))⟩ <|
  .op ⟨(some 27), (.mv (.t 26)), (some (23, false))⟩ <|
  .op ⟨(some 28), (.foff 1 (.t 1)), (some (27, true))⟩ <|
  .op ⟨(some 29), (.load false 1 (.t 28)), (some (27, true))⟩ <|
  .op ⟨(some 30), (.ibin .neq (.t 29) (.c (.int .i64 0))), (some (27, true))⟩ <|
  .op ⟨(some 31), (.pick (.t 27) (.t 30) (.c (.bool false))), (some (23, false))⟩ <|
  .op ⟨(some 32), (.pick (.t 23) (.c (.bool true)) (.t 31)), none⟩ <|
  .op ⟨(some 33), (.mv (.t 32)), none⟩ <|
  .op ⟨(some 34), (.foff 1 (.t 3)), (some (33, false))⟩ <|
  .op ⟨(some 35), (.load false 1 (.t 34)), (some (33, false))⟩ <|
  .op ⟨(some 36), (.ibin .geq (.t 35) (.c (.int .i64 0))), (some (33, false))⟩ <|
  .op ⟨(some 37), (.mv (.t 36)), (some (33, false))⟩ <|
  .op ⟨(some 38), (.foff 3 (.t 1)), (some (37, true))⟩ <|
  .op ⟨(some 39), (.load false 1 (.t 38)), (some (37, true))⟩ <|
  .op ⟨(some 40), (.lenl (.t 39)), (some (37, true))⟩ <|
  .op ⟨(some 41), (.ibin .gtr (.t 40) (.c (.int .i64 0))), (some (37, true))⟩ <|
  .op ⟨(some 42), (.pick (.t 37) (.t 41) (.c (.bool false))), (some (33, false))⟩ <|
  .op ⟨(some 43), (.pick (.t 33) (.c (.bool true)) (.t 42)), none⟩ <|
  .op ⟨(some 10), (.mv (.t 43)), none⟩ <|
  .cond (.t 10)
    (.op ⟨(some 2), (.mv (.c (.bool false))), none⟩ <|
      .ret [(.t 2)])
    (.op ⟨(some 45), (.foff 1 (.t 3)), none⟩ <|
      .op ⟨(some 46), (.load false 1 (.t 45)), none⟩ <|
      .op ⟨(some 47), (.ibin .lss (.t 46) (.c (.int .i64 0))), none⟩ <|
      .op ⟨(some 44), (.mv (.t 47)), none⟩ <|
      .cond (.t 44)
        (.op ⟨(some 48), (.load true 4 (.t 1)), none⟩ <|
          .op ⟨(some 49), (.call (.c (.fn (.func 72) [] [])) [(.t 48)]), none⟩ <|
          .op ⟨(some 2), (.mv (.t 49)), none⟩ <|
          .ret [(.t 2)])
        (.op ⟨(some 51), (.foff 0 (.t 1)), none⟩ <|
          .op ⟨(some 52), (.load false 1 (.t 51)), none⟩ <|
          .op ⟨(some 53), (.ibin .eql (.t 52) (.c (.int .i64 0))), none⟩ <|
          .op ⟨(some 50), (.mv (.t 53)), none⟩ <|
          .cond (.t 50)
            (.op ⟨(some 2), (.mv (.c (.bool true))), none⟩ <|
              .ret [(.t 2)])
            (.op ⟨(some 54), (.foff 1 (.t 3)), none⟩ <|
              .op ⟨(some 55), (.load false 1 (.t 54)), none⟩ <|
              .op ⟨(some 56), (.ibin .eql (.t 55) (.c (.int .i64 0))), none⟩ <|
              .op ⟨(some 57), (.mv (.t 56)), none⟩ <|
              .op ⟨(some 58), (.foff 2 (.t 3)), (some (57, false))⟩ <|
              .op ⟨(some 59), (.load false 1 (.t 58)), (some (57, false))⟩ <|
              .op ⟨(some 60), (.foff 1 (.t 1)), (some (57, false))⟩ <|
              .op ⟨(some 61), (.load false 1 (.t 60)), (some (57, false))⟩ <|
              .op ⟨(some 62), (.foff 3 (.t 3)), (some (57, false))⟩ <|
              .op ⟨(some 63), (.load false 1 (.t 62)), (some (57, false))⟩ <|
              .op ⟨(some 64), (.call (.c (.fn (.func 73) [] [])) [(.t 59), (.t 61), (.t 63)]), (some (57, false))⟩ <|
              .op ⟨(some 65), (.mv (.t 64)), (some (57, false))⟩ <|
              .op ⟨(some 66), (.foff 2 (.t 1)), (some (65, true))⟩ <|
              .op ⟨(some 67), (.load false 1 (.t 66)), (some (65, true))⟩ <|
              .op ⟨(some 68), (.call (.c (.fn (.func 73) [] [])) [(.c (.int .i64 0)), (.t 67), (.c (.int .i64 255))]), (some (65, true))⟩ <|
              .op ⟨(some 69), (.pick (.t 65) (.t 68) (.c (.bool false))), (some (57, false))⟩ <|
              .op ⟨(some 70), (.pick (.t 57) (.c (.bool true)) (.t 69)), none⟩ <|
              .op ⟨(some 2), (.mv (.t 70)), none⟩ <|
              .ret [(.t 2)])))
def fc22 : FC := ⟨⟨false, false⟩, T22, lookL []⟩
/-- (hammock/instr.Instr).form -/
def T71 : TC :=
  .op ⟨(some 1), (.box 46 (.t 0)), none⟩ <|
  .op ⟨(some 2), (.alloc 141 [(.str ⟨#[]⟩), (.int .i64 0), (.int .i64 0), (.int .i64 0), (.int .i64 0), (.int .i64 0), (.int .i64 0), (.int .i64 0)]), none⟩ <|
  .op ⟨(some 3), (.mv (.c (.bool false))), none⟩ <|
  .op ⟨(some 5), (.call (.c (.fn (.func 112) [] [])) []), none⟩ <|
  .op ⟨(some 4), (.alloc 199 [(.str ⟨#[]⟩), (.int .i64 0), (.int .i64 0), (.int .i64 0), (.int .i64 0), (.int .i64 0), (.int .i64 0), (.int .i64 0), (.str ⟨#[]⟩), (.int .i64 0), (.int .i64 0), (.int .i64 0), (.int .i64 0), (.int .i64 0), (.int .i64 0), (.int .i64 0), (.str ⟨#[]⟩), (.int .i64 0), (.int .i64 0), (.int .i64 0), (.int .i64 0), (.int .i64 0), (.int .i64 0), (.int .i64 0), (.str ⟨#[]⟩), (.int .i64 0), (.int .i64 0), (.int .i64 0), (.int .i64 0), (.int .i64 0), (.int .i64 0), (.int .i64 0), (.str ⟨#[]⟩), (.int .i64 0), (.int .i64 0), (.int .i64 0), (.int .i64 0), (.int .i64 0), (.int .i64 0), (.int .i64 0), (.str ⟨#[]⟩), (.int .i64 0), (.int .i64 0), (.int .i64 0), (.int .i64 0), (.int .i64 0), (.int .i64 0), (.int .i64 0), (.str ⟨#[]⟩), (.int .i64 0), (.int .i64 0), (.int .i64 0), (.int .i64 0), (.int .i64 0), (.int .i64 0), (.int .i64 0), (.str ⟨#[]⟩), (.int .i64 0), (.int .i64 0), (.int .i64 0), (.int .i64 0), (.int .i64 0), (.int .i64 0), (.int .i64 0), (.str ⟨#[]⟩), (.int .i64 0), (.int .i64 0), (.int .i64 0), (.int .i64 0), (.int .i64 0), (.int .i64 0), (.int .i64 0), (.str ⟨#[]⟩), (.int .i64 0), (.int .i64 0), (.int .i64 0), (.int .i64 0), (.int .i64 0), (.int .i64 0), (.int .i64 0), (.str ⟨#[]⟩), (.int .i64 0), (.int .i64 0), (.int .i64 0), (.int .i64 0), (.int .i64 0), (.int .i64 0), (.int .i64 0), (.str ⟨#[]⟩), (.int .i64 0), (.int .i64 0), (.int .i64 0), (.int .i64 0), (.int .i64 0), (.int .i64 0), (.int .i64 0), (.str ⟨#[]⟩), (.int .i64 0), (.int .i64 0), (.int .i64 0), (.int .i64 0), (.int .i64 0), (.int .i64 0), (.int .i64 0), (.str ⟨#[]⟩), (.int .i64 0), (.int .i64 0), (.int .i64 0), (.int .i64 0), (.int .i64 0), (.int .i64 0), (.int .i64 0), (.str ⟨#[]⟩), (.int .i64 0), (.int .i64 0), (.int .i64 0), (.int .i64 0), (.int .i64 0), (.int .i64 0), (.int .i64 0), (.str ⟨#[]⟩), (.int .i64 0), (.int .i64 0), (.int .i64 0), (.int .i64 0), (.int .i64 0), (.int .i64 0), (.int .i64 0), (.str ⟨#[]⟩), (.int .i64 0), (.int .i64 0), (.int .i64 0), (.int .i64 0), (.int .i64 0), (.int .i64 0), (.int .i64 0)]), none⟩ <|
  .op ⟨none, (.store 136 (.t 4) (.t 5)), none⟩ <|
  .op ⟨(some 6), (.foff 0 (.t 1)), none⟩ <|
  .op ⟨(some 7), (.load false 1 (.t 6)), none⟩ <|
  .op ⟨(some 8), (.ibin .lss (.t 7) (.c (.int .i64 0))), none⟩ <|
  .op ⟨(some 9), (.mv (.t 8)), none⟩ <|
  .op ⟨(some 10), (.foff 0 (.t 1)), (some (9, false))⟩ <|
  .op ⟨(some 11), (.load false 1 (.t 10)), (some (9, false))⟩ <|
  .op ⟨(some 12), (.ibin .geq (.t 11) (.c (.int .i64 17))), (some (9, false))⟩ <|
  .op ⟨(some 13), (.pick (.t 9) (.c (.bool true)) (.t 12)), none⟩ <|
  .cond (.t 13)
    (.op ⟨(some 14), (.build [(.str ⟨#[]⟩), (.int .i64 0), (.int .i64 0), (.int .i64 0), (.int .i64 0), (.int .i64 0), (.int .i64 0), (.int .i64 0)] []), none⟩ <|
      .op ⟨none, (.store 8 (.t 2) (.t 14)), none⟩ <|
      .op ⟨(some 3), (.mv (.c (.bool false))), none⟩ <|
      .ret [(.c true 8 2), (.t 3)])
    (.op ⟨(some 15), (.foff 0 (.t 1)), none⟩ <|
      .op ⟨(some 16), (.load false 1 (.t 15)), none⟩ <|
      .op ⟨(some 17), (.idxa 17 8 (.t 4) (.t 16)), none⟩ <|
      .op ⟨(some 18), (.load true 8 (.t 17)), none⟩ <|
      .op ⟨none, (.store 8 (.t 2) (.t 18)), none⟩ <|
      .op ⟨(some 3), (.mv (.c (.bool true))), none⟩ <|
      .ret [(.c true 8 2), (.t 3)])
def fc71 : FC := ⟨⟨false, false⟩, T71, lookL []⟩
/-- (hammock/instr.Instr).pairs -/
def T72 : TC :=
  .op ⟨(some 1), (.box 46 (.t 0)), none⟩ <|
  .op ⟨(some 2), (.mv (.c (.bool false))), none⟩ <|
  .op ⟨(some 3), (.mv (.c (.int .i64 65536))), none⟩ <|
  .op ⟨(some 7), (.foff 0 (.t 1)), none⟩ <|
  .op ⟨(some 8), (.load false 1 (.t 7)), none⟩ <|
  .op ⟨(some 9), (.ibin .eql (.t 8) (.c (.int .i64 11))), none⟩ <|
  .cond (.t 9)
    (.op ⟨(some 3), (.mv (.c (.int .i64 257))), none⟩ <|
      .jump 7 [1, 3])
    (.jump 7 [1, 3])
def T72_7 : TC :=
  .op ⟨(some 10), (.foff 3 (.t 1)), none⟩ <|
  .op ⟨(some 11), (.load false 1 (.t 10)), none⟩ <|
  .op ⟨(some 4), (.mv (.t 11)), none⟩ <|
  .op ⟨(some 12), (.mv (.t 4)), none⟩ <|
  .op ⟨(some 13), (.lenl (.t 12)), none⟩ <|
  .op ⟨(some 14), (.mv (.t 3)), none⟩ <|
  .op ⟨(some 15), (.call (.c (.fn (.func 73) [] [])) [(.c (.int .i64 1)), (.t 13), (.t 14)]), none⟩ <|
  .op ⟨(some 16), (.not (.t 15)), none⟩ <|
  .op ⟨(some 17), (.mv (.t 16)), none⟩ <|
  .op ⟨(some 18), (.foff 0 (.t 1)), (some (17, false))⟩ <|
  .op ⟨(some 19), (.load false 1 (.t 18)), (some (17, false))⟩ <|
  .op ⟨(some 20), (.ibin .eql (.t 19) (.c (.int .i64 13))), (some (17, false))⟩ <|
  .op ⟨(some 21), (.mv (.t 20)), (some (17, false))⟩ <|
  .op ⟨(some 22), (.mv (.t 4)), (some (21, true))⟩ <|
  .op ⟨(some 23), (.idx 2 (.t 22) (.c (.int .i64 0))), (some (21, true))⟩ <|
  .op ⟨(some 24), (.idxa 2 1 (.t 23) (.c (.int .i64 0))), (some (21, true))⟩ <|
  .op ⟨(some 25), (.load false 1 (.t 24)), (some (21, true))⟩ <|
  .op ⟨(some 26), (.ibin .neq (.t 25) (.c (.int .i64 (-1)))), (some (21, true))⟩ <|
  .op ⟨(some 27), (.pick (.t 21) (.t 26) (.c (.bool false))), (some (17, false))⟩ <|
  .op ⟨(some 28), (.pick (.t 17) (.c (.bool true)) (.t 27)), none⟩ <|
  .cond (.t 28)
    (.op ⟨(some 2), (.mv (.c (.bool false))), none⟩ <|
      .ret [(.t 2)])
    (.op ⟨(some 29), (.mv (.t 4)), none⟩ <|
      .op ⟨(some 30), (.lenl (.t 29)), none⟩ <|
      .op ⟨(some 31), (.mv (.c (.int .i64 0))), none⟩ <|
      .jump 506 [1, 4, 29, 30, 31])
def T72_506 : TC :=
  .op ⟨(some 32), (.ibin .lss (.t 31) (.t 30)), none⟩ <|
  .cond (.t 32)
    (.op ⟨(some 33), (.mv (.t 31)), none⟩ <|
      .op ⟨(some 34), (.idx 2 (.t 29) (.t 31)), none⟩ <|
      .op ⟨(some 35), (.load true 2 (.t 34)), none⟩ <|
      .op ⟨(some 6), (.alloc 138 [(.int .i64 0), (.int .i64 0)]), none⟩ <|
      .op ⟨(some 5), (.mv (.t 33)), none⟩ <|
      .op ⟨none, (.store 2 (.t 6) (.t 35)), none⟩ <|
      .op ⟨(some 36), (.idxa 2 1 (.t 6) (.c (.int .i64 1))), none⟩ <|
      .op ⟨(some 37), (.load false 1 (.t 36)), none⟩ <|
      .op ⟨(some 38), (.call (.c (.fn (.func 73) [] [])) [(.c (.int .i64 0)), (.t 37), (.c (.int .i64 65536))]), none⟩ <|
      .op ⟨(some 39), (.not (.t 38)), none⟩ <|
      .cond (.t 39)
        (.op ⟨(some 2), (.mv (.c (.bool false))), none⟩ <|
          .ret [(.t 2)])
        (.op ⟨(some 40), (.idxa 2 1 (.t 6) (.c (.int .i64 0))), none⟩ <|
          .op ⟨(some 41), (.load false 1 (.t 40)), none⟩ <|
          .op ⟨(some 42), (.ibin .eql (.t 41) (.c (.int .i64 (-1)))), none⟩ <|
          .cond (.t 42)
            (.op ⟨(some 43), (.mv (.t 5)), none⟩ <|
              .op ⟨(some 44), (.ibin .gtr (.t 43) (.c (.int .i64 0))), none⟩ <|
              .cond (.t 44)
                (.op ⟨(some 2), (.mv (.c (.bool false))), none⟩ <|
                  .ret [(.t 2)])
                (.jump 4051 [1, 4, 29, 30, 31]))
            (.op ⟨(some 45), (.foff 0 (.t 1)), none⟩ <|
              .op ⟨(some 46), (.load false 1 (.t 45)), none⟩ <|
              .op ⟨(some 47), (.ibin .eql (.t 46) (.c (.int .i64 11))), none⟩ <|
              .op ⟨(some 48), (.mv (.t 47)), none⟩ <|
              .op ⟨(some 49), (.idxa 2 1 (.t 6) (.c (.int .i64 0))), (some (48, true))⟩ <|
              .op ⟨(some 50), (.load false 1 (.t 49)), (some (48, true))⟩ <|
              .op ⟨(some 51), (.call (.c (.fn (.func 73) [] [])) [(.c (.int .i64 0)), (.t 50), (.c (.int .i64 255))]), (some (48, true))⟩ <|
              .op ⟨(some 52), (.not (.t 51)), (some (48, true))⟩ <|
              .op ⟨(some 53), (.pick (.t 48) (.t 52) (.c (.bool false))), none⟩ <|
              .op ⟨(some 54), (.mv (.t 53)), none⟩ <|
              .op ⟨(some 55), (.mv (.t 5)), (some (54, false))⟩ <|
              .op ⟨(some 56), (.ibin .gtr (.t 55) (.c (.int .i64 0))), (some (54, false))⟩ <|
              .op ⟨(some 57), (.mv (.t 56)), (some (54, false))⟩ <|
              .op ⟨(some 58), (.mv (.t 4)), (some (57, true))⟩ <|
              .op ⟨(some 59), (.mv (.t 5)), (some (57, true))⟩ <|
              .op ⟨(some 60), (.ibin .sub (.t 59) (.c (.int .i64 1))), (some (57, true))⟩ <|
              .op ⟨(some 61), (.idx 2 (.t 58) (.t 60)), (some (57, true))⟩ <|
              .op ⟨(some 62), (.idxa 2 1 (.t 61) (.c (.int .i64 0))), (some (57, true))⟩ <|
              .op ⟨(some 63), (.load false 1 (.t 62)), (some (57, true))⟩ <|
              .op ⟨(some 64), (.ibin .neq (.t 63) (.c (.int .i64 (-1)))), (some (57, true))⟩ <|
              .op ⟨(some 65), (.pick (.t 57) (.t 64) (.c (.bool false))), (some (54, false))⟩ <|
              .op ⟨(some 66), (.mv (.t 65)), (some (54, false))⟩ <|
              .op ⟨(some 67), (.mv (.t 4)), (some (66, true))⟩ <|
              .op ⟨(some 68), (.mv (.t 5)), (some (66, true))⟩ <|
              .op ⟨(some 69), (.ibin .sub (.t 68) (.c (.int .i64 1))), (some (66, true))⟩ <|
              .op ⟨(some 70), (.idx 2 (.t 67) (.t 69)), (some (66, true))⟩ <|
              .op ⟨(some 71), (.idxa 2 1 (.t 70) (.c (.int .i64 0))), (some (66, true))⟩ <|
              .op ⟨(some 72), (.load false 1 (.t 71)), (some (66, true))⟩ <|
              .op ⟨(some 73), (.idxa 2 1 (.t 6) (.c (.int .i64 0))), (some (66, true))⟩ <|
              .op ⟨(some 74), (.load false 1 (.t 73)), (some (66, true))⟩ <|
              .op ⟨(some 75), (.ibin .geq (.t 72) (.t 74)), (some (66, true))⟩ <|
              .op ⟨(some 76), (.pick (.t 66) (.t 75) (.c (.bool false))), (some (54, false))⟩ <|
              .op ⟨(some 77), (.pick (.t 54) (.c (.bool true)) (.t 76)), none⟩ <|
              .cond (.t 77)
                (.op ⟨(some 2), (.mv (.c (.bool false))), none⟩ <|
                  .ret [(.t 2)])
                (.jump 4051 [1, 4, 29, 30, 31]))))
    (.op ⟨(some 2), (.mv (.c (.bool true))), none⟩ <|
      .ret [(.t 2)])
def T72_4051 : TC :=
  .op ⟨(some 78), (.ibin .add (.t 31) (.c (.int .i64 1))), none⟩ <|
  .op ⟨(some 31), (.mv (.t 78)), none⟩ <|
  .jump 506 [1, 4, 29, 30, 31]
def fc72 : FC := ⟨⟨false, false⟩, T72, lookL [(7, [1, 3], T72_7), (506, [1, 4, 29, 30, 31], T72_506), (4051, [1, 4, 29, 30, 31], T72_4051)]⟩
/-- hammock/instr.within -/
def T73 : TC :=
  .op ⟨(some 6), (.mv (.c (.bool false))), none⟩ <|
  .op ⟨(some 7), (.mv (.t 0)), none⟩ <|
  .op ⟨(some 8), (.mv (.t 1)), none⟩ <|
  .op ⟨(some 9), (.ibin .leq (.t 7) (.t 8)), none⟩ <|
  .op ⟨(some 10), (.mv (.t 9)), none⟩ <|
  .op ⟨(some 11), (.mv (.t 1)), (some (10, true))⟩ <|
  .op ⟨(some 12), (.mv (.t 2)), (some (10, true))⟩ <|
  .op ⟨(some 13), (.ibin .leq (.t 11) (.t 12)), (some (10, true))⟩ <|
  .op ⟨(some 14), (.pick (.t 10) (.t 13) (.c (.bool false))), none⟩ <|
  .op ⟨(some 6), (.mv (.t 14)), none⟩ <|
  .ret [(.t 6)]
def fc73 : FC := ⟨⟨false, false⟩, T73, lookL []⟩
/-- hammock/instr.forms -/
def T112 : TC :=
  .op ⟨(some 0), (.alloc 199 [(.str ⟨#[]⟩), (.int .i64 0), (.int .i64 0), (.int .i64 0), (.int .i64 0), (.int .i64 0), (.int .i64 0), (.int .i64 0), (.str ⟨#[]⟩), (.int .i64 0), (.int .i64 0), (.int .i64 0), (.int .i64 0), (.int .i64 0), (.int .i64 0), (.int .i64 0), (.str ⟨#[]⟩), (.int .i64 0), (.int .i64 0), (.int .i64 0), (.int .i64 0), (.int .i64 0), (.int .i64 0), (.int .i64 0), (.str ⟨#[]⟩), (.int .i64 0), (.int .i64 0), (.int .i64 0), (.int .i64 0), (.int .i64 0), (.int .i64 0), (.int .i64 0), (.str ⟨#[]⟩), (.int .i64 0), (.int .i64 0), (.int .i64 0), (.int .i64 0), (.int .i64 0), (.int .i64 0), (.int .i64 0), (.str ⟨#[]⟩), (.int .i64 0), (.int .i64 0), (.int .i64 0), (.int .i64 0), (.int .i64 0), (.int .i64 0), (.int .i64 0), (.str ⟨#[]⟩), (.int .i64 0), (.int .i64 0), (.int .i64 0), (.int .i64 0), (.int .i64 0), (.int .i64 0), (.int .i64 0), (.str ⟨#[]⟩), (.int .i64 0), (.int .i64 0), (.int .i64 0), (.int .i64 0), (.int .i64 0), (.int .i64 0), (.int .i64 0), (.str ⟨#[]⟩), (.int .i64 0), (.int .i64 0), (.int .i64 0), (.int .i64 0), (.int .i64 0), (.int .i64 0), (.int .i64 0), (.str ⟨#[]⟩), (.int .i64 0), (.int .i64 0), (.int .i64 0), (.int .i64 0), (.int .i64 0), (.int .i64 0), (.int .i64 0), (.str ⟨#[]⟩), (.int .i64 0), (.int .i64 0), (.int .i64 0), (.int .i64 0), (.int .i64 0), (.int .i64 0), (.int .i64 0), (.str ⟨#[]⟩), (.int .i64 0), (.int .i64 0), (.int .i64 0), (.int .i64 0), (.int .i64 0), (.int .i64 0), (.int .i64 0), (.str ⟨#[]⟩), (.int .i64 0), (.int .i64 0), (.int .i64 0), (.int .i64 0), (.int .i64 0), (.int .i64 0), (.int .i64 0), (.str ⟨#[]⟩), (.int .i64 0), (.int .i64 0), (.int .i64 0), (.int .i64 0), (.int .i64 0), (.int .i64 0), (.int .i64 0), (.str ⟨#[]⟩), (.int .i64 0), (.int .i64 0), (.int .i64 0), (.int .i64 0), (.int .i64 0), (.int .i64 0), (.int .i64 0), (.str ⟨#[]⟩), (.int .i64 0), (.int .i64 0), (.int .i64 0), (.int .i64 0), (.int .i64 0), (.int .i64 0), (.int .i64 0), (.str ⟨#[]⟩), (.int .i64 0), (.int .i64 0), (.int .i64 0), (.int .i64 0), (.int .i64 0), (.int .i64 0), (.int .i64 0)]), none⟩ <|
  .op ⟨(some 1), (.mv (.c (.int .i64 65536))), none⟩ <|
  .op ⟨(some 2), (.build [(.str ⟨#[]⟩), (.int .i64 0), (.int .i64 0), (.int .i64 0), (.int .i64 0), (.int .i64 0), (.int .i64 0), (.int .i64 0)] [(0, 1, (.c (.str ⟨#[105, 110, 116]⟩))), (1, 1, (.c (.int .i64 1))), (2, 1, (.c (.int .i64 0))), (3, 1, (.c (.int .i64 0))), (4, 1, (.c (.int .i64 0))), (5, 1, (.c (.int .i64 0))), (6, 1, (.c (.int .i64 1))), (7, 1, (.c (.int .i64 0)))]), none⟩ <|
  .op ⟨(some 3), (.mv (.t 1)), none⟩ <|
  .op ⟨(some 4), (.build [(.str ⟨#[]⟩), (.int .i64 0), (.int .i64 0), (.int .i64 0), (.int .i64 0), (.int .i64 0), (.int .i64 0), (.int .i64 0)] [(0, 1, (.c (.str ⟨#[103, 108, 111, 98, 97, 108, 38]⟩))), (1, 1, (.c (.int .i64 1))), (2, 1, (.c (.int .i64 0))), (3, 1, (.t 3)), (4, 1, (.c (.int .i64 0))), (5, 1, (.c (.int .i64 0))), (6, 1, (.c (.int .i64 1))), (7, 1, (.c (.int .i64 0)))]), none⟩ <|
  .op ⟨(some 5), (.mv (.t 1)), none⟩ <|
  .op ⟨(some 6), (.build [(.str ⟨#[]⟩), (.int .i64 0), (.int .i64 0), (.int .i64 0), (.int .i64 0), (.int .i64 0), (.int .i64 0), (.int .i64 0)] [(0, 1, (.c (.str ⟨#[112, 117, 115, 104]⟩))), (1, 1, (.c (.int .i64 1))), (2, 1, (.c (.int .i64 0))), (3, 1, (.t 5)), (4, 1, (.c (.int .i64 1))), (5, 1, (.c (.int .i64 1))), (6, 1, (.c (.int .i64 1))), (7, 1, (.c (.int .i64 0)))]), none⟩ <|
  .op ⟨(some 7), (.build [(.str ⟨#[]⟩), (.int .i64 0), (.int .i64 0), (.int .i64 0), (.int .i64 0), (.int .i64 0), (.int .i64 0), (.int .i64 0)] [(0, 1, (.c (.str ⟨#[109, 107, 97, 112]⟩))), (1, 1, (.c (.int .i64 0))), (2, 1, (.c (.int .i64 0))), (3, 1, (.c (.int .i64 0))), (4, 1, (.c (.int .i64 2))), (5, 1, (.c (.int .i64 0))), (6, 1, (.c (.int .i64 (-1)))), (7, 1, (.c (.int .i64 0)))]), none⟩ <|
  .op ⟨(some 8), (.mv (.t 1)), none⟩ <|
  .op ⟨(some 9), (.build [(.str ⟨#[]⟩), (.int .i64 0), (.int .i64 0), (.int .i64 0), (.int .i64 0), (.int .i64 0), (.int .i64 0), (.int .i64 0)] [(0, 1, (.c (.str ⟨#[117, 112, 100, 97, 116, 101]⟩))), (1, 1, (.c (.int .i64 1))), (2, 1, (.c (.int .i64 0))), (3, 1, (.t 8)), (4, 1, (.c (.int .i64 2))), (5, 1, (.c (.int .i64 1))), (6, 1, (.c (.int .i64 (-1)))), (7, 1, (.c (.int .i64 0)))]), none⟩ <|
  .op ⟨(some 10), (.mv (.t 1)), none⟩ <|
  .op ⟨(some 11), (.build [(.str ⟨#[]⟩), (.int .i64 0), (.int .i64 0), (.int .i64 0), (.int .i64 0), (.int .i64 0), (.int .i64 0), (.int .i64 0)] [(0, 1, (.c (.str ⟨#[112, 111, 112]⟩))), (1, 1, (.c (.int .i64 1))), (2, 1, (.c (.int .i64 0))), (3, 1, (.t 10)), (4, 1, (.c (.int .i64 0))), (5, 1, (.c (.int .i64 1))), (6, 1, (.c (.int .i64 0))), (7, 1, (.c (.int .i64 (-1))))]), none⟩ <|
  .op ⟨(some 12), (.mv (.t 1)), none⟩ <|
  .op ⟨(some 13), (.build [(.str ⟨#[]⟩), (.int .i64 0), (.int .i64 0), (.int .i64 0), (.int .i64 0), (.int .i64 0), (.int .i64 0), (.int .i64 0)] [(0, 1, (.c (.str ⟨#[115, 108, 105, 100, 101]⟩))), (1, 1, (.c (.int .i64 1))), (2, 1, (.c (.int .i64 0))), (3, 1, (.t 12)), (4, 1, (.c (.int .i64 1))), (5, 1, (.c (.int .i64 1))), (6, 1, (.c (.int .i64 0))), (7, 1, (.c (.int .i64 (-1))))]), none⟩ <|
  .op ⟨(some 14), (.mv (.t 1)), none⟩ <|
  .op ⟨(some 15), (.build [(.str ⟨#[]⟩), (.int .i64 0), (.int .i64 0), (.int .i64 0), (.int .i64 0), (.int .i64 0), (.int .i64 0), (.int .i64 0)] [(0, 1, (.c (.str ⟨#[97, 108, 108, 111, 99]⟩))), (1, 1, (.c (.int .i64 1))), (2, 1, (.c (.int .i64 1))), (3, 1, (.t 14)), (4, 1, (.c (.int .i64 0))), (5, 1, (.c (.int .i64 0))), (6, 1, (.c (.int .i64 0))), (7, 1, (.c (.int .i64 1)))]), none⟩ <|
  .op ⟨(some 16), (.build [(.str ⟨#[]⟩), (.int .i64 0), (.int .i64 0), (.int .i64 0), (.int .i64 0), (.int .i64 0), (.int .i64 0), (.int .i64 0)] [(0, 1, (.c (.str ⟨#[101, 118, 97, 108]⟩))), (1, 1, (.c (.int .i64 0))), (2, 1, (.c (.int .i64 0))), (3, 1, (.c (.int .i64 0))), (4, 1, (.c (.int .i64 1))), (5, 1, (.c (.int .i64 0))), (6, 1, (.c (.int .i64 0))), (7, 1, (.c (.int .i64 0)))]), none⟩ <|
  .op ⟨(some 17), (.build [(.str ⟨#[]⟩), (.int .i64 0), (.int .i64 0), (.int .i64 0), (.int .i64 0), (.int .i64 0), (.int .i64 0), (.int .i64 0)] [(0, 1, (.c (.str ⟨#[117, 110, 119, 105, 110, 100]⟩))), (1, 1, (.c (.int .i64 0))), (2, 1, (.c (.int .i64 0))), (3, 1, (.c (.int .i64 0))), (4, 1, (.c (.int .i64 1))), (5, 1, (.c (.int .i64 0))), (6, 1, (.c (.int .i64 0))), (7, 1, (.c (.int .i64 0)))]), none⟩ <|
  .op ⟨(some 18), (.build [(.str ⟨#[]⟩), (.int .i64 0), (.int .i64 0), (.int .i64 0), (.int .i64 0), (.int .i64 0), (.int .i64 0), (.int .i64 0)] [(0, 1, (.c (.str ⟨#[112, 97, 99, 107]⟩))), (1, 1, (.c (.int .i64 2))), (2, 1, (.c (.int .i64 0))), (3, 1, (.c (.int .i64 255))), (4, 1, (.c (.int .i64 0))), (5, 1, (.c (.int .i64 0))), (6, 1, (.c (.int .i64 1))), (7, 1, (.c (.int .i64 0)))]), none⟩ <|
  .op ⟨(some 19), (.build [(.str ⟨#[]⟩), (.int .i64 0), (.int .i64 0), (.int .i64 0), (.int .i64 0), (.int .i64 0), (.int .i64 0), (.int .i64 0)] [(0, 1, (.c (.str ⟨#[99, 97, 115, 101]⟩))), (1, 1, (.c (.int .i64 (-1)))), (2, 1, (.c (.int .i64 0))), (3, 1, (.c (.int .i64 0))), (4, 1, (.c (.int .i64 1))), (5, 1, (.c (.int .i64 0))), (6, 1, (.c (.int .i64 0))), (7, 1, (.c (.int .i64 0)))]), none⟩ <|
  .op ⟨(some 20), (.mv (.t 1)), none⟩ <|
  .op ⟨(some 21), (.build [(.str ⟨#[]⟩), (.int .i64 0), (.int .i64 0), (.int .i64 0), (.int .i64 0), (.int .i64 0), (.int .i64 0), (.int .i64 0)] [(0, 1, (.c (.str ⟨#[115, 112, 108, 105, 116]⟩))), (1, 1, (.c (.int .i64 1))), (2, 1, (.c (.int .i64 0))), (3, 1, (.t 20)), (4, 1, (.c (.int .i64 1))), (5, 1, (.c (.int .i64 0))), (6, 1, (.c (.int .i64 (-1)))), (7, 1, (.c (.int .i64 1)))]), none⟩ <|
  .op ⟨(some 22), (.build [(.str ⟨#[]⟩), (.int .i64 0), (.int .i64 0), (.int .i64 0), (.int .i64 0), (.int .i64 0), (.int .i64 0), (.int .i64 0)] [(0, 1, (.c (.str ⟨#[115, 119, 105, 116, 99, 104]⟩))), (1, 1, (.c (.int .i64 (-1)))), (2, 1, (.c (.int .i64 0))), (3, 1, (.c (.int .i64 0))), (4, 1, (.c (.int .i64 1))), (5, 1, (.c (.int .i64 0))), (6, 1, (.c (.int .i64 0))), (7, 1, (.c (.int .i64 0)))]), none⟩ <|
  .op ⟨(some 23), (.build [(.str ⟨#[]⟩), (.int .i64 0), (.int .i64 0), (.int .i64 0), (.int .i64 0), (.int .i64 0), (.int .i64 0), (.int .i64 0)] [(0, 1, (.c (.str ⟨#[112, 114, 105, 109]⟩))), (1, 1, (.c (.int .i64 1))), (2, 1, (.c (.int .i64 0))), (3, 1, (.c (.int .i64 10))), (4, 1, (.c (.int .i64 2))), (5, 1, (.c (.int .i64 0))), (6, 1, (.c (.int .i64 (-1)))), (7, 1, (.c (.int .i64 0)))]), none⟩ <|
  .op ⟨(some 24), (.build [(.str ⟨#[]⟩), (.int .i64 0), (.int .i64 0), (.int .i64 0), (.int .i64 0), (.int .i64 0), (.int .i64 0), (.int .i64 0)] [(0, 1, (.c (.str ⟨#[102, 97, 105, 108]⟩))), (1, 1, (.c (.int .i64 0))), (2, 1, (.c (.int .i64 0))), (3, 1, (.c (.int .i64 0))), (4, 1, (.c (.int .i64 0))), (5, 1, (.c (.int .i64 0))), (6, 1, (.c (.int .i64 0))), (7, 1, (.c (.int .i64 0)))]), none⟩ <|
  .op ⟨(some 25), (.mv (.t 1)), none⟩ <|
  .op ⟨(some 26), (.build [(.str ⟨#[]⟩), (.int .i64 0), (.int .i64 0), (.int .i64 0), (.int .i64 0), (.int .i64 0), (.int .i64 0), (.int .i64 0)] [(0, 1, (.c (.str ⟨#[106, 117, 109, 112]⟩))), (1, 1, (.c (.int .i64 1))), (2, 1, (.c (.int .i64 0))), (3, 1, (.t 25)), (4, 1, (.c (.int .i64 0))), (5, 1, (.c (.int .i64 0))), (6, 1, (.c (.int .i64 0))), (7, 1, (.c (.int .i64 0)))]), none⟩ <|
  .op ⟨(some 27), (.build [(.str ⟨#[]⟩), (.int .i64 0), (.int .i64 0), (.int .i64 0), (.int .i64 0), (.int .i64 0), (.int .i64 0), (.int .i64 0), (.str ⟨#[]⟩), (.int .i64 0), (.int .i64 0), (.int .i64 0), (.int .i64 0), (.int .i64 0), (.int .i64 0), (.int .i64 0), (.str ⟨#[]⟩), (.int .i64 0), (.int .i64 0), (.int .i64 0), (.int .i64 0), (.int .i64 0), (.int .i64 0), (.int .i64 0), (.str ⟨#[]⟩), (.int .i64 0), (.int .i64 0), (.int .i64 0), (.int .i64 0), (.int .i64 0), (.int .i64 0), (.int .i64 0), (.str ⟨#[]⟩), (.int .i64 0), (.int .i64 0), (.int .i64 0), (.int .i64 0), (.int .i64 0), (.int .i64 0), (.int .i64 0), (.str ⟨#[]⟩), (.int .i64 0), (.int .i64 0), (.int .i64 0), (.int .i64 0), (.int .i64 0), (.int .i64 0), (.int .i64 0), (.str ⟨#[]⟩), (.int .i64 0), (.int .i64 0), (.int .i64 0), (.int .i64 0), (.int .i64 0), (.int .i64 0), (.int .i64 0), (.str ⟨#[]⟩), (.int .i64 0), (.int .i64 0), (.int .i64 0), (.int .i64 0), (.int .i64 0), (.int .i64 0), (.int .i64 0), (.str ⟨#[]⟩), (.int .i64 0), (.int .i64 0), (.int .i64 0), (.int .i64 0), (.int .i64 0), (.int .i64 0), (.int .i64 0), (.str ⟨#[]⟩), (.int .i64 0), (.int .i64 0), (.int .i64 0), (.int .i64 0), (.int .i64 0), (.int .i64 0), (.int .i64 0), (.str ⟨#[]⟩), (.int .i64 0), (.int .i64 0), (.int .i64 0), (.int .i64 0), (.int .i64 0), (.int .i64 0), (.int .i64 0), (.str ⟨#[]⟩), (.int .i64 0), (.int .i64 0), (.int .i64 0), (.int .i64 0), (.int .i64 0), (.int .i64 0), (.int .i64 0), (.str ⟨#[]⟩), (.int .i64 0), (.int .i64 0), (.int .i64 0), (.int .i64 0), (.int .i64 0), (.int .i64 0), (.int .i64 0), (.str ⟨#[]⟩), (.int .i64 0), (.int .i64 0), (.int .i64 0), (.int .i64 0), (.int .i64 0), (.int .i64 0), (.int .i64 0), (.str ⟨#[]⟩), (.int .i64 0), (.int .i64 0), (.int .i64 0), (.int .i64 0), (.int .i64 0), (.int .i64 0), (.int .i64 0), (.str ⟨#[]⟩), (.int .i64 0), (.int .i64 0), (.int .i64 0), (.int .i64 0), (.int .i64 0), (.int .i64 0), (.int .i64 0), (.str ⟨#[]⟩), (.int .i64 0), (.int .i64 0), (.int .i64 0), (.int .i64 0), (.int .i64 0), (.int .i64 0), (.int .i64 0)] [(0, 8, (.t 2)), (8, 8, (.t 4)), (16, 8, (.t 6)), (24, 8, (.t 7)), (32, 8, (.t 9)), (40, 8, (.t 11)), (48, 8, (.t 13)), (56, 8, (.t 15)), (64, 8, (.t 16)), (72, 8, (.t 17)), (80, 8, (.t 18)), (88, 8, (.t 19)), (96, 8, (.t 21)), (104, 8, (.t 22)), (112, 8, (.t 23)), (120, 8, (.t 24)), (128, 8, (.t 26))]), none⟩ <|
  .op ⟨none, (.store 136 (.t 0) (.t 27)), none⟩ <|
  .ret [(.c true 136 0)]
def fc112 : FC := ⟨⟨false, false⟩, T112, lookL []⟩
def sysB : AP := ⟨fun _ => .top, lookF [(5, fc5), (19, fc19), (20, fc20), (21, fc21), (22, fc22), (71, fc71), (72, fc72), (73, fc73), (112, fc112)], extB⟩
/-- hammock/hammocklaw20.InstrStack -/
noncomputable def S5 (x0 : AV) (s0 : Store) : Res :=
  andR ((if (AV.cells x0).all AV.flat = true then some (.ptr (List.length s0) 0, s0 ++ [.box 45 (AV.cells x0)]) else none)) fun t1 s1 =>
  andR (some ((.bool false), s1)) fun t2 s2 =>
  andR (ret s2 (eFoff 3 t1)) fun t6 s3 =>
  andR (ret s3 (eLoad s3 false 1 t6)) fun t7 s4 =>
  andR (ret s4 (eLenl t7)) fun t8 s5 =>
  andR (ret s5 (eIbin .gtr t8 (.int .i64 300))) fun t9 s6 =>
  iff' t9
    (andR (CALL sysB 10 [] s6) fun t10 s7 =>
      andR (some (t10, s7)) fun t2 s8 =>
      ret s8 (some t2))
    (andR (ret s6 (eLoad s6 true 4 t1)) fun t11 s9 =>
      andR (CALL sysB 19 [t11] s9) fun t12 s10 =>
      andR (some (.ptr (List.length s10) 0, s10 ++ [.box 46 [(.int .i64 0), (.int .i64 0), (.int .i64 0), (.sl .nil 0 [])]])) fun t3 s11 =>
      andR (stR (eStore s11 4 t3 t12)) fun _ s12 =>
      andR (ret s12 (eLoad s12 true 4 t3)) fun t13 s13 =>
      andR (CALL sysB 20 [t13] s13) fun t14 s14 =>
      andR (some (t14, s14)) fun t4 s15 =>
      andR (ret s15 (eLoad s15 true 4 t3)) fun t15 s16 =>
      andR (CALL sysB 21 [t15] s16) fun t16 s17 =>
      andR (some (t16, s17)) fun t5 s18 =>
      andR (some (t4, s18)) fun t17 s19 =>
      andR (ret s19 (eIbin .geq t17 (.int .i64 0))) fun t18 s20 =>
      andR (some (t18, s20)) fun t19 s21 =>
      andR (guardO t19 true s21 (some (t4, s21))) fun t20 s22 =>
      andR (guardO t19 true s22 (some (t5, s22))) fun t21 s23 =>
      andR (guardO t19 true s23 (ret s23 (eIbin .add t20 t21))) fun t22 s24 =>
      andR (guardO t19 true s24 (ret s24 (eIbin .geq t22 (.int .i64 0)))) fun t23 s25 =>
      andR (ret s25 (ePick t19 t23 (.bool false))) fun t24 s26 =>
      andR (some (t24, s26)) fun t25 s27 =>
      andR (guardO t25 true s27 (ret s27 (eLoad s27 true 4 t3))) fun t26 s28 =>
      andR (guardO t25 true s28 (CALL sysB 22 [t26] s28)) fun t27 s29 =>
      andR (guardO t25 true s29 (some (t27, s29))) fun t28 s30 =>
      andR (guardO t28 false s30 (some (t4, s30))) fun t29 s31 =>
      andR (guardO t28 false s31 (ret s31 (eIbin .eql t29 (.int .i64 0)))) fun t30 s32 =>
      andR (guardO t28 false s32 (some (t30, s32))) fun t31 s33 =>
      andR (guardO t31 true s33 (some (t5, s33))) fun t32 s34 =>
      andR (guardO t31 true s34 (ret s34 (eIbin .eql t32 (.int .i64 0)))) fun t33 s35 =>
      andR (guardO t28 false s35 (ret s35 (ePick t31 t33 (.bool false)))) fun t34 s36 =>
      andR (guardO t25 true s36 (ret s36 (ePick t28 (.bool true) t34))) fun t35 s37 =>
      andR (ret s37 (ePick t25 t35 (.bool false))) fun t36 s38 =>
      andR (some (t36, s38)) fun t37 s39 =>
      andR (guardO t37 true s39 (CALL sysB 10 [] s39)) fun t38 s40 =>
      andR (ret s40 (ePick t37 t38 (.bool false))) fun t39 s41 =>
      andR (some (t39, s41)) fun t2 s42 =>
      ret s42 (some t2))
/-- hammock/hammocklaw20.OwnInstr -/
noncomputable def S19 (x0 : AV) (s0 : Store) : Res :=
  andR ((if (AV.cells x0).all AV.flat = true then some (.ptr (List.length s0) 0, s0 ++ [.box 45 (AV.cells x0)]) else none)) fun t1 s1 =>
  andR (some (.ptr (List.length s1) 0, s1 ++ [.box 46 [(.int .i64 0), (.int .i64 0), (.int .i64 0), (.sl .nil 0 [])]])) fun t2 s2 =>
  andR (ret s2 (eFoff 0 t1)) fun t3 s3 =>
  andR (ret s3 (eLoad s3 false 1 t3)) fun t4 s4 =>
  andR (ret s4 (eFoff 1 t1)) fun t5 s5 =>
  andR (ret s5 (eLoad s5 false 1 t5)) fun t6 s6 =>
  andR (ret s6 (eFoff 2 t1)) fun t7 s7 =>
  andR (ret s7 (eLoad s7 false 1 t7)) fun t8 s8 =>
  andR (ret s8 (eBslV 2 0 (.agg [(.int .i64 0), (.int .i64 0)]) [])) fun t9 s9 =>
  andR (ret s9 (eFoff 3 t1)) fun t10 s10 =>
  andR (ret s10 (eLoad s10 false 1 t10)) fun t11 s11 =>
  andR (eApp s11 138 2 16 t9 t11) fun t12 s12 =>
  againO (ret s12 (eLoad s12 false 1 t7)) t8 <|
  againO (ret s12 (eLoad s12 false 1 t5)) t6 <|
  againO (ret s12 (eLoad s12 false 1 t3)) t4 <|
  andR (ret s12 (eBuild [(.int .i64 0), (.int .i64 0), (.int .i64 0), (.sl .nil 0 [])] [(0, 1, t4), (1, 1, t6), (2, 1, t8), (3, 1, t12)])) fun t13 s13 =>
  andR (stR (eStore s13 4 t2 t13)) fun _ s14 =>
  ret s14 (eLoad s14 true 4 t2)
/-- hammock/instr.Reads -/
noncomputable def S20 (x0 : AV) (s0 : Store) : Res :=
  andR ((if (AV.cells x0).all AV.flat = true then some (.ptr (List.length s0) 0, s0 ++ [.box 46 (AV.cells x0)]) else none)) fun t1 s1 =>
  andR (some ((.int .i64 0), s1)) fun t2 s2 =>
  andR (ret s2 (eLoad s2 true 4 t1)) fun t5 s3 =>
  andR (CALL sysB 22 [t5] s3) fun t6 s4 =>
  andR (ret s4 (eNot t6)) fun t7 s5 =>
  iff' t7
    (andR (some ((.int .i64 0), s5)) fun t2 s6 =>
      ret s6 (some t2))
    (andR (ret s5 (eLoad s5 true 4 t1)) fun t9 s7 =>
      andR (CALL sysB 71 [t9] s7) fun t10 s8 =>
      andR (some (t10, s8)) fun t8 s9 =>
      andR (ret s9 (eExtr 0 t8)) fun t11 s10 =>
      andR (ret s10 (eExtr 1 t8)) fun t12 s11 =>
      andR (some (.ptr (List.length s11) 0, s11 ++ [.box 141 [(.str ⟨#[]⟩), (.int .i64 0), (.int .i64 0), (.int .i64 0), (.int .i64 0), (.int .i64 0), (.int .i64 0), (.int .i64 0)]])) fun t3 s12 =>
      andR (stR (eStore s12 8 t3 t11)) fun _ s13 =>
      andR (some (t12, s13)) fun t4 s14 =>
      andR (ret s14 (eFoff 4 t3)) fun t13 s15 =>
      andR (ret s15 (eLoad s15 false 1 t13)) fun t14 s16 =>
      andR (ret s16 (eFoff 5 t3)) fun t15 s17 =>
      andR (ret s17 (eLoad s17 false 1 t15)) fun t16 s18 =>
      andR (ret s18 (eFoff 1 t1)) fun t17 s19 =>
      andR (ret s19 (eLoad s19 false 1 t17)) fun t18 s20 =>
      andR (ret s20 (eIbin .mul t16 t18)) fun t19 s21 =>
      andR (ret s21 (eIbin .add t14 t19)) fun t20 s22 =>
      andR (ret s22 (eFoff 2 t1)) fun t21 s23 =>
      andR (ret s23 (eLoad s23 false 1 t21)) fun t22 s24 =>
      andR (ret s24 (eIbin .add t20 t22)) fun t23 s25 =>
      andR (some (t23, s25)) fun t2 s26 =>
      ret s26 (some t2))
/-- hammock/instr.Leaves -/
noncomputable def S21 (x0 : AV) (s0 : Store) : Res :=
  andR ((if (AV.cells x0).all AV.flat = true then some (.ptr (List.length s0) 0, s0 ++ [.box 46 (AV.cells x0)]) else none)) fun t1 s1 =>
  andR (some ((.int .i64 0), s1)) fun t2 s2 =>
  andR (ret s2 (eLoad s2 true 4 t1)) fun t5 s3 =>
  andR (CALL sysB 22 [t5] s3) fun t6 s4 =>
  andR (ret s4 (eNot t6)) fun t7 s5 =>
  iff' t7
    (andR (some ((.int .i64 0), s5)) fun t2 s6 =>
      ret s6 (some t2))
    (andR (ret s5 (eLoad s5 true 4 t1)) fun t9 s7 =>
      andR (CALL sysB 71 [t9] s7) fun t10 s8 =>
      andR (some (t10, s8)) fun t8 s9 =>
      andR (ret s9 (eExtr 0 t8)) fun t11 s10 =>
      andR (ret s10 (eExtr 1 t8)) fun t12 s11 =>
      andR (some (.ptr (List.length s11) 0, s11 ++ [.box 141 [(.str ⟨#[]⟩), (.int .i64 0), (.int .i64 0), (.int .i64 0), (.int .i64 0), (.int .i64 0), (.int .i64 0), (.int .i64 0)]])) fun t3 s12 =>
      andR (stR (eStore s12 8 t3 t11)) fun _ s13 =>
      andR (some (t12, s13)) fun t4 s14 =>
      andR (ret s14 (eFoff 6 t3)) fun t13 s15 =>
      andR (ret s15 (eLoad s15 false 1 t13)) fun t14 s16 =>
      andR (ret s16 (eFoff 7 t3)) fun t15 s17 =>
      andR (ret s17 (eLoad s17 false 1 t15)) fun t16 s18 =>
      andR (ret s18 (eFoff 1 t1)) fun t17 s19 =>
      andR (ret s19 (eLoad s19 false 1 t17)) fun t18 s20 =>
      andR (ret s20 (eIbin .mul t16 t18)) fun t19 s21 =>
      andR (ret s21 (eIbin .add t14 t19)) fun t20 s22 =>
      andR (ret s22 (eFoff 2 t1)) fun t21 s23 =>
      andR (ret s23 (eLoad s23 false 1 t21)) fun t22 s24 =>
      andR (ret s24 (eIbin .sub t20 t22)) fun t23 s25 =>
      andR (some (t23, s25)) fun t2 s26 =>
      ret s26 (some t2))
/-- hammock/instr.Right -/
noncomputable def S22 (x0 : AV) (s0 : Store) : Res :=
  andR ((if (AV.cells x0).all AV.flat = true then some (.ptr (List.length s0) 0, s0 ++ [.box 46 (AV.cells x0)]) else none)) fun t1 s1 =>
  andR (some ((.bool false), s1)) fun t2 s2 =>
  andR (ret s2 (eLoad s2 true 4 t1)) fun t6 s3 =>
  andR (CALL sysB 71 [t6] s3) fun t7 s4 =>
  andR (some (t7, s4)) fun t5 s5 =>
  andR (ret s5 (eExtr 0 t5)) fun t8 s6 =>
  andR (ret s6 (eExtr 1 t5)) fun t9 s7 =>
  andR (some (.ptr (List.length s7) 0, s7 ++ [.box 141 [(.str ⟨#[]⟩), (.int .i64 0), (.int .i64 0), (.int .i64 0), (.int .i64 0), (.int .i64 0), (.int .i64 0), (.int .i64 0)]])) fun t3 s8 =>
  andR (stR (eStore s8 8 t3 t8)) fun _ s9 =>
  andR (some (t9, s9)) fun t4 s10 =>
  andR (some (t4, s10)) fun t11 s11 =>
  andR (ret s11 (eNot t11)) fun t12 s12 =>
  andR (some (t12, s12)) fun t13 s13 =>
  andR (guardO t13 false s13 (ret s13 (eFoff 1 t3))) fun t14 s14 =>
  andR (guardO t13 false s14 (ret s14 (eLoad s14 false 1 t14))) fun t15 s15 =>
  andR (guardO t13 false s15 (ret s15 (eIbin .lss t15 (.int .i64 2)))) fun t16 s16 =>
  andR (guardO t13 false s16 (some (t16, s16))) fun t17 s17 =>
  andR (guardO t17 true s17 (ret s17 (eFoff 2 t1))) fun t18 s18 =>
  andR (guardO t17 true s18 (ret s18 (eLoad s18 false 1 t18))) fun t19 s19 =>
  andR (guardO t17 true s19 (ret s19 (eIbin .neq t19 (.int .i64 0)))) fun t20 s20 =>
  andR (guardO t13 false s20 (ret s20 (ePick t17 t20 (.bool false)))) fun t21 s21 =>
  andR (ret s21 (ePick t13 (.bool true) t21)) fun t22 s22 =>
  andR (some (t22, s22)) fun t23 s23 =>
  andR (guardO t23 false s23 (ret s23 (eFoff 1 t3))) fun t24 s24 =>
  andR (guardO t23 false s24 (ret s24 (eLoad s24 false 1 t24))) fun t25 s25 =>
  andR (guardO t23 false s25 (ret s25 (eIbin .lss t25 (.int .i64 1)))) fun t26 s26 =>
  andR (guardO t23 false s26 (some (t26, s26))) fun t27 s27 =>
  andR (guardO t27 true s27 (ret s27 (eFoff 1 t1))) fun t28 s28 =>
  andR (guardO t27 true s28 (ret s28 (eLoad s28 false 1 t28))) fun t29 s29 =>
  andR (guardO t27 true s29 (ret s29 (eIbin .neq t29 (.int .i64 0)))) fun t30 s30 =>
  andR (guardO t23 false s30 (ret s30 (ePick t27 t30 (.bool false)))) fun t31 s31 =>
  andR (ret s31 (ePick t23 (.bool true) t31)) fun t32 s32 =>
  andR (some (t32, s32)) fun t33 s33 =>
  andR (guardO t33 false s33 (ret s33 (eFoff 1 t3))) fun t34 s34 =>
  andR (guardO t33 false s34 (ret s34 (eLoad s34 false 1 t34))) fun t35 s35 =>
  andR (guardO t33 false s35 (ret s35 (eIbin .geq t35 (.int .i64 0)))) fun t36 s36 =>
  andR (guardO t33 false s36 (some (t36, s36))) fun t37 s37 =>
  andR (guardO t37 true s37 (ret s37 (eFoff 3 t1))) fun t38 s38 =>
  andR (guardO t37 true s38 (ret s38 (eLoad s38 false 1 t38))) fun t39 s39 =>
  andR (guardO t37 true s39 (ret s39 (eLenl t39))) fun t40 s40 =>
  andR (guardO t37 true s40 (ret s40 (eIbin .gtr t40 (.int .i64 0)))) fun t41 s41 =>
  andR (guardO t33 false s41 (ret s41 (ePick t37 t41 (.bool false)))) fun t42 s42 =>
  andR (ret s42 (ePick t33 (.bool true) t42)) fun t43 s43 =>
  andR (some (t43, s43)) fun t10 s44 =>
  iff' t10
    (andR (some ((.bool false), s44)) fun t2 s45 =>
      ret s45 (some t2))
    (andR (ret s44 (eFoff 1 t3)) fun t45 s46 =>
      andR (ret s46 (eLoad s46 false 1 t45)) fun t46 s47 =>
      andR (ret s47 (eIbin .lss t46 (.int .i64 0))) fun t47 s48 =>
      andR (some (t47, s48)) fun t44 s49 =>
      iff' t44
        (andR (ret s49 (eLoad s49 true 4 t1)) fun t48 s50 =>
          andR (CALL sysB 72 [t48] s50) fun t49 s51 =>
          andR (some (t49, s51)) fun t2 s52 =>
          ret s52 (some t2))
        (andR (ret s49 (eFoff 0 t1)) fun t51 s53 =>
          andR (ret s53 (eLoad s53 false 1 t51)) fun t52 s54 =>
          andR (ret s54 (eIbin .eql t52 (.int .i64 0))) fun t53 s55 =>
          andR (some (t53, s55)) fun t50 s56 =>
          iff' t50
            (andR (some ((.bool true), s56)) fun t2 s57 =>
              ret s57 (some t2))
            (andR (ret s56 (eFoff 1 t3)) fun t54 s58 =>
              andR (ret s58 (eLoad s58 false 1 t54)) fun t55 s59 =>
              andR (ret s59 (eIbin .eql t55 (.int .i64 0))) fun t56 s60 =>
              andR (some (t56, s60)) fun t57 s61 =>
              andR (guardO t57 false s61 (ret s61 (eFoff 2 t3))) fun t58 s62 =>
              andR (guardO t57 false s62 (ret s62 (eLoad s62 false 1 t58))) fun t59 s63 =>
              andR (guardO t57 false s63 (ret s63 (eFoff 1 t1))) fun t60 s64 =>
              andR (guardO t57 false s64 (ret s64 (eLoad s64 false 1 t60))) fun t61 s65 =>
              andR (guardO t57 false s65 (ret s65 (eFoff 3 t3))) fun t62 s66 =>
              andR (guardO t57 false s66 (ret s66 (eLoad s66 false 1 t62))) fun t63 s67 =>
              andR (guardO t57 false s67 (CALL sysB 73 [t59, t61, t63] s67)) fun t64 s68 =>
              andR (guardO t57 false s68 (some (t64, s68))) fun t65 s69 =>
              andR (guardO t65 true s69 (ret s69 (eFoff 2 t1))) fun t66 s70 =>
              andR (guardO t65 true s70 (ret s70 (eLoad s70 false 1 t66))) fun t67 s71 =>
              andR (guardO t65 true s71 (CALL sysB 73 [(.int .i64 0), t67, (.int .i64 255)] s71)) fun t68 s72 =>
              andR (guardO t57 false s72 (ret s72 (ePick t65 t68 (.bool false)))) fun t69 s73 =>
              andR (ret s73 (ePick t57 (.bool true) t69)) fun t70 s74 =>
              andR (some (t70, s74)) fun t2 s75 =>
              ret s75 (some t2))))
/-- (hammock/instr.Instr).form -/
noncomputable def S71 (x0 : AV) (s0 : Store) : Res :=
  andR ((if (AV.cells x0).all AV.flat = true then some (.ptr (List.length s0) 0, s0 ++ [.box 46 (AV.cells x0)]) else none)) fun t1 s1 =>
  andR (some (.ptr (List.length s1) 0, s1 ++ [.box 141 [(.str ⟨#[]⟩), (.int .i64 0), (.int .i64 0), (.int .i64 0), (.int .i64 0), (.int .i64 0), (.int .i64 0), (.int .i64 0)]])) fun t2 s2 =>
  andR (some ((.bool false), s2)) fun t3 s3 =>
  andR (CALL sysB 112 [] s3) fun t5 s4 =>
  andR (some (.ptr (List.length s4) 0, s4 ++ [.box 199 [(.str ⟨#[]⟩), (.int .i64 0), (.int .i64 0), (.int .i64 0), (.int .i64 0), (.int .i64 0), (.int .i64 0), (.int .i64 0), (.str ⟨#[]⟩), (.int .i64 0), (.int .i64 0), (.int .i64 0), (.int .i64 0), (.int .i64 0), (.int .i64 0), (.int .i64 0), (.str ⟨#[]⟩), (.int .i64 0), (.int .i64 0), (.int .i64 0), (.int .i64 0), (.int .i64 0), (.int .i64 0), (.int .i64 0), (.str ⟨#[]⟩), (.int .i64 0), (.int .i64 0), (.int .i64 0), (.int .i64 0), (.int .i64 0), (.int .i64 0), (.int .i64 0), (.str ⟨#[]⟩), (.int .i64 0), (.int .i64 0), (.int .i64 0), (.int .i64 0), (.int .i64 0), (.int .i64 0), (.int .i64 0), (.str ⟨#[]⟩), (.int .i64 0), (.int .i64 0), (.int .i64 0), (.int .i64 0), (.int .i64 0), (.int .i64 0), (.int .i64 0), (.str ⟨#[]⟩), (.int .i64 0), (.int .i64 0), (.int .i64 0), (.int .i64 0), (.int .i64 0), (.int .i64 0), (.int .i64 0), (.str ⟨#[]⟩), (.int .i64 0), (.int .i64 0), (.int .i64 0), (.int .i64 0), (.int .i64 0), (.int .i64 0), (.int .i64 0), (.str ⟨#[]⟩), (.int .i64 0), (.int .i64 0), (.int .i64 0), (.int .i64 0), (.int .i64 0), (.int .i64 0), (.int .i64 0), (.str ⟨#[]⟩), (.int .i64 0), (.int .i64 0), (.int .i64 0), (.int .i64 0), (.int .i64 0), (.int .i64 0), (.int .i64 0), (.str ⟨#[]⟩), (.int .i64 0), (.int .i64 0), (.int .i64 0), (.int .i64 0), (.int .i64 0), (.int .i64 0), (.int .i64 0), (.str ⟨#[]⟩), (.int .i64 0), (.int .i64 0), (.int .i64 0), (.int .i64 0), (.int .i64 0), (.int .i64 0), (.int .i64 0), (.str ⟨#[]⟩), (.int .i64 0), (.int .i64 0), (.int .i64 0), (.int .i64 0), (.int .i64 0), (.int .i64 0), (.int .i64 0), (.str ⟨#[]⟩), (.int .i64 0), (.int .i64 0), (.int .i64 0), (.int .i64 0), (.int .i64 0), (.int .i64 0), (.int .i64 0), (.str ⟨#[]⟩), (.int .i64 0), (.int .i64 0), (.int .i64 0), (.int .i64 0), (.int .i64 0), (.int .i64 0), (.int .i64 0), (.str ⟨#[]⟩), (.int .i64 0), (.int .i64 0), (.int .i64 0), (.int .i64 0), (.int .i64 0), (.int .i64 0), (.int .i64 0), (.str ⟨#[]⟩), (.int .i64 0), (.int .i64 0), (.int .i64 0), (.int .i64 0), (.int .i64 0), (.int .i64 0), (.int .i64 0)]])) fun t4 s5 =>
  andR (stR (eStore s5 136 t4 t5)) fun _ s6 =>
  andR (ret s6 (eFoff 0 t1)) fun t6 s7 =>
  andR (ret s7 (eLoad s7 false 1 t6)) fun t7 s8 =>
  andR (ret s8 (eIbin .lss t7 (.int .i64 0))) fun t8 s9 =>
  andR (some (t8, s9)) fun t9 s10 =>
  andR (guardO t9 false s10 (ret s10 (eFoff 0 t1))) fun t10 s11 =>
  andR (guardO t9 false s11 (ret s11 (eLoad s11 false 1 t10))) fun t11 s12 =>
  andR (guardO t9 false s12 (ret s12 (eIbin .geq t11 (.int .i64 17)))) fun t12 s13 =>
  andR (ret s13 (ePick t9 (.bool true) t12)) fun t13 s14 =>
  iff' t13
    (andR (ret s14 (eBuild [(.str ⟨#[]⟩), (.int .i64 0), (.int .i64 0), (.int .i64 0), (.int .i64 0), (.int .i64 0), (.int .i64 0), (.int .i64 0)] [])) fun t14 s15 =>
      andR (stR (eStore s15 8 t2 t14)) fun _ s16 =>
      andR (some ((.bool false), s16)) fun t3 s17 =>
      ret s17 (Option.map AV.tup (consO (eLoad s17 true 8 t2) (consO (some t3) (some [])))))
    (andR (ret s14 (eFoff 0 t1)) fun t15 s18 =>
      andR (ret s18 (eLoad s18 false 1 t15)) fun t16 s19 =>
      andR (ret s19 (eIdxa 17 8 t4 t16)) fun t17 s20 =>
      andR (ret s20 (eLoad s20 true 8 t17)) fun t18 s21 =>
      andR (stR (eStore s21 8 t2 t18)) fun _ s22 =>
      andR (some ((.bool true), s22)) fun t3 s23 =>
      ret s23 (Option.map AV.tup (consO (eLoad s23 true 8 t2) (consO (some t3) (some [])))))
/-- (hammock/instr.Instr).pairs -/
noncomputable def S72 (x0 : AV) (s0 : Store) : Res :=
  andR ((if (AV.cells x0).all AV.flat = true then some (.ptr (List.length s0) 0, s0 ++ [.box 46 (AV.cells x0)]) else none)) fun t1 s1 =>
  andR (some ((.bool false), s1)) fun t2 s2 =>
  andR (some ((.int .i64 65536), s2)) fun t3 s3 =>
  andR (ret s3 (eFoff 0 t1)) fun t7 s4 =>
  andR (ret s4 (eLoad s4 false 1 t7)) fun t8 s5 =>
  andR (ret s5 (eIbin .eql t8 (.int .i64 11))) fun t9 s6 =>
  iff' t9
    (andR (some ((.int .i64 257), s6)) fun t3 s7 =>
      JMP sysB 72 7 [t1, t3] s7)
    (JMP sysB 72 7 [t1, t3] s6)
noncomputable def S72_7 (t1 t3 : AV) (s0 : Store) : Res :=
  andR (ret s0 (eFoff 3 t1)) fun t10 s1 =>
  andR (ret s1 (eLoad s1 false 1 t10)) fun t11 s2 =>
  andR (some (t11, s2)) fun t4 s3 =>
  andR (some (t4, s3)) fun t12 s4 =>
  andR (ret s4 (eLenl t12)) fun t13 s5 =>
  andR (some (t3, s5)) fun t14 s6 =>
  andR (CALL sysB 73 [(.int .i64 1), t13, t14] s6) fun t15 s7 =>
  andR (ret s7 (eNot t15)) fun t16 s8 =>
  andR (some (t16, s8)) fun t17 s9 =>
  andR (guardO t17 false s9 (ret s9 (eFoff 0 t1))) fun t18 s10 =>
  andR (guardO t17 false s10 (ret s10 (eLoad s10 false 1 t18))) fun t19 s11 =>
  andR (guardO t17 false s11 (ret s11 (eIbin .eql t19 (.int .i64 13)))) fun t20 s12 =>
  andR (guardO t17 false s12 (some (t20, s12))) fun t21 s13 =>
  andR (guardO t21 true s13 (some (t4, s13))) fun t22 s14 =>
  andR (guardO t21 true s14 (ret s14 (eIdx 2 t22 (.int .i64 0)))) fun t23 s15 =>
  andR (guardO t21 true s15 (ret s15 (eIdxa 2 1 t23 (.int .i64 0)))) fun t24 s16 =>
  andR (guardO t21 true s16 (ret s16 (eLoad s16 false 1 t24))) fun t25 s17 =>
  andR (guardO t21 true s17 (ret s17 (eIbin .neq t25 (.int .i64 (-1))))) fun t26 s18 =>
  andR (guardO t17 false s18 (ret s18 (ePick t21 t26 (.bool false)))) fun t27 s19 =>
  andR (ret s19 (ePick t17 (.bool true) t27)) fun t28 s20 =>
  iff' t28
    (andR (some ((.bool false), s20)) fun t2 s21 =>
      ret s21 (some t2))
    (andR (some (t4, s20)) fun t29 s22 =>
      andR (ret s22 (eLenl t29)) fun t30 s23 =>
      andR (some ((.int .i64 0), s23)) fun t31 s24 =>
      JMP sysB 72 506 [t1, t4, t29, t30, t31] s24)
noncomputable def S72_506 (t1 t4 t29 t30 t31 : AV) (s0 : Store) : Res :=
  andR (ret s0 (eIbin .lss t31 t30)) fun t32 s1 =>
  iff' t32
    (andR (some (t31, s1)) fun t33 s2 =>
      andR (ret s2 (eIdx 2 t29 t31)) fun t34 s3 =>
      andR (ret s3 (eLoad s3 true 2 t34)) fun t35 s4 =>
      andR (some (.ptr (List.length s4) 0, s4 ++ [.box 138 [(.int .i64 0), (.int .i64 0)]])) fun t6 s5 =>
      andR (some (t33, s5)) fun t5 s6 =>
      andR (stR (eStore s6 2 t6 t35)) fun _ s7 =>
      andR (ret s7 (eIdxa 2 1 t6 (.int .i64 1))) fun t36 s8 =>
      andR (ret s8 (eLoad s8 false 1 t36)) fun t37 s9 =>
      andR (CALL sysB 73 [(.int .i64 0), t37, (.int .i64 65536)] s9) fun t38 s10 =>
      andR (ret s10 (eNot t38)) fun t39 s11 =>
      iff' t39
        (andR (some ((.bool false), s11)) fun t2 s12 =>
          ret s12 (some t2))
        (andR (ret s11 (eIdxa 2 1 t6 (.int .i64 0))) fun t40 s13 =>
          andR (ret s13 (eLoad s13 false 1 t40)) fun t41 s14 =>
          andR (ret s14 (eIbin .eql t41 (.int .i64 (-1)))) fun t42 s15 =>
          iff' t42
            (andR (some (t5, s15)) fun t43 s16 =>
              andR (ret s16 (eIbin .gtr t43 (.int .i64 0))) fun t44 s17 =>
              iff' t44
                (andR (some ((.bool false), s17)) fun t2 s18 =>
                  ret s18 (some t2))
                (JMP sysB 72 4051 [t1, t4, t29, t30, t31] s17))
            (andR (ret s15 (eFoff 0 t1)) fun t45 s19 =>
              andR (ret s19 (eLoad s19 false 1 t45)) fun t46 s20 =>
              andR (ret s20 (eIbin .eql t46 (.int .i64 11))) fun t47 s21 =>
              andR (some (t47, s21)) fun t48 s22 =>
              andR (guardO t48 true s22 (ret s22 (eIdxa 2 1 t6 (.int .i64 0)))) fun t49 s23 =>
              andR (guardO t48 true s23 (ret s23 (eLoad s23 false 1 t49))) fun t50 s24 =>
              andR (guardO t48 true s24 (CALL sysB 73 [(.int .i64 0), t50, (.int .i64 255)] s24)) fun t51 s25 =>
              andR (guardO t48 true s25 (ret s25 (eNot t51))) fun t52 s26 =>
              andR (ret s26 (ePick t48 t52 (.bool false))) fun t53 s27 =>
              andR (some (t53, s27)) fun t54 s28 =>
              andR (guardO t54 false s28 (some (t5, s28))) fun t55 s29 =>
              andR (guardO t54 false s29 (ret s29 (eIbin .gtr t55 (.int .i64 0)))) fun t56 s30 =>
              andR (guardO t54 false s30 (some (t56, s30))) fun t57 s31 =>
              andR (guardO t57 true s31 (some (t4, s31))) fun t58 s32 =>
              andR (guardO t57 true s32 (some (t5, s32))) fun t59 s33 =>
              andR (guardO t57 true s33 (ret s33 (eIbin .sub t59 (.int .i64 1)))) fun t60 s34 =>
              andR (guardO t57 true s34 (ret s34 (eIdx 2 t58 t60))) fun t61 s35 =>
              andR (guardO t57 true s35 (ret s35 (eIdxa 2 1 t61 (.int .i64 0)))) fun t62 s36 =>
              andR (guardO t57 true s36 (ret s36 (eLoad s36 false 1 t62))) fun t63 s37 =>
              andR (guardO t57 true s37 (ret s37 (eIbin .neq t63 (.int .i64 (-1))))) fun t64 s38 =>
              andR (guardO t54 false s38 (ret s38 (ePick t57 t64 (.bool false)))) fun t65 s39 =>
              andR (guardO t54 false s39 (some (t65, s39))) fun t66 s40 =>
              andR (guardO t66 true s40 (some (t4, s40))) fun t67 s41 =>
              andR (guardO t66 true s41 (some (t5, s41))) fun t68 s42 =>
              andR (guardO t66 true s42 (ret s42 (eIbin .sub t68 (.int .i64 1)))) fun t69 s43 =>
              andR (guardO t66 true s43 (ret s43 (eIdx 2 t67 t69))) fun t70 s44 =>
              andR (guardO t66 true s44 (ret s44 (eIdxa 2 1 t70 (.int .i64 0)))) fun t71 s45 =>
              andR (guardO t66 true s45 (ret s45 (eLoad s45 false 1 t71))) fun t72 s46 =>
              andR (guardO t66 true s46 (ret s46 (eIdxa 2 1 t6 (.int .i64 0)))) fun t73 s47 =>
              andR (guardO t66 true s47 (ret s47 (eLoad s47 false 1 t73))) fun t74 s48 =>
              andR (guardO t66 true s48 (ret s48 (eIbin .geq t72 t74))) fun t75 s49 =>
              andR (guardO t54 false s49 (ret s49 (ePick t66 t75 (.bool false)))) fun t76 s50 =>
              andR (ret s50 (ePick t54 (.bool true) t76)) fun t77 s51 =>
              iff' t77
                (andR (some ((.bool false), s51)) fun t2 s52 =>
                  ret s52 (some t2))
                (JMP sysB 72 4051 [t1, t4, t29, t30, t31] s51))))
    (andR (some ((.bool true), s1)) fun t2 s53 =>
      ret s53 (some t2))
noncomputable def S72_4051 (t1 t4 t29 t30 t31 : AV) (s0 : Store) : Res :=
  andR (ret s0 (eIbin .add t31 (.int .i64 1))) fun t78 s1 =>
  andR (some (t78, s1)) fun t31 s2 =>
  JMP sysB 72 506 [t1, t4, t29, t30, t31] s2
/-- hammock/instr.within -/
noncomputable def S73 (x0 x1 x2 : AV) (s0 : Store) : Res :=
  andR (some ((.bool false), s0)) fun t6 s1 =>
  andR (some (x0, s1)) fun t7 s2 =>
  andR (some (x1, s2)) fun t8 s3 =>
  andR (ret s3 (eIbin .leq t7 t8)) fun t9 s4 =>
  andR (some (t9, s4)) fun t10 s5 =>
  andR (guardO t10 true s5 (some (x1, s5))) fun t11 s6 =>
  andR (guardO t10 true s6 (some (x2, s6))) fun t12 s7 =>
  andR (guardO t10 true s7 (ret s7 (eIbin .leq t11 t12))) fun t13 s8 =>
  andR (ret s8 (ePick t10 t13 (.bool false))) fun t14 s9 =>
  andR (some (t14, s9)) fun t6 s10 =>
  ret s10 (some t6)
/-- hammock/instr.forms -/
noncomputable def S112 (s0 : Store) : Res :=
  andR (some (.ptr (List.length s0) 0, s0 ++ [.box 199 [(.str ⟨#[]⟩), (.int .i64 0), (.int .i64 0), (.int .i64 0), (.int .i64 0), (.int .i64 0), (.int .i64 0), (.int .i64 0), (.str ⟨#[]⟩), (.int .i64 0), (.int .i64 0), (.int .i64 0), (.int .i64 0), (.int .i64 0), (.int .i64 0), (.int .i64 0), (.str ⟨#[]⟩), (.int .i64 0), (.int .i64 0), (.int .i64 0), (.int .i64 0), (.int .i64 0), (.int .i64 0), (.int .i64 0), (.str ⟨#[]⟩), (.int .i64 0), (.int .i64 0), (.int .i64 0), (.int .i64 0), (.int .i64 0), (.int .i64 0), (.int .i64 0), (.str ⟨#[]⟩), (.int .i64 0), (.int .i64 0), (.int .i64 0), (.int .i64 0), (.int .i64 0), (.int .i64 0), (.int .i64 0), (.str ⟨#[]⟩), (.int .i64 0), (.int .i64 0), (.int .i64 0), (.int .i64 0), (.int .i64 0), (.int .i64 0), (.int .i64 0), (.str ⟨#[]⟩), (.int .i64 0), (.int .i64 0), (.int .i64 0), (.int .i64 0), (.int .i64 0), (.int .i64 0), (.int .i64 0), (.str ⟨#[]⟩), (.int .i64 0), (.int .i64 0), (.int .i64 0), (.int .i64 0), (.int .i64 0), (.int .i64 0), (.int .i64 0), (.str ⟨#[]⟩), (.int .i64 0), (.int .i64 0), (.int .i64 0), (.int .i64 0), (.int .i64 0), (.int .i64 0), (.int .i64 0), (.str ⟨#[]⟩), (.int .i64 0), (.int .i64 0), (.int .i64 0), (.int .i64 0), (.int .i64 0), (.int .i64 0), (.int .i64 0), (.str ⟨#[]⟩), (.int .i64 0), (.int .i64 0), (.int .i64 0), (.int .i64 0), (.int .i64 0), (.int .i64 0), (.int .i64 0), (.str ⟨#[]⟩), (.int .i64 0), (.int .i64 0), (.int .i64 0), (.int .i64 0), (.int .i64 0), (.int .i64 0), (.int .i64 0), (.str ⟨#[]⟩), (.int .i64 0), (.int .i64 0), (.int .i64 0), (.int .i64 0), (.int .i64 0), (.int .i64 0), (.int .i64 0), (.str ⟨#[]⟩), (.int .i64 0), (.int .i64 0), (.int .i64 0), (.int .i64 0), (.int .i64 0), (.int .i64 0), (.int .i64 0), (.str ⟨#[]⟩), (.int .i64 0), (.int .i64 0), (.int .i64 0), (.int .i64 0), (.int .i64 0), (.int .i64 0), (.int .i64 0), (.str ⟨#[]⟩), (.int .i64 0), (.int .i64 0), (.int .i64 0), (.int .i64 0), (.int .i64 0), (.int .i64 0), (.int .i64 0), (.str ⟨#[]⟩), (.int .i64 0), (.int .i64 0), (.int .i64 0), (.int .i64 0), (.int .i64 0), (.int .i64 0), (.int .i64 0)]])) fun t0 s1 =>
  andR (some ((.int .i64 65536), s1)) fun t1 s2 =>
  andR (ret s2 (eBuild [(.str ⟨#[]⟩), (.int .i64 0), (.int .i64 0), (.int .i64 0), (.int .i64 0), (.int .i64 0), (.int .i64 0), (.int .i64 0)] [(0, 1, (.str ⟨#[105, 110, 116]⟩)), (1, 1, (.int .i64 1)), (2, 1, (.int .i64 0)), (3, 1, (.int .i64 0)), (4, 1, (.int .i64 0)), (5, 1, (.int .i64 0)), (6, 1, (.int .i64 1)), (7, 1, (.int .i64 0))])) fun t2 s3 =>
  andR (some (t1, s3)) fun t3 s4 =>
  andR (ret s4 (eBuild [(.str ⟨#[]⟩), (.int .i64 0), (.int .i64 0), (.int .i64 0), (.int .i64 0), (.int .i64 0), (.int .i64 0), (.int .i64 0)] [(0, 1, (.str ⟨#[103, 108, 111, 98, 97, 108, 38]⟩)), (1, 1, (.int .i64 1)), (2, 1, (.int .i64 0)), (3, 1, t3), (4, 1, (.int .i64 0)), (5, 1, (.int .i64 0)), (6, 1, (.int .i64 1)), (7, 1, (.int .i64 0))])) fun t4 s5 =>
  andR (some (t1, s5)) fun t5 s6 =>
  andR (ret s6 (eBuild [(.str ⟨#[]⟩), (.int .i64 0), (.int .i64 0), (.int .i64 0), (.int .i64 0), (.int .i64 0), (.int .i64 0), (.int .i64 0)] [(0, 1, (.str ⟨#[112, 117, 115, 104]⟩)), (1, 1, (.int .i64 1)), (2, 1, (.int .i64 0)), (3, 1, t5), (4, 1, (.int .i64 1)), (5, 1, (.int .i64 1)), (6, 1, (.int .i64 1)), (7, 1, (.int .i64 0))])) fun t6 s7 =>
  andR (ret s7 (eBuild [(.str ⟨#[]⟩), (.int .i64 0), (.int .i64 0), (.int .i64 0), (.int .i64 0), (.int .i64 0), (.int .i64 0), (.int .i64 0)] [(0, 1, (.str ⟨#[109, 107, 97, 112]⟩)), (1, 1, (.int .i64 0)), (2, 1, (.int .i64 0)), (3, 1, (.int .i64 0)), (4, 1, (.int .i64 2)), (5, 1, (.int .i64 0)), (6, 1, (.int .i64 (-1))), (7, 1, (.int .i64 0))])) fun t7 s8 =>
  andR (some (t1, s8)) fun t8 s9 =>
  andR (ret s9 (eBuild [(.str ⟨#[]⟩), (.int .i64 0), (.int .i64 0), (.int .i64 0), (.int .i64 0), (.int .i64 0), (.int .i64 0), (.int .i64 0)] [(0, 1, (.str ⟨#[117, 112, 100, 97, 116, 101]⟩)), (1, 1, (.int .i64 1)), (2, 1, (.int .i64 0)), (3, 1, t8), (4, 1, (.int .i64 2)), (5, 1, (.int .i64 1)), (6, 1, (.int .i64 (-1))), (7, 1, (.int .i64 0))])) fun t9 s10 =>
  andR (some (t1, s10)) fun t10 s11 =>
  andR (ret s11 (eBuild [(.str ⟨#[]⟩), (.int .i64 0), (.int .i64 0), (.int .i64 0), (.int .i64 0), (.int .i64 0), (.int .i64 0), (.int .i64 0)] [(0, 1, (.str ⟨#[112, 111, 112]⟩)), (1, 1, (.int .i64 1)), (2, 1, (.int .i64 0)), (3, 1, t10), (4, 1, (.int .i64 0)), (5, 1, (.int .i64 1)), (6, 1, (.int .i64 0)), (7, 1, (.int .i64 (-1)))])) fun t11 s12 =>
  andR (some (t1, s12)) fun t12 s13 =>
  andR (ret s13 (eBuild [(.str ⟨#[]⟩), (.int .i64 0), (.int .i64 0), (.int .i64 0), (.int .i64 0), (.int .i64 0), (.int .i64 0), (.int .i64 0)] [(0, 1, (.str ⟨#[115, 108, 105, 100, 101]⟩)), (1, 1, (.int .i64 1)), (2, 1, (.int .i64 0)), (3, 1, t12), (4, 1, (.int .i64 1)), (5, 1, (.int .i64 1)), (6, 1, (.int .i64 0)), (7, 1, (.int .i64 (-1)))])) fun t13 s14 =>
  andR (some (t1, s14)) fun t14 s15 =>
  andR (ret s15 (eBuild [(.str ⟨#[]⟩), (.int .i64 0), (.int .i64 0), (.int .i64 0), (.int .i64 0), (.int .i64 0), (.int .i64 0), (.int .i64 0)] [(0, 1, (.str ⟨#[97, 108, 108, 111, 99]⟩)), (1, 1, (.int .i64 1)), (2, 1, (.int .i64 1)), (3, 1, t14), (4, 1, (.int .i64 0)), (5, 1, (.int .i64 0)), (6, 1, (.int .i64 0)), (7, 1, (.int .i64 1))])) fun t15 s16 =>
  andR (ret s16 (eBuild [(.str ⟨#[]⟩), (.int .i64 0), (.int .i64 0), (.int .i64 0), (.int .i64 0), (.int .i64 0), (.int .i64 0), (.int .i64 0)] [(0, 1, (.str ⟨#[101, 118, 97, 108]⟩)), (1, 1, (.int .i64 0)), (2, 1, (.int .i64 0)), (3, 1, (.int .i64 0)), (4, 1, (.int .i64 1)), (5, 1, (.int .i64 0)), (6, 1, (.int .i64 0)), (7, 1, (.int .i64 0))])) fun t16 s17 =>
  andR (ret s17 (eBuild [(.str ⟨#[]⟩), (.int .i64 0), (.int .i64 0), (.int .i64 0), (.int .i64 0), (.int .i64 0), (.int .i64 0), (.int .i64 0)] [(0, 1, (.str ⟨#[117, 110, 119, 105, 110, 100]⟩)), (1, 1, (.int .i64 0)), (2, 1, (.int .i64 0)), (3, 1, (.int .i64 0)), (4, 1, (.int .i64 1)), (5, 1, (.int .i64 0)), (6, 1, (.int .i64 0)), (7, 1, (.int .i64 0))])) fun t17 s18 =>
  andR (ret s18 (eBuild [(.str ⟨#[]⟩), (.int .i64 0), (.int .i64 0), (.int .i64 0), (.int .i64 0), (.int .i64 0), (.int .i64 0), (.int .i64 0)] [(0, 1, (.str ⟨#[112, 97, 99, 107]⟩)), (1, 1, (.int .i64 2)), (2, 1, (.int .i64 0)), (3, 1, (.int .i64 255)), (4, 1, (.int .i64 0)), (5, 1, (.int .i64 0)), (6, 1, (.int .i64 1)), (7, 1, (.int .i64 0))])) fun t18 s19 =>
  andR (ret s19 (eBuild [(.str ⟨#[]⟩), (.int .i64 0), (.int .i64 0), (.int .i64 0), (.int .i64 0), (.int .i64 0), (.int .i64 0), (.int .i64 0)] [(0, 1, (.str ⟨#[99, 97, 115, 101]⟩)), (1, 1, (.int .i64 (-1))), (2, 1, (.int .i64 0)), (3, 1, (.int .i64 0)), (4, 1, (.int .i64 1)), (5, 1, (.int .i64 0)), (6, 1, (.int .i64 0)), (7, 1, (.int .i64 0))])) fun t19 s20 =>
  andR (some (t1, s20)) fun t20 s21 =>
  andR (ret s21 (eBuild [(.str ⟨#[]⟩), (.int .i64 0), (.int .i64 0), (.int .i64 0), (.int .i64 0), (.int .i64 0), (.int .i64 0), (.int .i64 0)] [(0, 1, (.str ⟨#[115, 112, 108, 105, 116]⟩)), (1, 1, (.int .i64 1)), (2, 1, (.int .i64 0)), (3, 1, t20), (4, 1, (.int .i64 1)), (5, 1, (.int .i64 0)), (6, 1, (.int .i64 (-1))), (7, 1, (.int .i64 1))])) fun t21 s22 =>
  andR (ret s22 (eBuild [(.str ⟨#[]⟩), (.int .i64 0), (.int .i64 0), (.int .i64 0), (.int .i64 0), (.int .i64 0), (.int .i64 0), (.int .i64 0)] [(0, 1, (.str ⟨#[115, 119, 105, 116, 99, 104]⟩)), (1, 1, (.int .i64 (-1))), (2, 1, (.int .i64 0)), (3, 1, (.int .i64 0)), (4, 1, (.int .i64 1)), (5, 1, (.int .i64 0)), (6, 1, (.int .i64 0)), (7, 1, (.int .i64 0))])) fun t22 s23 =>
  andR (ret s23 (eBuild [(.str ⟨#[]⟩), (.int .i64 0), (.int .i64 0), (.int .i64 0), (.int .i64 0), (.int .i64 0), (.int .i64 0), (.int .i64 0)] [(0, 1, (.str ⟨#[112, 114, 105, 109]⟩)), (1, 1, (.int .i64 1)), (2, 1, (.int .i64 0)), (3, 1, (.int .i64 10)), (4, 1, (.int .i64 2)), (5, 1, (.int .i64 0)), (6, 1, (.int .i64 (-1))), (7, 1, (.int .i64 0))])) fun t23 s24 =>
  andR (ret s24 (eBuild [(.str ⟨#[]⟩), (.int .i64 0), (.int .i64 0), (.int .i64 0), (.int .i64 0), (.int .i64 0), (.int .i64 0), (.int .i64 0)] [(0, 1, (.str ⟨#[102, 97, 105, 108]⟩)), (1, 1, (.int .i64 0)), (2, 1, (.int .i64 0)), (3, 1, (.int .i64 0)), (4, 1, (.int .i64 0)), (5, 1, (.int .i64 0)), (6, 1, (.int .i64 0)), (7, 1, (.int .i64 0))])) fun t24 s25 =>
  andR (some (t1, s25)) fun t25 s26 =>
  andR (ret s26 (eBuild [(.str ⟨#[]⟩), (.int .i64 0), (.int .i64 0), (.int .i64 0), (.int .i64 0), (.int .i64 0), (.int .i64 0), (.int .i64 0)] [(0, 1, (.str ⟨#[106, 117, 109, 112]⟩)), (1, 1, (.int .i64 1)), (2, 1, (.int .i64 0)), (3, 1, t25), (4, 1, (.int .i64 0)), (5, 1, (.int .i64 0)), (6, 1, (.int .i64 0)), (7, 1, (.int .i64 0))])) fun t26 s27 =>
  andR (ret s27 (eBuild [(.str ⟨#[]⟩), (.int .i64 0), (.int .i64 0), (.int .i64 0), (.int .i64 0), (.int .i64 0), (.int .i64 0), (.int .i64 0), (.str ⟨#[]⟩), (.int .i64 0), (.int .i64 0), (.int .i64 0), (.int .i64 0), (.int .i64 0), (.int .i64 0), (.int .i64 0), (.str ⟨#[]⟩), (.int .i64 0), (.int .i64 0), (.int .i64 0), (.int .i64 0), (.int .i64 0), (.int .i64 0), (.int .i64 0), (.str ⟨#[]⟩), (.int .i64 0), (.int .i64 0), (.int .i64 0), (.int .i64 0), (.int .i64 0), (.int .i64 0), (.int .i64 0), (.str ⟨#[]⟩), (.int .i64 0), (.int .i64 0), (.int .i64 0), (.int .i64 0), (.int .i64 0), (.int .i64 0), (.int .i64 0), (.str ⟨#[]⟩), (.int .i64 0), (.int .i64 0), (.int .i64 0), (.int .i64 0), (.int .i64 0), (.int .i64 0), (.int .i64 0), (.str ⟨#[]⟩), (.int .i64 0), (.int .i64 0), (.int .i64 0), (.int .i64 0), (.int .i64 0), (.int .i64 0), (.int .i64 0), (.str ⟨#[]⟩), (.int .i64 0), (.int .i64 0), (.int .i64 0), (.int .i64 0), (.int .i64 0), (.int .i64 0), (.int .i64 0), (.str ⟨#[]⟩), (.int .i64 0), (.int .i64 0), (.int .i64 0), (.int .i64 0), (.int .i64 0), (.int .i64 0), (.int .i64 0), (.str ⟨#[]⟩), (.int .i64 0), (.int .i64 0), (.int .i64 0), (.int .i64 0), (.int .i64 0), (.int .i64 0), (.int .i64 0), (.str ⟨#[]⟩), (.int .i64 0), (.int .i64 0), (.int .i64 0), (.int .i64 0), (.int .i64 0), (.int .i64 0), (.int .i64 0), (.str ⟨#[]⟩), (.int .i64 0), (.int .i64 0), (.int .i64 0), (.int .i64 0), (.int .i64 0), (.int .i64 0), (.int .i64 0), (.str ⟨#[]⟩), (.int .i64 0), (.int .i64 0), (.int .i64 0), (.int .i64 0), (.int .i64 0), (.int .i64 0), (.int .i64 0), (.str ⟨#[]⟩), (.int .i64 0), (.int .i64 0), (.int .i64 0), (.int .i64 0), (.int .i64 0), (.int .i64 0), (.int .i64 0), (.str ⟨#[]⟩), (.int .i64 0), (.int .i64 0), (.int .i64 0), (.int .i64 0), (.int .i64 0), (.int .i64 0), (.int .i64 0), (.str ⟨#[]⟩), (.int .i64 0), (.int .i64 0), (.int .i64 0), (.int .i64 0), (.int .i64 0), (.int .i64 0), (.int .i64 0), (.str ⟨#[]⟩), (.int .i64 0), (.int .i64 0), (.int .i64 0), (.int .i64 0), (.int .i64 0), (.int .i64 0), (.int .i64 0)] [(0, 8, t2), (8, 8, t4), (16, 8, t6), (24, 8, t7), (32, 8, t9), (40, 8, t11), (48, 8, t13), (56, 8, t15), (64, 8, t16), (72, 8, t17), (80, 8, t18), (88, 8, t19), (96, 8, t21), (104, 8, t22), (112, 8, t23), (120, 8, t24), (128, 8, t26)])) fun t27 s28 =>
  andR (stR (eStore s28 136 t0 t27)) fun _ s29 =>
  ret s29 (eLoad s29 true 136 t0)
theorem C5 (x0 : AV) (s : Store) : CALL sysB 5 [x0] s = finR ⟨false, false⟩ s (S5 x0.weak s) :=
  (CALL_eq (A := sysB) (f := 5) (fc := fc5) rfl rfl [x0] s).trans (by kernel_rfl)
theorem C19 (x0 : AV) (s : Store) : CALL sysB 19 [x0] s = finR ⟨false, false⟩ s (S19 x0.weak s) :=
  (CALL_eq (A := sysB) (f := 19) (fc := fc19) rfl rfl [x0] s).trans (by kernel_rfl)
theorem C20 (x0 : AV) (s : Store) : CALL sysB 20 [x0] s = finR ⟨false, false⟩ s (S20 x0.weak s) :=
  (CALL_eq (A := sysB) (f := 20) (fc := fc20) rfl rfl [x0] s).trans (by kernel_rfl)
theorem C21 (x0 : AV) (s : Store) : CALL sysB 21 [x0] s = finR ⟨false, false⟩ s (S21 x0.weak s) :=
  (CALL_eq (A := sysB) (f := 21) (fc := fc21) rfl rfl [x0] s).trans (by kernel_rfl)
theorem C22 (x0 : AV) (s : Store) : CALL sysB 22 [x0] s = finR ⟨false, false⟩ s (S22 x0.weak s) :=
  (CALL_eq (A := sysB) (f := 22) (fc := fc22) rfl rfl [x0] s).trans (by kernel_rfl)
theorem C71 (x0 : AV) (s : Store) : CALL sysB 71 [x0] s = finR ⟨false, false⟩ s (S71 x0.weak s) :=
  (CALL_eq (A := sysB) (f := 71) (fc := fc71) rfl rfl [x0] s).trans (by kernel_rfl)
theorem C72 (x0 : AV) (s : Store) : CALL sysB 72 [x0] s = finR ⟨false, false⟩ s (S72 x0.weak s) :=
  (CALL_eq (A := sysB) (f := 72) (fc := fc72) rfl rfl [x0] s).trans (by kernel_rfl)
theorem J72_7 (t1 t3 : AV) (s : Store) : JMP sysB 72 7 [t1, t3] s = S72_7 t1 t3 s :=
  (JMP_eq (A := sysB) (f := 72) (fc := fc72) (l := 7) rfl rfl [t1, t3] s).trans (by kernel_rfl)
theorem J72_506 (t1 t4 t29 t30 t31 : AV) (s : Store) : JMP sysB 72 506 [t1, t4, t29, t30, t31] s = S72_506 t1 t4 t29 t30 t31 s :=
  (JMP_eq (A := sysB) (f := 72) (fc := fc72) (l := 506) rfl rfl [t1, t4, t29, t30, t31] s).trans (by kernel_rfl)
theorem J72_4051 (t1 t4 t29 t30 t31 : AV) (s : Store) : JMP sysB 72 4051 [t1, t4, t29, t30, t31] s = S72_4051 t1 t4 t29 t30 t31 s :=
  (JMP_eq (A := sysB) (f := 72) (fc := fc72) (l := 4051) rfl rfl [t1, t4, t29, t30, t31] s).trans (by kernel_rfl)
theorem C73 (x0 x1 x2 : AV) (s : Store) : CALL sysB 73 [x0, x1, x2] s = finR ⟨false, false⟩ s (S73 x0.weak x1.weak x2.weak s) :=
  (CALL_eq (A := sysB) (f := 73) (fc := fc73) rfl rfl [x0, x1, x2] s).trans (by kernel_rfl)
theorem C112 (s : Store) : CALL sysB 112 [] s = finR ⟨false, false⟩ s (S112  s) :=
  (CALL_eq (A := sysB) (f := 112) (fc := fc112) rfl rfl [] s).trans (by kernel_rfl)
theorem ok5 : FuncOK Tryz.prog 5 fc5 :=
  ⟨Tryz.f5, ((Tryz.f5).body).getD .skip, ⟨Tryz.prog, (Tryz.f5).ntmps, 5, false, (resC Tryz.prog (Tryz.f5).results.toList).getD [], fun p => ([] : List Nat).contains p, lookN []⟩,
    by kernel_rfl, by kernel_rfl, by kernel_rfl, rfl, rfl, rfl, rfl, by kernel_rfl, by kernel_rfl, okLabs (by kernel_rfl)⟩
theorem ok19 : FuncOK Tryz.prog 19 fc19 :=
  ⟨Tryz.f19, ((Tryz.f19).body).getD .skip, ⟨Tryz.prog, (Tryz.f19).ntmps, 19, false, (resC Tryz.prog (Tryz.f19).results.toList).getD [], fun p => ([] : List Nat).contains p, lookN []⟩,
    by kernel_rfl, by kernel_rfl, by kernel_rfl, rfl, rfl, rfl, rfl, by kernel_rfl, by kernel_rfl, okLabs (by kernel_rfl)⟩
theorem ok20 : FuncOK Tryz.prog 20 fc20 :=
  ⟨Tryz.f20, ((Tryz.f20).body).getD .skip, ⟨Tryz.prog, (Tryz.f20).ntmps, 20, false, (resC Tryz.prog (Tryz.f20).results.toList).getD [], fun p => ([] : List Nat).contains p, lookN []⟩,
    by kernel_rfl, by kernel_rfl, by kernel_rfl, rfl, rfl, rfl, rfl, by kernel_rfl, by kernel_rfl, okLabs (by kernel_rfl)⟩
theorem ok21 : FuncOK Tryz.prog 21 fc21 :=
  ⟨Tryz.f21, ((Tryz.f21).body).getD .skip, ⟨Tryz.prog, (Tryz.f21).ntmps, 21, false, (resC Tryz.prog (Tryz.f21).results.toList).getD [], fun p => ([] : List Nat).contains p, lookN []⟩,
    by kernel_rfl, by kernel_rfl, by kernel_rfl, rfl, rfl, rfl, rfl, by kernel_rfl, by kernel_rfl, okLabs (by kernel_rfl)⟩
theorem ok22 : FuncOK Tryz.prog 22 fc22 :=
  ⟨Tryz.f22, ((Tryz.f22).body).getD .skip, ⟨Tryz.prog, (Tryz.f22).ntmps, 22, false, (resC Tryz.prog (Tryz.f22).results.toList).getD [], fun p => ([] : List Nat).contains p, lookN []⟩,
    by kernel_rfl, by kernel_rfl, by kernel_rfl, rfl, rfl, rfl, rfl, by kernel_rfl, by kernel_rfl, okLabs (by kernel_rfl)⟩
theorem ok71 : FuncOK Tryz.prog 71 fc71 :=
  ⟨Tryz.f71, ((Tryz.f71).body).getD .skip, ⟨Tryz.prog, (Tryz.f71).ntmps, 71, false, (resC Tryz.prog (Tryz.f71).results.toList).getD [], fun p => ([] : List Nat).contains p, lookN []⟩,
    by kernel_rfl, by kernel_rfl, by kernel_rfl, rfl, rfl, rfl, rfl, by kernel_rfl, by kernel_rfl, okLabs (by kernel_rfl)⟩
theorem ok72 : FuncOK Tryz.prog 72 fc72 :=
  ⟨Tryz.f72, ((Tryz.f72).body).getD .skip, ⟨Tryz.prog, (Tryz.f72).ntmps, 72, false, (resC Tryz.prog (Tryz.f72).results.toList).getD [], fun p => ([4051, 7] : List Nat).contains p, lookN [(7, [1, 3]), (506, [1, 4, 29, 30, 31]), (4051, [1, 4, 29, 30, 31])]⟩,
    by kernel_rfl, by kernel_rfl, by kernel_rfl, rfl, rfl, rfl, rfl, by kernel_rfl, by kernel_rfl, okLabs (by kernel_rfl)⟩
theorem ok73 : FuncOK Tryz.prog 73 fc73 :=
  ⟨Tryz.f73, ((Tryz.f73).body).getD .skip, ⟨Tryz.prog, (Tryz.f73).ntmps, 73, false, (resC Tryz.prog (Tryz.f73).results.toList).getD [], fun p => ([] : List Nat).contains p, lookN []⟩,
    by kernel_rfl, by kernel_rfl, by kernel_rfl, rfl, rfl, rfl, rfl, by kernel_rfl, by kernel_rfl, okLabs (by kernel_rfl)⟩
theorem ok112 : FuncOK Tryz.prog 112 fc112 :=
  ⟨Tryz.f112, ((Tryz.f112).body).getD .skip, ⟨Tryz.prog, (Tryz.f112).ntmps, 112, false, (resC Tryz.prog (Tryz.f112).results.toList).getD [], fun p => ([] : List Nat).contains p, lookN []⟩,
    by kernel_rfl, by kernel_rfl, by kernel_rfl, rfl, rfl, rfl, rfl, by kernel_rfl, by kernel_rfl, okLabs (by kernel_rfl)⟩
theorem sysB_codes {f : Nat} {fc : FC} (h : sysB.codes f = some fc) : FuncOK Tryz.prog f fc :=
  lookF_ok (l := [(5, fc5), (19, fc19), (20, fc20), (21, fc21), (22, fc22), (71, fc71), (72, fc72), (73, fc73), (112, fc112)]) h (by
    intro e he
    simp only [List.mem_cons, List.not_mem_nil, or_false] at he
    rcases he with rfl | rfl | rfl | rfl | rfl | rfl | rfl | rfl | rfl
    · exact ok5
    · exact ok19
    · exact ok20
    · exact ok21
    · exact ok22
    · exact ok71
    · exact ok72
    · exact ok73
    · exact ok112
  )
end Go.Av.U
