import Derived.Test.YtfmonjbhfocjbaaGreatDoorAvB
import Derived.Test.YtfmonjbhfocjbaaGreatDoorProg
namespace Go.Av.T
open Go Go.Av Go.Proofs
def extA : CallO := fun f args σ => match f with
  | 62 => xJoin args σ
  | 63 => xItoa args σ
  | 66 => xString 5 args σ
  | 126 => xCopyCheck [(125, 2)] args σ
  | 107 => xIndexByte args σ
  | 109 => xSplitN args σ
  | 124 => xContains1 args σ
  | 169 => xAtoi 302 args σ
  | 171 => xCut args σ
  | 176 => xIndex1 args σ
  | 50 => xCutSuffix args σ
  | _ => none
/-- hammock/hammocklaw20.InstrStack -/
def T5 : TC :=
  .op ⟨(some 1), (.box 45 (.t 0)), none⟩ <|
  .op ⟨(some 2), (.mv (.c (.bool false))), none⟩ <|
  .op ⟨(some 6), (.foff 3 (.t 1)), none⟩ <|
  .op ⟨(some 7), (.load false 1 (.t 6)), none⟩ <|
  .op ⟨(some 8), (.lenl (.t 7)), none⟩ <|
  .op ⟨(some 9), (.ibin .gtr (.t 8) (.c (.int .i64 300))), none⟩ <|
  .cond (.t 9)
    (.op ⟨(some 10), (.call (.c (.fn (.func 10) [] [])) []), none⟩ <|
      .op ⟨(some 2), (.mv (.t 10)), none⟩ <|
      .ret [(.t 2)])
    (.op ⟨(some 11), (.load true 4 (.t 1)), none⟩ <|
      .op ⟨(some 12), (.call (.c (.fn (.func 19) [] [])) [(.t 11)]), none⟩ <|
      .op ⟨(some 3), (.alloc 46 [(.int .i64 0), (.int .i64 0), (.int .i64 0), (.sl .nil 0 [])]), none⟩ <|
      .op ⟨none, (.store 4 (.t 3) (.t 12)), none⟩ <|
      .op ⟨(some 13), (.load true 4 (.t 3)), none⟩ <|
      .op ⟨(some 14), (.call (.c (.fn (.func 20) [] [])) [(.t 13)]), none⟩ <|
      .op ⟨(some 4), (.mv (.t 14)), none⟩ <|
      .op ⟨(some 15), (.load true 4 (.t 3)), none⟩ <|
      .op ⟨(some 16), (.call (.c (.fn (.func 21) [] [])) [(.t 15)]), none⟩ <|
      .op ⟨(some 5), (.mv (.t 16)), none⟩ <|
      .op ⟨(some 17), (.mv (.t 4)), none⟩ <|
      .op ⟨(some 18), (.ibin .geq (.t 17) (.c (.int .i64 0))), none⟩ <|
      .op ⟨(some 19), (.mv (.t 18)), none⟩ <|
      .op ⟨(some 20), (.mv (.t 4)), (some (19, true))⟩ <|
      .op ⟨(some 21), (.mv (.t 5)), (some (19, true))⟩ <|
      .op ⟨(some 22), (.ibin .add (.t 20) (.t 21)), (some (19, true))⟩ <|
      .op ⟨(some 23), (.ibin .geq (.t 22) (.c (.int .i64 0))), (some (19, true))⟩ <|
      .op ⟨(some 24), (.pick (.t 19) (.t 23) (.c (.bool false))), none⟩ <|
      .op ⟨(some 25), (.mv (.t 24)), none⟩ <|
      .op ⟨(some 26), (.load true 4 (.t 3)), (some (25, true))⟩ <|
      .op ⟨(some 27), (.call (.c (.fn (.func 22) [] [])) [(.t 26)]), (some (25, true))⟩ <|
      .op ⟨(some 28), (.mv (.t 27)), (some (25, true))⟩ <|
      .op ⟨(some 29), (.mv (.t 4)), (some (28, false))⟩ <|
      .op ⟨(some 30), (.ibin .eql (.t 29) (.c (.int .i64 0))), (some (28, false))⟩ <|
      .op ⟨(some 31), (.mv (.t 30)), (some (28, false))⟩ <|
      .op ⟨(some 32), (.mv (.t 5)), (some (31, true))⟩ <|
      .op ⟨(some 33), (.ibin .eql (.t 32) (.c (.int .i64 0))), (some (31, true))⟩ <|
      .op ⟨(some 34), (.pick (.t 31) (.t 33) (.c (.bool false))), (some (28, false))⟩ <|
      .op ⟨(some 35), (.pick (.t 28) (.c (.bool true)) (.t 34)), (some (25, true))⟩ <|
      .op ⟨(some 36), (.pick (.t 25) (.t 35) (.c (.bool false))), none⟩ <|
      .op ⟨(some 37), (.mv (.t 36)), none⟩ <|
      .op ⟨(some 38), (.call (.c (.fn (.func 10) [] [])) []), (some (37, true))⟩ <|
      .op ⟨(some 39), (.pick (.t 37) (.t 38) (.c (.bool false))), none⟩ <|
      .op ⟨(some 2), (.mv (.t 39)), none⟩ <|
      .ret [(.t 2)])
def fc5 : FC := ⟨⟨false, false⟩, T5, lookL []⟩
/-- hammock/hammocklaw20.knows -/
def T10 : TC :=
  .op ⟨(some 0), (.mv (.c (.bool false))), none⟩ <|
  .op ⟨(some 7), (.build [(.str ⟨#[]⟩), (.int .i64 0), (.int .i64 0)] [(0, 1, (.c (.str ⟨#[102]⟩))), (1, 1, (.c (.int .i64 1)))]), none⟩ <|
  .op ⟨(some 8), (.bsl 3 (.agg [(.str ⟨#[]⟩), (.int .i64 0), (.int .i64 0)]) 1 [(0, (.t 7))]), none⟩ <|
  .op ⟨(some 9), (.build [(.int .i64 0), (.int .i64 0), (.int .i64 0), (.sl .nil 0 [])] [(0, 1, (.c (.int .i64 0))), (1, 1, (.c (.int .i64 7)))]), none⟩ <|
  .op ⟨(some 10), (.build [(.int .i64 0), (.int .i64 0), (.int .i64 0), (.sl .nil 0 [])] [(0, 1, (.c (.int .i64 4))), (1, 1, (.c (.int .i64 1)))]), none⟩ <|
  .op ⟨(some 11), (.bsl 4 (.agg [(.int .i64 0), (.int .i64 0), (.int .i64 0), (.sl .nil 0 [])]) 2 [(0, (.t 9)), (1, (.t 10))]), none⟩ <|
  .op ⟨(some 12), (.build [(.sl .nil 0 []), (.sl .nil 0 [])] [(0, 1, (.t 8)), (1, 1, (.t 11))]), none⟩ <|
  .op ⟨(some 1), (.alloc 26 [(.sl .nil 0 []), (.sl .nil 0 [])]), none⟩ <|
  .op ⟨none, (.store 2 (.t 1) (.t 12)), none⟩ <|
  .op ⟨(some 13), (.load true 2 (.t 1)), none⟩ <|
  .op ⟨(some 14), (.call (.c (.fn (.func 16) [] [])) [(.t 13)]), none⟩ <|
  .op ⟨(some 2), (.mv (.t 14)), none⟩ <|
  .op ⟨(some 16), (.mv (.t 2)), none⟩ <|
  .op ⟨(some 17), (.call (.c (.fn (.func 11) [] [])) [(.t 16)]), none⟩ <|
  .op ⟨(some 15), (.mv (.t 17)), none⟩ <|
  .op ⟨(some 18), (.extr 0 (.t 15)), none⟩ <|
  .op ⟨(some 19), (.extr 1 (.t 15)), none⟩ <|
  .op ⟨(some 3), (.alloc 26 [(.sl .nil 0 []), (.sl .nil 0 [])]), none⟩ <|
  .op ⟨none, (.store 2 (.t 3) (.t 18)), none⟩ <|
  .op ⟨(some 4), (.mv (.t 19)), none⟩ <|
  .op ⟨(some 21), (.call (.c (.fn (.func 48) [] [])) [(.c (.str ⟨#[62, 61]⟩))]), none⟩ <|
  .op ⟨(some 20), (.mv (.t 21)), none⟩ <|
  .op ⟨(some 22), (.extr 0 (.t 20)), none⟩ <|
  .op ⟨(some 23), (.extr 1 (.t 20)), none⟩ <|
  .op ⟨(some 5), (.mv (.t 22)), none⟩ <|
  .op ⟨(some 6), (.mv (.t 23)), none⟩ <|
  .op ⟨(some 24), (.mv (.t 2)), none⟩ <|
  .op ⟨(some 25), (.sbin .eql (.t 24) (.c (.str ⟨#[103, 108, 111, 98, 97, 108, 32, 49, 32, 48, 32, 102, 10, 105, 110, 116, 32, 55, 10, 117, 112, 100, 97, 116, 101, 32, 49, 10]⟩))), none⟩ <|
  .op ⟨(some 26), (.mv (.t 25)), none⟩ <|
  .op ⟨(some 27), (.mv (.t 4)), (some (26, true))⟩ <|
  .op ⟨(some 28), (.ibin .eql (.t 27) (.c (.int .i64 0))), (some (26, true))⟩ <|
  .op ⟨(some 29), (.pick (.t 26) (.t 28) (.c (.bool false))), none⟩ <|
  .op ⟨(some 30), (.mv (.t 29)), none⟩ <|
  .op ⟨(some 31), (.load true 2 (.t 1)), (some (30, true))⟩ <|
  .op ⟨(some 32), (.load true 2 (.t 3)), (some (30, true))⟩ <|
  .op ⟨(some 33), (.call (.c (.fn (.func 18) [] [])) [(.t 31), (.t 32)]), (some (30, true))⟩ <|
  .op ⟨(some 34), (.pick (.t 30) (.t 33) (.c (.bool false))), none⟩ <|
  .op ⟨(some 35), (.mv (.t 34)), none⟩ <|
  .op ⟨(some 36), (.mv (.t 6)), (some (35, true))⟩ <|
  .op ⟨(some 37), (.pick (.t 35) (.t 36) (.c (.bool false))), none⟩ <|
  .op ⟨(some 38), (.mv (.t 37)), none⟩ <|
  .op ⟨(some 39), (.mv (.t 5)), (some (38, true))⟩ <|
  .op ⟨(some 40), (.ibin .eql (.t 39) (.c (.int .i64 10))), (some (38, true))⟩ <|
  .op ⟨(some 41), (.pick (.t 38) (.t 40) (.c (.bool false))), none⟩ <|
  .op ⟨(some 42), (.mv (.t 41)), none⟩ <|
  .op ⟨(some 43), (.foff 1 (.t 1)), (some (42, true))⟩ <|
  .op ⟨(some 44), (.load false 1 (.t 43)), (some (42, true))⟩ <|
  .op ⟨(some 45), (.idx 4 (.t 44) (.c (.int .i64 1))), (some (42, true))⟩ <|
  .op ⟨(some 46), (.load true 4 (.t 45)), (some (42, true))⟩ <|
  .op ⟨(some 47), (.call (.c (.fn (.func 20) [] [])) [(.t 46)]), (some (42, true))⟩ <|
  .op ⟨(some 48), (.ibin .eql (.t 47) (.c (.int .i64 3))), (some (42, true))⟩ <|
  .op ⟨(some 49), (.pick (.t 42) (.t 48) (.c (.bool false))), none⟩ <|
  .op ⟨(some 0), (.mv (.t 49)), none⟩ <|
  .ret [(.t 0)]
def fc10 : FC := ⟨⟨false, false⟩, T10, lookL []⟩
/-- hammock/instr.Parse -/
def T11 : TC :=
  .op ⟨(some 2), (.alloc 26 [(.sl .nil 0 []), (.sl .nil 0 [])]), none⟩ <|
  .op ⟨(some 3), (.alloc 3 [(.int .i64 0)]), none⟩ <|
  .op ⟨(some 4), (.alloc 26 [(.sl .nil 0 []), (.sl .nil 0 [])]), none⟩ <|
  .op ⟨(some 5), (.alloc 3 [(.int .i64 0)]), none⟩ <|
  .op ⟨none, (.store 1 (.t 5) (.c (.int .i64 0))), none⟩ <|
  .op ⟨(some 13), (.mv (.t 0)), none⟩ <|
  .op ⟨(some 14), (.call (.c (.fn (.func 49) [] [])) [(.t 13)]), none⟩ <|
  .rng 11 (.t 14) 122 1 [2, 3, 4, 5] 0 0
    (.op ⟨(some 72), (.load true 2 (.t 4)), none⟩ <|
      .op ⟨none, (.store 2 (.t 2) (.t 72)), none⟩ <|
      .op ⟨none, (.store 1 (.t 3) (.c (.int .i64 0))), none⟩ <|
      .ret [(.c true 2 2), (.c false 1 3)])
    (.ret [(.c true 2 2), (.c false 1 3)])
    (.op ⟨(some 72), (.load true 2 (.t 4)), none⟩ <|
      .op ⟨none, (.store 2 (.t 2) (.t 72)), none⟩ <|
      .op ⟨none, (.store 1 (.t 3) (.c (.int .i64 0))), none⟩ <|
      .ret [(.c true 2 2), (.c false 1 3)])
    (.op ⟨(some 72), (.load true 2 (.t 4)), none⟩ <|
      .op ⟨none, (.store 2 (.t 2) (.t 72)), none⟩ <|
      .op ⟨none, (.store 1 (.t 3) (.c (.int .i64 0))), none⟩ <|
      .ret [(.c true 2 2), (.c false 1 3)])
def T11_122 : TC :=
  .op ⟨(some 6), (.mv (.t 15)), none⟩ <|
  .out [2, 3, 4, 5, 6]
def T11_245 : TC :=
  .op ⟨(some 16), (.load false 1 (.t 5)), none⟩ <|
  .op ⟨(some 17), (.ibin .add (.t 16) (.c (.int .i64 1))), none⟩ <|
  .op ⟨none, (.store 1 (.t 5) (.t 17)), none⟩ <|
  .op ⟨(some 19), (.mv (.t 6)), none⟩ <|
  .op ⟨(some 20), (.call (.c (.fn (.func 50) [] [])) [(.t 19), (.c (.str ⟨#[10]⟩))]), none⟩ <|
  .op ⟨(some 18), (.mv (.t 20)), none⟩ <|
  .op ⟨(some 21), (.extr 0 (.t 18)), none⟩ <|
  .op ⟨(some 22), (.extr 1 (.t 18)), none⟩ <|
  .op ⟨(some 7), (.mv (.t 21)), none⟩ <|
  .op ⟨(some 8), (.mv (.t 22)), none⟩ <|
  .op ⟨(some 23), (.mv (.t 8)), none⟩ <|
  .op ⟨(some 24), (.not (.t 23)), none⟩ <|
  .cond (.t 24)
    (.op ⟨(some 25), (.build [(.sl .nil 0 []), (.sl .nil 0 [])] []), none⟩ <|
      .op ⟨(some 26), (.load false 1 (.t 5)), none⟩ <|
      .op ⟨none, (.store 2 (.t 2) (.t 25)), none⟩ <|
      .again ⟨(some 26), (.load false 1 (.t 5)), none⟩ <|
      .op ⟨none, (.store 1 (.t 3) (.t 26)), none⟩ <|
      .rnd 1)
    (.op ⟨(some 28), (.mv (.t 7)), none⟩ <|
      .op ⟨(some 29), (.call (.c (.fn (.func 51) [] [])) [(.t 28)]), none⟩ <|
      .op ⟨(some 27), (.mv (.t 29)), none⟩ <|
      .op ⟨(some 30), (.extr 0 (.t 27)), none⟩ <|
      .op ⟨(some 31), (.extr 1 (.t 27)), none⟩ <|
      .op ⟨(some 9), (.alloc 101 [(.str ⟨#[]⟩), (.int .i64 0), (.int .i64 0)]), none⟩ <|
      .op ⟨none, (.store 3 (.t 9) (.t 30)), none⟩ <|
      .op ⟨(some 10), (.mv (.t 31)), none⟩ <|
      .op ⟨(some 32), (.mv (.t 10)), none⟩ <|
      .op ⟨(some 33), (.mv (.t 32)), none⟩ <|
      .op ⟨(some 34), (.foff 1 (.t 4)), (some (33, true))⟩ <|
      .op ⟨(some 35), (.load false 1 (.t 34)), (some (33, true))⟩ <|
      .op ⟨(some 36), (.lenl (.t 35)), (some (33, true))⟩ <|
      .op ⟨(some 37), (.ibin .eql (.t 36) (.c (.int .i64 0))), (some (33, true))⟩ <|
      .op ⟨(some 38), (.pick (.t 33) (.t 37) (.c (.bool false))), none⟩ <|
      .op ⟨(some 39), (.mv (.t 38)), none⟩ <|
      .op ⟨(some 40), (.foff 0 (.t 4)), (some (39, true))⟩ <|
      .op ⟨(some 41), (.load false 1 (.t 40)), (some (39, true))⟩ <|
      .op ⟨(some 42), (.lenl (.t 41)), (some (39, true))⟩ <|
      .op ⟨(some 43), (.ibin .lss (.t 42) (.c (.int .i64 65536))), (some (39, true))⟩ <|
      .op ⟨(some 44), (.pick (.t 39) (.t 43) (.c (.bool false))), none⟩ <|
      .cond (.t 44)
        (.op ⟨(some 45), (.foff 0 (.t 4)), none⟩ <|
          .op ⟨(some 46), (.load false 1 (.t 45)), none⟩ <|
          .op ⟨(some 47), (.load true 3 (.t 9)), none⟩ <|
          .op ⟨(some 48), (.bsl 3 (.agg [(.str ⟨#[]⟩), (.int .i64 0), (.int .i64 0)]) 1 [(0, (.t 47))]), none⟩ <|
          .op ⟨(some 49), (.app 101 3 32 (.t 46) (.t 48)), none⟩ <|
          .op ⟨(some 50), (.foff 0 (.t 4)), none⟩ <|
          .op ⟨none, (.store 1 (.t 50) (.t 49)), none⟩ <|
          .rnd 0)
        (.op ⟨(some 52), (.mv (.t 7)), none⟩ <|
          .op ⟨(some 53), (.call (.c (.fn (.func 52) [] [])) [(.t 52)]), none⟩ <|
          .op ⟨(some 51), (.mv (.t 53)), none⟩ <|
          .op ⟨(some 54), (.extr 0 (.t 51)), none⟩ <|
          .op ⟨(some 55), (.extr 1 (.t 51)), none⟩ <|
          .op ⟨(some 11), (.alloc 46 [(.int .i64 0), (.int .i64 0), (.int .i64 0), (.sl .nil 0 [])]), none⟩ <|
          .op ⟨none, (.store 4 (.t 11) (.t 54)), none⟩ <|
          .op ⟨(some 12), (.mv (.t 55)), none⟩ <|
          .op ⟨(some 56), (.mv (.t 12)), none⟩ <|
          .op ⟨(some 57), (.not (.t 56)), none⟩ <|
          .op ⟨(some 58), (.mv (.t 57)), none⟩ <|
          .op ⟨(some 59), (.foff 1 (.t 4)), (some (58, false))⟩ <|
          .op ⟨(some 60), (.load false 1 (.t 59)), (some (58, false))⟩ <|
          .op ⟨(some 61), (.lenl (.t 60)), (some (58, false))⟩ <|
          .op ⟨(some 62), (.ibin .geq (.t 61) (.c (.int .i64 65536))), (some (58, false))⟩ <|
          .op ⟨(some 63), (.pick (.t 58) (.c (.bool true)) (.t 62)), none⟩ <|
          .cond (.t 63)
            (.op ⟨(some 64), (.build [(.sl .nil 0 []), (.sl .nil 0 [])] []), none⟩ <|
              .op ⟨(some 65), (.load false 1 (.t 5)), none⟩ <|
              .op ⟨none, (.store 2 (.t 2) (.t 64)), none⟩ <|
              .again ⟨(some 65), (.load false 1 (.t 5)), none⟩ <|
              .op ⟨none, (.store 1 (.t 3) (.t 65)), none⟩ <|
              .rnd 1)
            (.op ⟨(some 66), (.foff 1 (.t 4)), none⟩ <|
              .op ⟨(some 67), (.load false 1 (.t 66)), none⟩ <|
              .op ⟨(some 68), (.load true 4 (.t 11)), none⟩ <|
              .op ⟨(some 69), (.bsl 4 (.agg [(.int .i64 0), (.int .i64 0), (.int .i64 0), (.sl .nil 0 [])]) 1 [(0, (.t 68))]), none⟩ <|
              .op ⟨(some 70), (.app 46 4 48 (.t 67) (.t 69)), none⟩ <|
              .op ⟨(some 71), (.foff 1 (.t 4)), none⟩ <|
              .op ⟨none, (.store 1 (.t 71) (.t 70)), none⟩ <|
              .rnd 0)))
def fc11 : FC := ⟨⟨false, false⟩, T11, lookL [(122, [15, 2, 3, 4, 5], T11_122), (245, [2, 3, 4, 5, 6], T11_245)]⟩
/-- hammock/instr.Print -/
def T16 : TC :=
  .op ⟨(some 1), (.box 26 (.t 0)), none⟩ <|
  .op ⟨(some 2), (.mv (.c (.str ⟨#[]⟩))), none⟩ <|
  .op ⟨(some 9), (.foff 0 (.t 1)), none⟩ <|
  .op ⟨(some 10), (.load false 1 (.t 9)), none⟩ <|
  .op ⟨(some 11), (.call (.c (.fn (.func 56) [] [])) [(.t 10), (.c (.fn (.func 57) [] []))]), none⟩ <|
  .op ⟨(some 12), (.mv (.t 11)), none⟩ <|
  .op ⟨(some 13), (.foff 1 (.t 1)), (some (12, false))⟩ <|
  .op ⟨(some 14), (.load false 1 (.t 13)), (some (12, false))⟩ <|
  .op ⟨(some 15), (.call (.c (.fn (.func 59) [] [])) [(.t 14), (.c (.fn (.func 60) [] []))]), (some (12, false))⟩ <|
  .op ⟨(some 16), (.pick (.t 12) (.c (.bool true)) (.t 15)), none⟩ <|
  .op ⟨(some 3), (.mv (.t 16)), none⟩ <|
  .op ⟨(some 17), (.mv (.t 3)), none⟩ <|
  .op ⟨(some 18), (.mv (.t 17)), none⟩ <|
  .op ⟨(some 19), (.foff 0 (.t 1)), (some (18, false))⟩ <|
  .op ⟨(some 20), (.load false 1 (.t 19)), (some (18, false))⟩ <|
  .op ⟨(some 21), (.lenl (.t 20)), (some (18, false))⟩ <|
  .op ⟨(some 22), (.foff 1 (.t 1)), (some (18, false))⟩ <|
  .op ⟨(some 23), (.load false 1 (.t 22)), (some (18, false))⟩ <|
  .op ⟨(some 24), (.lenl (.t 23)), (some (18, false))⟩ <|
  .op ⟨(some 25), (.mm true (.t 21) (.t 24)), (some (18, false))⟩ <|
  .op ⟨(some 26), (.ibin .gtr (.t 25) (.c (.int .i64 65536))), (some (18, false))⟩ <|
  .op ⟨(some 27), (.pick (.t 18) (.c (.bool true)) (.t 26)), none⟩ <|
  .cond (.t 27)
    (.op ⟨(some 2), (.mv (.c (.str ⟨#[]⟩))), none⟩ <|
      .ret [(.t 2)])
    (.op ⟨(some 4), (.alloc 125 [.nilp, (.sl .nil 0 [])]), none⟩ <|
      .op ⟨(some 28), (.foff 0 (.t 1)), none⟩ <|
      .op ⟨(some 29), (.load false 1 (.t 28)), none⟩ <|
      .op ⟨(some 30), (.lenl (.t 29)), none⟩ <|
      .op ⟨(some 31), (.mv (.c (.int .i64 0))), none⟩ <|
      .jump 250 [1, 4, 29, 30, 31])
def T16_250 : TC :=
  .op ⟨(some 32), (.ibin .lss (.t 31) (.t 30)), none⟩ <|
  .cond (.t 32)
    (.op ⟨(some 33), (.idx 3 (.t 29) (.t 31)), none⟩ <|
      .op ⟨(some 34), (.load true 3 (.t 33)), none⟩ <|
      .op ⟨(some 6), (.alloc 101 [(.str ⟨#[]⟩), (.int .i64 0), (.int .i64 0)]), none⟩ <|
      .op ⟨none, (.store 3 (.t 6) (.t 34)), none⟩ <|
      .op ⟨(some 35), (.foff 1 (.t 6)), none⟩ <|
      .op ⟨(some 36), (.load false 1 (.t 35)), none⟩ <|
      .op ⟨(some 38), (.foff 2 (.t 6)), none⟩ <|
      .op ⟨(some 39), (.load false 1 (.t 38)), none⟩ <|
      .op ⟨(some 41), (.foff 0 (.t 6)), none⟩ <|
      .op ⟨(some 42), (.load false 1 (.t 41)), none⟩ <|
      .op ⟨(some 37), (.call (.c (.fn (.func 63) [] [])) [(.t 36)]), none⟩ <|
      .again ⟨(some 42), (.load false 1 (.t 41)), none⟩ <|
      .again ⟨(some 39), (.load false 1 (.t 38)), none⟩ <|
      .op ⟨(some 40), (.call (.c (.fn (.func 63) [] [])) [(.t 39)]), none⟩ <|
      .again ⟨(some 42), (.load false 1 (.t 41)), none⟩ <|
      .op ⟨(some 43), (.bsl 1 (.str ⟨#[]⟩) 4 [(0, (.c (.str ⟨#[103, 108, 111, 98, 97, 108]⟩))), (1, (.t 37)), (2, (.t 40)), (3, (.t 42))]), none⟩ <|
      .op ⟨(some 44), (.call (.c (.fn (.func 62) [] [])) [(.t 43), (.c (.str ⟨#[32]⟩))]), none⟩ <|
      .op ⟨(some 45), (.call (.c (.fn (.func 61) [] [])) [(.t 4), (.t 44)]), none⟩ <|
      .op ⟨(some 46), (.call (.c (.fn (.func 64) [] [])) [(.t 4), (.c (.int .u8 10))]), none⟩ <|
      .op ⟨(some 47), (.ibin .add (.t 31) (.c (.int .i64 1))), none⟩ <|
      .op ⟨(some 31), (.mv (.t 47)), none⟩ <|
      .jump 250 [1, 4, 29, 30, 31])
    (.op ⟨(some 48), (.foff 1 (.t 1)), none⟩ <|
      .op ⟨(some 49), (.load false 1 (.t 48)), none⟩ <|
      .op ⟨(some 50), (.lenl (.t 49)), none⟩ <|
      .op ⟨(some 51), (.mv (.c (.int .i64 0))), none⟩ <|
      .jump 506 [4, 49, 50, 51])
def T16_506 : TC :=
  .op ⟨(some 52), (.ibin .lss (.t 51) (.t 50)), none⟩ <|
  .cond (.t 52)
    (.op ⟨(some 53), (.idx 4 (.t 49) (.t 51)), none⟩ <|
      .op ⟨(some 54), (.load true 4 (.t 53)), none⟩ <|
      .op ⟨(some 8), (.alloc 46 [(.int .i64 0), (.int .i64 0), (.int .i64 0), (.sl .nil 0 [])]), none⟩ <|
      .op ⟨none, (.store 4 (.t 8) (.t 54)), none⟩ <|
      .op ⟨(some 55), (.load true 4 (.t 8)), none⟩ <|
      .op ⟨(some 56), (.call (.c (.fn (.func 65) [] [])) [(.t 55)]), none⟩ <|
      .op ⟨(some 57), (.call (.c (.fn (.func 61) [] [])) [(.t 4), (.t 56)]), none⟩ <|
      .op ⟨(some 58), (.call (.c (.fn (.func 64) [] [])) [(.t 4), (.c (.int .u8 10))]), none⟩ <|
      .op ⟨(some 59), (.ibin .add (.t 51) (.c (.int .i64 1))), none⟩ <|
      .op ⟨(some 51), (.mv (.t 59)), none⟩ <|
      .jump 506 [4, 49, 50, 51])
    (.op ⟨(some 60), (.call (.c (.fn (.func 66) [] [])) [(.t 4)]), none⟩ <|
      .op ⟨(some 2), (.mv (.t 60)), none⟩ <|
      .ret [(.t 2)])
def fc16 : FC := ⟨⟨false, false⟩, T16, lookL [(250, [1, 4, 29, 30, 31], T16_250), (506, [4, 49, 50, 51], T16_506)]⟩
/-- hammock/instr.Same -/
def T18 : TC :=
  .op ⟨(some 2), (.box 26 (.t 0)), none⟩ <|
  .op ⟨(some 3), (.box 26 (.t 1)), none⟩ <|
  .op ⟨(some 4), (.mv (.c (.bool false))), none⟩ <|
  .op ⟨(some 5), (.foff 0 (.t 2)), none⟩ <|
  .op ⟨(some 6), (.load false 1 (.t 5)), none⟩ <|
  .op ⟨(some 7), (.foff 0 (.t 3)), none⟩ <|
  .op ⟨(some 8), (.load false 1 (.t 7)), none⟩ <|
  .op ⟨(some 9), (.call (.c (.fn (.func 67) [] [])) [(.t 6), (.t 8)]), none⟩ <|
  .op ⟨(some 10), (.mv (.t 9)), none⟩ <|
  .op ⟨(some 11), (.foff 1 (.t 2)), (some (10, true))⟩ <|
  .op ⟨(some 12), (.load false 1 (.t 11)), (some (10, true))⟩ <|
  .op ⟨(some 13), (.foff 1 (.t 3)), (some (10, true))⟩ <|
  .op ⟨(some 14), (.load false 1 (.t 13)), (some (10, true))⟩ <|
  .op ⟨(some 15), (.call (.c (.fn (.func 68) [] [])) [(.t 12), (.t 14), (.c (.fn (.func 69) [] []))]), (some (10, true))⟩ <|
  .op ⟨(some 16), (.pick (.t 10) (.t 15) (.c (.bool false))), none⟩ <|
  .op ⟨(some 4), (.mv (.t 16)), none⟩ <|
  .ret [(.t 4)]
def fc18 : FC := ⟨⟨false, false⟩, T18, lookL []⟩
/-- hammock/hammocklaw20.OwnInstr -/
def T19 : TC :=
  .op ⟨(some 1), (.box 45 (.t 0)), none⟩ <|
  .op ⟨(some 2), (.alloc 46 [(.int .i64 0), (.int .i64 0), (.int .i64 0), (.sl .nil 0 [])]), none⟩ <|
  .op ⟨(some 3), (.foff 0 (.t 1)), none⟩ <|
  .op ⟨(some 4), (.load false 1 (.t 3)), none⟩ <|
  .op ⟨(some 5), (.foff 1 (.t 1)), none⟩ <|
  .op ⟨(some 6), (.load false 1 (.t 5)), none⟩ <|
  .op ⟨(some 7), (.foff 2 (.t 1)), none⟩ <|
  .op ⟨(some 8), (.load false 1 (.t 7)), none⟩ <|
  .op ⟨(some 9), (.bsl 2 (.agg [(.int .i64 0), (.int .i64 0)]) 0 []), none⟩ <|
  .op ⟨(some 10), (.foff 3 (.t 1)), none⟩ <|
  .op ⟨(some 11), (.load false 1 (.t 10)), none⟩ <|
  .op ⟨(some 12), (.app 138 2 16 (.t 9) (.t 11)), none⟩ <|
  .again ⟨(some 8), (.load false 1 (.t 7)), none⟩ <|
  .again ⟨(some 6), (.load false 1 (.t 5)), none⟩ <|
  .again ⟨(some 4), (.load false 1 (.t 3)), none⟩ <|
  .op ⟨(some 13), (.build [(.int .i64 0), (.int .i64 0), (.int .i64 0), (.sl .nil 0 [])] [(0, 1, (.t 4)), (1, 1, (.t 6)), (2, 1, (.t 8)), (3, 1, (.t 12))]), none⟩ <|
  .op ⟨none, (.store 4 (.t 2) (.t 13)), none⟩ <|
  .ret [(.c true 4 2)]
def fc19 : FC := ⟨⟨false, false⟩, T19, lookL []⟩
/-- hammock/instr.Reads -/
def T20 : TC :=
  .op ⟨(some 1), (.box 46 (.t 0)), none⟩ <|
  .op ⟨(some 2), (.mv (.c (.int .i64 0))), none⟩ <|
  .op ⟨(some 5), (.load true 4 (.t 1)), none⟩ <|
  .op ⟨(some 6), (.call (.c (.fn (.func 22) [] [])) [(.t 5)]), none⟩ <|
  .op ⟨(some 7), (.not (.t 6)), none⟩ <|
  .cond (.t 7)
    (.op ⟨(some 2), (.mv (.c (.int .i64 0))), none⟩ <|
      .ret [(.t 2)])
    (.op ⟨(some 9), (.load true 4 (.t 1)), none⟩ <|
      .op ⟨(some 10), (.call (.c (.fn (.func 71) [] [])) [(.t 9)]), none⟩ <|
      .op ⟨(some 8), (.mv (.t 10)), none⟩ <|
      .op ⟨(some 11), (.extr 0 (.t 8)), none⟩ <|
      .op ⟨(some 12), (.extr 1 (.t 8)), none⟩ <|
      .op ⟨(some 3), (.alloc 141 [(.str ⟨#[]⟩), (.int .i64 0), (.int .i64 0), (.int .i64 0), (.int .i64 0), (.int .i64 0), (.int .i64 0), (.int .i64 0)]), none⟩ <|
      .op ⟨none, (.store 8 (.t 3) (.t 11)), none⟩ <|
      .op ⟨(some 4), (.mv (.t 12)), none⟩ <|
      .op ⟨(some 13), (.foff 4 (.t 3)), none⟩ <|
      .op ⟨(some 14), (.load false 1 (.t 13)), none⟩ <|
      .op ⟨(some 15), (.foff 5 (.t 3)), none⟩ <|
      .op ⟨(some 16), (.load false 1 (.t 15)), none⟩ <|
      .op ⟨(some 17), (.foff 1 (.t 1)), none⟩ <|
      .op ⟨(some 18), (.load false 1 (.t 17)), none⟩ <|
      .op ⟨(some 19), (.ibin .mul (.t 16) (.t 18)), none⟩ <|
      .op ⟨(some 20), (.ibin .add (.t 14) (.t 19)), none⟩ <|
      .op ⟨(some 21), (.foff 2 (.t 1)), none⟩ <|
      .op ⟨(some 22), (.load false 1 (.t 21)), none⟩ <|
      .op ⟨(some 23), (.ibin .add (.t 20) (.t 22)), none⟩ <|
      .op ⟨(some 2), (.mv (.t 23)), none⟩ <|
      .ret [(.t 2)])
def fc20 : FC := ⟨⟨false, false⟩, T20, lookL []⟩
/-- hammock/instr.Leaves -/
def T21 : TC :=
  .op ⟨(some 1), (.box 46 (.t 0)), none⟩ <|
  .op ⟨(some 2), (.mv (.c (.int .i64 0))), none⟩ <|
  .op ⟨(some 5), (.load true 4 (.t 1)), none⟩ <|
  .op ⟨(some 6), (.call (.c (.fn (.func 22) [] [])) [(.t 5)]), none⟩ <|
  .op ⟨(some 7), (.not (.t 6)), none⟩ <|
  .cond (.t 7)
    (.op ⟨(some 2), (.mv (.c (.int .i64 0))), none⟩ <|
      .ret [(.t 2)])
    (.op ⟨(some 9), (.load true 4 (.t 1)), none⟩ <|
      .op ⟨(some 10), (.call (.c (.fn (.func 71) [] [])) [(.t 9)]), none⟩ <|
      .op ⟨(some 8), (.mv (.t 10)), none⟩ <|
      .op ⟨(some 11), (.extr 0 (.t 8)), none⟩ <|
      .op ⟨(some 12), (.extr 1 (.t 8)), none⟩ <|
      .op ⟨(some 3), (.alloc 141 [(.str ⟨#[]⟩), (.int .i64 0), (.int .i64 0), (.int .i64 0), (.int .i64 0), (.int .i64 0), (.int .i64 0), (.int .i64 0)]), none⟩ <|
      .op ⟨none, (.store 8 (.t 3) (.t 11)), none⟩ <|
      .op ⟨(some 4), (.mv (.t 12)), none⟩ <|
      .op ⟨(some 13), (.foff 6 (.t 3)), none⟩ <|
      .op ⟨(some 14), (.load false 1 (.t 13)), none⟩ <|
      .op ⟨(some 15), (.foff 7 (.t 3)), none⟩ <|
      .op ⟨(some 16), (.load false 1 (.t 15)), none⟩ <|
      .op ⟨(some 17), (.foff 1 (.t 1)), none⟩ <|
      .op ⟨(some 18), (.load false 1 (.t 17)), none⟩ <|
      .op ⟨(some 19), (.ibin .mul (.t 16) (.t 18)), none⟩ <|
      .op ⟨(some 20), (.ibin .add (.t 14) (.t 19)), none⟩ <|
      .op ⟨(some 21), (.foff 2 (.t 1)), none⟩ <|
      .op ⟨(some 22), (.load false 1 (.t 21)), none⟩ <|
      .op ⟨(some 23), (.ibin .sub (.t 20) (.t 22)), none⟩ <|
      .op ⟨(some 2), (.mv (.t 23)), none⟩ <|
      .ret [(.t 2)])
def fc21 : FC := ⟨⟨false, false⟩, T21, lookL []⟩
/-- hammock/instr.Right -/
def T22 : TC :=
  .op ⟨(some 1), (.box 46 (.t 0)), none⟩ <|
  .op ⟨(some 2), (.mv (.c (.bool false))), none⟩ <|
  .op ⟨(some 6), (.load true 4 (.t 1)), none⟩ <|
  .op ⟨(some 7), (.call (.c (.fn (.func 71) [] [])) [(.t 6)]), none⟩ <|
  .op ⟨(some 5), (.mv (.t 7)), none⟩ <|
  .op ⟨(some 8), (.extr 0 (.t 5)), none⟩ <|
  .op ⟨(some 9), (.extr 1 (.t 5)), none⟩ <|
  .op ⟨(some 3), (.alloc 141 [(.str ⟨#[]⟩), (.int .i64 0), (.int .i64 0), (.int .i64 0), (.int .i64 0), (.int .i64 0), (.int .i64 0), (.int .i64 0)]), none⟩ <|
  .op ⟨none, (.store 8 (.t 3) (.t 8)), none⟩ <|
  .op ⟨(some 4), (.mv (.t 9)), none⟩ <|
  .op ⟨(some 11), (.mv (.t 4)), none⟩ <|
  .op ⟨(some 12), (.not (.t 11)), none⟩ <|
  .op ⟨(some 13), (.mv (.t 12)), none⟩ <|
  .op ⟨(some 14), (.foff 1 (.t 3)), (some (13, false))⟩ <|
  .op ⟨(some 15), (.load false 1 (.t 14)), (some (13, false))⟩ <|
  .op ⟨(some 16), (.ibin .lss (.t 15) (.c (.int .i64 2))), (some (13, false))⟩ <|
  .op ⟨(some 17), (.mv (.t 16)), (some (13, false))⟩ <|
  .op ⟨(some 18), (.foff 2 (.t 1)), (some (17, true))⟩ <|
  .op ⟨(some 19), (.load false 1 (.t 18)), (some (17, true))⟩ <|
  .op ⟨(some 20), (.ibin .neq (.t 19) (.c (.int .i64 0))), (some (17, true))⟩ <|
  .op ⟨(some 21), (.pick (.t 17) (.t 20) (.c (.bool false))), (some (13, false))⟩ <|
  .op ⟨(some 22), (.pick (.t 13) (.c (.bool true)) (.t 21)), none⟩ <|
  .op ⟨(some 23), (.mv (.t 22)), none⟩ <|
  .op ⟨(some 24), (.foff 1 (.t 3)), (some (23, false))⟩ <|
  .op ⟨(some 25), (.load false 1 (.t 24)), (some (23, false))⟩ <|
  .op ⟨(some 26), (.ibin .lss (.t 25) (.c (.int .i64 1))), (some (23, false))⟩ <|
  .op ⟨(some 27), (.mv (.t 26)), (some (23, false))⟩ <|
  .op ⟨(some 28), (.foff 1 (.t 1)), (some (27, true))⟩ <|
  .op ⟨(some 29), (.load false 1 (.t 28)), (some (27, true))⟩ <|
  .op ⟨(some 30), (.ibin .neq (.t 29) (.c (.int .i64 0))), (some (27, true))⟩ <|
  .op ⟨(some 31), (.pick (.t 27) (.t 30) (.c (.bool false))), (some (23, false))⟩ <|
  .op ⟨(some 32), (.pick (.t 23) (.c (.bool true)) (.t 31)), none⟩ <|
  .op ⟨(some 33), (.mv (.t 32)), none⟩ <|
  .op ⟨(some 34), (.foff 1 (.t 3)), (some (33, false))⟩ <|
  .op ⟨(some 35), (.load false 1 (.t 34)), (some (33, false))⟩ <|
  .op ⟨(some 36), (.ibin .geq (.t 35) (.c (.int .i64 0))), (some (33, false))⟩ <|
  .op ⟨(some 37), (.mv (.t 36)), (some (33, false))⟩ <|
  .op ⟨(some 38), (.foff 3 (.t 1)), (some (37, true))⟩ <|
  .op ⟨(some 39), (.load false 1 (.t 38)), (some (37, true))⟩ <|
  .op ⟨(some 40), (.lenl (.t 39)), (some (37, true))⟩ <|
  .op ⟨(some 41), (.ibin .gtr (.t 40) (.c (.int .i64 0))), (some (37, true))⟩ <|
  .op ⟨(some 42), (.pick (.t 37) (.t 41) (.c (.bool false))), (some (33, false))⟩ <|
  .op ⟨(some 43), (.pick (.t 33) (.c (.bool true)) (.t 42)), none⟩ <|
  .op ⟨(some 10), (.mv (.t 43)), none⟩ <|
  .cond (.t 10)
    (.op ⟨(some 2), (.mv (.c (.bool false))), none⟩ <|
      .ret [(.t 2)])
    (.op ⟨(some 45), (.foff 1 (.t 3)), none⟩ <|
      .op ⟨(some 46), (.load false 1 (.t 45)), none⟩ <|
      .op ⟨(some 47), (.ibin .lss (.t 46) (.c (.int .i64 0))), none⟩ <|
      .op ⟨(some 44), (.mv (.t 47)), none⟩ <|
      .cond (.t 44)
        (.op ⟨(some 48), (.load true 4 (.t 1)), none⟩ <|
          .op ⟨(some 49), (.call (.c (.fn (.func 72) [] [])) [(.t 48)]), none⟩ <|
          .op ⟨(some 2), (.mv (.t 49)), none⟩ <|
          .ret [(.t 2)])
        (.op ⟨(some 51), (.foff 0 (.t 1)), none⟩ <|
          .op ⟨(some 52), (.load false 1 (.t 51)), none⟩ <|
          .op ⟨(some 53), (.ibin .eql (.t 52) (.c (.int .i64 0))), none⟩ <|
          .op ⟨(some 50), (.mv (.t 53)), none⟩ <|
          .cond (.t 50)
            (.op ⟨(some 2), (.mv (.c (.bool true))), none⟩ <|
              .ret [(.t 2)])
            (.op ⟨(some 54), (.foff 1 (.t 3)), none⟩ <|
              .op ⟨(some 55), (.load false 1 (.t 54)), none⟩ <|
              .op ⟨(some 56), (.ibin .eql (.t 55) (.c (.int .i64 0))), none⟩ <|
              .op ⟨(some 57), (.mv (.t 56)), none⟩ <|
              .op ⟨(some 58), (.foff 2 (.t 3)), (some (57, false))⟩ <|
              .op ⟨(some 59), (.load false 1 (.t 58)), (some (57, false))⟩ <|
              .op ⟨(some 60), (.foff 1 (.t 1)), (some (57, false))⟩ <|
              .op ⟨(some 61), (.load false 1 (.t 60)), (some (57, false))⟩ <|
              .op ⟨(some 62), (.foff 3 (.t 3)), (some (57, false))⟩ <|
              .op ⟨(some 63), (.load false 1 (.t 62)), (some (57, false))⟩ <|
              .op ⟨(some 64), (.call (.c (.fn (.func 73) [] [])) [(.t 59), (.t 61), (.t 63)]), (some (57, false))⟩ <|
              .op ⟨(some 65), (.mv (.t 64)), (some (57, false))⟩ <|
              .op ⟨(some 66), (.foff 2 (.t 1)), (some (65, true))⟩ <|
              .op ⟨(some 67), (.load false 1 (.t 66)), (some (65, true))⟩ <|
              .op ⟨(some 68), (.call (.c (.fn (.func 73) [] [])) [(.c (.int .i64 0)), (.t 67), (.c (.int .i64 255))]), (some (65, true))⟩ <|
              .op ⟨(some 69), (.pick (.t 65) (.t 68) (.c (.bool false))), (some (57, false))⟩ <|
              .op ⟨(some 70), (.pick (.t 57) (.c (.bool true)) (.t 69)), none⟩ <|
              .op ⟨(some 2), (.mv (.t 70)), none⟩ <|
              .ret [(.t 2)])))
def fc22 : FC := ⟨⟨false, false⟩, T22, lookL []⟩
/-- hammock/instr.Prim -/
def T48 : TC :=
  .op ⟨(some 2), (.mv (.c (.int .i64 0))), none⟩ <|
  .op ⟨(some 3), (.mv (.c (.bool false))), none⟩ <|
  .op ⟨(some 5), (.bsl 1 (.str ⟨#[]⟩) 11 [(0, (.c (.str ⟨#[43]⟩))), (1, (.c (.str ⟨#[45]⟩))), (2, (.c (.str ⟨#[42]⟩))), (3, (.c (.str ⟨#[47]⟩))), (4, (.c (.str ⟨#[37]⟩))), (5, (.c (.str ⟨#[61, 61]⟩))), (6, (.c (.str ⟨#[47, 61]⟩))), (7, (.c (.str ⟨#[60]⟩))), (8, (.c (.str ⟨#[60, 61]⟩))), (9, (.c (.str ⟨#[62]⟩))), (10, (.c (.str ⟨#[62, 61]⟩)))]), none⟩ <|
  .op ⟨(some 6), (.mv (.t 0)), none⟩ <|
  .op ⟨(some 7), (.call (.c (.fn (.func 105) [] [])) [(.t 5), (.t 6)]), none⟩ <|
  .op ⟨(some 4), (.mv (.t 7)), none⟩ <|
  .op ⟨(some 8), (.mv (.t 4)), none⟩ <|
  .op ⟨(some 9), (.mm true (.t 8) (.c (.int .i64 0))), none⟩ <|
  .op ⟨(some 10), (.mv (.t 4)), none⟩ <|
  .op ⟨(some 11), (.ibin .geq (.t 10) (.c (.int .i64 0))), none⟩ <|
  .op ⟨(some 2), (.mv (.t 9)), none⟩ <|
  .op ⟨(some 3), (.mv (.t 11)), none⟩ <|
  .ret [(.t 2), (.t 3)]
def fc48 : FC := ⟨⟨false, false⟩, T48, lookL []⟩
/-- strings.Lines -/
def T49 : TC :=
  .op ⟨(some 1), (.box 9 (.t 0)), none⟩ <|
  .op ⟨(some 2), (.mv (.c .nilf)), none⟩ <|
  .op ⟨(some 3), (.mkfn (.func 106) [] [(.t 1)]), none⟩ <|
  .op ⟨(some 2), (.mv (.t 3)), none⟩ <|
  .ret [(.t 2)]
def fc49 : FC := ⟨⟨false, false⟩, T49, lookL []⟩
/-- strings.Lines$1 -/
def T106 : TC :=
  .jump 2 [0, 1]
def T106_2 : TC :=
  .op ⟨(some 5), (.load false 1 (.t 1)), none⟩ <|
  .op ⟨(some 6), (.lens (.t 5)), none⟩ <|
  .op ⟨(some 7), (.ibin .gtr (.t 6) (.c (.int .i64 0))), none⟩ <|
  .cond (.t 7)
    (.op ⟨(some 3), (.mv (.c (.str ⟨#[]⟩))), none⟩ <|
      .op ⟨(some 8), (.load false 1 (.t 1)), none⟩ <|
      .op ⟨(some 9), (.call (.c (.fn (.func 107) [] [])) [(.t 8), (.c (.int .u8 10))]), none⟩ <|
      .op ⟨(some 4), (.mv (.t 9)), none⟩ <|
      .op ⟨(some 10), (.mv (.t 4)), none⟩ <|
      .op ⟨(some 11), (.ibin .geq (.t 10) (.c (.int .i64 0))), none⟩ <|
      .cond (.t 11)
        (.op ⟨(some 12), (.load false 1 (.t 1)), none⟩ <|
          .op ⟨(some 13), (.mv (.t 4)), none⟩ <|
          .op ⟨(some 14), (.ibin .add (.t 13) (.c (.int .i64 1))), none⟩ <|
          .op ⟨(some 15), (.sls (.t 12) none (some (.t 14))), none⟩ <|
          .op ⟨(some 16), (.load false 1 (.t 1)), none⟩ <|
          .op ⟨(some 17), (.mv (.t 4)), none⟩ <|
          .op ⟨(some 18), (.ibin .add (.t 17) (.c (.int .i64 1))), none⟩ <|
          .op ⟨(some 19), (.sls (.t 16) (some (.t 18)) none), none⟩ <|
          .op ⟨(some 3), (.mv (.t 15)), none⟩ <|
          .op ⟨none, (.store 1 (.t 1) (.t 19)), none⟩ <|
          .jump 37 [0, 1, 3])
        (.op ⟨(some 20), (.load false 1 (.t 1)), none⟩ <|
          .op ⟨(some 3), (.mv (.t 20)), none⟩ <|
          .op ⟨none, (.store 1 (.t 1) (.c (.str ⟨#[]⟩))), none⟩ <|
          .jump 37 [0, 1, 3]))
    (.ret [])
def T106_37 : TC :=
  .op ⟨(some 21), (.mv (.t 0)), none⟩ <|
  .op ⟨(some 22), (.mv (.t 3)), none⟩ <|
  .op ⟨(some 23), (.call (.t 21) [(.t 22)]), none⟩ <|
  .op ⟨(some 24), (.not (.t 23)), none⟩ <|
  .cond (.t 24)
    (.ret [])
    (.jump 2 [0, 1])
def fc106 : FC := ⟨⟨false, false⟩, T106, lookL [(2, [0, 1], T106_2), (37, [0, 1, 3], T106_37)]⟩
/-- hammock/instr.parseGlobal -/
def T51 : TC :=
  .op ⟨(some 2), (.alloc 101 [(.str ⟨#[]⟩), (.int .i64 0), (.int .i64 0)]), none⟩ <|
  .op ⟨(some 3), (.mv (.c (.bool false))), none⟩ <|
  .op ⟨(some 10), (.mv (.t 0)), none⟩ <|
  .op ⟨(some 11), (.call (.c (.fn (.func 109) [] [])) [(.t 10), (.c (.str ⟨#[32]⟩)), (.c (.int .i64 4))]), none⟩ <|
  .op ⟨(some 4), (.mv (.t 11)), none⟩ <|
  .op ⟨(some 12), (.mv (.t 4)), none⟩ <|
  .op ⟨(some 13), (.lenl (.t 12)), none⟩ <|
  .op ⟨(some 14), (.ibin .lss (.t 13) (.c (.int .i64 4))), none⟩ <|
  .op ⟨(some 15), (.mv (.t 14)), none⟩ <|
  .op ⟨(some 16), (.mv (.t 4)), (some (15, false))⟩ <|
  .op ⟨(some 17), (.idx 1 (.t 16) (.c (.int .i64 0))), (some (15, false))⟩ <|
  .op ⟨(some 18), (.load false 1 (.t 17)), (some (15, false))⟩ <|
  .op ⟨(some 19), (.sbin .neq (.t 18) (.c (.str ⟨#[103, 108, 111, 98, 97, 108]⟩))), (some (15, false))⟩ <|
  .op ⟨(some 20), (.pick (.t 15) (.c (.bool true)) (.t 19)), none⟩ <|
  .cond (.t 20)
    (.op ⟨(some 21), (.build [(.str ⟨#[]⟩), (.int .i64 0), (.int .i64 0)] []), none⟩ <|
      .op ⟨none, (.store 3 (.t 2) (.t 21)), none⟩ <|
      .op ⟨(some 3), (.mv (.c (.bool false))), none⟩ <|
      .ret [(.c true 3 2), (.t 3)])
    (.op ⟨(some 23), (.mv (.t 4)), none⟩ <|
      .op ⟨(some 24), (.idx 1 (.t 23) (.c (.int .i64 1))), none⟩ <|
      .op ⟨(some 25), (.load false 1 (.t 24)), none⟩ <|
      .op ⟨(some 26), (.call (.c (.fn (.func 110) [] [])) [(.t 25)]), none⟩ <|
      .op ⟨(some 22), (.mv (.t 26)), none⟩ <|
      .op ⟨(some 27), (.extr 0 (.t 22)), none⟩ <|
      .op ⟨(some 28), (.extr 1 (.t 22)), none⟩ <|
      .op ⟨(some 5), (.mv (.t 27)), none⟩ <|
      .op ⟨(some 6), (.mv (.t 28)), none⟩ <|
      .op ⟨(some 30), (.mv (.t 4)), none⟩ <|
      .op ⟨(some 31), (.idx 1 (.t 30) (.c (.int .i64 2))), none⟩ <|
      .op ⟨(some 32), (.load false 1 (.t 31)), none⟩ <|
      .op ⟨(some 33), (.call (.c (.fn (.func 110) [] [])) [(.t 32)]), none⟩ <|
      .op ⟨(some 29), (.mv (.t 33)), none⟩ <|
      .op ⟨(some 34), (.extr 0 (.t 29)), none⟩ <|
      .op ⟨(some 35), (.extr 1 (.t 29)), none⟩ <|
      .op ⟨(some 7), (.mv (.t 34)), none⟩ <|
      .op ⟨(some 8), (.mv (.t 35)), none⟩ <|
      .op ⟨(some 36), (.mv (.t 4)), none⟩ <|
      .op ⟨(some 37), (.idx 1 (.t 36) (.c (.int .i64 3))), none⟩ <|
      .op ⟨(some 38), (.load false 1 (.t 37)), none⟩ <|
      .op ⟨(some 39), (.mv (.t 5)), none⟩ <|
      .op ⟨(some 40), (.mv (.t 7)), none⟩ <|
      .op ⟨(some 41), (.build [(.str ⟨#[]⟩), (.int .i64 0), (.int .i64 0)] [(0, 1, (.t 38)), (1, 1, (.t 39)), (2, 1, (.t 40))]), none⟩ <|
      .op ⟨(some 9), (.alloc 101 [(.str ⟨#[]⟩), (.int .i64 0), (.int .i64 0)]), none⟩ <|
      .op ⟨none, (.store 3 (.t 9) (.t 41)), none⟩ <|
      .op ⟨(some 42), (.load true 3 (.t 9)), none⟩ <|
      .op ⟨(some 43), (.mv (.t 6)), none⟩ <|
      .op ⟨(some 44), (.mv (.t 43)), none⟩ <|
      .op ⟨(some 45), (.mv (.t 8)), (some (44, true))⟩ <|
      .op ⟨(some 46), (.pick (.t 44) (.t 45) (.c (.bool false))), none⟩ <|
      .op ⟨(some 47), (.mv (.t 46)), none⟩ <|
      .op ⟨(some 48), (.load true 3 (.t 9)), (some (47, true))⟩ <|
      .op ⟨(some 49), (.call (.c (.fn (.func 58) [] [])) [(.t 48)]), (some (47, true))⟩ <|
      .again ⟨(some 42), (.load true 3 (.t 9)), none⟩ <|
      .op ⟨(some 50), (.pick (.t 47) (.t 49) (.c (.bool false))), none⟩ <|
      .op ⟨none, (.store 3 (.t 2) (.t 42)), none⟩ <|
      .op ⟨(some 3), (.mv (.t 50)), none⟩ <|
      .ret [(.c true 3 2), (.t 3)])
def fc51 : FC := ⟨⟨false, false⟩, T51, lookL []⟩
/-- hammock/instr.parse -/
def T52 : TC :=
  .op ⟨(some 2), (.alloc 46 [(.int .i64 0), (.int .i64 0), (.int .i64 0), (.sl .nil 0 [])]), none⟩ <|
  .op ⟨(some 3), (.mv (.c (.bool false))), none⟩ <|
  .op ⟨(some 15), (.bsl 1 (.str ⟨#[]⟩) 0 []), none⟩ <|
  .op ⟨(some 4), (.alloc 53 [(.sl .nil 0 [])]), none⟩ <|
  .op ⟨none, (.store 1 (.t 4) (.t 15)), none⟩ <|
  .op ⟨(some 16), (.mv (.t 0)), none⟩ <|
  .op ⟨(some 17), (.call (.c (.fn (.func 111) [] [])) [(.t 16), (.c (.str ⟨#[32]⟩))]), none⟩ <|
  .rng 52 (.t 17) 58 1 [4] 0 0
    (.op ⟨(some 23), (.call (.c (.fn (.func 112) [] [])) []), none⟩ <|
      .op ⟨(some 6), (.alloc 199 [(.str ⟨#[]⟩), (.int .i64 0), (.int .i64 0), (.int .i64 0), (.int .i64 0), (.int .i64 0), (.int .i64 0), (.int .i64 0), (.str ⟨#[]⟩), (.int .i64 0), (.int .i64 0), (.int .i64 0), (.int .i64 0), (.int .i64 0), (.int .i64 0), (.int .i64 0), (.str ⟨#[]⟩), (.int .i64 0), (.int .i64 0), (.int .i64 0), (.int .i64 0), (.int .i64 0), (.int .i64 0), (.int .i64 0), (.str ⟨#[]⟩), (.int .i64 0), (.int .i64 0), (.int .i64 0), (.int .i64 0), (.int .i64 0), (.int .i64 0), (.int .i64 0), (.str ⟨#[]⟩), (.int .i64 0), (.int .i64 0), (.int .i64 0), (.int .i64 0), (.int .i64 0), (.int .i64 0), (.int .i64 0), (.str ⟨#[]⟩), (.int .i64 0), (.int .i64 0), (.int .i64 0), (.int .i64 0), (.int .i64 0), (.int .i64 0), (.int .i64 0), (.str ⟨#[]⟩), (.int .i64 0), (.int .i64 0), (.int .i64 0), (.int .i64 0), (.int .i64 0), (.int .i64 0), (.int .i64 0), (.str ⟨#[]⟩), (.int .i64 0), (.int .i64 0), (.int .i64 0), (.int .i64 0), (.int .i64 0), (.int .i64 0), (.int .i64 0), (.str ⟨#[]⟩), (.int .i64 0), (.int .i64 0), (.int .i64 0), (.int .i64 0), (.int .i64 0), (.int .i64 0), (.int .i64 0), (.str ⟨#[]⟩), (.int .i64 0), (.int .i64 0), (.int .i64 0), (.int .i64 0), (.int .i64 0), (.int .i64 0), (.int .i64 0), (.str ⟨#[]⟩), (.int .i64 0), (.int .i64 0), (.int .i64 0), (.int .i64 0), (.int .i64 0), (.int .i64 0), (.int .i64 0), (.str ⟨#[]⟩), (.int .i64 0), (.int .i64 0), (.int .i64 0), (.int .i64 0), (.int .i64 0), (.int .i64 0), (.int .i64 0), (.str ⟨#[]⟩), (.int .i64 0), (.int .i64 0), (.int .i64 0), (.int .i64 0), (.int .i64 0), (.int .i64 0), (.int .i64 0), (.str ⟨#[]⟩), (.int .i64 0), (.int .i64 0), (.int .i64 0), (.int .i64 0), (.int .i64 0), (.int .i64 0), (.int .i64 0), (.str ⟨#[]⟩), (.int .i64 0), (.int .i64 0), (.int .i64 0), (.int .i64 0), (.int .i64 0), (.int .i64 0), (.int .i64 0), (.str ⟨#[]⟩), (.int .i64 0), (.int .i64 0), (.int .i64 0), (.int .i64 0), (.int .i64 0), (.int .i64 0), (.int .i64 0), (.str ⟨#[]⟩), (.int .i64 0), (.int .i64 0), (.int .i64 0), (.int .i64 0), (.int .i64 0), (.int .i64 0), (.int .i64 0)]), none⟩ <|
      .op ⟨none, (.store 136 (.t 6) (.t 23)), none⟩ <|
      .op ⟨(some 24), (.sla 17 8 (.t 6) none none), none⟩ <|
      .op ⟨(some 25), (.mkfn (.func 114) [] [(.t 4)]), none⟩ <|
      .op ⟨(some 26), (.call (.c (.fn (.func 113) [] [])) [(.t 24), (.t 25)]), none⟩ <|
      .op ⟨(some 27), (.build [(.int .i64 0), (.int .i64 0), (.int .i64 0), (.sl .nil 0 [])] [(0, 1, (.t 26))]), none⟩ <|
      .op ⟨(some 7), (.alloc 46 [(.int .i64 0), (.int .i64 0), (.int .i64 0), (.sl .nil 0 [])]), none⟩ <|
      .op ⟨none, (.store 4 (.t 7) (.t 27)), none⟩ <|
      .op ⟨(some 28), (.foff 0 (.t 7)), none⟩ <|
      .op ⟨(some 29), (.load false 1 (.t 28)), none⟩ <|
      .op ⟨(some 30), (.ibin .lss (.t 29) (.c (.int .i64 0))), none⟩ <|
      .cond (.t 30)
        (.op ⟨(some 31), (.build [(.int .i64 0), (.int .i64 0), (.int .i64 0), (.sl .nil 0 [])] []), none⟩ <|
          .op ⟨none, (.store 4 (.t 2) (.t 31)), none⟩ <|
          .op ⟨(some 3), (.mv (.c (.bool false))), none⟩ <|
          .ret [(.c true 4 2), (.t 3)])
        (.op ⟨(some 32), (.foff 0 (.t 7)), none⟩ <|
          .op ⟨(some 33), (.load false 1 (.t 32)), none⟩ <|
          .op ⟨(some 34), (.idxa 17 8 (.t 6) (.t 33)), none⟩ <|
          .op ⟨(some 35), (.foff 1 (.t 34)), none⟩ <|
          .op ⟨(some 36), (.load false 1 (.t 35)), none⟩ <|
          .op ⟨(some 8), (.mv (.t 36)), none⟩ <|
          .op ⟨(some 37), (.mv (.t 8)), none⟩ <|
          .op ⟨(some 38), (.ibin .geq (.t 37) (.c (.int .i64 0))), none⟩ <|
          .op ⟨(some 39), (.mv (.t 38)), none⟩ <|
          .op ⟨(some 40), (.load false 1 (.t 4)), (some (39, true))⟩ <|
          .op ⟨(some 41), (.lenl (.t 40)), (some (39, true))⟩ <|
          .op ⟨(some 42), (.mv (.t 8)), (some (39, true))⟩ <|
          .op ⟨(some 43), (.ibin .add (.c (.int .i64 1)) (.t 42)), (some (39, true))⟩ <|
          .op ⟨(some 44), (.ibin .neq (.t 41) (.t 43)), (some (39, true))⟩ <|
          .op ⟨(some 45), (.pick (.t 39) (.t 44) (.c (.bool false))), none⟩ <|
          .cond (.t 45)
            (.op ⟨(some 46), (.build [(.int .i64 0), (.int .i64 0), (.int .i64 0), (.sl .nil 0 [])] []), none⟩ <|
              .op ⟨none, (.store 4 (.t 2) (.t 46)), none⟩ <|
              .op ⟨(some 3), (.mv (.c (.bool false))), none⟩ <|
              .ret [(.c true 4 2), (.t 3)])
            (.op ⟨(some 47), (.load false 1 (.t 4)), none⟩ <|
              .op ⟨(some 48), (.sll 1 (.t 47) (some (.c (.int .i64 1))) none none), none⟩ <|
              .op ⟨(some 49), (.lenl (.t 48)), none⟩ <|
              .op ⟨(some 50), (.mv (.c (.int .i64 0))), none⟩ <|
              .jump 4090 [2, 7, 8, 48, 49, 50])))
    (.ret [(.c true 4 2), (.t 3)])
    (.op ⟨(some 23), (.call (.c (.fn (.func 112) [] [])) []), none⟩ <|
      .op ⟨(some 6), (.alloc 199 [(.str ⟨#[]⟩), (.int .i64 0), (.int .i64 0), (.int .i64 0), (.int .i64 0), (.int .i64 0), (.int .i64 0), (.int .i64 0), (.str ⟨#[]⟩), (.int .i64 0), (.int .i64 0), (.int .i64 0), (.int .i64 0), (.int .i64 0), (.int .i64 0), (.int .i64 0), (.str ⟨#[]⟩), (.int .i64 0), (.int .i64 0), (.int .i64 0), (.int .i64 0), (.int .i64 0), (.int .i64 0), (.int .i64 0), (.str ⟨#[]⟩), (.int .i64 0), (.int .i64 0), (.int .i64 0), (.int .i64 0), (.int .i64 0), (.int .i64 0), (.int .i64 0), (.str ⟨#[]⟩), (.int .i64 0), (.int .i64 0), (.int .i64 0), (.int .i64 0), (.int .i64 0), (.int .i64 0), (.int .i64 0), (.str ⟨#[]⟩), (.int .i64 0), (.int .i64 0), (.int .i64 0), (.int .i64 0), (.int .i64 0), (.int .i64 0), (.int .i64 0), (.str ⟨#[]⟩), (.int .i64 0), (.int .i64 0), (.int .i64 0), (.int .i64 0), (.int .i64 0), (.int .i64 0), (.int .i64 0), (.str ⟨#[]⟩), (.int .i64 0), (.int .i64 0), (.int .i64 0), (.int .i64 0), (.int .i64 0), (.int .i64 0), (.int .i64 0), (.str ⟨#[]⟩), (.int .i64 0), (.int .i64 0), (.int .i64 0), (.int .i64 0), (.int .i64 0), (.int .i64 0), (.int .i64 0), (.str ⟨#[]⟩), (.int .i64 0), (.int .i64 0), (.int .i64 0), (.int .i64 0), (.int .i64 0), (.int .i64 0), (.int .i64 0), (.str ⟨#[]⟩), (.int .i64 0), (.int .i64 0), (.int .i64 0), (.int .i64 0), (.int .i64 0), (.int .i64 0), (.int .i64 0), (.str ⟨#[]⟩), (.int .i64 0), (.int .i64 0), (.int .i64 0), (.int .i64 0), (.int .i64 0), (.int .i64 0), (.int .i64 0), (.str ⟨#[]⟩), (.int .i64 0), (.int .i64 0), (.int .i64 0), (.int .i64 0), (.int .i64 0), (.int .i64 0), (.int .i64 0), (.str ⟨#[]⟩), (.int .i64 0), (.int .i64 0), (.int .i64 0), (.int .i64 0), (.int .i64 0), (.int .i64 0), (.int .i64 0), (.str ⟨#[]⟩), (.int .i64 0), (.int .i64 0), (.int .i64 0), (.int .i64 0), (.int .i64 0), (.int .i64 0), (.int .i64 0), (.str ⟨#[]⟩), (.int .i64 0), (.int .i64 0), (.int .i64 0), (.int .i64 0), (.int .i64 0), (.int .i64 0), (.int .i64 0), (.str ⟨#[]⟩), (.int .i64 0), (.int .i64 0), (.int .i64 0), (.int .i64 0), (.int .i64 0), (.int .i64 0), (.int .i64 0)]), none⟩ <|
      .op ⟨none, (.store 136 (.t 6) (.t 23)), none⟩ <|
      .op ⟨(some 24), (.sla 17 8 (.t 6) none none), none⟩ <|
      .op ⟨(some 25), (.mkfn (.func 114) [] [(.t 4)]), none⟩ <|
      .op ⟨(some 26), (.call (.c (.fn (.func 113) [] [])) [(.t 24), (.t 25)]), none⟩ <|
      .op ⟨(some 27), (.build [(.int .i64 0), (.int .i64 0), (.int .i64 0), (.sl .nil 0 [])] [(0, 1, (.t 26))]), none⟩ <|
      .op ⟨(some 7), (.alloc 46 [(.int .i64 0), (.int .i64 0), (.int .i64 0), (.sl .nil 0 [])]), none⟩ <|
      .op ⟨none, (.store 4 (.t 7) (.t 27)), none⟩ <|
      .op ⟨(some 28), (.foff 0 (.t 7)), none⟩ <|
      .op ⟨(some 29), (.load false 1 (.t 28)), none⟩ <|
      .op ⟨(some 30), (.ibin .lss (.t 29) (.c (.int .i64 0))), none⟩ <|
      .cond (.t 30)
        (.op ⟨(some 31), (.build [(.int .i64 0), (.int .i64 0), (.int .i64 0), (.sl .nil 0 [])] []), none⟩ <|
          .op ⟨none, (.store 4 (.t 2) (.t 31)), none⟩ <|
          .op ⟨(some 3), (.mv (.c (.bool false))), none⟩ <|
          .ret [(.c true 4 2), (.t 3)])
        (.op ⟨(some 32), (.foff 0 (.t 7)), none⟩ <|
          .op ⟨(some 33), (.load false 1 (.t 32)), none⟩ <|
          .op ⟨(some 34), (.idxa 17 8 (.t 6) (.t 33)), none⟩ <|
          .op ⟨(some 35), (.foff 1 (.t 34)), none⟩ <|
          .op ⟨(some 36), (.load false 1 (.t 35)), none⟩ <|
          .op ⟨(some 8), (.mv (.t 36)), none⟩ <|
          .op ⟨(some 37), (.mv (.t 8)), none⟩ <|
          .op ⟨(some 38), (.ibin .geq (.t 37) (.c (.int .i64 0))), none⟩ <|
          .op ⟨(some 39), (.mv (.t 38)), none⟩ <|
          .op ⟨(some 40), (.load false 1 (.t 4)), (some (39, true))⟩ <|
          .op ⟨(some 41), (.lenl (.t 40)), (some (39, true))⟩ <|
          .op ⟨(some 42), (.mv (.t 8)), (some (39, true))⟩ <|
          .op ⟨(some 43), (.ibin .add (.c (.int .i64 1)) (.t 42)), (some (39, true))⟩ <|
          .op ⟨(some 44), (.ibin .neq (.t 41) (.t 43)), (some (39, true))⟩ <|
          .op ⟨(some 45), (.pick (.t 39) (.t 44) (.c (.bool false))), none⟩ <|
          .cond (.t 45)
            (.op ⟨(some 46), (.build [(.int .i64 0), (.int .i64 0), (.int .i64 0), (.sl .nil 0 [])] []), none⟩ <|
              .op ⟨none, (.store 4 (.t 2) (.t 46)), none⟩ <|
              .op ⟨(some 3), (.mv (.c (.bool false))), none⟩ <|
              .ret [(.c true 4 2), (.t 3)])
            (.op ⟨(some 47), (.load false 1 (.t 4)), none⟩ <|
              .op ⟨(some 48), (.sll 1 (.t 47) (some (.c (.int .i64 1))) none none), none⟩ <|
              .op ⟨(some 49), (.lenl (.t 48)), none⟩ <|
              .op ⟨(some 50), (.mv (.c (.int .i64 0))), none⟩ <|
              .jump 4090 [2, 7, 8, 48, 49, 50])))
    (.op ⟨(some 23), (.call (.c (.fn (.func 112) [] [])) []), none⟩ <|
      .op ⟨(some 6), (.alloc 199 [(.str ⟨#[]⟩), (.int .i64 0), (.int .i64 0), (.int .i64 0), (.int .i64 0), (.int .i64 0), (.int .i64 0), (.int .i64 0), (.str ⟨#[]⟩), (.int .i64 0), (.int .i64 0), (.int .i64 0), (.int .i64 0), (.int .i64 0), (.int .i64 0), (.int .i64 0), (.str ⟨#[]⟩), (.int .i64 0), (.int .i64 0), (.int .i64 0), (.int .i64 0), (.int .i64 0), (.int .i64 0), (.int .i64 0), (.str ⟨#[]⟩), (.int .i64 0), (.int .i64 0), (.int .i64 0), (.int .i64 0), (.int .i64 0), (.int .i64 0), (.int .i64 0), (.str ⟨#[]⟩), (.int .i64 0), (.int .i64 0), (.int .i64 0), (.int .i64 0), (.int .i64 0), (.int .i64 0), (.int .i64 0), (.str ⟨#[]⟩), (.int .i64 0), (.int .i64 0), (.int .i64 0), (.int .i64 0), (.int .i64 0), (.int .i64 0), (.int .i64 0), (.str ⟨#[]⟩), (.int .i64 0), (.int .i64 0), (.int .i64 0), (.int .i64 0), (.int .i64 0), (.int .i64 0), (.int .i64 0), (.str ⟨#[]⟩), (.int .i64 0), (.int .i64 0), (.int .i64 0), (.int .i64 0), (.int .i64 0), (.int .i64 0), (.int .i64 0), (.str ⟨#[]⟩), (.int .i64 0), (.int .i64 0), (.int .i64 0), (.int .i64 0), (.int .i64 0), (.int .i64 0), (.int .i64 0), (.str ⟨#[]⟩), (.int .i64 0), (.int .i64 0), (.int .i64 0), (.int .i64 0), (.int .i64 0), (.int .i64 0), (.int .i64 0), (.str ⟨#[]⟩), (.int .i64 0), (.int .i64 0), (.int .i64 0), (.int .i64 0), (.int .i64 0), (.int .i64 0), (.int .i64 0), (.str ⟨#[]⟩), (.int .i64 0), (.int .i64 0), (.int .i64 0), (.int .i64 0), (.int .i64 0), (.int .i64 0), (.int .i64 0), (.str ⟨#[]⟩), (.int .i64 0), (.int .i64 0), (.int .i64 0), (.int .i64 0), (.int .i64 0), (.int .i64 0), (.int .i64 0), (.str ⟨#[]⟩), (.int .i64 0), (.int .i64 0), (.int .i64 0), (.int .i64 0), (.int .i64 0), (.int .i64 0), (.int .i64 0), (.str ⟨#[]⟩), (.int .i64 0), (.int .i64 0), (.int .i64 0), (.int .i64 0), (.int .i64 0), (.int .i64 0), (.int .i64 0), (.str ⟨#[]⟩), (.int .i64 0), (.int .i64 0), (.int .i64 0), (.int .i64 0), (.int .i64 0), (.int .i64 0), (.int .i64 0), (.str ⟨#[]⟩), (.int .i64 0), (.int .i64 0), (.int .i64 0), (.int .i64 0), (.int .i64 0), (.int .i64 0), (.int .i64 0)]), none⟩ <|
      .op ⟨none, (.store 136 (.t 6) (.t 23)), none⟩ <|
      .op ⟨(some 24), (.sla 17 8 (.t 6) none none), none⟩ <|
      .op ⟨(some 25), (.mkfn (.func 114) [] [(.t 4)]), none⟩ <|
      .op ⟨(some 26), (.call (.c (.fn (.func 113) [] [])) [(.t 24), (.t 25)]), none⟩ <|
      .op ⟨(some 27), (.build [(.int .i64 0), (.int .i64 0), (.int .i64 0), (.sl .nil 0 [])] [(0, 1, (.t 26))]), none⟩ <|
      .op ⟨(some 7), (.alloc 46 [(.int .i64 0), (.int .i64 0), (.int .i64 0), (.sl .nil 0 [])]), none⟩ <|
      .op ⟨none, (.store 4 (.t 7) (.t 27)), none⟩ <|
      .op ⟨(some 28), (.foff 0 (.t 7)), none⟩ <|
      .op ⟨(some 29), (.load false 1 (.t 28)), none⟩ <|
      .op ⟨(some 30), (.ibin .lss (.t 29) (.c (.int .i64 0))), none⟩ <|
      .cond (.t 30)
        (.op ⟨(some 31), (.build [(.int .i64 0), (.int .i64 0), (.int .i64 0), (.sl .nil 0 [])] []), none⟩ <|
          .op ⟨none, (.store 4 (.t 2) (.t 31)), none⟩ <|
          .op ⟨(some 3), (.mv (.c (.bool false))), none⟩ <|
          .ret [(.c true 4 2), (.t 3)])
        (.op ⟨(some 32), (.foff 0 (.t 7)), none⟩ <|
          .op ⟨(some 33), (.load false 1 (.t 32)), none⟩ <|
          .op ⟨(some 34), (.idxa 17 8 (.t 6) (.t 33)), none⟩ <|
          .op ⟨(some 35), (.foff 1 (.t 34)), none⟩ <|
          .op ⟨(some 36), (.load false 1 (.t 35)), none⟩ <|
          .op ⟨(some 8), (.mv (.t 36)), none⟩ <|
          .op ⟨(some 37), (.mv (.t 8)), none⟩ <|
          .op ⟨(some 38), (.ibin .geq (.t 37) (.c (.int .i64 0))), none⟩ <|
          .op ⟨(some 39), (.mv (.t 38)), none⟩ <|
          .op ⟨(some 40), (.load false 1 (.t 4)), (some (39, true))⟩ <|
          .op ⟨(some 41), (.lenl (.t 40)), (some (39, true))⟩ <|
          .op ⟨(some 42), (.mv (.t 8)), (some (39, true))⟩ <|
          .op ⟨(some 43), (.ibin .add (.c (.int .i64 1)) (.t 42)), (some (39, true))⟩ <|
          .op ⟨(some 44), (.ibin .neq (.t 41) (.t 43)), (some (39, true))⟩ <|
          .op ⟨(some 45), (.pick (.t 39) (.t 44) (.c (.bool false))), none⟩ <|
          .cond (.t 45)
            (.op ⟨(some 46), (.build [(.int .i64 0), (.int .i64 0), (.int .i64 0), (.sl .nil 0 [])] []), none⟩ <|
              .op ⟨none, (.store 4 (.t 2) (.t 46)), none⟩ <|
              .op ⟨(some 3), (.mv (.c (.bool false))), none⟩ <|
              .ret [(.c true 4 2), (.t 3)])
            (.op ⟨(some 47), (.load false 1 (.t 4)), none⟩ <|
              .op ⟨(some 48), (.sll 1 (.t 47) (some (.c (.int .i64 1))) none none), none⟩ <|
              .op ⟨(some 49), (.lenl (.t 48)), none⟩ <|
              .op ⟨(some 50), (.mv (.c (.int .i64 0))), none⟩ <|
              .jump 4090 [2, 7, 8, 48, 49, 50])))
def T52_58 : TC :=
  .op ⟨(some 5), (.mv (.t 18)), none⟩ <|
  .out [4, 5]
def T52_117 : TC :=
  .op ⟨(some 19), (.load false 1 (.t 4)), none⟩ <|
  .op ⟨(some 20), (.mv (.t 5)), none⟩ <|
  .op ⟨(some 21), (.bsl 1 (.str ⟨#[]⟩) 1 [(0, (.t 20))]), none⟩ <|
  .op ⟨(some 22), (.app 9 1 16 (.t 19) (.t 21)), none⟩ <|
  .op ⟨none, (.store 1 (.t 4) (.t 22)), none⟩ <|
  .rnd 0
def T52_4090 : TC :=
  .op ⟨(some 51), (.ibin .lss (.t 50) (.t 49)), none⟩ <|
  .cond (.t 51)
    (.op ⟨(some 52), (.mv (.t 50)), none⟩ <|
      .op ⟨(some 53), (.idx 1 (.t 48) (.t 50)), none⟩ <|
      .op ⟨(some 54), (.load false 1 (.t 53)), none⟩ <|
      .op ⟨(some 9), (.mv (.t 52)), none⟩ <|
      .op ⟨(some 10), (.mv (.t 54)), none⟩ <|
      .op ⟨(some 55), (.mv (.t 8)), none⟩ <|
      .op ⟨(some 56), (.ibin .lss (.t 55) (.c (.int .i64 0))), none⟩ <|
      .cond (.t 56)
        (.op ⟨(some 58), (.mv (.t 10)), none⟩ <|
          .op ⟨(some 59), (.call (.c (.fn (.func 115) [] [])) [(.t 58)]), none⟩ <|
          .op ⟨(some 57), (.mv (.t 59)), none⟩ <|
          .op ⟨(some 60), (.extr 0 (.t 57)), none⟩ <|
          .op ⟨(some 61), (.extr 1 (.t 57)), none⟩ <|
          .op ⟨(some 11), (.alloc 138 [(.int .i64 0), (.int .i64 0)]), none⟩ <|
          .op ⟨none, (.store 2 (.t 11) (.t 60)), none⟩ <|
          .op ⟨(some 12), (.mv (.t 61)), none⟩ <|
          .op ⟨(some 62), (.mv (.t 12)), none⟩ <|
          .op ⟨(some 63), (.not (.t 62)), none⟩ <|
          .cond (.t 63)
            (.op ⟨(some 64), (.build [(.int .i64 0), (.int .i64 0), (.int .i64 0), (.sl .nil 0 [])] []), none⟩ <|
              .op ⟨none, (.store 4 (.t 2) (.t 64)), none⟩ <|
              .op ⟨(some 3), (.mv (.c (.bool false))), none⟩ <|
              .ret [(.c true 4 2), (.t 3)])
            (.op ⟨(some 65), (.foff 3 (.t 7)), none⟩ <|
              .op ⟨(some 66), (.load false 1 (.t 65)), none⟩ <|
              .op ⟨(some 67), (.load true 2 (.t 11)), none⟩ <|
              .op ⟨(some 68), (.bsl 2 (.agg [(.int .i64 0), (.int .i64 0)]) 1 [(0, (.t 67))]), none⟩ <|
              .op ⟨(some 69), (.app 138 2 16 (.t 66) (.t 68)), none⟩ <|
              .op ⟨(some 70), (.foff 3 (.t 7)), none⟩ <|
              .op ⟨none, (.store 1 (.t 70) (.t 69)), none⟩ <|
              .jump 32723 [2, 7, 8, 48, 49, 50]))
        (.op ⟨(some 72), (.mv (.t 10)), none⟩ <|
          .op ⟨(some 73), (.call (.c (.fn (.func 110) [] [])) [(.t 72)]), none⟩ <|
          .op ⟨(some 71), (.mv (.t 73)), none⟩ <|
          .op ⟨(some 74), (.extr 0 (.t 71)), none⟩ <|
          .op ⟨(some 75), (.extr 1 (.t 71)), none⟩ <|
          .op ⟨(some 13), (.mv (.t 74)), none⟩ <|
          .op ⟨(some 14), (.mv (.t 75)), none⟩ <|
          .op ⟨(some 76), (.mv (.t 14)), none⟩ <|
          .op ⟨(some 77), (.not (.t 76)), none⟩ <|
          .cond (.t 77)
            (.op ⟨(some 78), (.build [(.int .i64 0), (.int .i64 0), (.int .i64 0), (.sl .nil 0 [])] []), none⟩ <|
              .op ⟨none, (.store 4 (.t 2) (.t 78)), none⟩ <|
              .op ⟨(some 3), (.mv (.c (.bool false))), none⟩ <|
              .ret [(.c true 4 2), (.t 3)])
            (.op ⟨(some 79), (.foff 1 (.t 7)), none⟩ <|
              .op ⟨(some 80), (.foff 2 (.t 7)), none⟩ <|
              .op ⟨(some 81), (.bsl 1 .nilp 2 [(0, (.t 79)), (1, (.t 80))]), none⟩ <|
              .op ⟨(some 82), (.mv (.t 9)), none⟩ <|
              .op ⟨(some 83), (.idx 1 (.t 81) (.t 82)), none⟩ <|
              .op ⟨(some 84), (.load false 1 (.t 83)), none⟩ <|
              .op ⟨(some 85), (.mv (.t 13)), none⟩ <|
              .op ⟨(some 86), (.nilck (.t 84)), none⟩ <|
              .op ⟨none, (.store 1 (.t 86) (.t 85)), none⟩ <|
              .jump 32723 [2, 7, 8, 48, 49, 50])))
    (.op ⟨(some 88), (.load true 4 (.t 7)), none⟩ <|
      .op ⟨(some 89), (.load true 4 (.t 7)), none⟩ <|
      .op ⟨(some 90), (.call (.c (.fn (.func 22) [] [])) [(.t 89)]), none⟩ <|
      .again ⟨(some 88), (.load true 4 (.t 7)), none⟩ <|
      .op ⟨none, (.store 4 (.t 2) (.t 88)), none⟩ <|
      .op ⟨(some 3), (.mv (.t 90)), none⟩ <|
      .ret [(.c true 4 2), (.t 3)])
def T52_32723 : TC :=
  .op ⟨(some 87), (.ibin .add (.t 50) (.c (.int .i64 1))), none⟩ <|
  .op ⟨(some 50), (.mv (.t 87)), none⟩ <|
  .jump 4090 [2, 7, 8, 48, 49, 50]
def fc52 : FC := ⟨⟨false, false⟩, T52, lookL [(58, [18, 4], T52_58), (117, [4, 5], T52_117), (4090, [2, 7, 8, 48, 49, 50], T52_4090), (32723, [2, 7, 8, 48, 49, 50], T52_32723)]⟩
/-- slices.ContainsFunc[[]hammock/instr.Global,hammock/instr.Global] -/
def T56 : TC :=
  .op ⟨(some 4), (.mv (.c (.bool false))), none⟩ <|
  .op ⟨(some 5), (.mv (.t 0)), none⟩ <|
  .op ⟨(some 6), (.mv (.t 1)), none⟩ <|
  .op ⟨(some 7), (.call (.c (.fn (.func 123) [] [])) [(.t 5), (.t 6)]), none⟩ <|
  .op ⟨(some 8), (.ibin .geq (.t 7) (.c (.int .i64 0))), none⟩ <|
  .op ⟨(some 4), (.mv (.t 8)), none⟩ <|
  .ret [(.t 4)]
def fc56 : FC := ⟨⟨false, false⟩, T56, lookL []⟩
/-- hammock/instr.Print$1 -/
def T57 : TC :=
  .op ⟨(some 1), (.box 101 (.t 0)), none⟩ <|
  .op ⟨(some 2), (.mv (.c (.bool false))), none⟩ <|
  .op ⟨(some 3), (.load true 3 (.t 1)), none⟩ <|
  .op ⟨(some 4), (.call (.c (.fn (.func 58) [] [])) [(.t 3)]), none⟩ <|
  .op ⟨(some 5), (.not (.t 4)), none⟩ <|
  .op ⟨(some 2), (.mv (.t 5)), none⟩ <|
  .ret [(.t 2)]
def fc57 : FC := ⟨⟨false, false⟩, T57, lookL []⟩
/-- (hammock/instr.Global).right -/
def T58 : TC :=
  .op ⟨(some 1), (.box 101 (.t 0)), none⟩ <|
  .op ⟨(some 2), (.mv (.c (.bool false))), none⟩ <|
  .op ⟨(some 3), (.foff 1 (.t 1)), none⟩ <|
  .op ⟨(some 4), (.load false 1 (.t 3)), none⟩ <|
  .op ⟨(some 5), (.call (.c (.fn (.func 73) [] [])) [(.c (.int .i64 0)), (.t 4), (.c (.int .i64 255))]), none⟩ <|
  .op ⟨(some 6), (.mv (.t 5)), none⟩ <|
  .op ⟨(some 7), (.foff 2 (.t 1)), (some (6, true))⟩ <|
  .op ⟨(some 8), (.load false 1 (.t 7)), (some (6, true))⟩ <|
  .op ⟨(some 9), (.call (.c (.fn (.func 73) [] [])) [(.c (.int .i64 0)), (.t 8), (.c (.int .i64 65536))]), (some (6, true))⟩ <|
  .op ⟨(some 10), (.pick (.t 6) (.t 9) (.c (.bool false))), none⟩ <|
  .op ⟨(some 11), (.mv (.t 10)), none⟩ <|
  .op ⟨(some 12), (.foff 0 (.t 1)), (some (11, true))⟩ <|
  .op ⟨(some 13), (.load false 1 (.t 12)), (some (11, true))⟩ <|
  .op ⟨(some 14), (.sbin .neq (.t 13) (.c (.str ⟨#[]⟩))), (some (11, true))⟩ <|
  .op ⟨(some 15), (.pick (.t 11) (.t 14) (.c (.bool false))), none⟩ <|
  .op ⟨(some 16), (.mv (.t 15)), none⟩ <|
  .op ⟨(some 17), (.foff 0 (.t 1)), (some (16, true))⟩ <|
  .op ⟨(some 18), (.load false 1 (.t 17)), (some (16, true))⟩ <|
  .op ⟨(some 19), (.call (.c (.fn (.func 124) [] [])) [(.t 18), (.c (.str ⟨#[10]⟩))]), (some (16, true))⟩ <|
  .op ⟨(some 20), (.not (.t 19)), (some (16, true))⟩ <|
  .op ⟨(some 21), (.pick (.t 16) (.t 20) (.c (.bool false))), none⟩ <|
  .op ⟨(some 2), (.mv (.t 21)), none⟩ <|
  .ret [(.t 2)]
def fc58 : FC := ⟨⟨false, false⟩, T58, lookL []⟩
/-- slices.ContainsFunc[[]hammock/instr.Instr,hammock/instr.Instr] -/
def T59 : TC :=
  .op ⟨(some 4), (.mv (.c (.bool false))), none⟩ <|
  .op ⟨(some 5), (.mv (.t 0)), none⟩ <|
  .op ⟨(some 6), (.mv (.t 1)), none⟩ <|
  .op ⟨(some 7), (.call (.c (.fn (.func 125) [] [])) [(.t 5), (.t 6)]), none⟩ <|
  .op ⟨(some 8), (.ibin .geq (.t 7) (.c (.int .i64 0))), none⟩ <|
  .op ⟨(some 4), (.mv (.t 8)), none⟩ <|
  .ret [(.t 4)]
def fc59 : FC := ⟨⟨false, false⟩, T59, lookL []⟩
/-- hammock/instr.Print$2 -/
def T60 : TC :=
  .op ⟨(some 1), (.box 46 (.t 0)), none⟩ <|
  .op ⟨(some 2), (.mv (.c (.bool false))), none⟩ <|
  .op ⟨(some 3), (.load true 4 (.t 1)), none⟩ <|
  .op ⟨(some 4), (.call (.c (.fn (.func 22) [] [])) [(.t 3)]), none⟩ <|
  .op ⟨(some 5), (.not (.t 4)), none⟩ <|
  .op ⟨(some 2), (.mv (.t 5)), none⟩ <|
  .ret [(.t 2)]
def fc60 : FC := ⟨⟨false, false⟩, T60, lookL []⟩
/-- (*strings.Builder).WriteString -/
def T61 : TC :=
  .op ⟨(some 4), (.mv (.c (.int .i64 0))), none⟩ <|
  .op ⟨(some 5), (.mv (.c .nili)), none⟩ <|
  .op ⟨(some 6), (.mv (.t 0)), none⟩ <|
  .op ⟨(some 7), (.call (.c (.fn (.func 126) [] [])) [(.t 6)]), none⟩ <|
  .op ⟨(some 8), (.mv (.t 0)), none⟩ <|
  .op ⟨(some 9), (.mv (.t 0)), none⟩ <|
  .op ⟨(some 10), (.nilck (.t 9)), none⟩ <|
  .op ⟨(some 11), (.foff 1 (.t 10)), none⟩ <|
  .op ⟨(some 12), (.load false 1 (.t 11)), none⟩ <|
  .op ⟨(some 13), (.mv (.t 1)), none⟩ <|
  .op ⟨(some 14), (.app 5 1 1 (.t 12) (.t 13)), none⟩ <|
  .op ⟨(some 15), (.nilck (.t 8)), none⟩ <|
  .op ⟨(some 16), (.foff 1 (.t 15)), none⟩ <|
  .op ⟨none, (.store 1 (.t 16) (.t 14)), none⟩ <|
  .op ⟨(some 17), (.mv (.t 1)), none⟩ <|
  .op ⟨(some 18), (.lens (.t 17)), none⟩ <|
  .op ⟨(some 4), (.mv (.t 18)), none⟩ <|
  .op ⟨(some 5), (.mv (.c .nili)), none⟩ <|
  .ret [(.t 4), (.t 5)]
def fc61 : FC := ⟨⟨false, false⟩, T61, lookL []⟩
/-- (*strings.Builder).WriteByte -/
def T64 : TC :=
  .op ⟨(some 4), (.mv (.c .nili)), none⟩ <|
  .op ⟨(some 5), (.mv (.t 0)), none⟩ <|
  .op ⟨(some 6), (.call (.c (.fn (.func 126) [] [])) [(.t 5)]), none⟩ <|
  .op ⟨(some 7), (.mv (.t 0)), none⟩ <|
  .op ⟨(some 8), (.mv (.t 0)), none⟩ <|
  .op ⟨(some 9), (.nilck (.t 8)), none⟩ <|
  .op ⟨(some 10), (.foff 1 (.t 9)), none⟩ <|
  .op ⟨(some 11), (.load false 1 (.t 10)), none⟩ <|
  .op ⟨(some 12), (.mv (.t 1)), none⟩ <|
  .op ⟨(some 13), (.bsl 1 (.int .u8 0) 1 [(0, (.t 12))]), none⟩ <|
  .op ⟨(some 14), (.app 5 1 1 (.t 11) (.t 13)), none⟩ <|
  .op ⟨(some 15), (.nilck (.t 7)), none⟩ <|
  .op ⟨(some 16), (.foff 1 (.t 15)), none⟩ <|
  .op ⟨none, (.store 1 (.t 16) (.t 14)), none⟩ <|
  .op ⟨(some 4), (.mv (.c .nili)), none⟩ <|
  .ret [(.t 4)]
def fc64 : FC := ⟨⟨false, false⟩, T64, lookL []⟩
/-- hammock/instr.Show -/
def T65 : TC :=
  .op ⟨(some 1), (.box 46 (.t 0)), none⟩ <|
  .op ⟨(some 2), (.mv (.c (.str ⟨#[]⟩))), none⟩ <|
  .op ⟨(some 10), (.load true 4 (.t 1)), none⟩ <|
  .op ⟨(some 11), (.call (.c (.fn (.func 22) [] [])) [(.t 10)]), none⟩ <|
  .op ⟨(some 12), (.not (.t 11)), none⟩ <|
  .cond (.t 12)
    (.op ⟨(some 2), (.mv (.c (.str ⟨#[]⟩))), none⟩ <|
      .ret [(.t 2)])
    (.op ⟨(some 14), (.load true 4 (.t 1)), none⟩ <|
      .op ⟨(some 15), (.call (.c (.fn (.func 71) [] [])) [(.t 14)]), none⟩ <|
      .op ⟨(some 13), (.mv (.t 15)), none⟩ <|
      .op ⟨(some 16), (.extr 0 (.t 13)), none⟩ <|
      .op ⟨(some 17), (.extr 1 (.t 13)), none⟩ <|
      .op ⟨(some 3), (.alloc 141 [(.str ⟨#[]⟩), (.int .i64 0), (.int .i64 0), (.int .i64 0), (.int .i64 0), (.int .i64 0), (.int .i64 0), (.int .i64 0)]), none⟩ <|
      .op ⟨none, (.store 8 (.t 3) (.t 16)), none⟩ <|
      .op ⟨(some 4), (.mv (.t 17)), none⟩ <|
      .op ⟨(some 18), (.foff 0 (.t 3)), none⟩ <|
      .op ⟨(some 19), (.load false 1 (.t 18)), none⟩ <|
      .op ⟨(some 20), (.bsl 1 (.str ⟨#[]⟩) 1 [(0, (.t 19))]), none⟩ <|
      .op ⟨(some 5), (.mv (.t 20)), none⟩ <|
      .op ⟨(some 21), (.foff 1 (.t 1)), none⟩ <|
      .op ⟨(some 22), (.load false 1 (.t 21)), none⟩ <|
      .op ⟨(some 23), (.foff 2 (.t 1)), none⟩ <|
      .op ⟨(some 24), (.load false 1 (.t 23)), none⟩ <|
      .op ⟨(some 25), (.bsl 1 (.int .i64 0) 2 [(0, (.t 22)), (1, (.t 24))]), none⟩ <|
      .op ⟨(some 26), (.foff 1 (.t 3)), none⟩ <|
      .op ⟨(some 27), (.load false 1 (.t 26)), none⟩ <|
      .op ⟨(some 28), (.mm true (.t 27) (.c (.int .i64 0))), none⟩ <|
      .op ⟨(some 29), (.sll 1 (.t 25) none (some (.t 28)) none), none⟩ <|
      .op ⟨(some 30), (.lenl (.t 29)), none⟩ <|
      .op ⟨(some 31), (.mv (.c (.int .i64 0))), none⟩ <|
      .jump 250 [1, 5, 29, 30, 31])
def T65_250 : TC :=
  .op ⟨(some 32), (.ibin .lss (.t 31) (.t 30)), none⟩ <|
  .cond (.t 32)
    (.op ⟨(some 33), (.idx 1 (.t 29) (.t 31)), none⟩ <|
      .op ⟨(some 34), (.load false 1 (.t 33)), none⟩ <|
      .op ⟨(some 7), (.mv (.t 34)), none⟩ <|
      .op ⟨(some 35), (.mv (.t 5)), none⟩ <|
      .op ⟨(some 36), (.mv (.t 7)), none⟩ <|
      .op ⟨(some 37), (.call (.c (.fn (.func 63) [] [])) [(.t 36)]), none⟩ <|
      .op ⟨(some 38), (.bsl 1 (.str ⟨#[]⟩) 1 [(0, (.t 37))]), none⟩ <|
      .op ⟨(some 39), (.app 9 1 16 (.t 35) (.t 38)), none⟩ <|
      .op ⟨(some 5), (.mv (.t 39)), none⟩ <|
      .op ⟨(some 40), (.ibin .add (.t 31) (.c (.int .i64 1))), none⟩ <|
      .op ⟨(some 31), (.mv (.t 40)), none⟩ <|
      .jump 250 [1, 5, 29, 30, 31])
    (.op ⟨(some 41), (.foff 3 (.t 1)), none⟩ <|
      .op ⟨(some 42), (.load false 1 (.t 41)), none⟩ <|
      .op ⟨(some 43), (.lenl (.t 42)), none⟩ <|
      .op ⟨(some 44), (.mv (.c (.int .i64 0))), none⟩ <|
      .jump 506 [5, 42, 43, 44])
def T65_506 : TC :=
  .op ⟨(some 45), (.ibin .lss (.t 44) (.t 43)), none⟩ <|
  .cond (.t 45)
    (.op ⟨(some 46), (.idx 2 (.t 42) (.t 44)), none⟩ <|
      .op ⟨(some 47), (.load true 2 (.t 46)), none⟩ <|
      .op ⟨(some 9), (.alloc 138 [(.int .i64 0), (.int .i64 0)]), none⟩ <|
      .op ⟨none, (.store 2 (.t 9) (.t 47)), none⟩ <|
      .op ⟨(some 48), (.mv (.t 5)), none⟩ <|
      .op ⟨(some 49), (.idxa 2 1 (.t 9) (.c (.int .i64 0))), none⟩ <|
      .op ⟨(some 50), (.load false 1 (.t 49)), none⟩ <|
      .op ⟨(some 53), (.idxa 2 1 (.t 9) (.c (.int .i64 1))), none⟩ <|
      .op ⟨(some 54), (.load false 1 (.t 53)), none⟩ <|
      .op ⟨(some 51), (.call (.c (.fn (.func 129) [] [])) [(.t 50)]), none⟩ <|
      .again ⟨(some 54), (.load false 1 (.t 53)), none⟩ <|
      .op ⟨(some 52), (.sbin .add (.t 51) (.c (.str ⟨#[58]⟩))), none⟩ <|
      .op ⟨(some 55), (.call (.c (.fn (.func 63) [] [])) [(.t 54)]), none⟩ <|
      .op ⟨(some 56), (.sbin .add (.t 52) (.t 55)), none⟩ <|
      .op ⟨(some 57), (.bsl 1 (.str ⟨#[]⟩) 1 [(0, (.t 56))]), none⟩ <|
      .op ⟨(some 58), (.app 9 1 16 (.t 48) (.t 57)), none⟩ <|
      .op ⟨(some 5), (.mv (.t 58)), none⟩ <|
      .op ⟨(some 59), (.ibin .add (.t 44) (.c (.int .i64 1))), none⟩ <|
      .op ⟨(some 44), (.mv (.t 59)), none⟩ <|
      .jump 506 [5, 42, 43, 44])
    (.op ⟨(some 60), (.mv (.t 5)), none⟩ <|
      .op ⟨(some 61), (.call (.c (.fn (.func 62) [] [])) [(.t 60), (.c (.str ⟨#[32]⟩))]), none⟩ <|
      .op ⟨(some 2), (.mv (.t 61)), none⟩ <|
      .ret [(.t 2)])
def fc65 : FC := ⟨⟨false, false⟩, T65, lookL [(250, [1, 5, 29, 30, 31], T65_250), (506, [5, 42, 43, 44], T65_506)]⟩
/-- slices.Equal[[]hammock/instr.Global,hammock/instr.Global] -/
def T67 : TC :=
  .op ⟨(some 4), (.mv (.c (.bool false))), none⟩ <|
  .op ⟨(some 6), (.mv (.t 0)), none⟩ <|
  .op ⟨(some 7), (.lenl (.t 6)), none⟩ <|
  .op ⟨(some 8), (.mv (.t 1)), none⟩ <|
  .op ⟨(some 9), (.lenl (.t 8)), none⟩ <|
  .op ⟨(some 10), (.ibin .neq (.t 7) (.t 9)), none⟩ <|
  .cond (.t 10)
    (.op ⟨(some 4), (.mv (.c (.bool false))), none⟩ <|
      .ret [(.t 4)])
    (.op ⟨(some 11), (.mv (.t 0)), none⟩ <|
      .op ⟨(some 12), (.lenl (.t 11)), none⟩ <|
      .op ⟨(some 13), (.mv (.c (.int .i64 0))), none⟩ <|
      .jump 58 [0, 1, 12, 13])
def T67_58 : TC :=
  .op ⟨(some 14), (.ibin .lss (.t 13) (.t 12)), none⟩ <|
  .cond (.t 14)
    (.op ⟨(some 15), (.mv (.t 13)), none⟩ <|
      .op ⟨(some 5), (.mv (.t 15)), none⟩ <|
      .op ⟨(some 16), (.mv (.t 0)), none⟩ <|
      .op ⟨(some 17), (.mv (.t 5)), none⟩ <|
      .op ⟨(some 18), (.idx 3 (.t 16) (.t 17)), none⟩ <|
      .op ⟨(some 19), (.load true 3 (.t 18)), none⟩ <|
      .op ⟨(some 20), (.mv (.t 1)), none⟩ <|
      .op ⟨(some 21), (.mv (.t 5)), none⟩ <|
      .op ⟨(some 22), (.idx 3 (.t 20) (.t 21)), none⟩ <|
      .op ⟨(some 23), (.load true 3 (.t 22)), none⟩ <|
      .op ⟨(some 24), (.eqs true [.str, .int, .int] (.t 19) (.t 23)), none⟩ <|
      .cond (.t 24)
        (.op ⟨(some 4), (.mv (.c (.bool false))), none⟩ <|
          .ret [(.t 4)])
        (.op ⟨(some 25), (.ibin .add (.t 13) (.c (.int .i64 1))), none⟩ <|
          .op ⟨(some 13), (.mv (.t 25)), none⟩ <|
          .jump 58 [0, 1, 12, 13]))
    (.op ⟨(some 4), (.mv (.c (.bool true))), none⟩ <|
      .ret [(.t 4)])
def fc67 : FC := ⟨⟨false, false⟩, T67, lookL [(58, [0, 1, 12, 13], T67_58)]⟩
/-- slices.EqualFunc[[]hammock/instr.Instr,[]hammock/instr.Instr,hammock/instr.Instr,hammock/instr.Instr] -/
def T68 : TC :=
  .op ⟨(some 6), (.mv (.c (.bool false))), none⟩ <|
  .op ⟨(some 10), (.mv (.t 0)), none⟩ <|
  .op ⟨(some 11), (.lenl (.t 10)), none⟩ <|
  .op ⟨(some 12), (.mv (.t 1)), none⟩ <|
  .op ⟨(some 13), (.lenl (.t 12)), none⟩ <|
  .op ⟨(some 14), (.ibin .neq (.t 11) (.t 13)), none⟩ <|
  .cond (.t 14)
    (.op ⟨(some 6), (.mv (.c (.bool false))), none⟩ <|
      .ret [(.t 6)])
    (.op ⟨(some 15), (.mv (.t 0)), none⟩ <|
      .op ⟨(some 16), (.lenl (.t 15)), none⟩ <|
      .op ⟨(some 17), (.mv (.c (.int .i64 0))), none⟩ <|
      .jump 58 [1, 2, 15, 16, 17])
def T68_58 : TC :=
  .op ⟨(some 18), (.ibin .lss (.t 17) (.t 16)), none⟩ <|
  .cond (.t 18)
    (.op ⟨(some 19), (.mv (.t 17)), none⟩ <|
      .op ⟨(some 20), (.idx 4 (.t 15) (.t 17)), none⟩ <|
      .op ⟨(some 21), (.load true 4 (.t 20)), none⟩ <|
      .op ⟨(some 8), (.alloc 46 [(.int .i64 0), (.int .i64 0), (.int .i64 0), (.sl .nil 0 [])]), none⟩ <|
      .op ⟨(some 7), (.mv (.t 19)), none⟩ <|
      .op ⟨none, (.store 4 (.t 8) (.t 21)), none⟩ <|
      .op ⟨(some 22), (.mv (.t 1)), none⟩ <|
      .op ⟨(some 23), (.mv (.t 7)), none⟩ <|
      .op ⟨(some 24), (.idx 4 (.t 22) (.t 23)), none⟩ <|
      .op ⟨(some 25), (.load true 4 (.t 24)), none⟩ <|
      .op ⟨(some 9), (.alloc 46 [(.int .i64 0), (.int .i64 0), (.int .i64 0), (.sl .nil 0 [])]), none⟩ <|
      .op ⟨none, (.store 4 (.t 9) (.t 25)), none⟩ <|
      .op ⟨(some 26), (.mv (.t 2)), none⟩ <|
      .op ⟨(some 27), (.load true 4 (.t 8)), none⟩ <|
      .op ⟨(some 28), (.load true 4 (.t 9)), none⟩ <|
      .op ⟨(some 29), (.call (.t 26) [(.t 27), (.t 28)]), none⟩ <|
      .op ⟨(some 30), (.not (.t 29)), none⟩ <|
      .cond (.t 30)
        (.op ⟨(some 6), (.mv (.c (.bool false))), none⟩ <|
          .ret [(.t 6)])
        (.op ⟨(some 31), (.ibin .add (.t 17) (.c (.int .i64 1))), none⟩ <|
          .op ⟨(some 17), (.mv (.t 31)), none⟩ <|
          .jump 58 [1, 2, 15, 16, 17]))
    (.op ⟨(some 6), (.mv (.c (.bool true))), none⟩ <|
      .ret [(.t 6)])
def fc68 : FC := ⟨⟨false, false⟩, T68, lookL [(58, [1, 2, 15, 16, 17], T68_58)]⟩
/-- hammock/instr.Same$1 -/
def T69 : TC :=
  .op ⟨(some 2), (.box 46 (.t 0)), none⟩ <|
  .op ⟨(some 3), (.box 46 (.t 1)), none⟩ <|
  .op ⟨(some 4), (.mv (.c (.bool false))), none⟩ <|
  .op ⟨(some 5), (.foff 0 (.t 2)), none⟩ <|
  .op ⟨(some 6), (.load false 1 (.t 5)), none⟩ <|
  .op ⟨(some 7), (.foff 0 (.t 3)), none⟩ <|
  .op ⟨(some 8), (.load false 1 (.t 7)), none⟩ <|
  .op ⟨(some 9), (.ibin .eql (.t 6) (.t 8)), none⟩ <|
  .op ⟨(some 10), (.mv (.t 9)), none⟩ <|
  .op ⟨(some 11), (.foff 1 (.t 2)), (some (10, true))⟩ <|
  .op ⟨(some 12), (.load false 1 (.t 11)), (some (10, true))⟩ <|
  .op ⟨(some 13), (.foff 1 (.t 3)), (some (10, true))⟩ <|
  .op ⟨(some 14), (.load false 1 (.t 13)), (some (10, true))⟩ <|
  .op ⟨(some 15), (.ibin .eql (.t 12) (.t 14)), (some (10, true))⟩ <|
  .op ⟨(some 16), (.pick (.t 10) (.t 15) (.c (.bool false))), none⟩ <|
  .op ⟨(some 17), (.mv (.t 16)), none⟩ <|
  .op ⟨(some 18), (.foff 2 (.t 2)), (some (17, true))⟩ <|
  .op ⟨(some 19), (.load false 1 (.t 18)), (some (17, true))⟩ <|
  .op ⟨(some 20), (.foff 2 (.t 3)), (some (17, true))⟩ <|
  .op ⟨(some 21), (.load false 1 (.t 20)), (some (17, true))⟩ <|
  .op ⟨(some 22), (.ibin .eql (.t 19) (.t 21)), (some (17, true))⟩ <|
  .op ⟨(some 23), (.pick (.t 17) (.t 22) (.c (.bool false))), none⟩ <|
  .op ⟨(some 24), (.mv (.t 23)), none⟩ <|
  .op ⟨(some 25), (.foff 3 (.t 2)), (some (24, true))⟩ <|
  .op ⟨(some 26), (.load false 1 (.t 25)), (some (24, true))⟩ <|
  .op ⟨(some 27), (.foff 3 (.t 3)), (some (24, true))⟩ <|
  .op ⟨(some 28), (.load false 1 (.t 27)), (some (24, true))⟩ <|
  .op ⟨(some 29), (.call (.c (.fn (.func 70) [] [])) [(.t 26), (.t 28)]), (some (24, true))⟩ <|
  .op ⟨(some 30), (.pick (.t 24) (.t 29) (.c (.bool false))), none⟩ <|
  .op ⟨(some 4), (.mv (.t 30)), none⟩ <|
  .ret [(.t 4)]
def fc69 : FC := ⟨⟨false, false⟩, T69, lookL []⟩
/-- slices.Equal[[][2]int,[2]int] -/
def T70 : TC :=
  .op ⟨(some 4), (.mv (.c (.bool false))), none⟩ <|
  .op ⟨(some 6), (.mv (.t 0)), none⟩ <|
  .op ⟨(some 7), (.lenl (.t 6)), none⟩ <|
  .op ⟨(some 8), (.mv (.t 1)), none⟩ <|
  .op ⟨(some 9), (.lenl (.t 8)), none⟩ <|
  .op ⟨(some 10), (.ibin .neq (.t 7) (.t 9)), none⟩ <|
  .cond (.t 10)
    (.op ⟨(some 4), (.mv (.c (.bool false))), none⟩ <|
      .ret [(.t 4)])
    (.op ⟨(some 11), (.mv (.t 0)), none⟩ <|
      .op ⟨(some 12), (.lenl (.t 11)), none⟩ <|
      .op ⟨(some 13), (.mv (.c (.int .i64 0))), none⟩ <|
      .jump 58 [0, 1, 12, 13])
def T70_58 : TC :=
  .op ⟨(some 14), (.ibin .lss (.t 13) (.t 12)), none⟩ <|
  .cond (.t 14)
    (.op ⟨(some 15), (.mv (.t 13)), none⟩ <|
      .op ⟨(some 5), (.mv (.t 15)), none⟩ <|
      .op ⟨(some 16), (.mv (.t 0)), none⟩ <|
      .op ⟨(some 17), (.mv (.t 5)), none⟩ <|
      .op ⟨(some 18), (.idx 2 (.t 16) (.t 17)), none⟩ <|
      .op ⟨(some 19), (.load true 2 (.t 18)), none⟩ <|
      .op ⟨(some 20), (.mv (.t 1)), none⟩ <|
      .op ⟨(some 21), (.mv (.t 5)), none⟩ <|
      .op ⟨(some 22), (.idx 2 (.t 20) (.t 21)), none⟩ <|
      .op ⟨(some 23), (.load true 2 (.t 22)), none⟩ <|
      .op ⟨(some 24), (.eqs true [.int, .int] (.t 19) (.t 23)), none⟩ <|
      .cond (.t 24)
        (.op ⟨(some 4), (.mv (.c (.bool false))), none⟩ <|
          .ret [(.t 4)])
        (.op ⟨(some 25), (.ibin .add (.t 13) (.c (.int .i64 1))), none⟩ <|
          .op ⟨(some 13), (.mv (.t 25)), none⟩ <|
          .jump 58 [0, 1, 12, 13]))
    (.op ⟨(some 4), (.mv (.c (.bool true))), none⟩ <|
      .ret [(.t 4)])
def fc70 : FC := ⟨⟨false, false⟩, T70, lookL [(58, [0, 1, 12, 13], T70_58)]⟩
/-- (hammock/instr.Instr).form -/
def T71 : TC :=
  .op ⟨(some 1), (.box 46 (.t 0)), none⟩ <|
  .op ⟨(some 2), (.alloc 141 [(.str ⟨#[]⟩), (.int .i64 0), (.int .i64 0), (.int .i64 0), (.int .i64 0), (.int .i64 0), (.int .i64 0), (.int .i64 0)]), none⟩ <|
  .op ⟨(some 3), (.mv (.c (.bool false))), none⟩ <|
  .op ⟨(some 5), (.call (.c (.fn (.func 112) [] [])) []), none⟩ <|
  .op ⟨(some 4), (.alloc 199 [(.str ⟨#[]⟩), (.int .i64 0), (.int .i64 0), (.int .i64 0), (.int .i64 0), (.int .i64 0), (.int .i64 0), (.int .i64 0), (.str ⟨#[]⟩), (.int .i64 0), (.int .i64 0), (.int .i64 0), (.int .i64 0), (.int .i64 0), (.int .i64 0), (.int .i64 0), (.str ⟨#[]⟩), (.int .i64 0), (.int .i64 0), (.int .i64 0), (.int .i64 0), (.int .i64 0), (.int .i64 0), (.int .i64 0), (.str ⟨#[]⟩), (.int .i64 0), (.int .i64 0), (.int .i64 0), (.int .i64 0), (.int .i64 0), (.int .i64 0), (.int .i64 0), (.str ⟨#[]⟩), (.int .i64 0), (.int .i64 0), (.int .i64 0), (.int .i64 0), (.int .i64 0), (.int .i64 0), (.int .i64 0), (.str ⟨#[]⟩), (.int .i64 0), (.int .i64 0), (.int .i64 0), (.int .i64 0), (.int .i64 0), (.int .i64 0), (.int .i64 0), (.str ⟨#[]⟩), (.int .i64 0), (.int .i64 0), (.int .i64 0), (.int .i64 0), (.int .i64 0), (.int .i64 0), (.int .i64 0), (.str ⟨#[]⟩), (.int .i64 0), (.int .i64 0), (.int .i64 0), (.int .i64 0), (.int .i64 0), (.int .i64 0), (.int .i64 0), (.str ⟨#[]⟩), (.int .i64 0), (.int .i64 0), (.int .i64 0), (.int .i64 0), (.int .i64 0), (.int .i64 0), (.int .i64 0), (.str ⟨#[]⟩), (.int .i64 0), (.int .i64 0), (.int .i64 0), (.int .i64 0), (.int .i64 0), (.int .i64 0), (.int .i64 0), (.str ⟨#[]⟩), (.int .i64 0), (.int .i64 0), (.int .i64 0), (.int .i64 0), (.int .i64 0), (.int .i64 0), (.int .i64 0), (.str ⟨#[]⟩), (.int .i64 0), (.int .i64 0), (.int .i64 0), (.int .i64 0), (.int .i64 0), (.int .i64 0), (.int .i64 0), (.str ⟨#[]⟩), (.int .i64 0), (.int .i64 0), (.int .i64 0), (.int .i64 0), (.int .i64 0), (.int .i64 0), (.int .i64 0), (.str ⟨#[]⟩), (.int .i64 0), (.int .i64 0), (.int .i64 0), (.int .i64 0), (.int .i64 0), (.int .i64 0), (.int .i64 0), (.str ⟨#[]⟩), (.int .i64 0), (.int .i64 0), (.int .i64 0), (.int .i64 0), (.int .i64 0), (.int .i64 0), (.int .i64 0), (.str ⟨#[]⟩), (.int .i64 0), (.int .i64 0), (.int .i64 0), (.int .i64 0), (.int .i64 0), (.int .i64 0), (.int .i64 0), (.str ⟨#[]⟩), (.int .i64 0), (.int .i64 0), (.int .i64 0), (.int .i64 0), (.int .i64 0), (.int .i64 0), (.int .i64 0)]), none⟩ <|
  .op ⟨none, (.store 136 (.t 4) (.t 5)), none⟩ <|
  .op ⟨(some 6), (.foff 0 (.t 1)), none⟩ <|
  .op ⟨(some 7), (.load false 1 (.t 6)), none⟩ <|
  .op ⟨(some 8), (.ibin .lss (.t 7) (.c (.int .i64 0))), none⟩ <|
  .op ⟨(some 9), (.mv (.t 8)), none⟩ <|
  .op ⟨(some 10), (.foff 0 (.t 1)), (some (9, false))⟩ <|
  .op ⟨(some 11), (.load false 1 (.t 10)), (some (9, false))⟩ <|
  .op ⟨(some 12), (.ibin .geq (.t 11) (.c (.int .i64 17))), (some (9, false))⟩ <|
  .op ⟨(some 13), (.pick (.t 9) (.c (.bool true)) (.t 12)), none⟩ <|
  .cond (.t 13)
    (.op ⟨(some 14), (.build [(.str ⟨#[]⟩), (.int .i64 0), (.int .i64 0), (.int .i64 0), (.int .i64 0), (.int .i64 0), (.int .i64 0), (.int .i64 0)] []), none⟩ <|
      .op ⟨none, (.store 8 (.t 2) (.t 14)), none⟩ <|
      .op ⟨(some 3), (.mv (.c (.bool false))), none⟩ <|
      .ret [(.c true 8 2), (.t 3)])
    (.op ⟨(some 15), (.foff 0 (.t 1)), none⟩ <|
      .op ⟨(some 16), (.load false 1 (.t 15)), none⟩ <|
      .op ⟨(some 17), (.idxa 17 8 (.t 4) (.t 16)), none⟩ <|
      .op ⟨(some 18), (.load true 8 (.t 17)), none⟩ <|
      .op ⟨none, (.store 8 (.t 2) (.t 18)), none⟩ <|
      .op ⟨(some 3), (.mv (.c (.bool true))), none⟩ <|
      .ret [(.c true 8 2), (.t 3)])
def fc71 : FC := ⟨⟨false, false⟩, T71, lookL []⟩
/-- (hammock/instr.Instr).pairs -/
def T72 : TC :=
  .op ⟨(some 1), (.box 46 (.t 0)), none⟩ <|
  .op ⟨(some 2), (.mv (.c (.bool false))), none⟩ <|
  .op ⟨(some 3), (.mv (.c (.int .i64 65536))), none⟩ <|
  .op ⟨(some 7), (.foff 0 (.t 1)), none⟩ <|
  .op ⟨(some 8), (.load false 1 (.t 7)), none⟩ <|
  .op ⟨(some 9), (.ibin .eql (.t 8) (.c (.int .i64 11))), none⟩ <|
  .cond (.t 9)
    (.op ⟨(some 3), (.mv (.c (.int .i64 257))), none⟩ <|
      .jump 7 [1, 3])
    (.jump 7 [1, 3])
def T72_7 : TC :=
  .op ⟨(some 10), (.foff 3 (.t 1)), none⟩ <|
  .op ⟨(some 11), (.load false 1 (.t 10)), none⟩ <|
  .op ⟨(some 4), (.mv (.t 11)), none⟩ <|
  .op ⟨(some 12), (.mv (.t 4)), none⟩ <|
  .op ⟨(some 13), (.lenl (.t 12)), none⟩ <|
  .op ⟨(some 14), (.mv (.t 3)), none⟩ <|
  .op ⟨(some 15), (.call (.c (.fn (.func 73) [] [])) [(.c (.int .i64 1)), (.t 13), (.t 14)]), none⟩ <|
  .op ⟨(some 16), (.not (.t 15)), none⟩ <|
  .op ⟨(some 17), (.mv (.t 16)), none⟩ <|
  .op ⟨(some 18), (.foff 0 (.t 1)), (some (17, false))⟩ <|
  .op ⟨(some 19), (.load false 1 (.t 18)), (some (17, false))⟩ <|
  .op ⟨(some 20), (.ibin .eql (.t 19) (.c (.int .i64 13))), (some (17, false))⟩ <|
  .op ⟨(some 21), (.mv (.t 20)), (some (17, false))⟩ <|
  .op ⟨(some 22), (.mv (.t 4)), (some (21, true))⟩ <|
  .op ⟨(some 23), (.idx 2 (.t 22) (.c (.int .i64 0))), (some (21, true))⟩ <|
  .op ⟨(some 24), (.idxa 2 1 (.t 23) (.c (.int .i64 0))), (some (21, true))⟩ <|
  .op ⟨(some 25), (.load false 1 (.t 24)), (some (21, true))⟩ <|
  .op ⟨(some 26), (.ibin .neq (.t 25) (.c (.int .i64 (-1)))), (some (21, true))⟩ <|
  .op ⟨(some 27), (.pick (.t 21) (.t 26) (.c (.bool false))), (some (17, false))⟩ <|
  .op ⟨(some 28), (.pick (.t 17) (.c (.bool true)) (.t 27)), none⟩ <|
  .cond (.t 28)
    (.op ⟨(some 2), (.mv (.c (.bool false))), none⟩ <|
      .ret [(.t 2)])
    (.op ⟨(some 29), (.mv (.t 4)), none⟩ <|
      .op ⟨(some 30), (.lenl (.t 29)), none⟩ <|
      .op ⟨(some 31), (.mv (.c (.int .i64 0))), none⟩ <|
      .jump 506 [1, 4, 29, 30, 31])
def T72_506 : TC :=
  .op ⟨(some 32), (.ibin .lss (.t 31) (.t 30)), none⟩ <|
  .cond (.t 32)
    (.op ⟨(some 33), (.mv (.t 31)), none⟩ <|
      .op ⟨(some 34), (.idx 2 (.t 29) (.t 31)), none⟩ <|
      .op ⟨(some 35), (.load true 2 (.t 34)), none⟩ <|
      .op ⟨(some 6), (.alloc 138 [(.int .i64 0), (.int .i64 0)]), none⟩ <|
      .op ⟨(some 5), (.mv (.t 33)), none⟩ <|
      .op ⟨none, (.store 2 (.t 6) (.t 35)), none⟩ <|
      .op ⟨(some 36), (.idxa 2 1 (.t 6) (.c (.int .i64 1))), none⟩ <|
      .op ⟨(some 37), (.load false 1 (.t 36)), none⟩ <|
      .op ⟨(some 38), (.call (.c (.fn (.func 73) [] [])) [(.c (.int .i64 0)), (.t 37), (.c (.int .i64 65536))]), none⟩ <|
      .op ⟨(some 39), (.not (.t 38)), none⟩ <|
      .cond (.t 39)
        (.op ⟨(some 2), (.mv (.c (.bool false))), none⟩ <|
          .ret [(.t 2)])
        (.op ⟨(some 40), (.idxa 2 1 (.t 6) (.c (.int .i64 0))), none⟩ <|
          .op ⟨(some 41), (.load false 1 (.t 40)), none⟩ <|
          .op ⟨(some 42), (.ibin .eql (.t 41) (.c (.int .i64 (-1)))), none⟩ <|
          .cond (.t 42)
            (.op ⟨(some 43), (.mv (.t 5)), none⟩ <|
              .op ⟨(some 44), (.ibin .gtr (.t 43) (.c (.int .i64 0))), none⟩ <|
              .cond (.t 44)
                (.op ⟨(some 2), (.mv (.c (.bool false))), none⟩ <|
                  .ret [(.t 2)])
                (.jump 4051 [1, 4, 29, 30, 31]))
            (.op ⟨(some 45), (.foff 0 (.t 1)), none⟩ <|
              .op ⟨(some 46), (.load false 1 (.t 45)), none⟩ <|
              .op ⟨(some 47), (.ibin .eql (.t 46) (.c (.int .i64 11))), none⟩ <|
              .op ⟨(some 48), (.mv (.t 47)), none⟩ <|
              .op ⟨(some 49), (.idxa 2 1 (.t 6) (.c (.int .i64 0))), (some (48, true))⟩ <|
              .op ⟨(some 50), (.load false 1 (.t 49)), (some (48, true))⟩ <|
              .op ⟨(some 51), (.call (.c (.fn (.func 73) [] [])) [(.c (.int .i64 0)), (.t 50), (.c (.int .i64 255))]), (some (48, true))⟩ <|
              .op ⟨(some 52), (.not (.t 51)), (some (48, true))⟩ <|
              .op ⟨(some 53), (.pick (.t 48) (.t 52) (.c (.bool false))), none⟩ <|
              .op ⟨(some 54), (.mv (.t 53)), none⟩ <|
              .op ⟨(some 55), (.mv (.t 5)), (some (54, false))⟩ <|
              .op ⟨(some 56), (.ibin .gtr (.t 55) (.c (.int .i64 0))), (some (54, false))⟩ <|
              .op ⟨(some 57), (.mv (.t 56)), (some (54, false))⟩ <|
              .op ⟨(some 58), (.mv (.t 4)), (some (57, true))⟩ <|
              .op ⟨(some 59), (.mv (.t 5)), (some (57, true))⟩ <|
              .op ⟨(some 60), (.ibin .sub (.t 59) (.c (.int .i64 1))), (some (57, true))⟩ <|
              .op ⟨(some 61), (.idx 2 (.t 58) (.t 60)), (some (57, true))⟩ <|
              .op ⟨(some 62), (.idxa 2 1 (.t 61) (.c (.int .i64 0))), (some (57, true))⟩ <|
              .op ⟨(some 63), (.load false 1 (.t 62)), (some (57, true))⟩ <|
              .op ⟨(some 64), (.ibin .neq (.t 63) (.c (.int .i64 (-1)))), (some (57, true))⟩ <|
              .op ⟨(some 65), (.pick (.t 57) (.t 64) (.c (.bool false))), (some (54, false))⟩ <|
              .op ⟨(some 66), (.mv (.t 65)), (some (54, false))⟩ <|
              .op ⟨(some 67), (.mv (.t 4)), (some (66, true))⟩ <|
              .op ⟨(some 68), (.mv (.t 5)), (some (66, true))⟩ <|
              .op ⟨(some 69), (.ibin .sub (.t 68) (.c (.int .i64 1))), (some (66, true))⟩ <|
              .op ⟨(some 70), (.idx 2 (.t 67) (.t 69)), (some (66, true))⟩ <|
              .op ⟨(some 71), (.idxa 2 1 (.t 70) (.c (.int .i64 0))), (some (66, true))⟩ <|
              .op ⟨(some 72), (.load false 1 (.t 71)), (some (66, true))⟩ <|
              .op ⟨(some 73), (.idxa 2 1 (.t 6) (.c (.int .i64 0))), (some (66, true))⟩ <|
              .op ⟨(some 74), (.load false 1 (.t 73)), (some (66, true))⟩ <|
              .op ⟨(some 75), (.ibin .geq (.t 72) (.t 74)), (some (66, true))⟩ <|
              .op ⟨(some 76), (.pick (.t 66) (.t 75) (.c (.bool false))), (some (54, false))⟩ <|
              .op ⟨(some 77), (.pick (.t 54) (.c (.bool true)) (.t 76)), none⟩ <|
              .cond (.t 77)
                (.op ⟨(some 2), (.mv (.c (.bool false))), none⟩ <|
                  .ret [(.t 2)])
                (.jump 4051 [1, 4, 29, 30, 31]))))
    (.op ⟨(some 2), (.mv (.c (.bool true))), none⟩ <|
      .ret [(.t 2)])
def T72_4051 : TC :=
  .op ⟨(some 78), (.ibin .add (.t 31) (.c (.int .i64 1))), none⟩ <|
  .op ⟨(some 31), (.mv (.t 78)), none⟩ <|
  .jump 506 [1, 4, 29, 30, 31]
def fc72 : FC := ⟨⟨false, false⟩, T72, lookL [(7, [1, 3], T72_7), (506, [1, 4, 29, 30, 31], T72_506), (4051, [1, 4, 29, 30, 31], T72_4051)]⟩
/-- hammock/instr.within -/
def T73 : TC :=
  .op ⟨(some 6), (.mv (.c (.bool false))), none⟩ <|
  .op ⟨(some 7), (.mv (.t 0)), none⟩ <|
  .op ⟨(some 8), (.mv (.t 1)), none⟩ <|
  .op ⟨(some 9), (.ibin .leq (.t 7) (.t 8)), none⟩ <|
  .op ⟨(some 10), (.mv (.t 9)), none⟩ <|
  .op ⟨(some 11), (.mv (.t 1)), (some (10, true))⟩ <|
  .op ⟨(some 12), (.mv (.t 2)), (some (10, true))⟩ <|
  .op ⟨(some 13), (.ibin .leq (.t 11) (.t 12)), (some (10, true))⟩ <|
  .op ⟨(some 14), (.pick (.t 10) (.t 13) (.c (.bool false))), none⟩ <|
  .op ⟨(some 6), (.mv (.t 14)), none⟩ <|
  .ret [(.t 6)]
def fc73 : FC := ⟨⟨false, false⟩, T73, lookL []⟩
/-- slices.Index[[]string,string] -/
def T105 : TC :=
  .op ⟨(some 4), (.mv (.c (.int .i64 0))), none⟩ <|
  .op ⟨(some 6), (.mv (.t 0)), none⟩ <|
  .op ⟨(some 7), (.lenl (.t 6)), none⟩ <|
  .op ⟨(some 8), (.mv (.c (.int .i64 0))), none⟩ <|
  .jump 26 [0, 1, 7, 8]
def T105_26 : TC :=
  .op ⟨(some 9), (.ibin .lss (.t 8) (.t 7)), none⟩ <|
  .cond (.t 9)
    (.op ⟨(some 10), (.mv (.t 8)), none⟩ <|
      .op ⟨(some 5), (.mv (.t 10)), none⟩ <|
      .op ⟨(some 11), (.mv (.t 1)), none⟩ <|
      .op ⟨(some 12), (.mv (.t 0)), none⟩ <|
      .op ⟨(some 13), (.mv (.t 5)), none⟩ <|
      .op ⟨(some 14), (.idx 1 (.t 12) (.t 13)), none⟩ <|
      .op ⟨(some 15), (.load false 1 (.t 14)), none⟩ <|
      .op ⟨(some 16), (.sbin .eql (.t 11) (.t 15)), none⟩ <|
      .cond (.t 16)
        (.op ⟨(some 17), (.mv (.t 5)), none⟩ <|
          .op ⟨(some 4), (.mv (.t 17)), none⟩ <|
          .ret [(.t 4)])
        (.op ⟨(some 18), (.ibin .add (.t 8) (.c (.int .i64 1))), none⟩ <|
          .op ⟨(some 8), (.mv (.t 18)), none⟩ <|
          .jump 26 [0, 1, 7, 8]))
    (.op ⟨(some 4), (.mv (.c (.int .i64 (-1)))), none⟩ <|
      .ret [(.t 4)])
def fc105 : FC := ⟨⟨false, false⟩, T105, lookL [(26, [0, 1, 7, 8], T105_26)]⟩
/-- hammock/instr.number -/
def T110 : TC :=
  .op ⟨(some 2), (.mv (.c (.int .i64 0))), none⟩ <|
  .op ⟨(some 3), (.mv (.c (.bool false))), none⟩ <|
  .op ⟨(some 7), (.mv (.t 0)), none⟩ <|
  .op ⟨(some 8), (.call (.c (.fn (.func 169) [] [])) [(.t 7)]), none⟩ <|
  .op ⟨(some 6), (.mv (.t 8)), none⟩ <|
  .op ⟨(some 9), (.extr 0 (.t 6)), none⟩ <|
  .op ⟨(some 10), (.extr 1 (.t 6)), none⟩ <|
  .op ⟨(some 4), (.mv (.t 9)), none⟩ <|
  .op ⟨(some 5), (.mv (.t 10)), none⟩ <|
  .op ⟨(some 11), (.mv (.t 4)), none⟩ <|
  .op ⟨(some 12), (.mv (.t 5)), none⟩ <|
  .op ⟨(some 13), (.eqnil .ifc false (.t 12)), none⟩ <|
  .op ⟨(some 14), (.mv (.t 13)), none⟩ <|
  .op ⟨(some 15), (.mv (.t 4)), (some (14, true))⟩ <|
  .op ⟨(some 16), (.call (.c (.fn (.func 63) [] [])) [(.t 15)]), (some (14, true))⟩ <|
  .op ⟨(some 17), (.mv (.t 0)), (some (14, true))⟩ <|
  .op ⟨(some 18), (.sbin .eql (.t 16) (.t 17)), (some (14, true))⟩ <|
  .op ⟨(some 19), (.pick (.t 14) (.t 18) (.c (.bool false))), none⟩ <|
  .op ⟨(some 2), (.mv (.t 11)), none⟩ <|
  .op ⟨(some 3), (.mv (.t 19)), none⟩ <|
  .ret [(.t 2), (.t 3)]
def fc110 : FC := ⟨⟨false, false⟩, T110, lookL []⟩
/-- strings.SplitSeq -/
def T111 : TC :=
  .op ⟨(some 4), (.mv (.c .nilf)), none⟩ <|
  .op ⟨(some 5), (.mv (.t 0)), none⟩ <|
  .op ⟨(some 6), (.mv (.t 1)), none⟩ <|
  .op ⟨(some 7), (.call (.c (.fn (.func 170) [] [])) [(.t 5), (.t 6), (.c (.int .i64 0))]), none⟩ <|
  .op ⟨(some 4), (.mv (.t 7)), none⟩ <|
  .ret [(.t 4)]
def fc111 : FC := ⟨⟨false, false⟩, T111, lookL []⟩
/-- hammock/instr.forms -/
def T112 : TC :=
  .op ⟨(some 0), (.alloc 199 [(.str ⟨#[]⟩), (.int .i64 0), (.int .i64 0), (.int .i64 0), (.int .i64 0), (.int .i64 0), (.int .i64 0), (.int .i64 0), (.str ⟨#[]⟩), (.int .i64 0), (.int .i64 0), (.int .i64 0), (.int .i64 0), (.int .i64 0), (.int .i64 0), (.int .i64 0), (.str ⟨#[]⟩), (.int .i64 0), (.int .i64 0), (.int .i64 0), (.int .i64 0), (.int .i64 0), (.int .i64 0), (.int .i64 0), (.str ⟨#[]⟩), (.int .i64 0), (.int .i64 0), (.int .i64 0), (.int .i64 0), (.int .i64 0), (.int .i64 0), (.int .i64 0), (.str ⟨#[]⟩), (.int .i64 0), (.int .i64 0), (.int .i64 0), (.int .i64 0), (.int .i64 0), (.int .i64 0), (.int .i64 0), (.str ⟨#[]⟩), (.int .i64 0), (.int .i64 0), (.int .i64 0), (.int .i64 0), (.int .i64 0), (.int .i64 0), (.int .i64 0), (.str ⟨#[]⟩), (.int .i64 0), (.int .i64 0), (.int .i64 0), (.int .i64 0), (.int .i64 0), (.int .i64 0), (.int .i64 0), (.str ⟨#[]⟩), (.int .i64 0), (.int .i64 0), (.int .i64 0), (.int .i64 0), (.int .i64 0), (.int .i64 0), (.int .i64 0), (.str ⟨#[]⟩), (.int .i64 0), (.int .i64 0), (.int .i64 0), (.int .i64 0), (.int .i64 0), (.int .i64 0), (.int .i64 0), (.str ⟨#[]⟩), (.int .i64 0), (.int .i64 0), (.int .i64 0), (.int .i64 0), (.int .i64 0), (.int .i64 0), (.int .i64 0), (.str ⟨#[]⟩), (.int .i64 0), (.int .i64 0), (.int .i64 0), (.int .i64 0), (.int .i64 0), (.int .i64 0), (.int .i64 0), (.str ⟨#[]⟩), (.int .i64 0), (.int .i64 0), (.int .i64 0), (.int .i64 0), (.int .i64 0), (.int .i64 0), (.int .i64 0), (.str ⟨#[]⟩), (.int .i64 0), (.int .i64 0), (.int .i64 0), (.int .i64 0), (.int .i64 0), (.int .i64 0), (.int .i64 0), (.str ⟨#[]⟩), (.int .i64 0), (.int .i64 0), (.int .i64 0), (.int .i64 0), (.int .i64 0), (.int .i64 0), (.int .i64 0), (.str ⟨#[]⟩), (.int .i64 0), (.int .i64 0), (.int .i64 0), (.int .i64 0), (.int .i64 0), (.int .i64 0), (.int .i64 0), (.str ⟨#[]⟩), (.int .i64 0), (.int .i64 0), (.int .i64 0), (.int .i64 0), (.int .i64 0), (.int .i64 0), (.int .i64 0), (.str ⟨#[]⟩), (.int .i64 0), (.int .i64 0), (.int .i64 0), (.int .i64 0), (.int .i64 0), (.int .i64 0), (.int .i64 0)]), none⟩ <|
  .op ⟨(some 1), (.mv (.c (.int .i64 65536))), none⟩ <|
  .op ⟨(some 2), (.build [(.str ⟨#[]⟩), (.int .i64 0), (.int .i64 0), (.int .i64 0), (.int .i64 0), (.int .i64 0), (.int .i64 0), (.int .i64 0)] [(0, 1, (.c (.str ⟨#[105, 110, 116]⟩))), (1, 1, (.c (.int .i64 1))), (2, 1, (.c (.int .i64 0))), (3, 1, (.c (.int .i64 0))), (4, 1, (.c (.int .i64 0))), (5, 1, (.c (.int .i64 0))), (6, 1, (.c (.int .i64 1))), (7, 1, (.c (.int .i64 0)))]), none⟩ <|
  .op ⟨(some 3), (.mv (.t 1)), none⟩ <|
  .op ⟨(some 4), (.build [(.str ⟨#[]⟩), (.int .i64 0), (.int .i64 0), (.int .i64 0), (.int .i64 0), (.int .i64 0), (.int .i64 0), (.int .i64 0)] [(0, 1, (.c (.str ⟨#[103, 108, 111, 98, 97, 108, 38]⟩))), (1, 1, (.c (.int .i64 1))), (2, 1, (.c (.int .i64 0))), (3, 1, (.t 3)), (4, 1, (.c (.int .i64 0))), (5, 1, (.c (.int .i64 0))), (6, 1, (.c (.int .i64 1))), (7, 1, (.c (.int .i64 0)))]), none⟩ <|
  .op ⟨(some 5), (.mv (.t 1)), none⟩ <|
  .op ⟨(some 6), (.build [(.str ⟨#[]⟩), (.int .i64 0), (.int .i64 0), (.int .i64 0), (.int .i64 0), (.int .i64 0), (.int .i64 0), (.int .i64 0)] [(0, 1, (.c (.str ⟨#[112, 117, 115, 104]⟩))), (1, 1, (.c (.int .i64 1))), (2, 1, (.c (.int .i64 0))), (3, 1, (.t 5)), (4, 1, (.c (.int .i64 1))), (5, 1, (.c (.int .i64 1))), (6, 1, (.c (.int .i64 1))), (7, 1, (.c (.int .i64 0)))]), none⟩ <|
  .op ⟨(some 7), (.build [(.str ⟨#[]⟩), (.int .i64 0), (.int .i64 0), (.int .i64 0), (.int .i64 0), (.int .i64 0), (.int .i64 0), (.int .i64 0)] [(0, 1, (.c (.str ⟨#[109, 107, 97, 112]⟩))), (1, 1, (.c (.int .i64 0))), (2, 1, (.c (.int .i64 0))), (3, 1, (.c (.int .i64 0))), (4, 1, (.c (.int .i64 2))), (5, 1, (.c (.int .i64 0))), (6, 1, (.c (.int .i64 (-1)))), (7, 1, (.c (.int .i64 0)))]), none⟩ <|
  .op ⟨(some 8), (.mv (.t 1)), none⟩ <|
  .op ⟨(some 9), (.build [(.str ⟨#[]⟩), (.int .i64 0), (.int .i64 0), (.int .i64 0), (.int .i64 0), (.int .i64 0), (.int .i64 0), (.int .i64 0)] [(0, 1, (.c (.str ⟨#[117, 112, 100, 97, 116, 101]⟩))), (1, 1, (.c (.int .i64 1))), (2, 1, (.c (.int .i64 0))), (3, 1, (.t 8)), (4, 1, (.c (.int .i64 2))), (5, 1, (.c (.int .i64 1))), (6, 1, (.c (.int .i64 (-1)))), (7, 1, (.c (.int .i64 0)))]), none⟩ <|
  .op ⟨(some 10), (.mv (.t 1)), none⟩ <|
  .op ⟨(some 11), (.build [(.str ⟨#[]⟩), (.int .i64 0), (.int .i64 0), (.int .i64 0), (.int .i64 0), (.int .i64 0), (.int .i64 0), (.int .i64 0)] [(0, 1, (.c (.str ⟨#[112, 111, 112]⟩))), (1, 1, (.c (.int .i64 1))), (2, 1, (.c (.int .i64 0))), (3, 1, (.t 10)), (4, 1, (.c (.int .i64 0))), (5, 1, (.c (.int .i64 1))), (6, 1, (.c (.int .i64 0))), (7, 1, (.c (.int .i64 (-1))))]), none⟩ <|
  .op ⟨(some 12), (.mv (.t 1)), none⟩ <|
  .op ⟨(some 13), (.build [(.str ⟨#[]⟩), (.int .i64 0), (.int .i64 0), (.int .i64 0), (.int .i64 0), (.int .i64 0), (.int .i64 0), (.int .i64 0)] [(0, 1, (.c (.str ⟨#[115, 108, 105, 100, 101]⟩))), (1, 1, (.c (.int .i64 1))), (2, 1, (.c (.int .i64 0))), (3, 1, (.t 12)), (4, 1, (.c (.int .i64 1))), (5, 1, (.c (.int .i64 1))), (6, 1, (.c (.int .i64 0))), (7, 1, (.c (.int .i64 (-1))))]), none⟩ <|
  .op ⟨(some 14), (.mv (.t 1)), none⟩ <|
  .op ⟨(some 15), (.build [(.str ⟨#[]⟩), (.int .i64 0), (.int .i64 0), (.int .i64 0), (.int .i64 0), (.int .i64 0), (.int .i64 0), (.int .i64 0)] [(0, 1, (.c (.str ⟨#[97, 108, 108, 111, 99]⟩))), (1, 1, (.c (.int .i64 1))), (2, 1, (.c (.int .i64 1))), (3, 1, (.t 14)), (4, 1, (.c (.int .i64 0))), (5, 1, (.c (.int .i64 0))), (6, 1, (.c (.int .i64 0))), (7, 1, (.c (.int .i64 1)))]), none⟩ <|
  .op ⟨(some 16), (.build [(.str ⟨#[]⟩), (.int .i64 0), (.int .i64 0), (.int .i64 0), (.int .i64 0), (.int .i64 0), (.int .i64 0), (.int .i64 0)] [(0, 1, (.c (.str ⟨#[101, 118, 97, 108]⟩))), (1, 1, (.c (.int .i64 0))), (2, 1, (.c (.int .i64 0))), (3, 1, (.c (.int .i64 0))), (4, 1, (.c (.int .i64 1))), (5, 1, (.c (.int .i64 0))), (6, 1, (.c (.int .i64 0))), (7, 1, (.c (.int .i64 0)))]), none⟩ <|
  .op ⟨(some 17), (.build [(.str ⟨#[]⟩), (.int .i64 0), (.int .i64 0), (.int .i64 0), (.int .i64 0), (.int .i64 0), (.int .i64 0), (.int .i64 0)] [(0, 1, (.c (.str ⟨#[117, 110, 119, 105, 110, 100]⟩))), (1, 1, (.c (.int .i64 0))), (2, 1, (.c (.int .i64 0))), (3, 1, (.c (.int .i64 0))), (4, 1, (.c (.int .i64 1))), (5, 1, (.c (.int .i64 0))), (6, 1, (.c (.int .i64 0))), (7, 1, (.c (.int .i64 0)))]), none⟩ <|
  .op ⟨(some 18), (.build [(.str ⟨#[]⟩), (.int .i64 0), (.int .i64 0), (.int .i64 0), (.int .i64 0), (.int .i64 0), (.int .i64 0), (.int .i64 0)] [(0, 1, (.c (.str ⟨#[112, 97, 99, 107]⟩))), (1, 1, (.c (.int .i64 2))), (2, 1, (.c (.int .i64 0))), (3, 1, (.c (.int .i64 255))), (4, 1, (.c (.int .i64 0))), (5, 1, (.c (.int .i64 0))), (6, 1, (.c (.int .i64 1))), (7, 1, (.c (.int .i64 0)))]), none⟩ <|
  .op ⟨(some 19), (.build [(.str ⟨#[]⟩), (.int .i64 0), (.int .i64 0), (.int .i64 0), (.int .i64 0), (.int .i64 0), (.int .i64 0), (.int .i64 0)] [(0, 1, (.c (.str ⟨#[99, 97, 115, 101]⟩))), (1, 1, (.c (.int .i64 (-1)))), (2, 1, (.c (.int .i64 0))), (3, 1, (.c (.int .i64 0))), (4, 1, (.c (.int .i64 1))), (5, 1, (.c (.int .i64 0))), (6, 1, (.c (.int .i64 0))), (7, 1, (.c (.int .i64 0)))]), none⟩ <|
  .op ⟨(some 20), (.mv (.t 1)), none⟩ <|
  .op ⟨(some 21), (.build [(.str ⟨#[]⟩), (.int .i64 0), (.int .i64 0), (.int .i64 0), (.int .i64 0), (.int .i64 0), (.int .i64 0), (.int .i64 0)] [(0, 1, (.c (.str ⟨#[115, 112, 108, 105, 116]⟩))), (1, 1, (.c (.int .i64 1))), (2, 1, (.c (.int .i64 0))), (3, 1, (.t 20)), (4, 1, (.c (.int .i64 1))), (5, 1, (.c (.int .i64 0))), (6, 1, (.c (.int .i64 (-1)))), (7, 1, (.c (.int .i64 1)))]), none⟩ <|
  .op ⟨(some 22), (.build [(.str ⟨#[]⟩), (.int .i64 0), (.int .i64 0), (.int .i64 0), (.int .i64 0), (.int .i64 0), (.int .i64 0), (.int .i64 0)] [(0, 1, (.c (.str ⟨#[115, 119, 105, 116, 99, 104]⟩))), (1, 1, (.c (.int .i64 (-1)))), (2, 1, (.c (.int .i64 0))), (3, 1, (.c (.int .i64 0))), (4, 1, (.c (.int .i64 1))), (5, 1, (.c (.int .i64 0))), (6, 1, (.c (.int .i64 0))), (7, 1, (.c (.int .i64 0)))]), none⟩ <|
  .op ⟨(some 23), (.build [(.str ⟨#[]⟩), (.int .i64 0), (.int .i64 0), (.int .i64 0), (.int .i64 0), (.int .i64 0), (.int .i64 0), (.int .i64 0)] [(0, 1, (.c (.str ⟨#[112, 114, 105, 109]⟩))), (1, 1, (.c (.int .i64 1))), (2, 1, (.c (.int .i64 0))), (3, 1, (.c (.int .i64 10))), (4, 1, (.c (.int .i64 2))), (5, 1, (.c (.int .i64 0))), (6, 1, (.c (.int .i64 (-1)))), (7, 1, (.c (.int .i64 0)))]), none⟩ <|
  .op ⟨(some 24), (.build [(.str ⟨#[]⟩), (.int .i64 0), (.int .i64 0), (.int .i64 0), (.int .i64 0), (.int .i64 0), (.int .i64 0), (.int .i64 0)] [(0, 1, (.c (.str ⟨#[102, 97, 105, 108]⟩))), (1, 1, (.c (.int .i64 0))), (2, 1, (.c (.int .i64 0))), (3, 1, (.c (.int .i64 0))), (4, 1, (.c (.int .i64 0))), (5, 1, (.c (.int .i64 0))), (6, 1, (.c (.int .i64 0))), (7, 1, (.c (.int .i64 0)))]), none⟩ <|
  .op ⟨(some 25), (.mv (.t 1)), none⟩ <|
  .op ⟨(some 26), (.build [(.str ⟨#[]⟩), (.int .i64 0), (.int .i64 0), (.int .i64 0), (.int .i64 0), (.int .i64 0), (.int .i64 0), (.int .i64 0)] [(0, 1, (.c (.str ⟨#[106, 117, 109, 112]⟩))), (1, 1, (.c (.int .i64 1))), (2, 1, (.c (.int .i64 0))), (3, 1, (.t 25)), (4, 1, (.c (.int .i64 0))), (5, 1, (.c (.int .i64 0))), (6, 1, (.c (.int .i64 0))), (7, 1, (.c (.int .i64 0)))]), none⟩ <|
  .op ⟨(some 27), (.build [(.str ⟨#[]⟩), (.int .i64 0), (.int .i64 0), (.int .i64 0), (.int .i64 0), (.int .i64 0), (.int .i64 0), (.int .i64 0), (.str ⟨#[]⟩), (.int .i64 0), (.int .i64 0), (.int .i64 0), (.int .i64 0), (.int .i64 0), (.int .i64 0), (.int .i64 0), (.str ⟨#[]⟩), (.int .i64 0), (.int .i64 0), (.int .i64 0), (.int .i64 0), (.int .i64 0), (.int .i64 0), (.int .i64 0), (.str ⟨#[]⟩), (.int .i64 0), (.int .i64 0), (.int .i64 0), (.int .i64 0), (.int .i64 0), (.int .i64 0), (.int .i64 0), (.str ⟨#[]⟩), (.int .i64 0), (.int .i64 0), (.int .i64 0), (.int .i64 0), (.int .i64 0), (.int .i64 0), (.int .i64 0), (.str ⟨#[]⟩), (.int .i64 0), (.int .i64 0), (.int .i64 0), (.int .i64 0), (.int .i64 0), (.int .i64 0), (.int .i64 0), (.str ⟨#[]⟩), (.int .i64 0), (.int .i64 0), (.int .i64 0), (.int .i64 0), (.int .i64 0), (.int .i64 0), (.int .i64 0), (.str ⟨#[]⟩), (.int .i64 0), (.int .i64 0), (.int .i64 0), (.int .i64 0), (.int .i64 0), (.int .i64 0), (.int .i64 0), (.str ⟨#[]⟩), (.int .i64 0), (.int .i64 0), (.int .i64 0), (.int .i64 0), (.int .i64 0), (.int .i64 0), (.int .i64 0), (.str ⟨#[]⟩), (.int .i64 0), (.int .i64 0), (.int .i64 0), (.int .i64 0), (.int .i64 0), (.int .i64 0), (.int .i64 0), (.str ⟨#[]⟩), (.int .i64 0), (.int .i64 0), (.int .i64 0), (.int .i64 0), (.int .i64 0), (.int .i64 0), (.int .i64 0), (.str ⟨#[]⟩), (.int .i64 0), (.int .i64 0), (.int .i64 0), (.int .i64 0), (.int .i64 0), (.int .i64 0), (.int .i64 0), (.str ⟨#[]⟩), (.int .i64 0), (.int .i64 0), (.int .i64 0), (.int .i64 0), (.int .i64 0), (.int .i64 0), (.int .i64 0), (.str ⟨#[]⟩), (.int .i64 0), (.int .i64 0), (.int .i64 0), (.int .i64 0), (.int .i64 0), (.int .i64 0), (.int .i64 0), (.str ⟨#[]⟩), (.int .i64 0), (.int .i64 0), (.int .i64 0), (.int .i64 0), (.int .i64 0), (.int .i64 0), (.int .i64 0), (.str ⟨#[]⟩), (.int .i64 0), (.int .i64 0), (.int .i64 0), (.int .i64 0), (.int .i64 0), (.int .i64 0), (.int .i64 0), (.str ⟨#[]⟩), (.int .i64 0), (.int .i64 0), (.int .i64 0), (.int .i64 0), (.int .i64 0), (.int .i64 0), (.int .i64 0)] [(0, 8, (.t 2)), (8, 8, (.t 4)), (16, 8, (.t 6)), (24, 8, (.t 7)), (32, 8, (.t 9)), (40, 8, (.t 11)), (48, 8, (.t 13)), (56, 8, (.t 15)), (64, 8, (.t 16)), (72, 8, (.t 17)), (80, 8, (.t 18)), (88, 8, (.t 19)), (96, 8, (.t 21)), (104, 8, (.t 22)), (112, 8, (.t 23)), (120, 8, (.t 24)), (128, 8, (.t 26))]), none⟩ <|
  .op ⟨none, (.store 136 (.t 0) (.t 27)), none⟩ <|
  .ret [(.c true 136 0)]
def fc112 : FC := ⟨⟨false, false⟩, T112, lookL []⟩
/-- slices.IndexFunc[[]hammock/instr.form,hammock/instr.form] -/
def T113 : TC :=
  .op ⟨(some 4), (.mv (.c (.int .i64 0))), none⟩ <|
  .op ⟨(some 6), (.mv (.t 0)), none⟩ <|
  .op ⟨(some 7), (.lenl (.t 6)), none⟩ <|
  .op ⟨(some 8), (.mv (.c (.int .i64 0))), none⟩ <|
  .jump 26 [0, 1, 7, 8]
def T113_26 : TC :=
  .op ⟨(some 9), (.ibin .lss (.t 8) (.t 7)), none⟩ <|
  .cond (.t 9)
    (.op ⟨(some 10), (.mv (.t 8)), none⟩ <|
      .op ⟨(some 5), (.mv (.t 10)), none⟩ <|
      .op ⟨(some 11), (.mv (.t 1)), none⟩ <|
      .op ⟨(some 12), (.mv (.t 0)), none⟩ <|
      .op ⟨(some 13), (.mv (.t 5)), none⟩ <|
      .op ⟨(some 14), (.idx 8 (.t 12) (.t 13)), none⟩ <|
      .op ⟨(some 15), (.load true 8 (.t 14)), none⟩ <|
      .op ⟨(some 16), (.call (.t 11) [(.t 15)]), none⟩ <|
      .cond (.t 16)
        (.op ⟨(some 17), (.mv (.t 5)), none⟩ <|
          .op ⟨(some 4), (.mv (.t 17)), none⟩ <|
          .ret [(.t 4)])
        (.op ⟨(some 18), (.ibin .add (.t 8) (.c (.int .i64 1))), none⟩ <|
          .op ⟨(some 8), (.mv (.t 18)), none⟩ <|
          .jump 26 [0, 1, 7, 8]))
    (.op ⟨(some 4), (.mv (.c (.int .i64 (-1)))), none⟩ <|
      .ret [(.t 4)])
def fc113 : FC := ⟨⟨false, false⟩, T113, lookL [(26, [0, 1, 7, 8], T113_26)]⟩
/-- hammock/instr.parse$1 -/
def T114 : TC :=
  .op ⟨(some 2), (.box 141 (.t 0)), none⟩ <|
  .op ⟨(some 3), (.mv (.c (.bool false))), none⟩ <|
  .op ⟨(some 4), (.foff 0 (.t 2)), none⟩ <|
  .op ⟨(some 5), (.load false 1 (.t 4)), none⟩ <|
  .op ⟨(some 6), (.load false 1 (.t 1)), none⟩ <|
  .op ⟨(some 7), (.idx 1 (.t 6) (.c (.int .i64 0))), none⟩ <|
  .op ⟨(some 8), (.load false 1 (.t 7)), none⟩ <|
  .op ⟨(some 9), (.sbin .eql (.t 5) (.t 8)), none⟩ <|
  .op ⟨(some 3), (.mv (.t 9)), none⟩ <|
  .ret [(.t 3)]
def fc114 : FC := ⟨⟨false, false⟩, T114, lookL []⟩
/-- hammock/instr.parsePair -/
def T115 : TC :=
  .op ⟨(some 2), (.alloc 138 [(.int .i64 0), (.int .i64 0)]), none⟩ <|
  .op ⟨(some 3), (.mv (.c (.bool false))), none⟩ <|
  .op ⟨(some 12), (.mv (.t 0)), none⟩ <|
  .op ⟨(some 13), (.call (.c (.fn (.func 171) [] [])) [(.t 12), (.c (.str ⟨#[58]⟩))]), none⟩ <|
  .op ⟨(some 11), (.mv (.t 13)), none⟩ <|
  .op ⟨(some 14), (.extr 0 (.t 11)), none⟩ <|
  .op ⟨(some 15), (.extr 1 (.t 11)), none⟩ <|
  .op ⟨(some 16), (.extr 2 (.t 11)), none⟩ <|
  .op ⟨(some 4), (.mv (.t 14)), none⟩ <|
  .op ⟨(some 5), (.mv (.t 15)), none⟩ <|
  .op ⟨(some 6), (.mv (.t 16)), none⟩ <|
  .op ⟨(some 18), (.mv (.t 5)), none⟩ <|
  .op ⟨(some 19), (.call (.c (.fn (.func 110) [] [])) [(.t 18)]), none⟩ <|
  .op ⟨(some 17), (.mv (.t 19)), none⟩ <|
  .op ⟨(some 20), (.extr 0 (.t 17)), none⟩ <|
  .op ⟨(some 21), (.extr 1 (.t 17)), none⟩ <|
  .op ⟨(some 7), (.mv (.t 20)), none⟩ <|
  .op ⟨(some 8), (.mv (.t 21)), none⟩ <|
  .op ⟨(some 22), (.mv (.t 4)), none⟩ <|
  .op ⟨(some 23), (.sbin .eql (.t 22) (.c (.str ⟨#[95]⟩))), none⟩ <|
  .cond (.t 23)
    (.op ⟨(some 24), (.mv (.t 7)), none⟩ <|
      .op ⟨(some 25), (.build [(.int .i64 0), (.int .i64 0)] [(0, 1, (.c (.int .i64 (-1)))), (1, 1, (.t 24))]), none⟩ <|
      .op ⟨(some 26), (.mv (.t 6)), none⟩ <|
      .op ⟨(some 27), (.mv (.t 26)), none⟩ <|
      .op ⟨(some 28), (.mv (.t 8)), (some (27, true))⟩ <|
      .op ⟨(some 29), (.pick (.t 27) (.t 28) (.c (.bool false))), none⟩ <|
      .op ⟨none, (.store 2 (.t 2) (.t 25)), none⟩ <|
      .op ⟨(some 3), (.mv (.t 29)), none⟩ <|
      .ret [(.c true 2 2), (.t 3)])
    (.op ⟨(some 31), (.mv (.t 4)), none⟩ <|
      .op ⟨(some 32), (.call (.c (.fn (.func 110) [] [])) [(.t 31)]), none⟩ <|
      .op ⟨(some 30), (.mv (.t 32)), none⟩ <|
      .op ⟨(some 33), (.extr 0 (.t 30)), none⟩ <|
      .op ⟨(some 34), (.extr 1 (.t 30)), none⟩ <|
      .op ⟨(some 9), (.mv (.t 33)), none⟩ <|
      .op ⟨(some 10), (.mv (.t 34)), none⟩ <|
      .op ⟨(some 35), (.mv (.t 9)), none⟩ <|
      .op ⟨(some 36), (.mv (.t 7)), none⟩ <|
      .op ⟨(some 37), (.build [(.int .i64 0), (.int .i64 0)] [(0, 1, (.t 35)), (1, 1, (.t 36))]), none⟩ <|
      .op ⟨(some 38), (.mv (.t 6)), none⟩ <|
      .op ⟨(some 39), (.mv (.t 38)), none⟩ <|
      .op ⟨(some 40), (.mv (.t 8)), (some (39, true))⟩ <|
      .op ⟨(some 41), (.pick (.t 39) (.t 40) (.c (.bool false))), none⟩ <|
      .op ⟨(some 42), (.mv (.t 41)), none⟩ <|
      .op ⟨(some 43), (.mv (.t 10)), (some (42, true))⟩ <|
      .op ⟨(some 44), (.pick (.t 42) (.t 43) (.c (.bool false))), none⟩ <|
      .op ⟨(some 45), (.mv (.t 44)), none⟩ <|
      .op ⟨(some 46), (.mv (.t 9)), (some (45, true))⟩ <|
      .op ⟨(some 47), (.ibin .neq (.t 46) (.c (.int .i64 (-1)))), (some (45, true))⟩ <|
      .op ⟨(some 48), (.pick (.t 45) (.t 47) (.c (.bool false))), none⟩ <|
      .op ⟨none, (.store 2 (.t 2) (.t 37)), none⟩ <|
      .op ⟨(some 3), (.mv (.t 48)), none⟩ <|
      .ret [(.c true 2 2), (.t 3)])
def fc115 : FC := ⟨⟨false, false⟩, T115, lookL []⟩
/-- slices.IndexFunc[[]hammock/instr.Global,hammock/instr.Global] -/
def T123 : TC :=
  .op ⟨(some 4), (.mv (.c (.int .i64 0))), none⟩ <|
  .op ⟨(some 6), (.mv (.t 0)), none⟩ <|
  .op ⟨(some 7), (.lenl (.t 6)), none⟩ <|
  .op ⟨(some 8), (.mv (.c (.int .i64 0))), none⟩ <|
  .jump 26 [0, 1, 7, 8]
def T123_26 : TC :=
  .op ⟨(some 9), (.ibin .lss (.t 8) (.t 7)), none⟩ <|
  .cond (.t 9)
    (.op ⟨(some 10), (.mv (.t 8)), none⟩ <|
      .op ⟨(some 5), (.mv (.t 10)), none⟩ <|
      .op ⟨(some 11), (.mv (.t 1)), none⟩ <|
      .op ⟨(some 12), (.mv (.t 0)), none⟩ <|
      .op ⟨(some 13), (.mv (.t 5)), none⟩ <|
      .op ⟨(some 14), (.idx 3 (.t 12) (.t 13)), none⟩ <|
      .op ⟨(some 15), (.load true 3 (.t 14)), none⟩ <|
      .op ⟨(some 16), (.call (.t 11) [(.t 15)]), none⟩ <|
      .cond (.t 16)
        (.op ⟨(some 17), (.mv (.t 5)), none⟩ <|
          .op ⟨(some 4), (.mv (.t 17)), none⟩ <|
          .ret [(.t 4)])
        (.op ⟨(some 18), (.ibin .add (.t 8) (.c (.int .i64 1))), none⟩ <|
          .op ⟨(some 8), (.mv (.t 18)), none⟩ <|
          .jump 26 [0, 1, 7, 8]))
    (.op ⟨(some 4), (.mv (.c (.int .i64 (-1)))), none⟩ <|
      .ret [(.t 4)])
def fc123 : FC := ⟨⟨false, false⟩, T123, lookL [(26, [0, 1, 7, 8], T123_26)]⟩
/-- slices.IndexFunc[[]hammock/instr.Instr,hammock/instr.Instr] -/
def T125 : TC :=
  .op ⟨(some 4), (.mv (.c (.int .i64 0))), none⟩ <|
  .op ⟨(some 6), (.mv (.t 0)), none⟩ <|
  .op ⟨(some 7), (.lenl (.t 6)), none⟩ <|
  .op ⟨(some 8), (.mv (.c (.int .i64 0))), none⟩ <|
  .jump 26 [0, 1, 7, 8]
def T125_26 : TC :=
  .op ⟨(some 9), (.ibin .lss (.t 8) (.t 7)), none⟩ <|
  .cond (.t 9)
    (.op ⟨(some 10), (.mv (.t 8)), none⟩ <|
      .op ⟨(some 5), (.mv (.t 10)), none⟩ <|
      .op ⟨(some 11), (.mv (.t 1)), none⟩ <|
      .op ⟨(some 12), (.mv (.t 0)), none⟩ <|
      .op ⟨(some 13), (.mv (.t 5)), none⟩ <|
      .op ⟨(some 14), (.idx 4 (.t 12) (.t 13)), none⟩ <|
      .op ⟨(some 15), (.load true 4 (.t 14)), none⟩ <|
      .op ⟨(some 16), (.call (.t 11) [(.t 15)]), none⟩ <|
      .cond (.t 16)
        (.op ⟨(some 17), (.mv (.t 5)), none⟩ <|
          .op ⟨(some 4), (.mv (.t 17)), none⟩ <|
          .ret [(.t 4)])
        (.op ⟨(some 18), (.ibin .add (.t 8) (.c (.int .i64 1))), none⟩ <|
          .op ⟨(some 8), (.mv (.t 18)), none⟩ <|
          .jump 26 [0, 1, 7, 8]))
    (.op ⟨(some 4), (.mv (.c (.int .i64 (-1)))), none⟩ <|
      .ret [(.t 4)])
def fc125 : FC := ⟨⟨false, false⟩, T125, lookL [(26, [0, 1, 7, 8], T125_26)]⟩
/-- hammock/instr.tag -/
def T129 : TC :=
  .op ⟨(some 2), (.mv (.c (.str ⟨#[]⟩))), none⟩ <|
  .op ⟨(some 3), (.mv (.t 0)), none⟩ <|
  .op ⟨(some 4), (.ibin .eql (.t 3) (.c (.int .i64 (-1)))), none⟩ <|
  .cond (.t 4)
    (.op ⟨(some 2), (.mv (.c (.str ⟨#[95]⟩))), none⟩ <|
      .ret [(.t 2)])
    (.op ⟨(some 5), (.mv (.t 0)), none⟩ <|
      .op ⟨(some 6), (.call (.c (.fn (.func 63) [] [])) [(.t 5)]), none⟩ <|
      .op ⟨(some 2), (.mv (.t 6)), none⟩ <|
      .ret [(.t 2)])
def fc129 : FC := ⟨⟨false, false⟩, T129, lookL []⟩
/-- strings.splitSeq -/
def T170 : TC :=
  .op ⟨(some 3), (.box 9 (.t 0)), none⟩ <|
  .op ⟨(some 4), (.box 9 (.t 1)), none⟩ <|
  .op ⟨(some 5), (.box 3 (.t 2)), none⟩ <|
  .op ⟨(some 6), (.mv (.c .nilf)), none⟩ <|
  .op ⟨(some 7), (.mkfn (.func 202) [] [(.t 4), (.t 3), (.t 5)]), none⟩ <|
  .op ⟨(some 6), (.mv (.t 7)), none⟩ <|
  .ret [(.t 6)]
def fc170 : FC := ⟨⟨false, false⟩, T170, lookL []⟩
/-- strings.splitSeq$1 -/
def T202 : TC :=
  .op ⟨(some 9), (.load false 1 (.t 1)), none⟩ <|
  .op ⟨(some 10), (.lens (.t 9)), none⟩ <|
  .op ⟨(some 11), (.ibin .eql (.t 10) (.c (.int .i64 0))), none⟩ <|
  .cond (.t 11)
    (.jump 40 [0, 2])
    (.jump 12 [0, 1, 2, 3])
def T202_40 : TC :=
  .op ⟨(some 12), (.load false 1 (.t 2)), none⟩ <|
  .op ⟨(some 13), (.lens (.t 12)), none⟩ <|
  .op ⟨(some 14), (.ibin .gtr (.t 13) (.c (.int .i64 0))), none⟩ <|
  .cond (.t 14)
    (.op ⟨(some 16), (.load false 1 (.t 2)), none⟩ <|
      .op ⟨(some 17), (.call (.c (.fn (.func 203) [] [])) [(.t 16)]), none⟩ <|
      .op ⟨(some 15), (.mv (.t 17)), none⟩ <|
      .op ⟨(some 18), (.extr 0 (.t 15)), none⟩ <|
      .op ⟨(some 19), (.extr 1 (.t 15)), none⟩ <|
      .op ⟨(some 5), (.mv (.t 18)), none⟩ <|
      .op ⟨(some 6), (.mv (.t 19)), none⟩ <|
      .op ⟨(some 20), (.mv (.t 0)), none⟩ <|
      .op ⟨(some 21), (.load false 1 (.t 2)), none⟩ <|
      .op ⟨(some 22), (.mv (.t 6)), none⟩ <|
      .op ⟨(some 23), (.sls (.t 21) none (some (.t 22))), none⟩ <|
      .op ⟨(some 24), (.call (.t 20) [(.t 23)]), none⟩ <|
      .op ⟨(some 25), (.not (.t 24)), none⟩ <|
      .cond (.t 25)
        (.ret [])
        (.op ⟨(some 26), (.load false 1 (.t 2)), none⟩ <|
          .op ⟨(some 27), (.mv (.t 6)), none⟩ <|
          .op ⟨(some 28), (.sls (.t 26) (some (.t 27)) none), none⟩ <|
          .op ⟨none, (.store 1 (.t 2) (.t 28)), none⟩ <|
          .jump 40 [0, 2]))
    (.ret [])
def T202_12 : TC :=
  .op ⟨(some 29), (.load false 1 (.t 2)), none⟩ <|
  .op ⟨(some 30), (.load false 1 (.t 1)), none⟩ <|
  .op ⟨(some 31), (.call (.c (.fn (.func 176) [] [])) [(.t 29), (.t 30)]), none⟩ <|
  .op ⟨(some 7), (.mv (.t 31)), none⟩ <|
  .op ⟨(some 32), (.mv (.t 7)), none⟩ <|
  .op ⟨(some 33), (.ibin .lss (.t 32) (.c (.int .i64 0))), none⟩ <|
  .cond (.t 33)
    (.op ⟨(some 49), (.mv (.t 0)), none⟩ <|
      .op ⟨(some 50), (.load false 1 (.t 2)), none⟩ <|
      .op ⟨(some 51), (.call (.t 49) [(.t 50)]), none⟩ <|
      .ret [])
    (.op ⟨(some 34), (.load false 1 (.t 2)), none⟩ <|
      .op ⟨(some 35), (.mv (.t 7)), none⟩ <|
      .op ⟨(some 36), (.load false 1 (.t 3)), none⟩ <|
      .op ⟨(some 37), (.ibin .add (.t 35) (.t 36)), none⟩ <|
      .op ⟨(some 38), (.sls (.t 34) none (some (.t 37))), none⟩ <|
      .op ⟨(some 8), (.mv (.t 38)), none⟩ <|
      .op ⟨(some 39), (.mv (.t 0)), none⟩ <|
      .op ⟨(some 40), (.mv (.t 8)), none⟩ <|
      .op ⟨(some 41), (.call (.t 39) [(.t 40)]), none⟩ <|
      .op ⟨(some 42), (.not (.t 41)), none⟩ <|
      .cond (.t 42)
        (.ret [])
        (.op ⟨(some 43), (.load false 1 (.t 2)), none⟩ <|
          .op ⟨(some 44), (.mv (.t 7)), none⟩ <|
          .op ⟨(some 45), (.load false 1 (.t 1)), none⟩ <|
          .op ⟨(some 46), (.lens (.t 45)), none⟩ <|
          .op ⟨(some 47), (.ibin .add (.t 44) (.t 46)), none⟩ <|
          .op ⟨(some 48), (.sls (.t 43) (some (.t 47)) none), none⟩ <|
          .op ⟨none, (.store 1 (.t 2) (.t 48)), none⟩ <|
          .jump 12 [0, 1, 2, 3]))
def fc202 : FC := ⟨⟨false, false⟩, T202, lookL [(40, [0, 2], T202_40), (12, [0, 1, 2, 3], T202_12)]⟩
def sysA : AP := ⟨fun _ => .top, lookF [(5, fc5), (10, fc10), (11, fc11), (16, fc16), (18, fc18), (19, fc19), (20, fc20), (21, fc21), (22, fc22), (48, fc48), (49, fc49), (106, fc106), (51, fc51), (52, fc52), (56, fc56), (57, fc57), (58, fc58), (59, fc59), (60, fc60), (61, fc61), (64, fc64), (65, fc65), (67, fc67), (68, fc68), (69, fc69), (70, fc70), (71, fc71), (72, fc72), (73, fc73), (105, fc105), (110, fc110), (111, fc111), (112, fc112), (113, fc113), (114, fc114), (115, fc115), (123, fc123), (125, fc125), (129, fc129), (170, fc170), (202, fc202)], extA⟩
theorem ok5 : FuncOK Tryz.prog 5 fc5 :=
  ⟨Tryz.f5, ((Tryz.f5).body).getD .skip, ⟨Tryz.prog, (Tryz.f5).ntmps, 5, false, (resC Tryz.prog (Tryz.f5).results.toList).getD [], fun p => ([] : List Nat).contains p, lookN []⟩,
    by kernel_rfl, by kernel_rfl, by kernel_rfl, rfl, rfl, rfl, rfl, by kernel_rfl, by kernel_rfl, okLabs (by kernel_rfl)⟩
theorem ok10 : FuncOK Tryz.prog 10 fc10 :=
  ⟨Tryz.f10, ((Tryz.f10).body).getD .skip, ⟨Tryz.prog, (Tryz.f10).ntmps, 10, false, (resC Tryz.prog (Tryz.f10).results.toList).getD [], fun p => ([] : List Nat).contains p, lookN []⟩,
    by kernel_rfl, by kernel_rfl, by kernel_rfl, rfl, rfl, rfl, rfl, by kernel_rfl, by kernel_rfl, okLabs (by kernel_rfl)⟩
theorem ok11 : FuncOK Tryz.prog 11 fc11 :=
  ⟨Tryz.f11, ((Tryz.f11).body).getD .skip, ⟨Tryz.prog, (Tryz.f11).ntmps, 11, false, (resC Tryz.prog (Tryz.f11).results.toList).getD [], fun p => ([] : List Nat).contains p, lookN [(122, [15, 2, 3, 4, 5]), (245, [2, 3, 4, 5, 6])]⟩,
    by kernel_rfl, by kernel_rfl, by kernel_rfl, rfl, rfl, rfl, rfl, by kernel_rfl, by kernel_rfl, okLabs (by kernel_rfl)⟩
theorem ok16 : FuncOK Tryz.prog 16 fc16 :=
  ⟨Tryz.f16, ((Tryz.f16).body).getD .skip, ⟨Tryz.prog, (Tryz.f16).ntmps, 16, false, (resC Tryz.prog (Tryz.f16).results.toList).getD [], fun p => ([] : List Nat).contains p, lookN [(250, [1, 4, 29, 30, 31]), (506, [4, 49, 50, 51])]⟩,
    by kernel_rfl, by kernel_rfl, by kernel_rfl, rfl, rfl, rfl, rfl, by kernel_rfl, by kernel_rfl, okLabs (by kernel_rfl)⟩
theorem ok18 : FuncOK Tryz.prog 18 fc18 :=
  ⟨Tryz.f18, ((Tryz.f18).body).getD .skip, ⟨Tryz.prog, (Tryz.f18).ntmps, 18, false, (resC Tryz.prog (Tryz.f18).results.toList).getD [], fun p => ([] : List Nat).contains p, lookN []⟩,
    by kernel_rfl, by kernel_rfl, by kernel_rfl, rfl, rfl, rfl, rfl, by kernel_rfl, by kernel_rfl, okLabs (by kernel_rfl)⟩
theorem ok19 : FuncOK Tryz.prog 19 fc19 :=
  ⟨Tryz.f19, ((Tryz.f19).body).getD .skip, ⟨Tryz.prog, (Tryz.f19).ntmps, 19, false, (resC Tryz.prog (Tryz.f19).results.toList).getD [], fun p => ([] : List Nat).contains p, lookN []⟩,
    by kernel_rfl, by kernel_rfl, by kernel_rfl, rfl, rfl, rfl, rfl, by kernel_rfl, by kernel_rfl, okLabs (by kernel_rfl)⟩
theorem ok20 : FuncOK Tryz.prog 20 fc20 :=
  ⟨Tryz.f20, ((Tryz.f20).body).getD .skip, ⟨Tryz.prog, (Tryz.f20).ntmps, 20, false, (resC Tryz.prog (Tryz.f20).results.toList).getD [], fun p => ([] : List Nat).contains p, lookN []⟩,
    by kernel_rfl, by kernel_rfl, by kernel_rfl, rfl, rfl, rfl, rfl, by kernel_rfl, by kernel_rfl, okLabs (by kernel_rfl)⟩
theorem ok21 : FuncOK Tryz.prog 21 fc21 :=
  ⟨Tryz.f21, ((Tryz.f21).body).getD .skip, ⟨Tryz.prog, (Tryz.f21).ntmps, 21, false, (resC Tryz.prog (Tryz.f21).results.toList).getD [], fun p => ([] : List Nat).contains p, lookN []⟩,
    by kernel_rfl, by kernel_rfl, by kernel_rfl, rfl, rfl, rfl, rfl, by kernel_rfl, by kernel_rfl, okLabs (by kernel_rfl)⟩
theorem ok22 : FuncOK Tryz.prog 22 fc22 :=
  ⟨Tryz.f22, ((Tryz.f22).body).getD .skip, ⟨Tryz.prog, (Tryz.f22).ntmps, 22, false, (resC Tryz.prog (Tryz.f22).results.toList).getD [], fun p => ([] : List Nat).contains p, lookN []⟩,
    by kernel_rfl, by kernel_rfl, by kernel_rfl, rfl, rfl, rfl, rfl, by kernel_rfl, by kernel_rfl, okLabs (by kernel_rfl)⟩
theorem ok48 : FuncOK Tryz.prog 48 fc48 :=
  ⟨Tryz.f48, ((Tryz.f48).body).getD .skip, ⟨Tryz.prog, (Tryz.f48).ntmps, 48, false, (resC Tryz.prog (Tryz.f48).results.toList).getD [], fun p => ([] : List Nat).contains p, lookN []⟩,
    by kernel_rfl, by kernel_rfl, by kernel_rfl, rfl, rfl, rfl, rfl, by kernel_rfl, by kernel_rfl, okLabs (by kernel_rfl)⟩
theorem ok49 : FuncOK Tryz.prog 49 fc49 :=
  ⟨Tryz.f49, ((Tryz.f49).body).getD .skip, ⟨Tryz.prog, (Tryz.f49).ntmps, 49, false, (resC Tryz.prog (Tryz.f49).results.toList).getD [], fun p => ([] : List Nat).contains p, lookN []⟩,
    by kernel_rfl, by kernel_rfl, by kernel_rfl, rfl, rfl, rfl, rfl, by kernel_rfl, by kernel_rfl, okLabs (by kernel_rfl)⟩
theorem ok106 : FuncOK Tryz.prog 106 fc106 :=
  ⟨Tryz.f106, ((Tryz.f106).body).getD .skip, ⟨Tryz.prog, (Tryz.f106).ntmps, 106, false, (resC Tryz.prog (Tryz.f106).results.toList).getD [], fun p => ([37] : List Nat).contains p, lookN [(2, [0, 1]), (37, [0, 1, 3])]⟩,
    by kernel_rfl, by kernel_rfl, by kernel_rfl, rfl, rfl, rfl, rfl, by kernel_rfl, by kernel_rfl, okLabs (by kernel_rfl)⟩
theorem ok51 : FuncOK Tryz.prog 51 fc51 :=
  ⟨Tryz.f51, ((Tryz.f51).body).getD .skip, ⟨Tryz.prog, (Tryz.f51).ntmps, 51, false, (resC Tryz.prog (Tryz.f51).results.toList).getD [], fun p => ([] : List Nat).contains p, lookN []⟩,
    by kernel_rfl, by kernel_rfl, by kernel_rfl, rfl, rfl, rfl, rfl, by kernel_rfl, by kernel_rfl, okLabs (by kernel_rfl)⟩
theorem ok52 : FuncOK Tryz.prog 52 fc52 :=
  ⟨Tryz.f52, ((Tryz.f52).body).getD .skip, ⟨Tryz.prog, (Tryz.f52).ntmps, 52, false, (resC Tryz.prog (Tryz.f52).results.toList).getD [], fun p => ([32723] : List Nat).contains p, lookN [(58, [18, 4]), (117, [4, 5]), (4090, [2, 7, 8, 48, 49, 50]), (32723, [2, 7, 8, 48, 49, 50])]⟩,
    by kernel_rfl, by kernel_rfl, by kernel_rfl, rfl, rfl, rfl, rfl, by kernel_rfl, by kernel_rfl, okLabs (by kernel_rfl)⟩
theorem ok56 : FuncOK Tryz.prog 56 fc56 :=
  ⟨Tryz.f56, ((Tryz.f56).body).getD .skip, ⟨Tryz.prog, (Tryz.f56).ntmps, 56, false, (resC Tryz.prog (Tryz.f56).results.toList).getD [], fun p => ([] : List Nat).contains p, lookN []⟩,
    by kernel_rfl, by kernel_rfl, by kernel_rfl, rfl, rfl, rfl, rfl, by kernel_rfl, by kernel_rfl, okLabs (by kernel_rfl)⟩
theorem ok57 : FuncOK Tryz.prog 57 fc57 :=
  ⟨Tryz.f57, ((Tryz.f57).body).getD .skip, ⟨Tryz.prog, (Tryz.f57).ntmps, 57, false, (resC Tryz.prog (Tryz.f57).results.toList).getD [], fun p => ([] : List Nat).contains p, lookN []⟩,
    by kernel_rfl, by kernel_rfl, by kernel_rfl, rfl, rfl, rfl, rfl, by kernel_rfl, by kernel_rfl, okLabs (by kernel_rfl)⟩
theorem ok58 : FuncOK Tryz.prog 58 fc58 :=
  ⟨Tryz.f58, ((Tryz.f58).body).getD .skip, ⟨Tryz.prog, (Tryz.f58).ntmps, 58, false, (resC Tryz.prog (Tryz.f58).results.toList).getD [], fun p => ([] : List Nat).contains p, lookN []⟩,
    by kernel_rfl, by kernel_rfl, by kernel_rfl, rfl, rfl, rfl, rfl, by kernel_rfl, by kernel_rfl, okLabs (by kernel_rfl)⟩
theorem ok59 : FuncOK Tryz.prog 59 fc59 :=
  ⟨Tryz.f59, ((Tryz.f59).body).getD .skip, ⟨Tryz.prog, (Tryz.f59).ntmps, 59, false, (resC Tryz.prog (Tryz.f59).results.toList).getD [], fun p => ([] : List Nat).contains p, lookN []⟩,
    by kernel_rfl, by kernel_rfl, by kernel_rfl, rfl, rfl, rfl, rfl, by kernel_rfl, by kernel_rfl, okLabs (by kernel_rfl)⟩
theorem ok60 : FuncOK Tryz.prog 60 fc60 :=
  ⟨Tryz.f60, ((Tryz.f60).body).getD .skip, ⟨Tryz.prog, (Tryz.f60).ntmps, 60, false, (resC Tryz.prog (Tryz.f60).results.toList).getD [], fun p => ([] : List Nat).contains p, lookN []⟩,
    by kernel_rfl, by kernel_rfl, by kernel_rfl, rfl, rfl, rfl, rfl, by kernel_rfl, by kernel_rfl, okLabs (by kernel_rfl)⟩
theorem ok61 : FuncOK Tryz.prog 61 fc61 :=
  ⟨Tryz.f61, ((Tryz.f61).body).getD .skip, ⟨Tryz.prog, (Tryz.f61).ntmps, 61, false, (resC Tryz.prog (Tryz.f61).results.toList).getD [], fun p => ([] : List Nat).contains p, lookN []⟩,
    by kernel_rfl, by kernel_rfl, by kernel_rfl, rfl, rfl, rfl, rfl, by kernel_rfl, by kernel_rfl, okLabs (by kernel_rfl)⟩
theorem ok64 : FuncOK Tryz.prog 64 fc64 :=
  ⟨Tryz.f64, ((Tryz.f64).body).getD .skip, ⟨Tryz.prog, (Tryz.f64).ntmps, 64, false, (resC Tryz.prog (Tryz.f64).results.toList).getD [], fun p => ([] : List Nat).contains p, lookN []⟩,
    by kernel_rfl, by kernel_rfl, by kernel_rfl, rfl, rfl, rfl, rfl, by kernel_rfl, by kernel_rfl, okLabs (by kernel_rfl)⟩
theorem ok65 : FuncOK Tryz.prog 65 fc65 :=
  ⟨Tryz.f65, ((Tryz.f65).body).getD .skip, ⟨Tryz.prog, (Tryz.f65).ntmps, 65, false, (resC Tryz.prog (Tryz.f65).results.toList).getD [], fun p => ([] : List Nat).contains p, lookN [(250, [1, 5, 29, 30, 31]), (506, [5, 42, 43, 44])]⟩,
    by kernel_rfl, by kernel_rfl, by kernel_rfl, rfl, rfl, rfl, rfl, by kernel_rfl, by kernel_rfl, okLabs (by kernel_rfl)⟩
theorem ok67 : FuncOK Tryz.prog 67 fc67 :=
  ⟨Tryz.f67, ((Tryz.f67).body).getD .skip, ⟨Tryz.prog, (Tryz.f67).ntmps, 67, false, (resC Tryz.prog (Tryz.f67).results.toList).getD [], fun p => ([] : List Nat).contains p, lookN [(58, [0, 1, 12, 13])]⟩,
    by kernel_rfl, by kernel_rfl, by kernel_rfl, rfl, rfl, rfl, rfl, by kernel_rfl, by kernel_rfl, okLabs (by kernel_rfl)⟩
theorem ok68 : FuncOK Tryz.prog 68 fc68 :=
  ⟨Tryz.f68, ((Tryz.f68).body).getD .skip, ⟨Tryz.prog, (Tryz.f68).ntmps, 68, false, (resC Tryz.prog (Tryz.f68).results.toList).getD [], fun p => ([] : List Nat).contains p, lookN [(58, [1, 2, 15, 16, 17])]⟩,
    by kernel_rfl, by kernel_rfl, by kernel_rfl, rfl, rfl, rfl, rfl, by kernel_rfl, by kernel_rfl, okLabs (by kernel_rfl)⟩
theorem ok69 : FuncOK Tryz.prog 69 fc69 :=
  ⟨Tryz.f69, ((Tryz.f69).body).getD .skip, ⟨Tryz.prog, (Tryz.f69).ntmps, 69, false, (resC Tryz.prog (Tryz.f69).results.toList).getD [], fun p => ([] : List Nat).contains p, lookN []⟩,
    by kernel_rfl, by kernel_rfl, by kernel_rfl, rfl, rfl, rfl, rfl, by kernel_rfl, by kernel_rfl, okLabs (by kernel_rfl)⟩
theorem ok70 : FuncOK Tryz.prog 70 fc70 :=
  ⟨Tryz.f70, ((Tryz.f70).body).getD .skip, ⟨Tryz.prog, (Tryz.f70).ntmps, 70, false, (resC Tryz.prog (Tryz.f70).results.toList).getD [], fun p => ([] : List Nat).contains p, lookN [(58, [0, 1, 12, 13])]⟩,
    by kernel_rfl, by kernel_rfl, by kernel_rfl, rfl, rfl, rfl, rfl, by kernel_rfl, by kernel_rfl, okLabs (by kernel_rfl)⟩
theorem ok71 : FuncOK Tryz.prog 71 fc71 :=
  ⟨Tryz.f71, ((Tryz.f71).body).getD .skip, ⟨Tryz.prog, (Tryz.f71).ntmps, 71, false, (resC Tryz.prog (Tryz.f71).results.toList).getD [], fun p => ([] : List Nat).contains p, lookN []⟩,
    by kernel_rfl, by kernel_rfl, by kernel_rfl, rfl, rfl, rfl, rfl, by kernel_rfl, by kernel_rfl, okLabs (by kernel_rfl)⟩
theorem ok72 : FuncOK Tryz.prog 72 fc72 :=
  ⟨Tryz.f72, ((Tryz.f72).body).getD .skip, ⟨Tryz.prog, (Tryz.f72).ntmps, 72, false, (resC Tryz.prog (Tryz.f72).results.toList).getD [], fun p => ([4051, 7] : List Nat).contains p, lookN [(7, [1, 3]), (506, [1, 4, 29, 30, 31]), (4051, [1, 4, 29, 30, 31])]⟩,
    by kernel_rfl, by kernel_rfl, by kernel_rfl, rfl, rfl, rfl, rfl, by kernel_rfl, by kernel_rfl, okLabs (by kernel_rfl)⟩
theorem ok73 : FuncOK Tryz.prog 73 fc73 :=
  ⟨Tryz.f73, ((Tryz.f73).body).getD .skip, ⟨Tryz.prog, (Tryz.f73).ntmps, 73, false, (resC Tryz.prog (Tryz.f73).results.toList).getD [], fun p => ([] : List Nat).contains p, lookN []⟩,
    by kernel_rfl, by kernel_rfl, by kernel_rfl, rfl, rfl, rfl, rfl, by kernel_rfl, by kernel_rfl, okLabs (by kernel_rfl)⟩
theorem ok105 : FuncOK Tryz.prog 105 fc105 :=
  ⟨Tryz.f105, ((Tryz.f105).body).getD .skip, ⟨Tryz.prog, (Tryz.f105).ntmps, 105, false, (resC Tryz.prog (Tryz.f105).results.toList).getD [], fun p => ([] : List Nat).contains p, lookN [(26, [0, 1, 7, 8])]⟩,
    by kernel_rfl, by kernel_rfl, by kernel_rfl, rfl, rfl, rfl, rfl, by kernel_rfl, by kernel_rfl, okLabs (by kernel_rfl)⟩
theorem ok110 : FuncOK Tryz.prog 110 fc110 :=
  ⟨Tryz.f110, ((Tryz.f110).body).getD .skip, ⟨Tryz.prog, (Tryz.f110).ntmps, 110, false, (resC Tryz.prog (Tryz.f110).results.toList).getD [], fun p => ([] : List Nat).contains p, lookN []⟩,
    by kernel_rfl, by kernel_rfl, by kernel_rfl, rfl, rfl, rfl, rfl, by kernel_rfl, by kernel_rfl, okLabs (by kernel_rfl)⟩
theorem ok111 : FuncOK Tryz.prog 111 fc111 :=
  ⟨Tryz.f111, ((Tryz.f111).body).getD .skip, ⟨Tryz.prog, (Tryz.f111).ntmps, 111, false, (resC Tryz.prog (Tryz.f111).results.toList).getD [], fun p => ([] : List Nat).contains p, lookN []⟩,
    by kernel_rfl, by kernel_rfl, by kernel_rfl, rfl, rfl, rfl, rfl, by kernel_rfl, by kernel_rfl, okLabs (by kernel_rfl)⟩
theorem ok112 : FuncOK Tryz.prog 112 fc112 :=
  ⟨Tryz.f112, ((Tryz.f112).body).getD .skip, ⟨Tryz.prog, (Tryz.f112).ntmps, 112, false, (resC Tryz.prog (Tryz.f112).results.toList).getD [], fun p => ([] : List Nat).contains p, lookN []⟩,
    by kernel_rfl, by kernel_rfl, by kernel_rfl, rfl, rfl, rfl, rfl, by kernel_rfl, by kernel_rfl, okLabs (by kernel_rfl)⟩
theorem ok113 : FuncOK Tryz.prog 113 fc113 :=
  ⟨Tryz.f113, ((Tryz.f113).body).getD .skip, ⟨Tryz.prog, (Tryz.f113).ntmps, 113, false, (resC Tryz.prog (Tryz.f113).results.toList).getD [], fun p => ([] : List Nat).contains p, lookN [(26, [0, 1, 7, 8])]⟩,
    by kernel_rfl, by kernel_rfl, by kernel_rfl, rfl, rfl, rfl, rfl, by kernel_rfl, by kernel_rfl, okLabs (by kernel_rfl)⟩
theorem ok114 : FuncOK Tryz.prog 114 fc114 :=
  ⟨Tryz.f114, ((Tryz.f114).body).getD .skip, ⟨Tryz.prog, (Tryz.f114).ntmps, 114, false, (resC Tryz.prog (Tryz.f114).results.toList).getD [], fun p => ([] : List Nat).contains p, lookN []⟩,
    by kernel_rfl, by kernel_rfl, by kernel_rfl, rfl, rfl, rfl, rfl, by kernel_rfl, by kernel_rfl, okLabs (by kernel_rfl)⟩
theorem ok115 : FuncOK Tryz.prog 115 fc115 :=
  ⟨Tryz.f115, ((Tryz.f115).body).getD .skip, ⟨Tryz.prog, (Tryz.f115).ntmps, 115, false, (resC Tryz.prog (Tryz.f115).results.toList).getD [], fun p => ([] : List Nat).contains p, lookN []⟩,
    by kernel_rfl, by kernel_rfl, by kernel_rfl, rfl, rfl, rfl, rfl, by kernel_rfl, by kernel_rfl, okLabs (by kernel_rfl)⟩
theorem ok123 : FuncOK Tryz.prog 123 fc123 :=
  ⟨Tryz.f123, ((Tryz.f123).body).getD .skip, ⟨Tryz.prog, (Tryz.f123).ntmps, 123, false, (resC Tryz.prog (Tryz.f123).results.toList).getD [], fun p => ([] : List Nat).contains p, lookN [(26, [0, 1, 7, 8])]⟩,
    by kernel_rfl, by kernel_rfl, by kernel_rfl, rfl, rfl, rfl, rfl, by kernel_rfl, by kernel_rfl, okLabs (by kernel_rfl)⟩
theorem ok125 : FuncOK Tryz.prog 125 fc125 :=
  ⟨Tryz.f125, ((Tryz.f125).body).getD .skip, ⟨Tryz.prog, (Tryz.f125).ntmps, 125, false, (resC Tryz.prog (Tryz.f125).results.toList).getD [], fun p => ([] : List Nat).contains p, lookN [(26, [0, 1, 7, 8])]⟩,
    by kernel_rfl, by kernel_rfl, by kernel_rfl, rfl, rfl, rfl, rfl, by kernel_rfl, by kernel_rfl, okLabs (by kernel_rfl)⟩
theorem ok129 : FuncOK Tryz.prog 129 fc129 :=
  ⟨Tryz.f129, ((Tryz.f129).body).getD .skip, ⟨Tryz.prog, (Tryz.f129).ntmps, 129, false, (resC Tryz.prog (Tryz.f129).results.toList).getD [], fun p => ([] : List Nat).contains p, lookN []⟩,
    by kernel_rfl, by kernel_rfl, by kernel_rfl, rfl, rfl, rfl, rfl, by kernel_rfl, by kernel_rfl, okLabs (by kernel_rfl)⟩
theorem ok170 : FuncOK Tryz.prog 170 fc170 :=
  ⟨Tryz.f170, ((Tryz.f170).body).getD .skip, ⟨Tryz.prog, (Tryz.f170).ntmps, 170, false, (resC Tryz.prog (Tryz.f170).results.toList).getD [], fun p => ([] : List Nat).contains p, lookN []⟩,
    by kernel_rfl, by kernel_rfl, by kernel_rfl, rfl, rfl, rfl, rfl, by kernel_rfl, by kernel_rfl, okLabs (by kernel_rfl)⟩
theorem ok202 : FuncOK Tryz.prog 202 fc202 :=
  ⟨Tryz.f202, ((Tryz.f202).body).getD .skip, ⟨Tryz.prog, (Tryz.f202).ntmps, 202, false, (resC Tryz.prog (Tryz.f202).results.toList).getD [], fun p => ([] : List Nat).contains p, lookN [(40, [0, 2]), (12, [0, 1, 2, 3])]⟩,
    by kernel_rfl, by kernel_rfl, by kernel_rfl, rfl, rfl, rfl, rfl, by kernel_rfl, by kernel_rfl, okLabs (by kernel_rfl)⟩
theorem sysA_codes {f : Nat} {fc : FC} (h : sysA.codes f = some fc) : FuncOK Tryz.prog f fc :=
  lookF_ok (l := [(5, fc5), (10, fc10), (11, fc11), (16, fc16), (18, fc18), (19, fc19), (20, fc20), (21, fc21), (22, fc22), (48, fc48), (49, fc49), (106, fc106), (51, fc51), (52, fc52), (56, fc56), (57, fc57), (58, fc58), (59, fc59), (60, fc60), (61, fc61), (64, fc64), (65, fc65), (67, fc67), (68, fc68), (69, fc69), (70, fc70), (71, fc71), (72, fc72), (73, fc73), (105, fc105), (110, fc110), (111, fc111), (112, fc112), (113, fc113), (114, fc114), (115, fc115), (123, fc123), (125, fc125), (129, fc129), (170, fc170), (202, fc202)]) h (by
    intro e he
    simp only [List.mem_cons, List.not_mem_nil, or_false] at he
    rcases he with rfl | rfl | rfl | rfl | rfl | rfl | rfl | rfl | rfl | rfl | rfl | rfl | rfl | rfl | rfl | rfl | rfl | rfl | rfl | rfl | rfl | rfl | rfl | rfl | rfl | rfl | rfl | rfl | rfl | rfl | rfl | rfl | rfl | rfl | rfl | rfl | rfl | rfl | rfl | rfl | rfl
    · exact ok5
    · exact ok10
    · exact ok11
    · exact ok16
    · exact ok18
    · exact ok19
    · exact ok20
    · exact ok21
    · exact ok22
    · exact ok48
    · exact ok49
    · exact ok106
    · exact ok51
    · exact ok52
    · exact ok56
    · exact ok57
    · exact ok58
    · exact ok59
    · exact ok60
    · exact ok61
    · exact ok64
    · exact ok65
    · exact ok67
    · exact ok68
    · exact ok69
    · exact ok70
    · exact ok71
    · exact ok72
    · exact ok73
    · exact ok105
    · exact ok110
    · exact ok111
    · exact ok112
    · exact ok113
    · exact ok114
    · exact ok115
    · exact ok123
    · exact ok125
    · exact ok129
    · exact ok170
    · exact ok202
  )
theorem knows_run : (sem sysA 60).1 10 [] [] = some (.bool true, []) := by kernel_rfl
theorem knows : CALL sysA 10 [] [] = some (.bool true, []) := (CALL_iff ..).2 ⟨60, knows_run⟩
end Go.Av.T
