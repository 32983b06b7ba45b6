/-
  Parts of the proof:
  The functions, as the abstract machine has them. Printed by print/Print.lean.
  The functions of layer 35: valid, right, effective, Entry, Clock.
  The functions of layer 35: the definition's Effective; Effective, Ripe.
  Plain laws of layer 35: effective classes.
  The functions of layer 35: the definition's Check, At, Same; Check.
  The functions of layer 35: Check, the definition's At and Same.
  The functions of layer 35: the definition's At and Same; place.
  The functions of layer 35: Grow, Concat, own at entries.
  The functions of layer 35: the definition's Add, Drop, Lower.
  The functions of layer 35: the definition's Lower; Add, Drop, Lower.
  The functions of layer 35: Drop.
  The functions of layer 35: Drop.
  The functions of layer 35: the sort's moves: swapRange, rotate.
-/
import Derived.Test.YtkmaaddlimgdoaaX1

section
set_option linter.unusedVariables false
set_option linter.unusedSimpArgs false
set_option linter.unusedSectionVars false
set_option maxRecDepth 100000
namespace Go.V

def v3 : VFn := ⟨100, [(6, none)],
 (.seq (.region [⟨some 3, .box (.t 0) 1, none, true, []⟩,
  ⟨some 4, .box (.t 1) 2, none, true, []⟩,
  ⟨some 6, .mov (.c (.bool false)), none, true, []⟩])
 (.seq (.seq (.region [⟨some 17, .faddr 0 (.t 3), none, true, []⟩,
  ⟨some 18, .load false 1 (.t 17), none, true, []⟩,
  ⟨some 19, .lenOf (.t 18), none, true, []⟩,
  ⟨some 20, .arith .gtr (.t 19) (.c (.int .i64 70)), none, true, []⟩,
  ⟨some 21, .mov (.t 20), none, true, []⟩,
  ⟨some 22, .mov (.t 2), some (21, false), true, []⟩,
  ⟨some 23, .lenOf (.t 22), some (21, false), true, []⟩,
  ⟨some 24, .arith .gtr (.t 23) (.c (.int .i64 40)), some (21, false), true, []⟩,
  ⟨some 25, .pick (.t 21) (.c (.bool true)) (.t 24), none, true, []⟩])
 (.cond (.t 25) (.seq (.region [⟨some 26, .call 8 [], none, true, []⟩,
  ⟨some 6, .mov (.t 26), none, true, []⟩])
 .ret)
 .skip))
 (.seq (.region [⟨some 27, .iaddrArr 2 1 (.t 4) (.c (.int .i64 1)), none, true, []⟩,
  ⟨some 28, .load false 1 (.t 27), none, true, []⟩,
  ⟨some 7, .mov (.t 28), none, true, []⟩])
 (.seq (.region [⟨some 30, .faddr 0 (.t 3), none, true, []⟩,
  ⟨some 31, .load false 1 (.t 30), none, true, []⟩,
  ⟨some 32, .iaddrArr 2 1 (.t 4) (.c (.int .i64 0)), none, true, []⟩,
  ⟨some 33, .load false 1 (.t 32), none, true, []⟩,
  ⟨some 34, .mov (.t 7), none, true, []⟩,
  ⟨some 35, .call 9 [(.t 31), (.t 33), (.t 34)], none, true, []⟩,
  ⟨some 29, .mov (.t 35), none, true, []⟩,
  ⟨some 36, .ext (.t 29) 0, none, true, []⟩,
  ⟨some 37, .ext (.t 29) 1, none, true, []⟩,
  ⟨some 8, .mov (.t 36), none, true, []⟩,
  ⟨some 9, .mov (.t 37), none, true, []⟩])
 (.seq (.region [⟨some 39, .load true 1 (.t 3), none, true, []⟩,
  ⟨some 40, .iaddrArr 2 1 (.t 4) (.c (.int .i64 0)), none, true, []⟩,
  ⟨some 41, .load false 1 (.t 40), none, true, []⟩,
  ⟨some 42, .mov (.t 7), none, true, []⟩,
  ⟨some 43, .call 10 [(.t 39), (.t 41), (.t 42)], none, true, []⟩,
  ⟨some 38, .mov (.t 43), none, true, []⟩,
  ⟨some 44, .ext (.t 38) 0, none, true, []⟩,
  ⟨some 45, .ext (.t 38) 1, none, true, []⟩,
  ⟨some 10, .mov (.t 44), none, true, []⟩,
  ⟨some 11, .mov (.t 45), none, true, []⟩])
 (.seq (.region [⟨some 47, .load true 1 (.t 3), none, true, []⟩,
  ⟨some 48, .iaddrArr 2 1 (.t 4) (.c (.int .i64 0)), none, true, []⟩,
  ⟨some 49, .load false 1 (.t 48), none, true, []⟩,
  ⟨some 50, .mov (.t 7), none, true, []⟩,
  ⟨some 51, .mov (.t 2), none, true, []⟩,
  ⟨some 52, .call 11 [(.t 47), (.t 49), (.t 50), (.t 51)], none, true, []⟩,
  ⟨some 46, .mov (.t 52), none, true, []⟩,
  ⟨some 53, .ext (.t 46) 0, none, true, []⟩,
  ⟨some 54, .ext (.t 46) 1, none, true, []⟩,
  ⟨some 55, .ext (.t 46) 2, none, true, []⟩,
  ⟨some 12, .mov (.t 53), none, true, []⟩,
  ⟨some 13, .mov (.t 54), none, true, []⟩,
  ⟨some 14, .mov (.t 55), none, true, []⟩])
 (.seq (.region [⟨some 57, .faddr 0 (.t 3), none, true, []⟩,
  ⟨some 58, .load false 1 (.t 57), none, true, []⟩,
  ⟨some 59, .iaddrArr 2 1 (.t 4) (.c (.int .i64 0)), none, true, []⟩,
  ⟨some 60, .load false 1 (.t 59), none, true, []⟩,
  ⟨some 61, .mov (.t 7), none, true, []⟩,
  ⟨some 62, .mov (.t 2), none, true, []⟩,
  ⟨some 63, .call 12 [(.t 58), (.t 60), (.t 61), (.t 62)], none, true, []⟩,
  ⟨some 56, .mov (.t 63), none, true, []⟩,
  ⟨some 64, .ext (.t 56) 0, none, true, []⟩,
  ⟨some 65, .ext (.t 56) 1, none, true, []⟩,
  ⟨some 15, .mov (.t 64), none, true, []⟩,
  ⟨some 16, .mov (.t 65), none, true, []⟩])
 (.seq (.seq (.region [⟨some 66, .mov (.t 11), none, true, []⟩,
  ⟨some 67, .mov (.t 9), none, true, []⟩,
  ⟨some 68, .eql true ⟨false, [(0, .i)]⟩ (.t 66) (.t 67), none, true, []⟩,
  ⟨some 69, .mov (.t 68), none, true, []⟩,
  ⟨some 70, .mov (.t 14), some (69, false), true, []⟩,
  ⟨some 71, .mov (.t 9), some (69, false), true, []⟩,
  ⟨some 72, .eql true ⟨false, [(0, .i)]⟩ (.t 70) (.t 71), some (69, false), true, []⟩,
  ⟨some 73, .pick (.t 69) (.c (.bool true)) (.t 72), none, true, []⟩,
  ⟨some 74, .mov (.t 73), none, true, []⟩,
  ⟨some 75, .mov (.t 10), some (74, false), true, []⟩,
  ⟨some 76, .mov (.t 8), some (74, false), true, []⟩,
  ⟨some 77, .call 13 [(.t 75), (.t 76)], some (74, false), true, []⟩,
  ⟨some 78, .eql false ⟨false, [(0, .i)]⟩ (.t 77) (.c (.int .i64 0)), some (74, false), true, []⟩,
  ⟨some 79, .pick (.t 74) (.c (.bool true)) (.t 78), none, true, []⟩,
  ⟨some 80, .mov (.t 79), none, true, []⟩,
  ⟨some 81, .mov (.t 10), some (80, false), true, []⟩,
  ⟨some 82, .capOf (.t 81), some (80, false), true, []⟩,
  ⟨some 83, .mov (.t 10), some (80, false), true, []⟩,
  ⟨some 84, .lenOf (.t 83), some (80, false), true, []⟩,
  ⟨some 85, .eql true ⟨false, [(0, .i)]⟩ (.t 82) (.t 84), some (80, false), true, []⟩,
  ⟨some 86, .pick (.t 80) (.c (.bool true)) (.t 85), none, true, []⟩])
 (.cond (.t 86) (.seq (.region [⟨some 6, .mov (.c (.bool false)), none, true, []⟩])
 .ret)
 .skip))
 (.seq (.region [⟨some 87, .mov (.t 13), none, true, []⟩,
  ⟨some 88, .mov (.t 15), none, true, []⟩,
  ⟨some 89, .arith .geq (.t 88) (.c (.int .i64 0)), none, true, []⟩,
  ⟨some 90, .eql false ⟨false, [(0, .b)]⟩ (.t 87) (.t 89), none, true, []⟩,
  ⟨some 91, .mov (.t 90), none, true, []⟩,
  ⟨some 92, .mov (.t 12), some (91, true), true, []⟩,
  ⟨some 93, .mov (.t 15), some (91, true), true, []⟩,
  ⟨some 94, .minmax true [(.t 93), (.c (.int .i64 0))], some (91, true), true, []⟩,
  ⟨some 95, .eql false ⟨false, [(0, .i)]⟩ (.t 92) (.t 94), some (91, true), true, []⟩,
  ⟨some 96, .pick (.t 91) (.t 95) (.c (.bool false)), none, true, []⟩,
  ⟨some 97, .mov (.t 96), none, true, []⟩,
  ⟨some 98, .call 8 [], some (97, true), true, []⟩,
  ⟨some 99, .pick (.t 97) (.t 98) (.c (.bool false)), none, true, []⟩,
  ⟨some 6, .mov (.t 99), none, true, []⟩])
 .ret)))))))))⟩

def v4 : VFn := ⟨134, [(4, none)],
 (.seq (.region [⟨some 2, .box (.t 0) 3, none, true, []⟩,
  ⟨some 3, .box (.t 1) 2, none, true, []⟩,
  ⟨some 4, .mov (.c (.bool false)), none, true, []⟩])
 (.seq (.region [⟨some 12, .iaddrArr 2 1 (.t 3) (.c (.int .i64 1)), none, true, []⟩,
  ⟨some 13, .load false 1 (.t 12), none, true, []⟩,
  ⟨some 5, .mov (.t 13), none, true, []⟩])
 (.seq (.region [⟨some 15, .load true 3 (.t 2), none, true, []⟩,
  ⟨some 16, .iaddrArr 2 1 (.t 3) (.c (.int .i64 0)), none, true, []⟩,
  ⟨some 17, .load false 1 (.t 16), none, true, []⟩,
  ⟨some 18, .mov (.t 5), none, true, []⟩,
  ⟨some 19, .call 14 [(.t 15), (.t 17), (.t 18)], none, true, []⟩,
  ⟨some 14, .mov (.t 19), none, true, []⟩,
  ⟨some 20, .ext (.t 14) 0, none, true, []⟩,
  ⟨some 21, .ext (.t 14) 1, none, true, []⟩,
  ⟨some 6, .mov (.t 20), none, true, []⟩,
  ⟨some 7, .mov (.t 21), none, true, []⟩])
 (.seq (.region [⟨some 23, .load true 3 (.t 2), none, true, []⟩,
  ⟨some 24, .mov (.t 5), none, true, []⟩,
  ⟨some 25, .call 15 [(.t 23), (.t 24)], none, true, []⟩,
  ⟨some 22, .mov (.t 25), none, true, []⟩,
  ⟨some 26, .ext (.t 22) 0, none, true, []⟩,
  ⟨some 27, .ext (.t 22) 1, none, true, []⟩,
  ⟨some 8, .mov (.t 26), none, true, []⟩,
  ⟨some 9, .mov (.t 27), none, true, []⟩])
 (.seq (.seq (.region [⟨some 28, .load true 3 (.t 2), none, true, []⟩,
  ⟨some 29, .call 16 [(.t 28)], none, true, []⟩,
  ⟨some 30, .mov (.t 5), none, true, []⟩,
  ⟨some 31, .call 17 [(.c (.int .i64 0)), (.t 30)], none, true, []⟩,
  ⟨some 32, .arith .mul (.t 29) (.t 31), none, true, []⟩,
  ⟨some 33, .eql false ⟨false, [(0, .i)]⟩ (.t 32) (.c (.int .i64 0)), none, true, []⟩])
 (.cond (.t 33) (.seq (.region [⟨some 34, .mov (.t 7), none, true, []⟩,
  ⟨some 35, .eql false ⟨false, [(0, .i)]⟩ (.t 34) (.c (.int .i64 4)), none, true, []⟩,
  ⟨some 36, .mov (.t 35), none, true, []⟩,
  ⟨some 37, .mov (.t 9), some (36, true), true, []⟩,
  ⟨some 38, .eql false ⟨false, [(0, .i)]⟩ (.t 37) (.c (.int .i64 4)), some (36, true), true, []⟩,
  ⟨some 39, .pick (.t 36) (.t 38) (.c (.bool false)), none, true, []⟩,
  ⟨some 40, .mov (.t 39), none, true, []⟩,
  ⟨some 41, .mov (.t 6), some (40, true), true, []⟩,
  ⟨some 42, .eql false ⟨false, [(0, .i)]⟩ (.t 41) (.c (.int .i64 0)), some (40, true), true, []⟩,
  ⟨some 43, .pick (.t 40) (.t 42) (.c (.bool false)), none, true, []⟩,
  ⟨some 44, .mov (.t 43), none, true, []⟩,
  ⟨some 45, .mov (.t 8), some (44, true), true, []⟩,
  ⟨some 46, .eql false ⟨false, [(0, .i)]⟩ (.t 45) (.c (.int .i64 0)), some (44, true), true, []⟩,
  ⟨some 47, .pick (.t 44) (.t 46) (.c (.bool false)), none, true, []⟩,
  ⟨some 48, .mov (.t 47), none, true, []⟩,
  ⟨some 49, .call 8 [], some (48, true), true, []⟩,
  ⟨some 50, .pick (.t 48) (.t 49) (.c (.bool false)), none, true, []⟩,
  ⟨some 4, .mov (.t 50), none, true, []⟩])
 .ret)
 .skip))
 (.seq (.seq (.region [⟨some 51, .mov (.t 9), none, true, []⟩,
  ⟨some 52, .eql true ⟨false, [(0, .i)]⟩ (.t 51) (.c (.int .i64 0)), none, true, []⟩,
  ⟨some 53, .mov (.t 52), none, true, []⟩,
  ⟨some 54, .mov (.t 8), some (53, false), true, []⟩,
  ⟨some 55, .faddr 2 (.t 2), some (53, false), true, []⟩,
  ⟨some 56, .load false 1 (.t 55), some (53, false), true, []⟩,
  ⟨some 57, .faddr 1 (.t 2), some (53, false), true, []⟩,
  ⟨some 58, .load false 1 (.t 57), some (53, false), true, []⟩,
  ⟨some 59, .mov (.t 5), some (53, false), true, []⟩,
  ⟨some 60, .arith .mul (.t 58) (.t 59), some (53, false), true, []⟩,
  ⟨some 61, .arith .add (.t 56) (.t 60), some (53, false), true, []⟩,
  ⟨some 62, .eql true ⟨false, [(0, .i)]⟩ (.t 54) (.t 61), some (53, false), true, []⟩,
  ⟨some 63, .pick (.t 53) (.c (.bool true)) (.t 62), none, true, []⟩])
 (.cond (.t 63) (.seq (.region [⟨some 4, .mov (.c (.bool false)), none, true, []⟩])
 .ret)
 .skip))
 (.seq (.seq (.region [⟨some 64, .iaddrArr 2 1 (.t 3) (.c (.int .i64 0)), none, true, []⟩,
  ⟨some 65, .load false 1 (.t 64), none, true, []⟩,
  ⟨some 66, .mov (.t 5), none, true, []⟩,
  ⟨some 67, .call 17 [(.t 65), (.t 66)], none, true, []⟩,
  ⟨some 68, .eql false ⟨false, [(0, .i)]⟩ (.t 67) (.c (.int .i64 0)), none, true, []⟩,
  ⟨some 69, .mov (.t 68), none, true, []⟩,
  ⟨some 70, .iaddrArr 2 1 (.t 3) (.c (.int .i64 0)), some (69, false), true, []⟩,
  ⟨some 71, .load false 1 (.t 70), some (69, false), true, []⟩,
  ⟨some 72, .faddr 2 (.t 2), some (69, false), true, []⟩,
  ⟨some 73, .load false 1 (.t 72), some (69, false), true, []⟩,
  ⟨some 74, .arith .lss (.t 71) (.t 73), some (69, false), true, []⟩,
  ⟨some 75, .pick (.t 69) (.c (.bool true)) (.t 74), none, true, []⟩])
 (.cond (.t 75) (.seq (.region [⟨some 76, .mov (.t 7), none, true, []⟩,
  ⟨some 77, .eql false ⟨false, [(0, .i)]⟩ (.t 76) (.c (.int .i64 4)), none, true, []⟩,
  ⟨some 78, .mov (.t 77), none, true, []⟩,
  ⟨some 79, .mov (.t 6), some (78, true), true, []⟩,
  ⟨some 80, .eql false ⟨false, [(0, .i)]⟩ (.t 79) (.c (.int .i64 0)), some (78, true), true, []⟩,
  ⟨some 81, .pick (.t 78) (.t 80) (.c (.bool false)), none, true, []⟩,
  ⟨some 82, .mov (.t 81), none, true, []⟩,
  ⟨some 83, .call 8 [], some (82, true), true, []⟩,
  ⟨some 84, .pick (.t 82) (.t 83) (.c (.bool false)), none, true, []⟩,
  ⟨some 4, .mov (.t 84), none, true, []⟩])
 .ret)
 .skip))
 (.seq (.seq (.region [⟨some 85, .mov (.t 7), none, true, []⟩,
  ⟨some 86, .eql true ⟨false, [(0, .i)]⟩ (.t 85) (.c (.int .i64 0)), none, true, []⟩,
  ⟨some 87, .mov (.t 86), none, true, []⟩,
  ⟨some 88, .mov (.t 6), some (87, false), true, []⟩,
  ⟨some 89, .load true 3 (.t 2), some (87, false), true, []⟩,
  ⟨some 90, .iaddrArr 2 1 (.t 3) (.c (.int .i64 0)), some (87, false), true, []⟩,
  ⟨some 91, .load false 1 (.t 90), some (87, false), true, []⟩,
  ⟨some 92, .mov (.t 5), some (87, false), true, []⟩,
  ⟨some 93, .call 18 [(.t 89), (.t 91), (.t 92)], some (87, false), true, []⟩,
  ⟨some 94, .eql true ⟨false, [(0, .i)]⟩ (.t 88) (.t 93), some (87, false), true, []⟩,
  ⟨some 95, .pick (.t 87) (.c (.bool true)) (.t 94), none, true, []⟩,
  ⟨some 96, .mov (.t 95), none, true, []⟩,
  ⟨some 97, .mov (.t 6), some (96, false), true, []⟩,
  ⟨some 98, .faddr 1 (.t 2), some (96, false), true, []⟩,
  ⟨some 99, .load false 1 (.t 98), some (96, false), true, []⟩,
  ⟨some 100, .arith .gtr (.t 97) (.t 99), some (96, false), true, []⟩,
  ⟨some 101, .pick (.t 96) (.c (.bool true)) (.t 100), none, true, []⟩,
  ⟨some 102, .mov (.t 101), none, true, []⟩,
  ⟨some 103, .mov (.t 6), some (102, false), true, []⟩,
  ⟨some 104, .eql false ⟨false, [(0, .i)]⟩ (.t 103) (.c (.int .i64 0)), some (102, false), true, []⟩,
  ⟨some 105, .iaddrArr 2 1 (.t 3) (.c (.int .i64 0)), some (102, false), true, []⟩,
  ⟨some 106, .load false 1 (.t 105), some (102, false), true, []⟩,
  ⟨some 107, .mov (.t 8), some (102, false), true, []⟩,
  ⟨some 108, .arith .geq (.t 106) (.t 107), some (102, false), true, []⟩,
  ⟨some 109, .eql true ⟨false, [(0, .b)]⟩ (.t 104) (.t 108), some (102, false), true, []⟩,
  ⟨some 110, .pick (.t 102) (.c (.bool true)) (.t 109), none, true, []⟩])
 (.cond (.t 110) (.seq (.region [⟨some 4, .mov (.c (.bool false)), none, true, []⟩])
 .ret)
 .skip))
 (.seq (.seq (.region [⟨some 111, .iaddrArr 2 1 (.t 3) (.c (.int .i64 0)), none, true, []⟩,
  ⟨some 112, .load false 1 (.t 111), none, true, []⟩,
  ⟨some 113, .arith .lss (.t 112) (.c (.int .i64 4611686018427387904)), none, true, []⟩])
 (.cond (.t 113) (.seq (.region [⟨some 115, .load true 3 (.t 2), none, true, []⟩,
  ⟨some 116, .iaddrArr 2 1 (.t 3) (.c (.int .i64 0)), none, true, []⟩,
  ⟨some 117, .load false 1 (.t 116), none, true, []⟩,
  ⟨some 118, .arith .add (.t 117) (.c (.int .i64 1)), none, true, []⟩,
  ⟨some 119, .mov (.t 5), none, true, []⟩,
  ⟨some 120, .call 14 [(.t 115), (.t 118), (.t 119)], none, true, []⟩,
  ⟨some 114, .mov (.t 120), none, true, []⟩,
  ⟨some 121, .ext (.t 114) 0, none, true, []⟩,
  ⟨some 122, .ext (.t 114) 1, none, true, []⟩,
  ⟨some 10, .mov (.t 121), none, true, []⟩,
  ⟨some 11, .mov (.t 122), none, true, []⟩])
 (.seq (.region [⟨some 123, .mov (.t 11), none, true, []⟩,
  ⟨some 124, .eql false ⟨false, [(0, .i)]⟩ (.t 123) (.c (.int .i64 0)), none, true, []⟩,
  ⟨some 125, .mov (.t 124), none, true, []⟩,
  ⟨some 126, .mov (.t 10), some (125, true), true, []⟩,
  ⟨some 127, .mov (.t 6), some (125, true), true, []⟩,
  ⟨some 128, .arith .leq (.t 126) (.t 127), some (125, true), true, []⟩,
  ⟨some 129, .pick (.t 125) (.t 128) (.c (.bool false)), none, true, []⟩,
  ⟨some 130, .mov (.t 129), none, true, []⟩,
  ⟨some 131, .call 8 [], some (130, true), true, []⟩,
  ⟨some 132, .pick (.t 130) (.t 131) (.c (.bool false)), none, true, []⟩,
  ⟨some 4, .mov (.t 132), none, true, []⟩])
 .ret))
 .skip))
 (.seq (.region [⟨some 133, .call 8 [], none, true, []⟩,
  ⟨some 4, .mov (.t 133), none, true, []⟩])
 .ret))))))))))⟩

def v5 : VFn := ⟨190, [(6, none)],
 (.seq (.region [⟨some 3, .box (.t 0) 1, none, true, []⟩,
  ⟨some 5, .box (.t 2) 2, none, true, []⟩,
  ⟨some 6, .mov (.c (.bool false)), none, true, []⟩])
 (.seq (.region [⟨some 25, .load true 1 (.t 3), none, true, []⟩,
  ⟨some 26, .call 19 [(.t 25)], none, true, []⟩,
  ⟨some 7, .alloc [.nils], none, true, []⟩,
  ⟨none, .store 1 (.t 7) (.t 26), none, true, []⟩])
 (.seq (.region [⟨some 27, .iaddrArr 2 1 (.t 5) (.c (.int .i64 0)), none, true, []⟩,
  ⟨some 28, .load false 1 (.t 27), none, true, []⟩,
  ⟨some 29, .arith .rem (.t 28) (.c (.int .u8 64)), none, true, []⟩,
  ⟨some 30, .convInt .i64 (.t 29), none, true, []⟩,
  ⟨some 31, .arith .add (.c (.int .i64 1)) (.t 30), none, true, []⟩,
  ⟨some 8, .mov (.t 31), none, true, []⟩])
 (.seq (.region [⟨some 32, .load true 1 (.t 7), none, true, []⟩,
  ⟨some 33, .mov (.t 1), none, true, []⟩,
  ⟨some 34, .call 20 [(.t 32), (.t 33)], none, true, []⟩,
  ⟨some 9, .mov (.t 34), none, true, []⟩])
 (.seq (.region [⟨some 36, .load true 1 (.t 7), none, true, []⟩,
  ⟨some 37, .mov (.t 9), none, true, []⟩,
  ⟨some 38, .mov (.t 8), none, true, []⟩,
  ⟨some 39, .call 10 [(.t 36), (.t 37), (.t 38)], none, true, []⟩,
  ⟨some 35, .mov (.t 39), none, true, []⟩,
  ⟨some 40, .ext (.t 35) 0, none, true, []⟩,
  ⟨some 41, .ext (.t 35) 1, none, true, []⟩,
  ⟨some 10, .mov (.t 40), none, true, []⟩,
  ⟨some 11, .mov (.t 41), none, true, []⟩])
 (.seq (.seq (.region [⟨some 42, .mov (.t 11), none, true, []⟩,
  ⟨some 43, .eql true ⟨false, [(0, .i)]⟩ (.t 42) (.c (.int .i64 0)), none, true, []⟩,
  ⟨some 44, .mov (.t 43), none, true, []⟩,
  ⟨some 45, .mov (.t 10), some (44, false), true, []⟩,
  ⟨some 46, .lenOf (.t 45), some (44, false), true, []⟩,
  ⟨some 47, .faddr 0 (.t 7), some (44, false), true, []⟩,
  ⟨some 48, .load false 1 (.t 47), some (44, false), true, []⟩,
  ⟨some 49, .lenOf (.t 48), some (44, false), true, []⟩,
  ⟨some 50, .eql true ⟨false, [(0, .i)]⟩ (.t 46) (.t 49), some (44, false), true, []⟩,
  ⟨some 51, .pick (.t 44) (.c (.bool true)) (.t 50), none, true, []⟩])
 (.cond (.t 51) (.seq (.region [⟨some 6, .mov (.c (.bool false)), none, true, []⟩])
 .ret)
 .skip))
 (.seq (.seq (.region [⟨some 12, .mov (.c (.int .i64 0)), none, true, []⟩])
 (.block 0 (.loop (.seq (.seq (.region [⟨some 52, .mov (.t 12), none, true, []⟩,
  ⟨some 53, .faddr 0 (.t 7), none, true, []⟩,
  ⟨some 54, .load false 1 (.t 53), none, true, []⟩,
  ⟨some 55, .lenOf (.t 54), none, true, []⟩,
  ⟨some 56, .arith .lss (.t 52) (.t 55), none, true, []⟩])
 (.cond (.t 56) .skip
 (.exit 0)))
 (.seq (.block 1 (.seq (.seq (.region [⟨some 59, .mov (.t 10), none, true, []⟩,
  ⟨some 60, .faddr 0 (.t 7), none, true, []⟩,
  ⟨some 61, .load false 1 (.t 60), none, true, []⟩,
  ⟨some 62, .mov (.t 12), none, true, []⟩,
  ⟨some 63, .iaddr 3 (.t 61) (.t 62), none, true, []⟩,
  ⟨some 64, .faddr 0 (.t 63), none, true, []⟩,
  ⟨some 65, .load false 1 (.t 64), none, true, []⟩,
  ⟨some 66, .call 21 [(.t 59), (.t 65)], none, true, []⟩,
  ⟨some 67, .eql false ⟨false, [(0, .i)]⟩ (.t 66) (.c (.int .i64 0)), none, true, []⟩])
 (.cond (.t 67) (.seq (.region [⟨some 6, .mov (.c (.bool false)), none, true, []⟩])
 .ret)
 .skip))
 (.seq (.region [⟨some 69, .faddr 0 (.t 7), none, true, []⟩,
  ⟨some 70, .load false 1 (.t 69), none, true, []⟩,
  ⟨some 71, .mov (.t 12), none, true, []⟩,
  ⟨some 72, .iaddr 3 (.t 70) (.t 71), none, true, []⟩,
  ⟨some 73, .load true 3 (.t 72), none, true, []⟩,
  ⟨some 74, .mov (.t 8), none, true, []⟩,
  ⟨some 75, .call 15 [(.t 73), (.t 74)], none, true, []⟩,
  ⟨some 68, .mov (.t 75), none, true, []⟩,
  ⟨some 76, .ext (.t 68) 0, none, true, []⟩,
  ⟨some 77, .ext (.t 68) 1, none, true, []⟩,
  ⟨some 13, .mov (.t 76), none, true, []⟩,
  ⟨some 14, .mov (.t 77), none, true, []⟩])
 (.seq (.seq (.region [⟨some 78, .mov (.t 14), none, true, []⟩,
  ⟨some 79, .eql true ⟨false, [(0, .i)]⟩ (.t 78) (.c (.int .i64 0)), none, true, []⟩])
 (.cond (.t 79) (.seq (.region [⟨some 6, .mov (.c (.bool false)), none, true, []⟩])
 .ret)
 .skip))
 (.seq (.seq (.region [⟨some 80, .mov (.t 9), none, true, []⟩,
  ⟨some 81, .mov (.t 13), none, true, []⟩,
  ⟨some 82, .arith .lss (.t 80) (.t 81), none, true, []⟩])
 (.cond (.t 82) (.exit 1)
 .skip))
 (.seq (.region [⟨some 15, .mov (.c (.int .i64 0)), none, true, []⟩])
 (.block 2 (.loop (.seq (.seq (.draw [⟨some 83, .mov (.t 15), none, true, []⟩,
  ⟨some 84, .mov (.t 10), none, true, []⟩,
  ⟨some 85, .lenOf (.t 84), none, true, []⟩,
  ⟨some 86, .arith .lss (.t 83) (.t 85), none, true, []⟩,
  ⟨some 87, .mov (.t 86), none, true, []⟩,
  ⟨some 88, .mov (.t 10), some (87, true), false, []⟩,
  ⟨some 89, .mov (.t 15), some (87, true), false, []⟩,
  ⟨some 90, .iaddr 1 (.t 88) (.t 89), some (87, true), false, []⟩,
  ⟨some 91, .load false 1 (.t 90), some (87, true), false, []⟩,
  ⟨some 92, .faddr 0 (.t 7), some (87, true), false, [8]⟩,
  ⟨some 93, .load false 1 (.t 92), some (87, true), false, [8]⟩,
  ⟨some 94, .mov (.t 12), some (87, true), false, [8, 10]⟩,
  ⟨some 95, .iaddr 3 (.t 93) (.t 94), some (87, true), false, [8]⟩,
  ⟨some 96, .faddr 0 (.t 95), some (87, true), false, [8]⟩,
  ⟨some 97, .load false 1 (.t 96), some (87, true), false, [8]⟩,
  ⟨some 98, .eql true ⟨false, [(0, .i)]⟩ (.t 91) (.t 97), some (87, true), true, []⟩,
  ⟨some 99, .pick (.t 87) (.t 98) (.c (.bool false)), none, true, []⟩])
 (.cond (.t 99) .skip
 (.exit 2)))
 (.seq (.block 3 (.seq (.draw [⟨some 102, .faddr 0 (.t 7), none, false, []⟩,
  ⟨some 103, .load false 1 (.t 102), none, false, []⟩,
  ⟨some 104, .mov (.t 10), none, false, [1]⟩,
  ⟨some 105, .mov (.t 15), none, false, [1]⟩,
  ⟨some 106, .iaddr 1 (.t 104) (.t 105), none, false, [1]⟩,
  ⟨some 107, .load false 1 (.t 106), none, false, [1]⟩,
  ⟨some 108, .call 22 [(.t 103), (.t 107)], none, true, []⟩,
  ⟨some 16, .mov (.t 108), none, true, []⟩])
 (.seq (.region [⟨some 109, .mov (.t 16), none, true, []⟩,
  ⟨some 110, .arith .lss (.t 109) (.c (.int .i64 0)), none, true, []⟩,
  ⟨some 111, .mov (.t 110), none, true, []⟩,
  ⟨some 112, .mov (.t 16), some (111, false), true, []⟩,
  ⟨some 113, .mov (.t 12), some (111, false), true, []⟩,
  ⟨some 114, .arith .gtr (.t 112) (.t 113), some (111, false), true, []⟩,
  ⟨some 115, .pick (.t 111) (.c (.bool true)) (.t 114), none, true, []⟩])
 (.cond (.t 115) (.seq (.region [⟨some 6, .mov (.c (.bool false)), none, true, []⟩])
 .ret)
 .skip))))
 (.region [⟨some 100, .mov (.t 15), none, true, []⟩,
  ⟨some 101, .arith .add (.t 100) (.c (.int .i64 1)), none, true, []⟩,
  ⟨some 15, .mov (.t 101), none, true, []⟩])))))))))))
 (.region [⟨some 57, .mov (.t 12), none, true, []⟩,
  ⟨some 58, .arith .add (.t 57) (.c (.int .i64 1)), none, true, []⟩,
  ⟨some 12, .mov (.t 58), none, true, []⟩]))))))
 (.seq (.seq (.region [⟨some 116, .faddr 0 (.t 7), none, true, []⟩,
  ⟨some 117, .load false 1 (.t 116), none, true, []⟩,
  ⟨some 118, .lenOf (.t 117), none, true, []⟩,
  ⟨some 119, .eql false ⟨false, [(0, .i)]⟩ (.t 118) (.c (.int .i64 0)), none, true, []⟩])
 (.cond (.t 119) (.seq (.region [⟨some 120, .call 8 [], none, true, []⟩,
  ⟨some 6, .mov (.t 120), none, true, []⟩])
 .ret)
 .skip))
 (.seq (.draw [⟨some 121, .faddr 0 (.t 7), none, false, []⟩,
  ⟨some 122, .load false 1 (.t 121), none, false, []⟩,
  ⟨some 123, .iaddrArr 2 1 (.t 5) (.c (.int .i64 1)), none, false, [1]⟩,
  ⟨some 124, .load false 1 (.t 123), none, false, [1]⟩,
  ⟨some 125, .convInt .i64 (.t 124), none, false, [1]⟩,
  ⟨some 126, .faddr 0 (.t 7), none, false, [1, 3]⟩,
  ⟨some 127, .load false 1 (.t 126), none, false, [1, 3]⟩,
  ⟨some 128, .lenOf (.t 127), none, false, [1, 3]⟩,
  ⟨some 129, .arith .rem (.t 125) (.t 128), none, false, [1]⟩,
  ⟨some 130, .iaddr 3 (.t 122) (.t 129), none, true, []⟩,
  ⟨some 131, .faddr 0 (.t 130), none, true, []⟩,
  ⟨some 132, .load false 1 (.t 131), none, true, []⟩,
  ⟨some 17, .mov (.t 132), none, true, []⟩])
 (.seq (.region [⟨some 134, .load true 1 (.t 7), none, true, []⟩,
  ⟨some 135, .mov (.t 17), none, true, []⟩,
  ⟨some 136, .iaddrArr 2 1 (.t 5) (.c (.int .i64 1)), none, true, []⟩,
  ⟨some 137, .load false 1 (.t 136), none, true, []⟩,
  ⟨some 138, .convInt .i64 (.t 137), none, true, []⟩,
  ⟨some 139, .arith .rem (.t 138) (.c (.int .i64 8)), none, true, []⟩,
  ⟨some 140, .call 23 [(.t 134), (.t 135), (.t 139)], none, true, []⟩,
  ⟨some 133, .mov (.t 140), none, true, []⟩,
  ⟨some 141, .ext (.t 133) 0, none, true, []⟩,
  ⟨some 142, .ext (.t 133) 1, none, true, []⟩,
  ⟨some 18, .alloc [.nils], none, true, []⟩,
  ⟨none, .store 1 (.t 18) (.t 141), none, true, []⟩,
  ⟨some 19, .mov (.t 142), none, true, []⟩])
 (.seq (.region [⟨some 144, .load true 1 (.t 18), none, true, []⟩,
  ⟨some 145, .mov (.t 9), none, true, []⟩,
  ⟨some 146, .mov (.t 8), none, true, []⟩,
  ⟨some 147, .call 10 [(.t 144), (.t 145), (.t 146)], none, true, []⟩,
  ⟨some 143, .mov (.t 147), none, true, []⟩,
  ⟨some 148, .ext (.t 143) 0, none, true, []⟩,
  ⟨some 149, .ext (.t 143) 1, none, true, []⟩,
  ⟨some 20, .mov (.t 148), none, true, []⟩,
  ⟨some 21, .mov (.t 149), none, true, []⟩])
 (.seq (.region [⟨some 151, .load true 1 (.t 7), none, true, []⟩,
  ⟨some 152, .mov (.t 9), none, true, []⟩,
  ⟨some 153, .mov (.t 8), none, true, []⟩,
  ⟨some 154, .mov (.t 10), none, true, []⟩,
  ⟨some 155, .call 11 [(.t 151), (.t 152), (.t 153), (.t 154)], none, true, []⟩,
  ⟨some 150, .mov (.t 155), none, true, []⟩,
  ⟨some 156, .ext (.t 150) 0, none, true, []⟩,
  ⟨some 157, .ext (.t 150) 1, none, true, []⟩,
  ⟨some 158, .ext (.t 150) 2, none, true, []⟩,
  ⟨some 22, .mov (.t 156), none, true, []⟩,
  ⟨some 23, .mov (.t 157), none, true, []⟩,
  ⟨some 24, .mov (.t 158), none, true, []⟩])
 (.seq (.seq (.region [⟨some 159, .mov (.t 19), none, true, []⟩,
  ⟨some 160, .eql true ⟨false, [(0, .i)]⟩ (.t 159) (.c (.int .i64 0)), none, true, []⟩,
  ⟨some 161, .mov (.t 160), none, true, []⟩,
  ⟨some 162, .mov (.t 21), some (161, false), true, []⟩,
  ⟨some 163, .eql true ⟨false, [(0, .i)]⟩ (.t 162) (.c (.int .i64 0)), some (161, false), true, []⟩,
  ⟨some 164, .pick (.t 161) (.c (.bool true)) (.t 163), none, true, []⟩,
  ⟨some 165, .mov (.t 164), none, true, []⟩,
  ⟨some 166, .mov (.t 24), some (165, false), true, []⟩,
  ⟨some 167, .eql true ⟨false, [(0, .i)]⟩ (.t 166) (.c (.int .i64 0)), some (165, false), true, []⟩,
  ⟨some 168, .pick (.t 165) (.c (.bool true)) (.t 167), none, true, []⟩,
  ⟨some 169, .mov (.t 168), none, true, []⟩,
  ⟨some 170, .mov (.t 23), some (169, false), true, []⟩,
  ⟨some 171, .un .not (.t 170), some (169, false), true, []⟩,
  ⟨some 172, .pick (.t 169) (.c (.bool true)) (.t 171), none, true, []⟩,
  ⟨some 173, .mov (.t 172), none, true, []⟩,
  ⟨some 174, .mov (.t 22), some (173, false), true, []⟩,
  ⟨some 175, .mov (.t 10), some (173, false), true, []⟩,
  ⟨some 176, .iaddr 1 (.t 175) (.c (.int .i64 0)), some (173, false), true, []⟩,
  ⟨some 177, .load false 1 (.t 176), some (173, false), true, []⟩,
  ⟨some 178, .eql true ⟨false, [(0, .i)]⟩ (.t 174) (.t 177), some (173, false), true, []⟩,
  ⟨some 179, .pick (.t 173) (.c (.bool true)) (.t 178), none, true, []⟩])
 (.cond (.t 179) (.seq (.region [⟨some 6, .mov (.c (.bool false)), none, true, []⟩])
 .ret)
 .skip))
 (.seq (.region [⟨some 180, .mov (.t 20), none, true, []⟩,
  ⟨some 181, .mov (.t 17), none, true, []⟩,
  ⟨some 182, .call 24 [(.t 180), (.t 181)], none, true, []⟩,
  ⟨some 183, .mov (.t 10), none, true, []⟩,
  ⟨some 184, .mov (.t 17), none, true, []⟩,
  ⟨some 185, .call 24 [(.t 183), (.t 184)], none, true, []⟩,
  ⟨some 186, .arith .leq (.t 182) (.t 185), none, true, []⟩,
  ⟨some 187, .mov (.t 186), none, true, []⟩,
  ⟨some 188, .call 8 [], some (187, true), true, []⟩,
  ⟨some 189, .pick (.t 187) (.t 188) (.c (.bool false)), none, true, []⟩,
  ⟨some 6, .mov (.t 189), none, true, []⟩])
 .ret))))))))))))))⟩

def v6 : VFn := ⟨180, [(0, none)],
 (.seq (.region [⟨some 0, .mov (.c (.bool false)), none, true, []⟩])
 (.seq (.region [⟨some 1, .alloc [.nils], none, true, []⟩])
 (.seq (.seq (.region [⟨some 2, .mov (.c (.int .i64 0)), none, true, []⟩])
 (.block 0 (.loop (.seq (.seq (.region [⟨some 18, .mov (.t 2), none, true, []⟩,
  ⟨some 19, .arith .lss (.t 18) (.c (.int .i64 64)), none, true, []⟩])
 (.cond (.t 19) .skip
 (.exit 0)))
 (.seq (.block 1 (.seq (.region [⟨some 23, .load true 1 (.t 1), none, true, []⟩,
  ⟨some 24, .mov (.t 2), none, true, []⟩,
  ⟨some 25, .mov (.t 2), none, true, []⟩,
  ⟨some 26, .arith .rem (.t 25) (.c (.int .i64 8)), none, true, []⟩,
  ⟨some 27, .arith .sub (.c (.int .i64 7)) (.t 26), none, true, []⟩,
  ⟨some 28, .mov (.t 2), none, true, []⟩,
  ⟨some 29, .arith .quo (.t 28) (.c (.int .i64 2)), none, true, []⟩,
  ⟨some 30, .build [(.int .i64 0), (.int .i64 0), (.int .i64 0)] [(0, 1, (.t 24)), (1, 1, (.t 27)), (2, 1, (.t 29))], none, true, []⟩,
  ⟨some 31, .call 25 [(.t 23), (.t 30)], none, true, []⟩,
  ⟨some 22, .mov (.t 31), none, true, []⟩,
  ⟨some 32, .ext (.t 22) 0, none, true, []⟩,
  ⟨some 33, .ext (.t 22) 1, none, true, []⟩,
  ⟨some 3, .alloc [.nils], none, true, []⟩,
  ⟨none, .store 1 (.t 3) (.t 32), none, true, []⟩,
  ⟨some 4, .mov (.t 33), none, true, []⟩])
 (.seq (.seq (.region [⟨some 34, .mov (.t 4), none, true, []⟩,
  ⟨some 35, .eql true ⟨false, [(0, .i)]⟩ (.t 34) (.c (.int .i64 0)), none, true, []⟩])
 (.cond (.t 35) (.seq (.region [⟨some 0, .mov (.c (.bool false)), none, true, []⟩])
 .ret)
 .skip))
 (.region [⟨some 36, .load true 1 (.t 3), none, true, []⟩,
  ⟨none, .store 1 (.t 1) (.t 36), none, true, []⟩]))))
 (.region [⟨some 20, .mov (.t 2), none, true, []⟩,
  ⟨some 21, .arith .add (.t 20) (.c (.int .i64 1)), none, true, []⟩,
  ⟨some 2, .mov (.t 21), none, true, []⟩]))))))
 (.seq (.region [⟨some 38, .load true 1 (.t 1), none, true, []⟩,
  ⟨some 39, .build [(.int .i64 0), (.int .i64 0), (.int .i64 0)] [(0, 1, (.c (.int .i64 64))), (2, 1, (.c (.int .i64 32)))], none, true, []⟩,
  ⟨some 40, .call 25 [(.t 38), (.t 39)], none, true, []⟩,
  ⟨some 37, .mov (.t 40), none, true, []⟩,
  ⟨some 41, .ext (.t 37) 0, none, true, []⟩,
  ⟨some 42, .ext (.t 37) 1, none, true, []⟩,
  ⟨some 5, .alloc [.nils], none, true, []⟩,
  ⟨none, .store 1 (.t 5) (.t 41), none, true, []⟩,
  ⟨some 6, .mov (.t 42), none, true, []⟩])
 (.seq (.region [⟨some 44, .load true 1 (.t 1), none, true, []⟩,
  ⟨some 45, .call 10 [(.t 44), (.c (.int .i64 4611686018427387904)), (.c (.int .i64 64))], none, true, []⟩,
  ⟨some 43, .mov (.t 45), none, true, []⟩,
  ⟨some 46, .ext (.t 43) 0, none, true, []⟩,
  ⟨some 47, .ext (.t 43) 1, none, true, []⟩,
  ⟨some 7, .mov (.t 46), none, true, []⟩,
  ⟨some 8, .mov (.t 47), none, true, []⟩])
 (.seq (.seq (.region [⟨some 48, .mov (.t 6), none, true, []⟩,
  ⟨some 49, .eql true ⟨false, [(0, .i)]⟩ (.t 48) (.c (.int .i64 3)), none, true, []⟩,
  ⟨some 50, .mov (.t 49), none, true, []⟩,
  ⟨some 51, .mov (.t 8), some (50, false), true, []⟩,
  ⟨some 52, .eql true ⟨false, [(0, .i)]⟩ (.t 51) (.c (.int .i64 0)), some (50, false), true, []⟩,
  ⟨some 53, .pick (.t 50) (.c (.bool true)) (.t 52), none, true, []⟩,
  ⟨some 54, .mov (.t 53), none, true, []⟩,
  ⟨some 55, .mov (.t 7), some (54, false), true, []⟩,
  ⟨some 56, .lenOf (.t 55), some (54, false), true, []⟩,
  ⟨some 57, .eql true ⟨false, [(0, .i)]⟩ (.t 56) (.c (.int .i64 64)), some (54, false), true, []⟩,
  ⟨some 58, .pick (.t 54) (.c (.bool true)) (.t 57), none, true, []⟩,
  ⟨some 59, .mov (.t 58), none, true, []⟩,
  ⟨some 60, .mov (.t 7), some (59, false), true, []⟩,
  ⟨some 61, .iaddr 1 (.t 60) (.c (.int .i64 0)), some (59, false), true, []⟩,
  ⟨some 62, .load false 1 (.t 61), some (59, false), true, []⟩,
  ⟨some 63, .eql true ⟨false, [(0, .i)]⟩ (.t 62) (.c (.int .i64 0)), some (59, false), true, []⟩,
  ⟨some 64, .pick (.t 59) (.c (.bool true)) (.t 63), none, true, []⟩,
  ⟨some 65, .mov (.t 64), none, true, []⟩,
  ⟨some 66, .mov (.t 7), some (65, false), true, []⟩,
  ⟨some 67, .iaddr 1 (.t 66) (.c (.int .i64 63)), some (65, false), true, []⟩,
  ⟨some 68, .load false 1 (.t 67), some (65, false), true, []⟩,
  ⟨some 69, .eql true ⟨false, [(0, .i)]⟩ (.t 68) (.c (.int .i64 63)), some (65, false), true, []⟩,
  ⟨some 70, .pick (.t 65) (.c (.bool true)) (.t 69), none, true, []⟩])
 (.cond (.t 70) (.seq (.region [⟨some 0, .mov (.c (.bool false)), none, true, []⟩])
 .ret)
 .skip))
 (.seq (.region [⟨some 72, .load true 1 (.t 1), none, true, []⟩,
  ⟨some 73, .call 10 [(.t 72), (.c (.int .i64 32)), (.c (.int .i64 1))], none, true, []⟩,
  ⟨some 71, .mov (.t 73), none, true, []⟩,
  ⟨some 74, .ext (.t 71) 0, none, true, []⟩,
  ⟨some 75, .ext (.t 71) 1, none, true, []⟩,
  ⟨some 7, .mov (.t 74), none, true, []⟩,
  ⟨some 6, .mov (.t 75), none, true, []⟩])
 (.seq (.seq (.region [⟨some 76, .mov (.t 6), none, true, []⟩,
  ⟨some 77, .eql true ⟨false, [(0, .i)]⟩ (.t 76) (.c (.int .i64 0)), none, true, []⟩,
  ⟨some 78, .mov (.t 77), none, true, []⟩,
  ⟨some 79, .mov (.t 7), some (78, false), true, []⟩,
  ⟨some 80, .lenOf (.t 79), some (78, false), true, []⟩,
  ⟨some 81, .eql true ⟨false, [(0, .i)]⟩ (.t 80) (.c (.int .i64 64)), some (78, false), true, []⟩,
  ⟨some 82, .pick (.t 78) (.c (.bool true)) (.t 81), none, true, []⟩,
  ⟨some 83, .mov (.t 82), none, true, []⟩,
  ⟨some 84, .mov (.t 7), some (83, false), true, []⟩,
  ⟨some 85, .iaddr 1 (.t 84) (.c (.int .i64 0)), some (83, false), true, []⟩,
  ⟨some 86, .load false 1 (.t 85), some (83, false), true, []⟩,
  ⟨some 87, .eql true ⟨false, [(0, .i)]⟩ (.t 86) (.c (.int .i64 0)), some (83, false), true, []⟩,
  ⟨some 88, .pick (.t 83) (.c (.bool true)) (.t 87), none, true, []⟩,
  ⟨some 89, .mov (.t 88), none, true, []⟩,
  ⟨some 90, .mov (.t 7), some (89, false), true, []⟩,
  ⟨some 91, .iaddr 1 (.t 90) (.c (.int .i64 51)), some (89, false), true, []⟩,
  ⟨some 92, .load false 1 (.t 91), some (89, false), true, []⟩,
  ⟨some 93, .eql true ⟨false, [(0, .i)]⟩ (.t 92) (.c (.int .i64 51)), some (89, false), true, []⟩,
  ⟨some 94, .pick (.t 89) (.c (.bool true)) (.t 93), none, true, []⟩])
 (.cond (.t 94) (.seq (.region [⟨some 0, .mov (.c (.bool false)), none, true, []⟩])
 .ret)
 .skip))
 (.seq (.seq (.region [⟨some 9, .mov (.c (.int .i64 (-1))), none, true, []⟩])
 (.block 2 (.loop (.seq (.seq (.region [⟨some 95, .mov (.t 9), none, true, []⟩,
  ⟨some 96, .arith .lss (.t 95) (.c (.int .i64 9)), none, true, []⟩])
 (.cond (.t 96) .skip
 (.exit 2)))
 (.seq (.block 3 (.seq (.region [⟨some 99, .bslice 6 [(.int .i64 0), (.int .i64 0), (.int .i64 0), (.int .i64 0), (.int .i64 0), (.int .i64 0)] [(0, 1, (.c (.int .i64 0))), (1, 1, (.c (.int .i64 1))), (2, 1, (.c (.int .i64 2))), (3, 1, (.c (.int .i64 63))), (4, 1, (.c (.int .i64 64))), (5, 1, (.c (.int .i64 65)))], none, true, []⟩,
  ⟨some 100, .lenOf (.t 99), none, true, []⟩,
  ⟨some 101, .mov (.c (.int .i64 0)), none, true, []⟩])
 (.block 4 (.loop (.seq (.region [⟨some 102, .arith .lss (.t 101) (.t 100), none, true, []⟩])
 (.seq (.cond (.t 102) .skip
 (.exit 4))
 (.seq (.block 5 (.seq (.region [⟨some 103, .iaddr 1 (.t 99) (.t 101), none, true, []⟩,
  ⟨some 104, .load false 1 (.t 103), none, true, []⟩,
  ⟨some 11, .mov (.t 104), none, true, []⟩])
 (.seq (.region [⟨some 105, .bslice 8 [(.int .i64 0), (.int .i64 0), (.int .i64 0), (.int .i64 0), (.int .i64 0), (.int .i64 0), (.int .i64 0), (.int .i64 0)] [(0, 1, (.c (.int .i64 4))), (1, 1, (.c (.int .i64 5))), (2, 1, (.c (.int .i64 6))), (3, 1, (.c (.int .i64 453))), (4, 1, (.c (.int .i64 452))), (5, 1, (.c (.int .i64 4611686018427387904))), (6, 1, (.c (.int .i64 4611686018427387905))), (7, 1, (.c (.int .i64 (-1))))], none, true, []⟩,
  ⟨some 106, .lenOf (.t 105), none, true, []⟩,
  ⟨some 107, .mov (.c (.int .i64 0)), none, true, []⟩])
 (.block 6 (.loop (.seq (.region [⟨some 108, .arith .lss (.t 107) (.t 106), none, true, []⟩])
 (.seq (.cond (.t 108) .skip
 (.exit 6))
 (.seq (.block 7 (.seq (.region [⟨some 109, .iaddr 1 (.t 105) (.t 107), none, true, []⟩,
  ⟨some 110, .load false 1 (.t 109), none, true, []⟩,
  ⟨some 13, .mov (.t 110), none, true, []⟩])
 (.seq (.region [⟨some 111, .mov (.t 9), none, true, []⟩,
  ⟨some 112, .build [(.int .i64 0), (.int .i64 0), (.int .i64 0)] [(0, 1, (.c (.int .i64 1))), (1, 1, (.t 111)), (2, 1, (.c (.int .i64 5)))], none, true, []⟩,
  ⟨some 113, .mov (.t 13), none, true, []⟩,
  ⟨some 114, .mov (.t 11), none, true, []⟩,
  ⟨some 115, .build [(.int .i64 0), (.int .i64 0)] [(0, 1, (.t 113)), (1, 1, (.t 114))], none, true, []⟩,
  ⟨some 116, .call 4 [(.t 112), (.t 115)], none, true, []⟩,
  ⟨some 117, .un .not (.t 116), none, true, []⟩])
 (.cond (.t 117) (.seq (.region [⟨some 0, .mov (.c (.bool false)), none, true, []⟩])
 .ret)
 .skip))))
 (.region [⟨some 118, .arith .add (.t 107) (.c (.int .i64 1)), none, true, []⟩,
  ⟨some 107, .mov (.t 118), none, true, []⟩])))))))))
 (.region [⟨some 119, .arith .add (.t 101) (.c (.int .i64 1)), none, true, []⟩,
  ⟨some 101, .mov (.t 119), none, true, []⟩]))))))))
 (.region [⟨some 97, .mov (.t 9), none, true, []⟩,
  ⟨some 98, .arith .add (.t 97) (.c (.int .i64 1)), none, true, []⟩,
  ⟨some 9, .mov (.t 98), none, true, []⟩]))))))
 (.seq (.region [⟨some 120, .build [(.int .i64 0), (.int .i64 0), (.int .i64 0)] [(1, 1, (.c (.int .i64 7))), (2, 1, (.c (.int .i64 4611686018427387904)))], none, true, []⟩,
  ⟨some 14, .alloc [(.int .i64 0), (.int .i64 0), (.int .i64 0)], none, true, []⟩,
  ⟨none, .store 3 (.t 14) (.t 120), none, true, []⟩])
 (.seq (.region [⟨some 122, .load true 3 (.t 14), none, true, []⟩,
  ⟨some 123, .call 15 [(.t 122), (.c (.int .i64 64))], none, true, []⟩,
  ⟨some 121, .mov (.t 123), none, true, []⟩,
  ⟨some 124, .ext (.t 121) 0, none, true, []⟩,
  ⟨some 125, .ext (.t 121) 1, none, true, []⟩,
  ⟨some 15, .mov (.t 124), none, true, []⟩,
  ⟨some 6, .mov (.t 125), none, true, []⟩])
 (.seq (.seq (.region [⟨some 126, .mov (.t 6), none, true, []⟩,
  ⟨some 127, .eql true ⟨false, [(0, .i)]⟩ (.t 126) (.c (.int .i64 0)), none, true, []⟩,
  ⟨some 128, .mov (.t 127), none, true, []⟩,
  ⟨some 129, .mov (.t 15), some (128, false), true, []⟩,
  ⟨some 130, .eql true ⟨false, [(0, .i)]⟩ (.t 129) (.c (.int .i64 4611686018427388352)), some (128, false), true, []⟩,
  ⟨some 131, .pick (.t 128) (.c (.bool true)) (.t 130), none, true, []⟩,
  ⟨some 132, .mov (.t 131), none, true, []⟩,
  ⟨some 133, .load true 3 (.t 14), some (132, false), true, []⟩,
  ⟨some 134, .build [(.int .i64 0), (.int .i64 0)] [(0, 1, (.c (.int .i64 4611686018427387904))), (1, 1, (.c (.int .i64 64)))], some (132, false), true, []⟩,
  ⟨some 135, .call 4 [(.t 133), (.t 134)], some (132, false), true, []⟩,
  ⟨some 136, .un .not (.t 135), some (132, false), true, []⟩,
  ⟨some 137, .pick (.t 132) (.c (.bool true)) (.t 136), none, true, []⟩,
  ⟨some 138, .mov (.t 137), none, true, []⟩,
  ⟨some 139, .build [(.int .i64 0), (.int .i64 0), (.int .i64 0)] [(2, 1, (.c (.int .i64 4611686018427387905)))], some (138, false), true, []⟩,
  ⟨some 140, .build [(.int .i64 0), (.int .i64 0)] [(0, 1, (.c (.int .i64 4611686018427387904))), (1, 1, (.c (.int .i64 1)))], some (138, false), true, []⟩,
  ⟨some 141, .call 4 [(.t 139), (.t 140)], some (138, false), true, []⟩,
  ⟨some 142, .un .not (.t 141), some (138, false), true, []⟩,
  ⟨some 143, .pick (.t 138) (.c (.bool true)) (.t 142), none, true, []⟩])
 (.cond (.t 143) (.seq (.region [⟨some 0, .mov (.c (.bool false)), none, true, []⟩])
 .ret)
 .skip))
 (.seq (.seq (.region [⟨some 16, .mov (.c (.int .i64 0)), none, true, []⟩])
 (.block 8 (.loop (.seq (.seq (.region [⟨some 144, .mov (.t 16), none, true, []⟩,
  ⟨some 145, .arith .lss (.t 144) (.c (.int .i64 100)), none, true, []⟩])
 (.cond (.t 145) .skip
 (.exit 8)))
 (.seq (.block 9 (.seq (.region [⟨some 148, .mov (.t 16), none, true, []⟩,
  ⟨some 149, .convInt .u8 (.t 148), none, true, []⟩,
  ⟨some 150, .build [(.int .u8 0), (.int .u8 0), (.int .u8 0)] [(0, 1, (.c (.int .u8 0))), (1, 1, (.t 149)), (2, 1, (.c (.int .u8 0)))], none, true, []⟩,
  ⟨some 151, .mov (.t 16), none, true, []⟩,
  ⟨some 152, .arith .quo (.t 151) (.c (.int .i64 3)), none, true, []⟩,
  ⟨some 153, .convInt .u8 (.t 152), none, true, []⟩,
  ⟨some 154, .mov (.t 16), none, true, []⟩,
  ⟨some 155, .arith .rem (.t 154) (.c (.int .i64 5)), none, true, []⟩,
  ⟨some 156, .convInt .u8 (.t 155), none, true, []⟩,
  ⟨some 157, .build [(.int .u8 0), (.int .u8 0), (.int .u8 0)] [(0, 1, (.c (.int .u8 1))), (1, 1, (.t 153)), (2, 1, (.t 156))], none, true, []⟩,
  ⟨some 158, .mov (.t 16), none, true, []⟩,
  ⟨some 159, .arith .quo (.t 158) (.c (.int .i64 7)), none, true, []⟩,
  ⟨some 160, .convInt .u8 (.t 159), none, true, []⟩,
  ⟨some 161, .build [(.int .u8 0), (.int .u8 0), (.int .u8 0)] [(0, 1, (.c (.int .u8 2))), (1, 1, (.c (.int .u8 7))), (2, 1, (.t 160))], none, true, []⟩,
  ⟨some 162, .mov (.t 16), none, true, []⟩,
  ⟨some 163, .arith .rem (.t 162) (.c (.int .i64 4)), none, true, []⟩,
  ⟨some 164, .convInt .u8 (.t 163), none, true, []⟩,
  ⟨some 165, .build [(.int .u8 0), (.int .u8 0), (.int .u8 0)] [(0, 1, (.c (.int .u8 0))), (1, 1, (.t 164)), (2, 1, (.c (.int .u8 1)))], none, true, []⟩,
  ⟨some 166, .bslice 4 [(.int .u8 0), (.int .u8 0), (.int .u8 0), (.int .u8 0), (.int .u8 0), (.int .u8 0), (.int .u8 0), (.int .u8 0), (.int .u8 0), (.int .u8 0), (.int .u8 0), (.int .u8 0)] [(0, 3, (.t 150)), (3, 3, (.t 157)), (6, 3, (.t 161)), (9, 3, (.t 165))], none, true, []⟩,
  ⟨some 167, .build [.nils] [(0, 1, (.t 166))], none, true, []⟩,
  ⟨some 17, .alloc [.nils], none, true, []⟩,
  ⟨none, .store 1 (.t 17) (.t 167), none, true, []⟩])
 (.seq (.region [⟨some 168, .load true 1 (.t 17), none, true, []⟩,
  ⟨some 169, .mov (.t 16), none, true, []⟩,
  ⟨some 170, .convInt .u8 (.t 169), none, true, []⟩,
  ⟨some 171, .mov (.t 16), none, true, []⟩,
  ⟨some 172, .arith .rem (.t 171) (.c (.int .i64 9)), none, true, []⟩,
  ⟨some 173, .convInt .u8 (.t 172), none, true, []⟩,
  ⟨some 174, .mov (.t 16), none, true, []⟩,
  ⟨some 175, .convInt .u8 (.t 174), none, true, []⟩,
  ⟨some 176, .build [(.int .u8 0), (.int .u8 0)] [(0, 1, (.t 173)), (1, 1, (.t 175))], none, true, []⟩,
  ⟨some 177, .call 5 [(.t 168), (.t 170), (.t 176)], none, true, []⟩,
  ⟨some 178, .un .not (.t 177), none, true, []⟩])
 (.cond (.t 178) (.seq (.region [⟨some 0, .mov (.c (.bool false)), none, true, []⟩])
 .ret)
 .skip))))
 (.region [⟨some 146, .mov (.t 16), none, true, []⟩,
  ⟨some 147, .arith .add (.t 146) (.c (.int .i64 1)), none, true, []⟩,
  ⟨some 16, .mov (.t 147), none, true, []⟩]))))))
 (.seq (.region [⟨some 179, .call 8 [], none, true, []⟩,
  ⟨some 0, .mov (.t 179), none, true, []⟩])
 .ret))))))))))))))⟩

def v7 : VFn := ⟨123, [(6, none)],
 (.seq (.region [⟨some 3, .box (.t 0) 1, none, true, []⟩,
  ⟨some 4, .box (.t 1) 3, none, true, []⟩,
  ⟨some 5, .box (.t 2) 2, none, true, []⟩,
  ⟨some 6, .mov (.c (.bool false)), none, true, []⟩])
 (.seq (.seq (.region [⟨some 21, .faddr 0 (.t 3), none, true, []⟩,
  ⟨some 22, .load false 1 (.t 21), none, true, []⟩,
  ⟨some 23, .lenOf (.t 22), none, true, []⟩,
  ⟨some 24, .arith .gtr (.t 23) (.c (.int .i64 70)), none, true, []⟩])
 (.cond (.t 24) (.seq (.region [⟨some 25, .call 8 [], none, true, []⟩,
  ⟨some 6, .mov (.t 25), none, true, []⟩])
 .ret)
 .skip))
 (.seq (.region [⟨some 7, .mov (.c .nils), none, true, []⟩])
 (.seq (.region [⟨some 26, .mov (.t 7), none, true, []⟩,
  ⟨some 27, .faddr 0 (.t 3), none, true, []⟩,
  ⟨some 28, .load false 1 (.t 27), none, true, []⟩,
  ⟨some 29, .append 3 24 (.t 26) (.t 28), none, true, []⟩,
  ⟨some 7, .mov (.t 29), none, true, []⟩])
 (.seq (.region [⟨some 31, .faddr 0 (.t 3), none, true, []⟩,
  ⟨some 32, .load false 1 (.t 31), none, true, []⟩,
  ⟨some 33, .load true 3 (.t 4), none, true, []⟩,
  ⟨some 34, .call 26 [(.t 32), (.t 33)], none, true, []⟩,
  ⟨some 30, .mov (.t 34), none, true, []⟩,
  ⟨some 35, .ext (.t 30) 0, none, true, []⟩,
  ⟨some 36, .ext (.t 30) 1, none, true, []⟩,
  ⟨some 8, .mov (.t 35), none, true, []⟩,
  ⟨some 9, .mov (.t 36), none, true, []⟩])
 (.seq (.region [⟨some 38, .faddr 0 (.t 3), none, true, []⟩,
  ⟨some 39, .load false 1 (.t 38), none, true, []⟩,
  ⟨some 40, .iaddrArr 2 1 (.t 5) (.c (.int .i64 0)), none, true, []⟩,
  ⟨some 41, .load false 1 (.t 40), none, true, []⟩,
  ⟨some 42, .call 27 [(.t 39), (.t 41)], none, true, []⟩,
  ⟨some 37, .mov (.t 42), none, true, []⟩,
  ⟨some 43, .ext (.t 37) 0, none, true, []⟩,
  ⟨some 44, .ext (.t 37) 1, none, true, []⟩,
  ⟨some 10, .mov (.t 43), none, true, []⟩,
  ⟨some 11, .mov (.t 44), none, true, []⟩])
 (.seq (.region [⟨some 46, .faddr 0 (.t 3), none, true, []⟩,
  ⟨some 47, .load false 1 (.t 46), none, true, []⟩,
  ⟨some 48, .iaddrArr 2 1 (.t 5) (.c (.int .i64 0)), none, true, []⟩,
  ⟨some 49, .load false 1 (.t 48), none, true, []⟩,
  ⟨some 50, .iaddrArr 2 1 (.t 5) (.c (.int .i64 1)), none, true, []⟩,
  ⟨some 51, .load false 1 (.t 50), none, true, []⟩,
  ⟨some 52, .call 28 [(.t 47), (.t 49), (.t 51)], none, true, []⟩,
  ⟨some 45, .mov (.t 52), none, true, []⟩,
  ⟨some 53, .ext (.t 45) 0, none, true, []⟩,
  ⟨some 54, .ext (.t 45) 1, none, true, []⟩,
  ⟨some 12, .mov (.t 53), none, true, []⟩,
  ⟨some 13, .mov (.t 54), none, true, []⟩])
 (.seq (.region [⟨some 56, .load true 1 (.t 3), none, true, []⟩,
  ⟨some 57, .load true 3 (.t 4), none, true, []⟩,
  ⟨some 58, .call 25 [(.t 56), (.t 57)], none, true, []⟩,
  ⟨some 55, .mov (.t 58), none, true, []⟩,
  ⟨some 59, .ext (.t 55) 0, none, true, []⟩,
  ⟨some 60, .ext (.t 55) 1, none, true, []⟩,
  ⟨some 14, .alloc [.nils], none, true, []⟩,
  ⟨none, .store 1 (.t 14) (.t 59), none, true, []⟩,
  ⟨some 15, .mov (.t 60), none, true, []⟩])
 (.seq (.region [⟨some 62, .load true 1 (.t 3), none, true, []⟩,
  ⟨some 63, .iaddrArr 2 1 (.t 5) (.c (.int .i64 0)), none, true, []⟩,
  ⟨some 64, .load false 1 (.t 63), none, true, []⟩,
  ⟨some 65, .call 29 [(.t 62), (.t 64)], none, true, []⟩,
  ⟨some 61, .mov (.t 65), none, true, []⟩,
  ⟨some 66, .ext (.t 61) 0, none, true, []⟩,
  ⟨some 67, .ext (.t 61) 1, none, true, []⟩,
  ⟨some 16, .alloc [.nils], none, true, []⟩,
  ⟨none, .store 1 (.t 16) (.t 66), none, true, []⟩,
  ⟨some 17, .mov (.t 67), none, true, []⟩])
 (.seq (.region [⟨some 69, .load true 1 (.t 3), none, true, []⟩,
  ⟨some 70, .iaddrArr 2 1 (.t 5) (.c (.int .i64 0)), none, true, []⟩,
  ⟨some 71, .load false 1 (.t 70), none, true, []⟩,
  ⟨some 72, .iaddrArr 2 1 (.t 5) (.c (.int .i64 1)), none, true, []⟩,
  ⟨some 73, .load false 1 (.t 72), none, true, []⟩,
  ⟨some 74, .call 23 [(.t 69), (.t 71), (.t 73)], none, true, []⟩,
  ⟨some 68, .mov (.t 74), none, true, []⟩,
  ⟨some 75, .ext (.t 68) 0, none, true, []⟩,
  ⟨some 76, .ext (.t 68) 1, none, true, []⟩,
  ⟨some 18, .alloc [.nils], none, true, []⟩,
  ⟨none, .store 1 (.t 18) (.t 75), none, true, []⟩,
  ⟨some 19, .mov (.t 76), none, true, []⟩])
 (.seq (.seq (.draw [⟨some 77, .load true 1 (.t 3), none, false, []⟩,
  ⟨some 78, .call 30 [(.t 77)], none, false, []⟩,
  ⟨some 79, .faddr 0 (.t 3), none, false, [0, 1]⟩,
  ⟨some 80, .load false 1 (.t 79), none, false, [0, 1]⟩,
  ⟨some 81, .call 31 [(.t 80)], none, true, []⟩,
  ⟨some 82, .eql true ⟨false, [(0, .i)]⟩ (.t 78) (.t 81), none, true, []⟩,
  ⟨some 83, .mov (.t 82), none, true, []⟩,
  ⟨some 84, .load true 1 (.t 14), some (83, false), false, []⟩,
  ⟨some 85, .mov (.t 15), some (83, false), false, [7]⟩,
  ⟨some 86, .mov (.t 8), some (83, false), false, [7]⟩,
  ⟨some 87, .mov (.t 9), some (83, false), false, [7]⟩,
  ⟨some 88, .call 32 [(.t 84), (.t 85), (.t 86), (.t 87)], some (83, false), false, []⟩,
  ⟨some 89, .load true 1 (.t 16), some (83, false), false, [7, 11]⟩,
  ⟨some 90, .mov (.t 17), some (83, false), false, [7, 11, 12]⟩,
  ⟨some 91, .mov (.t 10), some (83, false), false, [7, 11, 12]⟩,
  ⟨some 92, .mov (.t 11), some (83, false), false, [7, 11, 12]⟩,
  ⟨some 93, .call 32 [(.t 89), (.t 90), (.t 91), (.t 92)], some (83, false), false, []⟩,
  ⟨some 94, .arith .mul (.t 88) (.t 93), some (83, false), false, []⟩,
  ⟨some 95, .load true 1 (.t 18), some (83, false), false, [7, 11, 12, 16]⟩,
  ⟨some 96, .mov (.t 19), some (83, false), false, [7, 11, 12, 16, 18]⟩,
  ⟨some 97, .mov (.t 12), some (83, false), false, [7, 11, 12, 16, 18]⟩,
  ⟨some 98, .mov (.t 13), some (83, false), false, [7, 11, 12, 16, 18]⟩,
  ⟨some 99, .call 32 [(.t 95), (.t 96), (.t 97), (.t 98)], some (83, false), true, []⟩,
  ⟨some 100, .arith .mul (.t 94) (.t 99), some (83, false), true, []⟩,
  ⟨some 101, .eql false ⟨false, [(0, .i)]⟩ (.t 100) (.c (.int .i64 0)), some (83, false), true, []⟩,
  ⟨some 102, .pick (.t 83) (.c (.bool true)) (.t 101), none, true, []⟩])
 (.cond (.t 102) (.seq (.region [⟨some 6, .mov (.c (.bool false)), none, true, []⟩])
 .ret)
 .skip))
 (.seq (.seq (.region [⟨some 20, .mov (.c (.int .i64 0)), none, true, []⟩])
 (.block 0 (.loop (.seq (.seq (.region [⟨some 103, .mov (.t 20), none, true, []⟩,
  ⟨some 104, .faddr 0 (.t 18), none, true, []⟩,
  ⟨some 105, .load false 1 (.t 104), none, true, []⟩,
  ⟨some 106, .lenOf (.t 105), none, true, []⟩,
  ⟨some 107, .arith .lss (.t 103) (.t 106), none, true, []⟩])
 (.cond (.t 107) .skip
 (.exit 0)))
 (.seq (.block 1 (.region [⟨some 110, .faddr 0 (.t 18), none, true, []⟩,
  ⟨some 111, .load false 1 (.t 110), none, true, []⟩,
  ⟨some 112, .mov (.t 20), none, true, []⟩,
  ⟨some 113, .iaddr 3 (.t 111) (.t 112), none, true, []⟩,
  ⟨some 114, .faddr 0 (.t 113), none, true, []⟩,
  ⟨none, .store 1 (.t 114) (.c (.int .i64 (-1))), none, true, []⟩]))
 (.region [⟨some 108, .mov (.t 20), none, true, []⟩,
  ⟨some 109, .arith .add (.t 108) (.c (.int .i64 1)), none, true, []⟩,
  ⟨some 20, .mov (.t 109), none, true, []⟩]))))))
 (.seq (.region [⟨some 115, .faddr 0 (.t 3), none, true, []⟩,
  ⟨some 116, .load false 1 (.t 115), none, true, []⟩,
  ⟨some 117, .mov (.t 7), none, true, []⟩,
  ⟨some 118, .call 33 [(.t 116), (.t 117)], none, true, []⟩,
  ⟨some 119, .eql false ⟨false, [(0, .i)]⟩ (.t 118) (.c (.int .i64 1)), none, true, []⟩,
  ⟨some 120, .mov (.t 119), none, true, []⟩,
  ⟨some 121, .call 8 [], some (120, true), true, []⟩,
  ⟨some 122, .pick (.t 120) (.t 121) (.c (.bool false)), none, true, []⟩,
  ⟨some 6, .mov (.t 122), none, true, []⟩])
 .ret)))))))))))))⟩

def v8 : VFn := ⟨190, [(0, none)],
 (.seq (.region [⟨some 0, .mov (.c (.bool false)), none, true, []⟩])
 (.seq (.region [⟨some 17, .call 34 [], none, true, []⟩,
  ⟨some 1, .alloc [.nils], none, true, []⟩,
  ⟨none, .store 1 (.t 1) (.t 17), none, true, []⟩])
 (.seq (.seq (.draw [⟨some 18, .load true 1 (.t 1), none, false, []⟩,
  ⟨some 19, .bslice 3 [(.int .i64 0), (.int .i64 0), (.int .i64 0)] [(0, 1, (.c (.int .i64 5))), (1, 1, (.c (.int .i64 3))), (2, 1, (.c (.int .i64 8)))], none, false, [0]⟩,
  ⟨some 20, .call 35 [(.t 18), (.c (.int .i64 4)), (.c (.int .i64 4)), (.t 19)], none, false, []⟩,
  ⟨some 21, .load true 1 (.t 1), none, false, [0, 1, 2]⟩,
  ⟨some 22, .bslice 3 [(.int .i64 0), (.int .i64 0), (.int .i64 0)] [(0, 1, (.c (.int .i64 3))), (1, 1, (.c (.int .i64 5))), (2, 1, (.c (.int .i64 8)))], none, false, [0, 1, 2, 3]⟩,
  ⟨some 23, .call 35 [(.t 21), (.c (.int .i64 4)), (.c (.int .i64 2)), (.t 22)], none, false, []⟩,
  ⟨some 24, .arith .mul (.t 20) (.t 23), none, false, []⟩,
  ⟨some 25, .load true 1 (.t 1), none, false, [0, 1, 2, 3, 4, 5]⟩,
  ⟨some 26, .bslice 3 [(.int .i64 0), (.int .i64 0), (.int .i64 0)] [(0, 1, (.c (.int .i64 3))), (1, 1, (.c (.int .i64 5))), (2, 1, (.c (.int .i64 8)))], none, false, [0, 1, 2, 3, 4, 5, 7]⟩,
  ⟨some 27, .call 35 [(.t 25), (.c (.int .i64 8)), (.c (.int .i64 4)), (.t 26)], none, true, []⟩,
  ⟨some 28, .arith .mul (.t 24) (.t 27), none, true, []⟩,
  ⟨some 29, .eql false ⟨false, [(0, .i)]⟩ (.t 28) (.c (.int .i64 0)), none, true, []⟩,
  ⟨some 30, .mov (.t 29), none, true, []⟩,
  ⟨some 31, .faddr 0 (.t 1), some (30, false), true, []⟩,
  ⟨some 32, .load false 1 (.t 31), some (30, false), true, []⟩,
  ⟨some 33, .lenOf (.t 32), some (30, false), true, []⟩,
  ⟨some 34, .eql true ⟨false, [(0, .i)]⟩ (.t 33) (.c (.int .i64 3)), some (30, false), true, []⟩,
  ⟨some 35, .pick (.t 30) (.c (.bool true)) (.t 34), none, true, []⟩])
 (.cond (.t 35) (.seq (.region [⟨some 0, .mov (.c (.bool false)), none, true, []⟩])
 .ret)
 .skip))
 (.seq (.region [⟨some 37, .faddr 0 (.t 1), none, true, []⟩,
  ⟨some 38, .load false 1 (.t 37), none, true, []⟩,
  ⟨some 39, .iaddr 3 (.t 38) (.c (.int .i64 0)), none, true, []⟩,
  ⟨some 40, .load true 3 (.t 39), none, true, []⟩,
  ⟨some 41, .call 14 [(.t 40), (.c (.int .i64 3)), (.c (.int .i64 4))], none, true, []⟩,
  ⟨some 36, .mov (.t 41), none, true, []⟩,
  ⟨some 42, .ext (.t 36) 0, none, true, []⟩,
  ⟨some 43, .ext (.t 36) 1, none, true, []⟩,
  ⟨some 2, .mov (.t 42), none, true, []⟩,
  ⟨some 3, .mov (.t 43), none, true, []⟩])
 (.seq (.region [⟨some 45, .faddr 0 (.t 1), none, true, []⟩,
  ⟨some 46, .load false 1 (.t 45), none, true, []⟩,
  ⟨some 47, .iaddr 3 (.t 46) (.c (.int .i64 0)), none, true, []⟩,
  ⟨some 48, .load true 3 (.t 47), none, true, []⟩,
  ⟨some 49, .call 14 [(.t 48), (.c (.int .i64 4)), (.c (.int .i64 4))], none, true, []⟩,
  ⟨some 44, .mov (.t 49), none, true, []⟩,
  ⟨some 50, .ext (.t 44) 0, none, true, []⟩,
  ⟨some 51, .ext (.t 44) 1, none, true, []⟩,
  ⟨some 4, .mov (.t 50), none, true, []⟩,
  ⟨some 5, .mov (.t 51), none, true, []⟩])
 (.seq (.region [⟨some 53, .faddr 0 (.t 1), none, true, []⟩,
  ⟨some 54, .load false 1 (.t 53), none, true, []⟩,
  ⟨some 55, .iaddr 3 (.t 54) (.c (.int .i64 2)), none, true, []⟩,
  ⟨some 56, .load true 3 (.t 55), none, true, []⟩,
  ⟨some 57, .call 14 [(.t 56), (.c (.int .i64 4)), (.c (.int .i64 4))], none, true, []⟩,
  ⟨some 52, .mov (.t 57), none, true, []⟩,
  ⟨some 58, .ext (.t 52) 0, none, true, []⟩,
  ⟨some 59, .ext (.t 52) 1, none, true, []⟩,
  ⟨some 6, .mov (.t 58), none, true, []⟩,
  ⟨some 7, .mov (.t 59), none, true, []⟩])
 (.seq (.region [⟨some 61, .faddr 0 (.t 1), none, true, []⟩,
  ⟨some 62, .load false 1 (.t 61), none, true, []⟩,
  ⟨some 63, .iaddr 3 (.t 62) (.c (.int .i64 0)), none, true, []⟩,
  ⟨some 64, .load true 3 (.t 63), none, true, []⟩,
  ⟨some 65, .call 15 [(.t 64), (.c (.int .i64 4))], none, true, []⟩,
  ⟨some 60, .mov (.t 65), none, true, []⟩,
  ⟨some 66, .ext (.t 60) 0, none, true, []⟩,
  ⟨some 67, .ext (.t 60) 1, none, true, []⟩,
  ⟨some 8, .mov (.t 66), none, true, []⟩,
  ⟨some 9, .mov (.t 67), none, true, []⟩])
 (.seq (.seq (.region [⟨some 68, .mov (.t 3), none, true, []⟩,
  ⟨some 69, .eql true ⟨false, [(0, .i)]⟩ (.t 68) (.c (.int .i64 0)), none, true, []⟩,
  ⟨some 70, .mov (.t 69), none, true, []⟩,
  ⟨some 71, .mov (.t 5), some (70, false), true, []⟩,
  ⟨some 72, .eql true ⟨false, [(0, .i)]⟩ (.t 71) (.c (.int .i64 0)), some (70, false), true, []⟩,
  ⟨some 73, .pick (.t 70) (.c (.bool true)) (.t 72), none, true, []⟩,
  ⟨some 74, .mov (.t 73), none, true, []⟩,
  ⟨some 75, .mov (.t 7), some (74, false), true, []⟩,
  ⟨some 76, .eql true ⟨false, [(0, .i)]⟩ (.t 75) (.c (.int .i64 0)), some (74, false), true, []⟩,
  ⟨some 77, .pick (.t 74) (.c (.bool true)) (.t 76), none, true, []⟩,
  ⟨some 78, .mov (.t 77), none, true, []⟩,
  ⟨some 79, .mov (.t 9), some (78, false), true, []⟩,
  ⟨some 80, .eql true ⟨false, [(0, .i)]⟩ (.t 79) (.c (.int .i64 0)), some (78, false), true, []⟩,
  ⟨some 81, .pick (.t 78) (.c (.bool true)) (.t 80), none, true, []⟩,
  ⟨some 82, .mov (.t 81), none, true, []⟩,
  ⟨some 83, .mov (.t 2), some (82, false), true, []⟩,
  ⟨some 84, .eql true ⟨false, [(0, .i)]⟩ (.t 83) (.c (.int .i64 2)), some (82, false), true, []⟩,
  ⟨some 85, .pick (.t 82) (.c (.bool true)) (.t 84), none, true, []⟩,
  ⟨some 86, .mov (.t 85), none, true, []⟩,
  ⟨some 87, .mov (.t 4), some (86, false), true, []⟩,
  ⟨some 88, .eql true ⟨false, [(0, .i)]⟩ (.t 87) (.c (.int .i64 1)), some (86, false), true, []⟩,
  ⟨some 89, .pick (.t 86) (.c (.bool true)) (.t 88), none, true, []⟩,
  ⟨some 90, .mov (.t 89), none, true, []⟩,
  ⟨some 91, .mov (.t 6), some (90, false), true, []⟩,
  ⟨some 92, .eql true ⟨false, [(0, .i)]⟩ (.t 91) (.c (.int .i64 1)), some (90, false), true, []⟩,
  ⟨some 93, .pick (.t 90) (.c (.bool true)) (.t 92), none, true, []⟩,
  ⟨some 94, .mov (.t 93), none, true, []⟩,
  ⟨some 95, .mov (.t 8), some (94, false), true, []⟩,
  ⟨some 96, .eql true ⟨false, [(0, .i)]⟩ (.t 95) (.c (.int .i64 8)), some (94, false), true, []⟩,
  ⟨some 97, .pick (.t 94) (.c (.bool true)) (.t 96), none, true, []⟩])
 (.cond (.t 97) (.seq (.region [⟨some 0, .mov (.c (.bool false)), none, true, []⟩])
 .ret)
 .skip))
 (.seq (.region [⟨some 99, .load true 1 (.t 1), none, true, []⟩,
  ⟨some 100, .bslice 2 [(.int .i64 0), (.int .i64 0)] [(0, 1, (.c (.int .i64 8))), (1, 1, (.c (.int .i64 3)))], none, true, []⟩,
  ⟨some 101, .call 11 [(.t 99), (.c (.int .i64 4)), (.c (.int .i64 4)), (.t 100)], none, true, []⟩,
  ⟨some 98, .mov (.t 101), none, true, []⟩,
  ⟨some 102, .ext (.t 98) 0, none, true, []⟩,
  ⟨some 103, .ext (.t 98) 1, none, true, []⟩,
  ⟨some 104, .ext (.t 98) 2, none, true, []⟩,
  ⟨some 10, .mov (.t 102), none, true, []⟩,
  ⟨some 11, .mov (.t 103), none, true, []⟩,
  ⟨some 3, .mov (.t 104), none, true, []⟩])
 (.seq (.region [⟨some 106, .load true 1 (.t 1), none, true, []⟩,
  ⟨some 107, .bslice 1 [(.int .i64 0)] [(0, 1, (.c (.int .i64 4)))], none, true, []⟩,
  ⟨some 108, .call 11 [(.t 106), (.c (.int .i64 4)), (.c (.int .i64 4)), (.t 107)], none, true, []⟩,
  ⟨some 105, .mov (.t 108), none, true, []⟩,
  ⟨some 109, .ext (.t 105) 0, none, true, []⟩,
  ⟨some 110, .ext (.t 105) 1, none, true, []⟩,
  ⟨some 111, .ext (.t 105) 2, none, true, []⟩,
  ⟨some 12, .mov (.t 109), none, true, []⟩,
  ⟨some 13, .mov (.t 110), none, true, []⟩,
  ⟨some 5, .mov (.t 111), none, true, []⟩])
 (.seq (.region [⟨some 113, .load true 1 (.t 1), none, true, []⟩,
  ⟨some 114, .call 23 [(.t 113), (.c (.int .i64 8)), (.c (.int .i64 0))], none, true, []⟩,
  ⟨some 112, .mov (.t 114), none, true, []⟩,
  ⟨some 115, .ext (.t 112) 0, none, true, []⟩,
  ⟨some 116, .ext (.t 112) 1, none, true, []⟩,
  ⟨some 14, .alloc [.nils], none, true, []⟩,
  ⟨none, .store 1 (.t 14) (.t 115), none, true, []⟩,
  ⟨some 7, .mov (.t 116), none, true, []⟩])
 (.seq (.seq (.region [⟨some 117, .mov (.t 3), none, true, []⟩,
  ⟨some 118, .eql true ⟨false, [(0, .i)]⟩ (.t 117) (.c (.int .i64 0)), none, true, []⟩,
  ⟨some 119, .mov (.t 118), none, true, []⟩,
  ⟨some 120, .mov (.t 5), some (119, false), true, []⟩,
  ⟨some 121, .eql true ⟨false, [(0, .i)]⟩ (.t 120) (.c (.int .i64 0)), some (119, false), true, []⟩,
  ⟨some 122, .pick (.t 119) (.c (.bool true)) (.t 121), none, true, []⟩,
  ⟨some 123, .mov (.t 122), none, true, []⟩,
  ⟨some 124, .mov (.t 7), some (123, false), true, []⟩,
  ⟨some 125, .eql true ⟨false, [(0, .i)]⟩ (.t 124) (.c (.int .i64 0)), some (123, false), true, []⟩,
  ⟨some 126, .pick (.t 123) (.c (.bool true)) (.t 125), none, true, []⟩,
  ⟨some 127, .mov (.t 126), none, true, []⟩,
  ⟨some 128, .mov (.t 11), some (127, false), true, []⟩,
  ⟨some 129, .un .not (.t 128), some (127, false), true, []⟩,
  ⟨some 130, .pick (.t 127) (.c (.bool true)) (.t 129), none, true, []⟩,
  ⟨some 131, .mov (.t 130), none, true, []⟩,
  ⟨some 132, .mov (.t 10), some (131, false), true, []⟩,
  ⟨some 133, .eql true ⟨false, [(0, .i)]⟩ (.t 132) (.c (.int .i64 3)), some (131, false), true, []⟩,
  ⟨some 134, .pick (.t 131) (.c (.bool true)) (.t 133), none, true, []⟩,
  ⟨some 135, .mov (.t 134), none, true, []⟩,
  ⟨some 136, .mov (.t 13), some (135, false), true, []⟩,
  ⟨some 137, .pick (.t 135) (.c (.bool true)) (.t 136), none, true, []⟩,
  ⟨some 138, .mov (.t 137), none, true, []⟩,
  ⟨some 139, .load true 1 (.t 14), some (138, false), true, []⟩,
  ⟨some 140, .bslice 3 [(.int .i64 0), (.int .i64 0), (.int .i64 0)] [(0, 1, (.c (.int .i64 5))), (1, 1, (.c (.int .i64 8))), (2, 1, (.c (.int .i64 3)))], some (138, false), true, []⟩,
  ⟨some 141, .call 35 [(.t 139), (.c (.int .i64 4)), (.c (.int .i64 4)), (.t 140)], some (138, false), true, []⟩,
  ⟨some 142, .eql false ⟨false, [(0, .i)]⟩ (.t 141) (.c (.int .i64 0)), some (138, false), true, []⟩,
  ⟨some 143, .pick (.t 138) (.c (.bool true)) (.t 142), none, true, []⟩])
 (.cond (.t 143) (.seq (.region [⟨some 0, .mov (.c (.bool false)), none, true, []⟩])
 .ret)
 .skip))
 (.seq (.region [⟨some 145, .load true 1 (.t 1), none, true, []⟩,
  ⟨some 146, .call 23 [(.t 145), (.c (.int .i64 4)), (.c (.int .i64 0))], none, true, []⟩,
  ⟨some 144, .mov (.t 146), none, true, []⟩,
  ⟨some 147, .ext (.t 144) 0, none, true, []⟩,
  ⟨some 148, .ext (.t 144) 1, none, true, []⟩,
  ⟨some 3, .mov (.t 148), none, true, []⟩])
 (.seq (.region [⟨some 150, .load true 1 (.t 1), none, true, []⟩,
  ⟨some 151, .call 23 [(.t 150), (.c (.int .i64 3)), (.c (.int .i64 8))], none, true, []⟩,
  ⟨some 149, .mov (.t 151), none, true, []⟩,
  ⟨some 152, .ext (.t 149) 0, none, true, []⟩,
  ⟨some 153, .ext (.t 149) 1, none, true, []⟩,
  ⟨some 5, .mov (.t 153), none, true, []⟩])
 (.seq (.region [⟨some 155, .load true 1 (.t 1), none, true, []⟩,
  ⟨some 156, .build [(.int .i64 0), (.int .i64 0), (.int .i64 0)] [(0, 1, (.c (.int .i64 8))), (2, 1, (.c (.int .i64 4)))], none, true, []⟩,
  ⟨some 157, .call 25 [(.t 155), (.t 156)], none, true, []⟩,
  ⟨some 154, .mov (.t 157), none, true, []⟩,
  ⟨some 158, .ext (.t 154) 0, none, true, []⟩,
  ⟨some 159, .ext (.t 154) 1, none, true, []⟩,
  ⟨some 7, .mov (.t 159), none, true, []⟩])
 (.seq (.region [⟨some 161, .load true 1 (.t 1), none, true, []⟩,
  ⟨some 162, .build [(.int .i64 0), (.int .i64 0), (.int .i64 0)] [(0, 1, (.c (.int .i64 9))), (2, 1, (.c (.int .i64 3)))], none, true, []⟩,
  ⟨some 163, .call 25 [(.t 161), (.t 162)], none, true, []⟩,
  ⟨some 160, .mov (.t 163), none, true, []⟩,
  ⟨some 164, .ext (.t 160) 0, none, true, []⟩,
  ⟨some 165, .ext (.t 160) 1, none, true, []⟩,
  ⟨some 9, .mov (.t 165), none, true, []⟩])
 (.seq (.region [⟨some 167, .load true 1 (.t 1), none, true, []⟩,
  ⟨some 168, .build [(.int .i64 0), (.int .i64 0), (.int .i64 0)] [(0, 1, (.c (.int .i64 9))), (2, 1, (.c (.int .i64 4))), (1, 1, (.c (.int .i64 8)))], none, true, []⟩,
  ⟨some 169, .call 25 [(.t 167), (.t 168)], none, true, []⟩,
  ⟨some 166, .mov (.t 169), none, true, []⟩,
  ⟨some 170, .ext (.t 166) 0, none, true, []⟩,
  ⟨some 171, .ext (.t 166) 1, none, true, []⟩,
  ⟨some 15, .alloc [.nils], none, true, []⟩,
  ⟨none, .store 1 (.t 15) (.t 170), none, true, []⟩,
  ⟨some 16, .mov (.t 171), none, true, []⟩])
 (.seq (.region [⟨some 172, .mov (.t 3), none, true, []⟩,
  ⟨some 173, .eql false ⟨false, [(0, .i)]⟩ (.t 172) (.c (.int .i64 8)), none, true, []⟩,
  ⟨some 174, .mov (.t 173), none, true, []⟩,
  ⟨some 175, .mov (.t 5), some (174, true), true, []⟩,
  ⟨some 176, .eql false ⟨false, [(0, .i)]⟩ (.t 175) (.c (.int .i64 4)), some (174, true), true, []⟩,
  ⟨some 177, .pick (.t 174) (.t 176) (.c (.bool false)), none, true, []⟩,
  ⟨some 178, .mov (.t 177), none, true, []⟩,
  ⟨some 179, .mov (.t 7), some (178, true), true, []⟩,
  ⟨some 180, .eql false ⟨false, [(0, .i)]⟩ (.t 179) (.c (.int .i64 18)), some (178, true), true, []⟩,
  ⟨some 181, .pick (.t 178) (.t 180) (.c (.bool false)), none, true, []⟩,
  ⟨some 182, .mov (.t 181), none, true, []⟩,
  ⟨some 183, .mov (.t 9), some (182, true), true, []⟩,
  ⟨some 184, .eql false ⟨false, [(0, .i)]⟩ (.t 183) (.c (.int .i64 18)), some (182, true), true, []⟩,
  ⟨some 185, .pick (.t 182) (.t 184) (.c (.bool false)), none, true, []⟩,
  ⟨some 186, .mov (.t 185), none, true, []⟩,
  ⟨some 187, .mov (.t 16), some (186, true), true, []⟩,
  ⟨some 188, .eql false ⟨false, [(0, .i)]⟩ (.t 187) (.c (.int .i64 4)), some (186, true), true, []⟩,
  ⟨some 189, .pick (.t 186) (.t 188) (.c (.bool false)), none, true, []⟩,
  ⟨some 0, .mov (.t 189), none, true, []⟩])
 .ret))))))))))))))))))⟩

def v9 : VFn := ⟨67, [(6, none), (7, none)],
 (.seq (.region [⟨some 6, .mov (.c .nils), none, true, []⟩,
  ⟨some 7, .mov (.c (.int .i64 0)), none, true, []⟩])
 (.seq (.seq (.region [⟨some 13, .mov (.t 0), none, true, []⟩,
  ⟨some 14, .call 31 [(.t 13)], none, true, []⟩,
  ⟨some 15, .arith .gtr (.t 14) (.c (.int .i64 0)), none, true, []⟩])
 (.cond (.t 15) (.seq (.region [⟨some 16, .mov (.t 0), none, true, []⟩,
  ⟨some 17, .call 31 [(.t 16)], none, true, []⟩,
  ⟨some 6, .mov (.c .nils), none, true, []⟩,
  ⟨some 7, .mov (.t 17), none, true, []⟩])
 .ret)
 .skip))
 (.seq (.region [⟨some 8, .mov (.c (.int .i64 0)), none, true, []⟩])
 (.seq (.seq (.region [⟨some 9, .mov (.c (.int .i64 0)), none, true, []⟩])
 (.block 0 (.loop (.seq (.seq (.region [⟨some 18, .mov (.t 9), none, true, []⟩,
  ⟨some 19, .mov (.t 0), none, true, []⟩,
  ⟨some 20, .lenOf (.t 19), none, true, []⟩,
  ⟨some 21, .arith .lss (.t 18) (.t 20), none, true, []⟩])
 (.cond (.t 21) .skip
 (.exit 0)))
 (.seq (.block 1 (.seq (.region [⟨some 24, .mov (.t 1), none, true, []⟩,
  ⟨some 25, .mov (.t 0), none, true, []⟩,
  ⟨some 26, .mov (.t 9), none, true, []⟩,
  ⟨some 27, .iaddr 3 (.t 25) (.t 26), none, true, []⟩,
  ⟨some 28, .faddr 2 (.t 27), none, true, []⟩,
  ⟨some 29, .load false 1 (.t 28), none, true, []⟩,
  ⟨some 30, .arith .lss (.t 24) (.t 29), none, true, []⟩])
 (.cond (.t 30) (.region [⟨some 8, .mov (.c (.int .i64 4)), none, true, []⟩])
 .skip)))
 (.region [⟨some 22, .mov (.t 9), none, true, []⟩,
  ⟨some 23, .arith .add (.t 22) (.c (.int .i64 1)), none, true, []⟩,
  ⟨some 9, .mov (.t 23), none, true, []⟩]))))))
 (.seq (.seq (.region [⟨some 31, .mov (.t 1), none, true, []⟩,
  ⟨some 32, .mov (.t 2), none, true, []⟩,
  ⟨some 33, .call 17 [(.t 31), (.t 32)], none, true, []⟩,
  ⟨some 34, .eql false ⟨false, [(0, .i)]⟩ (.t 33) (.c (.int .i64 0)), none, true, []⟩,
  ⟨some 35, .mov (.t 34), none, true, []⟩,
  ⟨some 36, .mov (.t 8), some (35, false), true, []⟩,
  ⟨some 37, .arith .gtr (.t 36) (.c (.int .i64 0)), some (35, false), true, []⟩,
  ⟨some 38, .pick (.t 35) (.c (.bool true)) (.t 37), none, true, []⟩])
 (.cond (.t 38) (.seq (.region [⟨some 6, .mov (.c .nils), none, true, []⟩,
  ⟨some 7, .mov (.c (.int .i64 4)), none, true, []⟩])
 .ret)
 .skip))
 (.seq (.region [⟨some 10, .mov (.c .nils), none, true, []⟩])
 (.seq (.seq (.region [⟨some 11, .mov (.c (.int .i64 0)), none, true, []⟩])
 (.block 2 (.loop (.seq (.seq (.region [⟨some 39, .mov (.t 11), none, true, []⟩,
  ⟨some 40, .arith .lss (.t 39) (.c (.int .i64 8)), none, true, []⟩])
 (.cond (.t 40) .skip
 (.exit 2)))
 (.seq (.block 3 (.seq (.region [⟨some 12, .mov (.c (.int .i64 0)), none, true, []⟩])
 (.block 4 (.loop (.seq (.seq (.region [⟨some 43, .mov (.t 12), none, true, []⟩,
  ⟨some 44, .mov (.t 0), none, true, []⟩,
  ⟨some 45, .lenOf (.t 44), none, true, []⟩,
  ⟨some 46, .arith .lss (.t 43) (.t 45), none, true, []⟩])
 (.cond (.t 46) .skip
 (.exit 4)))
 (.seq (.block 5 (.seq (.region [⟨some 49, .mov (.t 0), none, true, []⟩,
  ⟨some 50, .mov (.t 12), none, true, []⟩,
  ⟨some 51, .iaddr 3 (.t 49) (.t 50), none, true, []⟩,
  ⟨some 52, .load true 3 (.t 51), none, true, []⟩,
  ⟨some 53, .mov (.t 1), none, true, []⟩,
  ⟨some 54, .mov (.t 2), none, true, []⟩,
  ⟨some 55, .call 18 [(.t 52), (.t 53), (.t 54)], none, true, []⟩,
  ⟨some 56, .mov (.t 11), none, true, []⟩,
  ⟨some 57, .eql false ⟨false, [(0, .i)]⟩ (.t 55) (.t 56), none, true, []⟩])
 (.cond (.t 57) (.region [⟨some 58, .mov (.t 10), none, true, []⟩,
  ⟨some 59, .mov (.t 0), none, true, []⟩,
  ⟨some 60, .mov (.t 12), none, true, []⟩,
  ⟨some 61, .iaddr 3 (.t 59) (.t 60), none, true, []⟩,
  ⟨some 62, .faddr 0 (.t 61), none, true, []⟩,
  ⟨some 63, .load false 1 (.t 62), none, true, []⟩,
  ⟨some 64, .bslice 1 [(.int .i64 0)] [(0, 1, (.t 63))], none, true, []⟩,
  ⟨some 65, .append 1 8 (.t 58) (.t 64), none, true, []⟩,
  ⟨some 10, .mov (.t 65), none, true, []⟩])
 .skip)))
 (.region [⟨some 47, .mov (.t 12), none, true, []⟩,
  ⟨some 48, .arith .add (.t 47) (.c (.int .i64 1)), none, true, []⟩,
  ⟨some 12, .mov (.t 48), none, true, []⟩])))))))
 (.region [⟨some 41, .mov (.t 11), none, true, []⟩,
  ⟨some 42, .arith .add (.t 41) (.c (.int .i64 1)), none, true, []⟩,
  ⟨some 11, .mov (.t 42), none, true, []⟩]))))))
 (.seq (.region [⟨some 66, .mov (.t 10), none, true, []⟩,
  ⟨some 6, .mov (.t 66), none, true, []⟩,
  ⟨some 7, .mov (.c (.int .i64 0)), none, true, []⟩])
 .ret))))))))⟩

def v10 : VFn := ⟨71, [(6, none), (7, none)],
 (.seq (.region [⟨some 3, .box (.t 0) 1, none, true, []⟩,
  ⟨some 6, .mov (.c .nils), none, true, []⟩,
  ⟨some 7, .mov (.c (.int .i64 0)), none, true, []⟩])
 (.seq (.seq (.region [⟨some 14, .load true 1 (.t 3), none, true, []⟩,
  ⟨some 15, .call 30 [(.t 14)], none, true, []⟩,
  ⟨some 8, .mov (.t 15), none, true, []⟩])
 (.seq (.region [⟨some 16, .mov (.t 8), none, true, []⟩,
  ⟨some 17, .eql true ⟨false, [(0, .i)]⟩ (.t 16) (.c (.int .i64 0)), none, true, []⟩])
 (.cond (.t 17) (.seq (.region [⟨some 18, .mov (.t 8), none, true, []⟩,
  ⟨some 6, .mov (.c .nils), none, true, []⟩,
  ⟨some 7, .mov (.t 18), none, true, []⟩])
 .ret)
 .skip)))
 (.seq (.region [⟨some 19, .mov (.t 1), none, true, []⟩,
  ⟨some 20, .mov (.t 2), none, true, []⟩,
  ⟨some 21, .build [(.int .i64 0), (.int .i64 0)] [(0, 1, (.t 19)), (1, 1, (.t 20))], none, true, []⟩,
  ⟨some 9, .alloc [(.int .i64 0), (.int .i64 0)], none, true, []⟩,
  ⟨none, .store 2 (.t 9) (.t 21), none, true, []⟩])
 (.seq (.seq (.region [⟨some 22, .load true 2 (.t 9), none, true, []⟩,
  ⟨some 23, .call 36 [(.t 22)], none, true, []⟩,
  ⟨some 24, .un .not (.t 23), none, true, []⟩,
  ⟨some 25, .mov (.t 24), none, true, []⟩,
  ⟨some 26, .faddr 0 (.t 3), some (25, false), true, []⟩,
  ⟨some 27, .load false 1 (.t 26), some (25, false), true, []⟩,
  ⟨some 28, .lenOf (.t 27), some (25, false), true, []⟩,
  ⟨some 29, .arith .gtr (.t 28) (.c (.int .i64 0)), some (25, false), true, []⟩,
  ⟨some 30, .mov (.t 29), some (25, false), true, []⟩,
  ⟨some 31, .mov (.t 1), some (30, true), true, []⟩,
  ⟨some 32, .faddr 0 (.t 3), some (30, true), true, []⟩,
  ⟨some 33, .load false 1 (.t 32), some (30, true), true, []⟩,
  ⟨some 34, .faddr 0 (.t 3), some (30, true), true, []⟩,
  ⟨some 35, .load false 1 (.t 34), some (30, true), true, []⟩,
  ⟨some 36, .lenOf (.t 35), some (30, true), true, []⟩,
  ⟨some 37, .arith .sub (.t 36) (.c (.int .i64 1)), some (30, true), true, []⟩,
  ⟨some 38, .iaddr 3 (.t 33) (.t 37), some (30, true), true, []⟩,
  ⟨some 39, .faddr 2 (.t 38), some (30, true), true, []⟩,
  ⟨some 40, .load false 1 (.t 39), some (30, true), true, []⟩,
  ⟨some 41, .arith .lss (.t 31) (.t 40), some (30, true), true, []⟩,
  ⟨some 42, .pick (.t 30) (.t 41) (.c (.bool false)), some (25, false), true, []⟩,
  ⟨some 43, .pick (.t 25) (.c (.bool true)) (.t 42), none, true, []⟩])
 (.cond (.t 43) (.seq (.region [⟨some 6, .mov (.c .nils), none, true, []⟩,
  ⟨some 7, .mov (.c (.int .i64 4)), none, true, []⟩])
 .ret)
 .skip))
 (.seq (.region [⟨some 44, .faddr 0 (.t 3), none, true, []⟩,
  ⟨some 45, .load false 1 (.t 44), none, true, []⟩,
  ⟨some 46, .bslice 1 [.nils] [(0, 1, (.t 45))], none, true, []⟩,
  ⟨some 47, .call 37 [(.t 46)], none, true, []⟩,
  ⟨some 10, .mov (.t 47), none, true, []⟩])
 (.seq (.region [⟨some 48, .mov (.t 10), none, true, []⟩,
  ⟨some 49, .load true 2 (.t 9), none, true, []⟩,
  ⟨some 50, .mkfunc (.func 39) [(.t 49)] [], none, true, []⟩,
  ⟨some 51, .call 38 [(.t 48), (.t 50)], none, true, []⟩])
 (.seq (.region [⟨some 52, .mov (.t 10), none, true, []⟩,
  ⟨some 53, .lenOf (.t 52), none, true, []⟩,
  ⟨some 54, .mkslice 1 8 [(.int .i64 0)] (.t 53) (.t 53), none, true, []⟩,
  ⟨some 11, .mov (.t 54), none, true, []⟩])
 (.seq (.seq (.region [⟨some 55, .mov (.t 10), none, true, []⟩,
  ⟨some 56, .lenOf (.t 55), none, true, []⟩,
  ⟨some 57, .mov (.c (.int .i64 0)), none, true, []⟩])
 (.block 0 (.loop (.seq (.region [⟨some 58, .arith .lss (.t 57) (.t 56), none, true, []⟩])
 (.seq (.cond (.t 58) .skip
 (.exit 0))
 (.seq (.block 1 (.seq (.region [⟨some 59, .mov (.t 57), none, true, []⟩,
  ⟨some 60, .iaddr 3 (.t 55) (.t 57), none, true, []⟩,
  ⟨some 61, .load true 3 (.t 60), none, true, []⟩,
  ⟨some 13, .alloc [(.int .i64 0), (.int .i64 0), (.int .i64 0)], none, true, []⟩,
  ⟨some 12, .mov (.t 59), none, true, []⟩,
  ⟨none, .store 3 (.t 13) (.t 61), none, true, []⟩])
 (.region [⟨some 62, .mov (.t 11), none, true, []⟩,
  ⟨some 63, .mov (.t 12), none, true, []⟩,
  ⟨some 64, .faddr 0 (.t 13), none, true, []⟩,
  ⟨some 65, .load false 1 (.t 64), none, true, []⟩,
  ⟨some 66, .iaddr 1 (.t 62) (.t 63), none, true, []⟩,
  ⟨none, .store 1 (.t 66) (.t 65), none, true, []⟩])))
 (.region [⟨some 67, .arith .add (.t 57) (.c (.int .i64 1)), none, true, []⟩,
  ⟨some 57, .mov (.t 67), none, true, []⟩])))))))
 (.seq (.region [⟨some 68, .mov (.t 11), none, true, []⟩,
  ⟨some 69, .bslice 1 [.nils] [(0, 1, (.t 68))], none, true, []⟩,
  ⟨some 70, .call 40 [(.t 69)], none, true, []⟩,
  ⟨some 6, .mov (.t 70), none, true, []⟩,
  ⟨some 7, .mov (.c (.int .i64 0)), none, true, []⟩])
 .ret)))))))))⟩

def v11 : VFn := ⟨35, [(8, none), (9, none), (10, none)],
 (.seq (.region [⟨some 4, .box (.t 0) 1, none, true, []⟩,
  ⟨some 8, .mov (.c (.int .i64 0)), none, true, []⟩,
  ⟨some 9, .mov (.c (.bool false)), none, true, []⟩,
  ⟨some 10, .mov (.c (.int .i64 0)), none, true, []⟩])
 (.seq (.region [⟨some 15, .load true 1 (.t 4), none, true, []⟩,
  ⟨some 16, .mov (.t 1), none, true, []⟩,
  ⟨some 17, .mov (.t 2), none, true, []⟩,
  ⟨some 18, .call 10 [(.t 15), (.t 16), (.t 17)], none, true, []⟩,
  ⟨some 14, .mov (.t 18), none, true, []⟩,
  ⟨some 19, .ext (.t 14) 0, none, true, []⟩,
  ⟨some 20, .ext (.t 14) 1, none, true, []⟩,
  ⟨some 11, .mov (.t 19), none, true, []⟩,
  ⟨some 10, .mov (.t 20), none, true, []⟩])
 (.seq (.seq (.region [⟨some 21, .mov (.t 10), none, true, []⟩,
  ⟨some 22, .eql true ⟨false, [(0, .i)]⟩ (.t 21) (.c (.int .i64 0)), none, true, []⟩])
 (.cond (.t 22) (.seq (.region [⟨some 23, .mov (.t 10), none, true, []⟩,
  ⟨some 8, .mov (.c (.int .i64 0)), none, true, []⟩,
  ⟨some 9, .mov (.c (.bool false)), none, true, []⟩,
  ⟨some 10, .mov (.t 23), none, true, []⟩])
 .ret)
 .skip))
 (.seq (.seq (.region [⟨some 24, .mov (.t 11), none, true, []⟩,
  ⟨some 25, .lenOf (.t 24), none, true, []⟩,
  ⟨some 26, .mov (.c (.int .i64 0)), none, true, []⟩])
 (.block 0 (.loop (.seq (.region [⟨some 27, .arith .lss (.t 26) (.t 25), none, true, []⟩])
 (.seq (.cond (.t 27) .skip
 (.exit 0))
 (.seq (.block 1 (.seq (.region [⟨some 28, .iaddr 1 (.t 24) (.t 26), none, true, []⟩,
  ⟨some 29, .load false 1 (.t 28), none, true, []⟩,
  ⟨some 13, .mov (.t 29), none, true, []⟩])
 (.seq (.region [⟨some 30, .mov (.t 3), none, true, []⟩,
  ⟨some 31, .mov (.t 13), none, true, []⟩,
  ⟨some 32, .call 41 [(.t 30), (.t 31)], none, true, []⟩])
 (.cond (.t 32) (.seq (.region [⟨some 33, .mov (.t 13), none, true, []⟩,
  ⟨some 8, .mov (.t 33), none, true, []⟩,
  ⟨some 9, .mov (.c (.bool true)), none, true, []⟩,
  ⟨some 10, .mov (.c (.int .i64 0)), none, true, []⟩])
 .ret)
 .skip))))
 (.region [⟨some 34, .arith .add (.t 26) (.c (.int .i64 1)), none, true, []⟩,
  ⟨some 26, .mov (.t 34), none, true, []⟩])))))))
 (.seq (.region [⟨some 8, .mov (.c (.int .i64 0)), none, true, []⟩,
  ⟨some 9, .mov (.c (.bool false)), none, true, []⟩,
  ⟨some 10, .mov (.c (.int .i64 0)), none, true, []⟩])
 .ret)))))⟩

def v12 : VFn := ⟨39, [(8, none), (9, none)],
 (.seq (.region [⟨some 8, .mov (.c (.int .i64 0)), none, true, []⟩,
  ⟨some 9, .mov (.c (.int .i64 0)), none, true, []⟩])
 (.seq (.region [⟨some 14, .mov (.t 0), none, true, []⟩,
  ⟨some 15, .mov (.t 1), none, true, []⟩,
  ⟨some 16, .mov (.t 2), none, true, []⟩,
  ⟨some 17, .call 9 [(.t 14), (.t 15), (.t 16)], none, true, []⟩,
  ⟨some 13, .mov (.t 17), none, true, []⟩,
  ⟨some 18, .ext (.t 13) 0, none, true, []⟩,
  ⟨some 19, .ext (.t 13) 1, none, true, []⟩,
  ⟨some 10, .mov (.t 18), none, true, []⟩,
  ⟨some 11, .mov (.t 19), none, true, []⟩])
 (.seq (.seq (.region [⟨some 12, .mov (.c (.int .i64 0)), none, true, []⟩])
 (.block 0 (.loop (.seq (.seq (.region [⟨some 20, .mov (.t 12), none, true, []⟩,
  ⟨some 21, .mov (.t 10), none, true, []⟩,
  ⟨some 22, .lenOf (.t 21), none, true, []⟩,
  ⟨some 23, .arith .lss (.t 20) (.t 22), none, true, []⟩])
 (.cond (.t 23) .skip
 (.exit 0)))
 (.seq (.block 1 (.seq (.region [⟨some 26, .mov (.t 3), none, true, []⟩,
  ⟨some 27, .mov (.t 10), none, true, []⟩,
  ⟨some 28, .mov (.t 12), none, true, []⟩,
  ⟨some 29, .iaddr 1 (.t 27) (.t 28), none, true, []⟩,
  ⟨some 30, .load false 1 (.t 29), none, true, []⟩,
  ⟨some 31, .call 21 [(.t 26), (.t 30)], none, true, []⟩,
  ⟨some 32, .eql false ⟨false, [(0, .i)]⟩ (.t 31) (.c (.int .i64 1)), none, true, []⟩])
 (.cond (.t 32) (.seq (.region [⟨some 33, .mov (.t 10), none, true, []⟩,
  ⟨some 34, .mov (.t 12), none, true, []⟩,
  ⟨some 35, .iaddr 1 (.t 33) (.t 34), none, true, []⟩,
  ⟨some 36, .load false 1 (.t 35), none, true, []⟩,
  ⟨some 37, .mov (.t 11), none, true, []⟩,
  ⟨some 8, .mov (.t 36), none, true, []⟩,
  ⟨some 9, .mov (.t 37), none, true, []⟩])
 .ret)
 .skip)))
 (.region [⟨some 24, .mov (.t 12), none, true, []⟩,
  ⟨some 25, .arith .add (.t 24) (.c (.int .i64 1)), none, true, []⟩,
  ⟨some 12, .mov (.t 25), none, true, []⟩]))))))
 (.seq (.region [⟨some 38, .mov (.t 11), none, true, []⟩,
  ⟨some 8, .mov (.c (.int .i64 (-1))), none, true, []⟩,
  ⟨some 9, .mov (.t 38), none, true, []⟩])
 .ret))))⟩

def v13 : VFn := ⟨26, [(4, none)],
 (.seq (.region [⟨some 4, .mov (.c (.int .i64 0)), none, true, []⟩])
 (.seq (.seq (.region [⟨some 6, .mov (.t 0), none, true, []⟩,
  ⟨some 7, .lenOf (.t 6), none, true, []⟩,
  ⟨some 8, .mov (.t 1), none, true, []⟩,
  ⟨some 9, .lenOf (.t 8), none, true, []⟩,
  ⟨some 10, .eql true ⟨false, [(0, .i)]⟩ (.t 7) (.t 9), none, true, []⟩])
 (.cond (.t 10) (.seq (.region [⟨some 4, .mov (.c (.int .i64 0)), none, true, []⟩])
 .ret)
 .skip))
 (.seq (.seq (.region [⟨some 5, .mov (.c (.int .i64 0)), none, true, []⟩])
 (.block 0 (.loop (.seq (.seq (.region [⟨some 11, .mov (.t 5), none, true, []⟩,
  ⟨some 12, .mov (.t 0), none, true, []⟩,
  ⟨some 13, .lenOf (.t 12), none, true, []⟩,
  ⟨some 14, .arith .lss (.t 11) (.t 13), none, true, []⟩])
 (.cond (.t 14) .skip
 (.exit 0)))
 (.seq (.block 1 (.seq (.draw [⟨some 17, .mov (.t 0), none, false, []⟩,
  ⟨some 18, .mov (.t 5), none, false, []⟩,
  ⟨some 19, .iaddr 1 (.t 17) (.t 18), none, false, []⟩,
  ⟨some 20, .load false 1 (.t 19), none, false, []⟩,
  ⟨some 21, .mov (.t 1), none, false, [3]⟩,
  ⟨some 22, .mov (.t 5), none, false, [3]⟩,
  ⟨some 23, .iaddr 1 (.t 21) (.t 22), none, false, [3]⟩,
  ⟨some 24, .load false 1 (.t 23), none, false, [3]⟩,
  ⟨some 25, .eql true ⟨false, [(0, .i)]⟩ (.t 20) (.t 24), none, true, []⟩])
 (.cond (.t 25) (.seq (.region [⟨some 4, .mov (.c (.int .i64 0)), none, true, []⟩])
 .ret)
 .skip)))
 (.region [⟨some 15, .mov (.t 5), none, true, []⟩,
  ⟨some 16, .arith .add (.t 15) (.c (.int .i64 1)), none, true, []⟩,
  ⟨some 5, .mov (.t 16), none, true, []⟩]))))))
 (.seq (.region [⟨some 4, .mov (.c (.int .i64 1)), none, true, []⟩])
 .ret))))⟩

def v14 : VFn := ⟨29, [(6, none), (7, none)],
 (.seq (.region [⟨some 3, .box (.t 0) 3, none, true, []⟩,
  ⟨some 6, .mov (.c (.int .i64 0)), none, true, []⟩,
  ⟨some 7, .mov (.c (.int .i64 0)), none, true, []⟩])
 (.seq (.region [⟨some 9, .mov (.t 1), none, true, []⟩,
  ⟨some 10, .mov (.t 2), none, true, []⟩,
  ⟨some 11, .build [(.int .i64 0), (.int .i64 0)] [(0, 1, (.t 9)), (1, 1, (.t 10))], none, true, []⟩,
  ⟨some 8, .alloc [(.int .i64 0), (.int .i64 0)], none, true, []⟩,
  ⟨none, .store 2 (.t 8) (.t 11), none, true, []⟩])
 (.seq (.seq (.region [⟨some 12, .load true 3 (.t 3), none, true, []⟩,
  ⟨some 13, .call 42 [(.t 12)], none, true, []⟩,
  ⟨some 14, .un .not (.t 13), none, true, []⟩,
  ⟨some 15, .mov (.t 14), none, true, []⟩,
  ⟨some 16, .load true 2 (.t 8), some (15, false), true, []⟩,
  ⟨some 17, .call 36 [(.t 16)], some (15, false), true, []⟩,
  ⟨some 18, .un .not (.t 17), some (15, false), true, []⟩,
  ⟨some 19, .pick (.t 15) (.c (.bool true)) (.t 18), none, true, []⟩,
  ⟨some 20, .mov (.t 19), none, true, []⟩,
  ⟨some 21, .mov (.t 1), some (20, false), true, []⟩,
  ⟨some 22, .faddr 2 (.t 3), some (20, false), true, []⟩,
  ⟨some 23, .load false 1 (.t 22), some (20, false), true, []⟩,
  ⟨some 24, .arith .lss (.t 21) (.t 23), some (20, false), true, []⟩,
  ⟨some 25, .pick (.t 20) (.c (.bool true)) (.t 24), none, true, []⟩])
 (.cond (.t 25) (.seq (.region [⟨some 6, .mov (.c (.int .i64 0)), none, true, []⟩,
  ⟨some 7, .mov (.c (.int .i64 4)), none, true, []⟩])
 .ret)
 .skip))
 (.seq (.region [⟨some 26, .load true 2 (.t 8), none, true, []⟩,
  ⟨some 27, .load true 3 (.t 3), none, true, []⟩,
  ⟨some 28, .call 43 [(.t 26), (.t 27)], none, true, []⟩,
  ⟨some 6, .mov (.t 28), none, true, []⟩,
  ⟨some 7, .mov (.c (.int .i64 0)), none, true, []⟩])
 .ret))))⟩

def v15 : VFn := ⟨22, [(4, none), (5, none)],
 (.seq (.region [⟨some 2, .box (.t 0) 3, none, true, []⟩,
  ⟨some 4, .mov (.c (.int .i64 0)), none, true, []⟩,
  ⟨some 5, .mov (.c (.int .i64 0)), none, true, []⟩])
 (.seq (.seq (.region [⟨some 6, .load true 3 (.t 2), none, true, []⟩,
  ⟨some 7, .call 42 [(.t 6)], none, true, []⟩,
  ⟨some 8, .un .not (.t 7), none, true, []⟩,
  ⟨some 9, .mov (.t 8), none, true, []⟩,
  ⟨some 10, .mov (.t 1), some (9, false), true, []⟩,
  ⟨some 11, .build [(.int .i64 0), (.int .i64 0)] [(0, 1, (.c (.int .i64 0))), (1, 1, (.t 10))], some (9, false), true, []⟩,
  ⟨some 12, .call 36 [(.t 11)], some (9, false), true, []⟩,
  ⟨some 13, .un .not (.t 12), some (9, false), true, []⟩,
  ⟨some 14, .pick (.t 9) (.c (.bool true)) (.t 13), none, true, []⟩])
 (.cond (.t 14) (.seq (.region [⟨some 4, .mov (.c (.int .i64 0)), none, true, []⟩,
  ⟨some 5, .mov (.c (.int .i64 4)), none, true, []⟩])
 .ret)
 .skip))
 (.seq (.region [⟨some 15, .faddr 2 (.t 2), none, true, []⟩,
  ⟨some 16, .load false 1 (.t 15), none, true, []⟩,
  ⟨some 17, .faddr 1 (.t 2), none, true, []⟩,
  ⟨some 18, .load false 1 (.t 17), none, true, []⟩,
  ⟨some 19, .mov (.t 1), none, true, []⟩,
  ⟨some 20, .arith .mul (.t 18) (.t 19), none, true, []⟩,
  ⟨some 21, .arith .add (.t 16) (.t 20), none, true, []⟩,
  ⟨some 4, .mov (.t 21), none, true, []⟩,
  ⟨some 5, .mov (.c (.int .i64 0)), none, true, []⟩])
 .ret)))⟩

def v16 : VFn := ⟨26, [(2, none)],
 (.seq (.region [⟨some 1, .box (.t 0) 3, none, true, []⟩,
  ⟨some 2, .mov (.c (.int .i64 0)), none, true, []⟩])
 (.seq (.seq (.region [⟨some 3, .faddr 0 (.t 1), none, true, []⟩,
  ⟨some 4, .load false 1 (.t 3), none, true, []⟩,
  ⟨some 5, .arith .lss (.t 4) (.c (.int .i64 0)), none, true, []⟩,
  ⟨some 6, .mov (.t 5), none, true, []⟩,
  ⟨some 7, .faddr 1 (.t 1), some (6, false), true, []⟩,
  ⟨some 8, .load false 1 (.t 7), some (6, false), true, []⟩,
  ⟨some 9, .arith .lss (.t 8) (.c (.int .i64 0)), some (6, false), true, []⟩,
  ⟨some 10, .pick (.t 6) (.c (.bool true)) (.t 9), none, true, []⟩,
  ⟨some 11, .mov (.t 10), none, true, []⟩,
  ⟨some 12, .faddr 1 (.t 1), some (11, false), true, []⟩,
  ⟨some 13, .load false 1 (.t 12), some (11, false), true, []⟩,
  ⟨some 14, .arith .gtr (.t 13) (.c (.int .i64 7)), some (11, false), true, []⟩,
  ⟨some 15, .pick (.t 11) (.c (.bool true)) (.t 14), none, true, []⟩,
  ⟨some 16, .mov (.t 15), none, true, []⟩,
  ⟨some 17, .faddr 2 (.t 1), some (16, false), true, []⟩,
  ⟨some 18, .load false 1 (.t 17), some (16, false), true, []⟩,
  ⟨some 19, .arith .lss (.t 18) (.c (.int .i64 0)), some (16, false), true, []⟩,
  ⟨some 20, .pick (.t 16) (.c (.bool true)) (.t 19), none, true, []⟩,
  ⟨some 21, .mov (.t 20), none, true, []⟩,
  ⟨some 22, .faddr 2 (.t 1), some (21, false), true, []⟩,
  ⟨some 23, .load false 1 (.t 22), some (21, false), true, []⟩,
  ⟨some 24, .arith .gtr (.t 23) (.c (.int .i64 4611686018427387904)), some (21, false), true, []⟩,
  ⟨some 25, .pick (.t 21) (.c (.bool true)) (.t 24), none, true, []⟩])
 (.cond (.t 25) (.seq (.region [⟨some 2, .mov (.c (.int .i64 0)), none, true, []⟩])
 .ret)
 .skip))
 (.seq (.region [⟨some 2, .mov (.c (.int .i64 1)), none, true, []⟩])
 .ret)))⟩

def v17 : VFn := ⟨19, [(4, none)],
 (.seq (.region [⟨some 4, .mov (.c (.int .i64 0)), none, true, []⟩])
 (.seq (.seq (.region [⟨some 5, .mov (.t 1), none, true, []⟩,
  ⟨some 6, .arith .lss (.t 5) (.c (.int .i64 1)), none, true, []⟩,
  ⟨some 7, .mov (.t 6), none, true, []⟩,
  ⟨some 8, .mov (.t 1), some (7, false), true, []⟩,
  ⟨some 9, .arith .gtr (.t 8) (.c (.int .i64 64)), some (7, false), true, []⟩,
  ⟨some 10, .pick (.t 7) (.c (.bool true)) (.t 9), none, true, []⟩,
  ⟨some 11, .mov (.t 10), none, true, []⟩,
  ⟨some 12, .mov (.t 0), some (11, false), true, []⟩,
  ⟨some 13, .arith .lss (.t 12) (.c (.int .i64 0)), some (11, false), true, []⟩,
  ⟨some 14, .pick (.t 11) (.c (.bool true)) (.t 13), none, true, []⟩,
  ⟨some 15, .mov (.t 14), none, true, []⟩,
  ⟨some 16, .mov (.t 0), some (15, false), true, []⟩,
  ⟨some 17, .arith .gtr (.t 16) (.c (.int .i64 4611686018427387904)), some (15, false), true, []⟩,
  ⟨some 18, .pick (.t 15) (.c (.bool true)) (.t 17), none, true, []⟩])
 (.cond (.t 18) (.seq (.region [⟨some 4, .mov (.c (.int .i64 0)), none, true, []⟩])
 .ret)
 .skip))
 (.seq (.region [⟨some 4, .mov (.c (.int .i64 1)), none, true, []⟩])
 .ret)))⟩

def v18 : VFn := ⟨28, [(6, none)],
 (.seq (.region [⟨some 3, .box (.t 0) 3, none, true, []⟩,
  ⟨some 6, .mov (.c (.int .i64 0)), none, true, []⟩])
 (.seq (.region [⟨some 9, .faddr 1 (.t 3), none, true, []⟩,
  ⟨some 10, .load false 1 (.t 9), none, true, []⟩,
  ⟨some 7, .mov (.t 10), none, true, []⟩])
 (.seq (.region [⟨some 11, .mov (.t 1), none, true, []⟩,
  ⟨some 12, .faddr 2 (.t 3), none, true, []⟩,
  ⟨some 13, .load false 1 (.t 12), none, true, []⟩,
  ⟨some 14, .arith .sub (.t 11) (.t 13), none, true, []⟩,
  ⟨some 8, .mov (.t 14), none, true, []⟩])
 (.seq (.block 0 (.loop (.seq (.seq (.region [⟨some 15, .mov (.t 7), none, true, []⟩,
  ⟨some 16, .arith .gtr (.t 15) (.c (.int .i64 0)), none, true, []⟩,
  ⟨some 17, .mov (.t 16), none, true, []⟩,
  ⟨some 18, .mov (.t 8), some (17, true), true, []⟩,
  ⟨some 19, .mov (.t 2), some (17, true), true, []⟩,
  ⟨some 20, .arith .geq (.t 18) (.t 19), some (17, true), true, []⟩,
  ⟨some 21, .pick (.t 17) (.t 20) (.c (.bool false)), none, true, []⟩])
 (.cond (.t 21) .skip
 (.exit 0)))
 (.block 1 (.seq (.region [⟨some 22, .mov (.t 7), none, true, []⟩,
  ⟨some 23, .arith .sub (.t 22) (.c (.int .i64 1)), none, true, []⟩,
  ⟨some 7, .mov (.t 23), none, true, []⟩])
 (.region [⟨some 24, .mov (.t 8), none, true, []⟩,
  ⟨some 25, .mov (.t 2), none, true, []⟩,
  ⟨some 26, .arith .sub (.t 24) (.t 25), none, true, []⟩,
  ⟨some 8, .mov (.t 26), none, true, []⟩]))))))
 (.seq (.region [⟨some 27, .mov (.t 7), none, true, []⟩,
  ⟨some 6, .mov (.t 27), none, true, []⟩])
 .ret)))))⟩

def v19 : VFn := ⟨56, [(2, some (true, 1))],
 (.seq (.region [⟨some 1, .box (.t 0) 1, none, true, []⟩,
  ⟨some 2, .alloc [.nils], none, true, []⟩])
 (.seq (.region [⟨some 3, .alloc [.nils], none, true, []⟩])
 (.seq (.region [⟨some 4, .mov (.c (.int .i64 (-1))), none, true, []⟩,
  ⟨some 5, .mov (.c (.int .i64 0)), none, true, []⟩])
 (.seq (.seq (.region [⟨some 6, .mov (.c (.int .i64 0)), none, true, []⟩])
 (.block 0 (.loop (.seq (.seq (.region [⟨some 7, .mov (.t 6), none, true, []⟩,
  ⟨some 8, .faddr 0 (.t 1), none, true, []⟩,
  ⟨some 9, .load false 1 (.t 8), none, true, []⟩,
  ⟨some 10, .lenOf (.t 9), none, true, []⟩,
  ⟨some 11, .arith .lss (.t 7) (.t 10), none, true, []⟩,
  ⟨some 12, .mov (.t 11), none, true, []⟩,
  ⟨some 13, .mov (.t 6), some (12, true), true, []⟩,
  ⟨some 14, .arith .lss (.t 13) (.c (.int .i64 12)), some (12, true), true, []⟩,
  ⟨some 15, .pick (.t 12) (.t 14) (.c (.bool false)), none, true, []⟩])
 (.cond (.t 15) .skip
 (.exit 0)))
 (.seq (.block 1 (.seq (.region [⟨some 18, .mov (.t 4), none, true, []⟩,
  ⟨some 19, .arith .add (.t 18) (.c (.int .i64 1)), none, true, []⟩,
  ⟨some 20, .faddr 0 (.t 1), none, true, []⟩,
  ⟨some 21, .load false 1 (.t 20), none, true, []⟩,
  ⟨some 22, .mov (.t 6), none, true, []⟩,
  ⟨some 23, .iaddr 3 (.t 21) (.t 22), none, true, []⟩,
  ⟨some 24, .iaddrArr 3 1 (.t 23) (.c (.int .i64 0)), none, true, []⟩,
  ⟨some 25, .load false 1 (.t 24), none, true, []⟩,
  ⟨some 26, .arith .rem (.t 25) (.c (.int .u8 4)), none, true, []⟩,
  ⟨some 27, .convInt .i64 (.t 26), none, true, []⟩,
  ⟨some 28, .arith .add (.t 19) (.t 27), none, true, []⟩,
  ⟨some 4, .mov (.t 28), none, true, []⟩])
 (.seq (.region [⟨some 29, .mov (.t 5), none, true, []⟩,
  ⟨some 30, .faddr 0 (.t 1), none, true, []⟩,
  ⟨some 31, .load false 1 (.t 30), none, true, []⟩,
  ⟨some 32, .mov (.t 6), none, true, []⟩,
  ⟨some 33, .iaddr 3 (.t 31) (.t 32), none, true, []⟩,
  ⟨some 34, .iaddrArr 3 1 (.t 33) (.c (.int .i64 2)), none, true, []⟩,
  ⟨some 35, .load false 1 (.t 34), none, true, []⟩,
  ⟨some 36, .arith .rem (.t 35) (.c (.int .u8 8)), none, true, []⟩,
  ⟨some 37, .convInt .i64 (.t 36), none, true, []⟩,
  ⟨some 38, .arith .add (.t 29) (.t 37), none, true, []⟩,
  ⟨some 5, .mov (.t 38), none, true, []⟩])
 (.draw [⟨some 39, .faddr 0 (.t 3), none, false, []⟩,
  ⟨some 40, .load false 1 (.t 39), none, false, []⟩,
  ⟨some 41, .mov (.t 4), none, false, [1]⟩,
  ⟨some 42, .faddr 0 (.t 1), none, false, [1]⟩,
  ⟨some 43, .load false 1 (.t 42), none, false, [1]⟩,
  ⟨some 44, .mov (.t 6), none, false, [1, 4]⟩,
  ⟨some 45, .iaddr 3 (.t 43) (.t 44), none, false, [1]⟩,
  ⟨some 46, .iaddrArr 3 1 (.t 45) (.c (.int .i64 1)), none, false, [1]⟩,
  ⟨some 47, .load false 1 (.t 46), none, false, [1]⟩,
  ⟨some 48, .arith .rem (.t 47) (.c (.int .u8 8)), none, false, [1]⟩,
  ⟨some 49, .convInt .i64 (.t 48), none, false, [1]⟩,
  ⟨some 50, .mov (.t 5), none, false, [1, 4, 8]⟩,
  ⟨some 51, .build [(.int .i64 0), (.int .i64 0), (.int .i64 0)] [(0, 1, (.t 41)), (1, 1, (.t 49)), (2, 1, (.t 50))], none, false, [1]⟩,
  ⟨some 52, .bslice 1 [(.int .i64 0), (.int .i64 0), (.int .i64 0)] [(0, 3, (.t 51))], none, false, [1]⟩,
  ⟨some 53, .append 3 24 (.t 40) (.t 52), none, true, []⟩,
  ⟨some 54, .faddr 0 (.t 3), none, true, []⟩,
  ⟨none, .store 1 (.t 54) (.t 53), none, true, []⟩]))))
 (.region [⟨some 16, .mov (.t 6), none, true, []⟩,
  ⟨some 17, .arith .add (.t 16) (.c (.int .i64 1)), none, true, []⟩,
  ⟨some 6, .mov (.t 17), none, true, []⟩]))))))
 (.seq (.region [⟨some 55, .load true 1 (.t 3), none, true, []⟩,
  ⟨none, .store 1 (.t 2) (.t 55), none, true, []⟩])
 .ret)))))⟩

def v20 : VFn := ⟨23, [(4, none)],
 (.seq (.region [⟨some 2, .box (.t 0) 1, none, true, []⟩,
  ⟨some 4, .mov (.c (.int .i64 0)), none, true, []⟩])
 (.seq (.seq (.region [⟨some 5, .faddr 0 (.t 2), none, true, []⟩,
  ⟨some 6, .load false 1 (.t 5), none, true, []⟩,
  ⟨some 7, .lenOf (.t 6), none, true, []⟩,
  ⟨some 8, .eql false ⟨false, [(0, .i)]⟩ (.t 7) (.c (.int .i64 0)), none, true, []⟩])
 (.cond (.t 8) (.seq (.region [⟨some 9, .mov (.t 1), none, true, []⟩,
  ⟨some 10, .convInt .i64 (.t 9), none, true, []⟩,
  ⟨some 4, .mov (.t 10), none, true, []⟩])
 .ret)
 .skip))
 (.seq (.region [⟨some 11, .faddr 0 (.t 2), none, true, []⟩,
  ⟨some 12, .load false 1 (.t 11), none, true, []⟩,
  ⟨some 13, .faddr 0 (.t 2), none, true, []⟩,
  ⟨some 14, .load false 1 (.t 13), none, true, []⟩,
  ⟨some 15, .lenOf (.t 14), none, true, []⟩,
  ⟨some 16, .arith .sub (.t 15) (.c (.int .i64 1)), none, true, []⟩,
  ⟨some 17, .iaddr 3 (.t 12) (.t 16), none, true, []⟩,
  ⟨some 18, .faddr 2 (.t 17), none, true, []⟩,
  ⟨some 19, .load false 1 (.t 18), none, true, []⟩,
  ⟨some 20, .mov (.t 1), none, true, []⟩,
  ⟨some 21, .convInt .i64 (.t 20), none, true, []⟩,
  ⟨some 22, .arith .add (.t 19) (.t 21), none, true, []⟩,
  ⟨some 4, .mov (.t 22), none, true, []⟩])
 .ret)))⟩

def v21 : VFn := ⟨18, [(4, none)],
 (.seq (.region [⟨some 4, .mov (.c (.int .i64 0)), none, true, []⟩])
 (.seq (.seq (.region [⟨some 5, .mov (.c (.int .i64 0)), none, true, []⟩])
 (.block 0 (.loop (.seq (.seq (.region [⟨some 6, .mov (.t 5), none, true, []⟩,
  ⟨some 7, .mov (.t 0), none, true, []⟩,
  ⟨some 8, .lenOf (.t 7), none, true, []⟩,
  ⟨some 9, .arith .lss (.t 6) (.t 8), none, true, []⟩])
 (.cond (.t 9) .skip
 (.exit 0)))
 (.seq (.block 1 (.seq (.region [⟨some 12, .mov (.t 0), none, true, []⟩,
  ⟨some 13, .mov (.t 5), none, true, []⟩,
  ⟨some 14, .iaddr 1 (.t 12) (.t 13), none, true, []⟩,
  ⟨some 15, .load false 1 (.t 14), none, true, []⟩,
  ⟨some 16, .mov (.t 1), none, true, []⟩,
  ⟨some 17, .eql false ⟨false, [(0, .i)]⟩ (.t 15) (.t 16), none, true, []⟩])
 (.cond (.t 17) (.seq (.region [⟨some 4, .mov (.c (.int .i64 1)), none, true, []⟩])
 .ret)
 .skip)))
 (.region [⟨some 10, .mov (.t 5), none, true, []⟩,
  ⟨some 11, .arith .add (.t 10) (.c (.int .i64 1)), none, true, []⟩,
  ⟨some 5, .mov (.t 11), none, true, []⟩]))))))
 (.seq (.region [⟨some 4, .mov (.c (.int .i64 0)), none, true, []⟩])
 .ret)))⟩

def v22 : VFn := ⟨20, [(4, none)],
 (.seq (.region [⟨some 4, .mov (.c (.int .i64 0)), none, true, []⟩])
 (.seq (.seq (.region [⟨some 5, .mov (.c (.int .i64 0)), none, true, []⟩])
 (.block 0 (.loop (.seq (.seq (.region [⟨some 6, .mov (.t 5), none, true, []⟩,
  ⟨some 7, .mov (.t 0), none, true, []⟩,
  ⟨some 8, .lenOf (.t 7), none, true, []⟩,
  ⟨some 9, .arith .lss (.t 6) (.t 8), none, true, []⟩])
 (.cond (.t 9) .skip
 (.exit 0)))
 (.seq (.block 1 (.seq (.region [⟨some 12, .mov (.t 0), none, true, []⟩,
  ⟨some 13, .mov (.t 5), none, true, []⟩,
  ⟨some 14, .iaddr 3 (.t 12) (.t 13), none, true, []⟩,
  ⟨some 15, .faddr 0 (.t 14), none, true, []⟩,
  ⟨some 16, .load false 1 (.t 15), none, true, []⟩,
  ⟨some 17, .mov (.t 1), none, true, []⟩,
  ⟨some 18, .eql false ⟨false, [(0, .i)]⟩ (.t 16) (.t 17), none, true, []⟩])
 (.cond (.t 18) (.seq (.region [⟨some 19, .mov (.t 5), none, true, []⟩,
  ⟨some 4, .mov (.t 19), none, true, []⟩])
 .ret)
 .skip)))
 (.region [⟨some 10, .mov (.t 5), none, true, []⟩,
  ⟨some 11, .arith .add (.t 10) (.c (.int .i64 1)), none, true, []⟩,
  ⟨some 5, .mov (.t 11), none, true, []⟩]))))))
 (.seq (.region [⟨some 4, .mov (.c (.int .i64 (-1))), none, true, []⟩])
 .ret)))⟩

def v23 : VFn := ⟨49, [(6, some (true, 1)), (7, none)],
 (.seq (.region [⟨some 3, .box (.t 0) 1, none, true, []⟩,
  ⟨some 6, .alloc [.nils], none, true, []⟩,
  ⟨some 7, .mov (.c (.int .i64 0)), none, true, []⟩])
 (.seq (.seq (.region [⟨some 11, .load true 1 (.t 3), none, true, []⟩,
  ⟨some 12, .call 30 [(.t 11)], none, true, []⟩,
  ⟨some 8, .mov (.t 12), none, true, []⟩])
 (.seq (.region [⟨some 13, .mov (.t 8), none, true, []⟩,
  ⟨some 14, .eql true ⟨false, [(0, .i)]⟩ (.t 13) (.c (.int .i64 0)), none, true, []⟩])
 (.cond (.t 14) (.seq (.region [⟨some 15, .build [.nils] [], none, true, []⟩,
  ⟨some 16, .mov (.t 8), none, true, []⟩,
  ⟨none, .store 1 (.t 6) (.t 15), none, true, []⟩,
  ⟨some 7, .mov (.t 16), none, true, []⟩])
 .ret)
 .skip)))
 (.seq (.seq (.region [⟨some 17, .mov (.t 2), none, true, []⟩,
  ⟨some 18, .arith .lss (.t 17) (.c (.int .i64 0)), none, true, []⟩,
  ⟨some 19, .mov (.t 18), none, true, []⟩,
  ⟨some 20, .mov (.t 2), some (19, false), true, []⟩,
  ⟨some 21, .arith .geq (.t 20) (.c (.int .i64 8)), some (19, false), true, []⟩,
  ⟨some 22, .pick (.t 19) (.c (.bool true)) (.t 21), none, true, []⟩])
 (.cond (.t 22) (.seq (.region [⟨some 23, .build [.nils] [], none, true, []⟩,
  ⟨none, .store 1 (.t 6) (.t 23), none, true, []⟩,
  ⟨some 7, .mov (.c (.int .i64 4)), none, true, []⟩])
 .ret)
 .skip))
 (.seq (.region [⟨some 24, .load true 1 (.t 3), none, true, []⟩,
  ⟨some 25, .mov (.t 1), none, true, []⟩,
  ⟨some 26, .call 44 [(.t 24), (.t 25)], none, true, []⟩,
  ⟨some 9, .mov (.t 26), none, true, []⟩])
 (.seq (.seq (.region [⟨some 27, .mov (.t 9), none, true, []⟩,
  ⟨some 28, .arith .lss (.t 27) (.c (.int .i64 0)), none, true, []⟩])
 (.cond (.t 28) (.seq (.region [⟨some 29, .build [.nils] [], none, true, []⟩,
  ⟨none, .store 1 (.t 6) (.t 29), none, true, []⟩,
  ⟨some 7, .mov (.c (.int .i64 8)), none, true, []⟩])
 .ret)
 .skip))
 (.seq (.region [⟨some 30, .faddr 0 (.t 3), none, true, []⟩,
  ⟨some 31, .load false 1 (.t 30), none, true, []⟩,
  ⟨some 32, .bslice 1 [.nils] [(0, 1, (.t 31))], none, true, []⟩,
  ⟨some 33, .call 37 [(.t 32)], none, true, []⟩,
  ⟨some 34, .build [.nils] [(0, 1, (.t 33))], none, true, []⟩,
  ⟨some 10, .alloc [.nils], none, true, []⟩,
  ⟨none, .store 1 (.t 10) (.t 34), none, true, []⟩])
 (.seq (.draw [⟨some 35, .faddr 0 (.t 10), none, false, []⟩,
  ⟨some 36, .load false 1 (.t 35), none, false, []⟩,
  ⟨some 37, .mov (.t 9), none, false, [1]⟩,
  ⟨some 38, .faddr 0 (.t 10), none, false, [1]⟩,
  ⟨some 39, .load false 1 (.t 38), none, false, [1]⟩,
  ⟨some 40, .mov (.t 9), none, false, [1, 4]⟩,
  ⟨some 41, .iaddr 3 (.t 39) (.t 40), none, false, [1]⟩,
  ⟨some 42, .faddr 1 (.t 41), none, false, [1]⟩,
  ⟨some 43, .load false 1 (.t 42), none, false, [1]⟩,
  ⟨some 44, .mov (.t 2), none, false, [1, 4, 8]⟩,
  ⟨some 45, .minmax false [(.t 43), (.t 44)], none, false, [1]⟩,
  ⟨some 46, .iaddr 3 (.t 36) (.t 37), none, true, []⟩,
  ⟨some 47, .faddr 1 (.t 46), none, true, []⟩,
  ⟨none, .store 1 (.t 47) (.t 45), none, true, []⟩])
 (.seq (.region [⟨some 48, .load true 1 (.t 10), none, true, []⟩,
  ⟨none, .store 1 (.t 6) (.t 48), none, true, []⟩,
  ⟨some 7, .mov (.c (.int .i64 0)), none, true, []⟩])
 .ret))))))))⟩

def v24 : VFn := ⟨21, [(4, none)],
 (.seq (.region [⟨some 4, .mov (.c (.int .i64 0)), none, true, []⟩])
 (.seq (.seq (.region [⟨some 5, .mov (.c (.int .i64 0)), none, true, []⟩])
 (.block 0 (.loop (.seq (.seq (.region [⟨some 6, .mov (.t 5), none, true, []⟩,
  ⟨some 7, .mov (.t 0), none, true, []⟩,
  ⟨some 8, .lenOf (.t 7), none, true, []⟩,
  ⟨some 9, .arith .lss (.t 6) (.t 8), none, true, []⟩])
 (.cond (.t 9) .skip
 (.exit 0)))
 (.seq (.block 1 (.seq (.region [⟨some 12, .mov (.t 0), none, true, []⟩,
  ⟨some 13, .mov (.t 5), none, true, []⟩,
  ⟨some 14, .iaddr 1 (.t 12) (.t 13), none, true, []⟩,
  ⟨some 15, .load false 1 (.t 14), none, true, []⟩,
  ⟨some 16, .mov (.t 1), none, true, []⟩,
  ⟨some 17, .eql false ⟨false, [(0, .i)]⟩ (.t 15) (.t 16), none, true, []⟩])
 (.cond (.t 17) (.seq (.region [⟨some 18, .mov (.t 5), none, true, []⟩,
  ⟨some 4, .mov (.t 18), none, true, []⟩])
 .ret)
 .skip)))
 (.region [⟨some 10, .mov (.t 5), none, true, []⟩,
  ⟨some 11, .arith .add (.t 10) (.c (.int .i64 1)), none, true, []⟩,
  ⟨some 5, .mov (.t 11), none, true, []⟩]))))))
 (.seq (.region [⟨some 19, .mov (.t 0), none, true, []⟩,
  ⟨some 20, .lenOf (.t 19), none, true, []⟩,
  ⟨some 4, .mov (.t 20), none, true, []⟩])
 .ret)))⟩

def v25 : VFn := ⟨22, [(4, some (true, 1)), (5, none)],
 (.seq (.region [⟨some 2, .box (.t 0) 1, none, true, []⟩,
  ⟨some 3, .box (.t 1) 3, none, true, []⟩,
  ⟨some 4, .alloc [.nils], none, true, []⟩,
  ⟨some 5, .mov (.c (.int .i64 0)), none, true, []⟩])
 (.seq (.region [⟨some 8, .faddr 0 (.t 2), none, true, []⟩,
  ⟨some 9, .load false 1 (.t 8), none, true, []⟩,
  ⟨some 10, .load true 3 (.t 3), none, true, []⟩,
  ⟨some 11, .bslice 1 [(.int .i64 0), (.int .i64 0), (.int .i64 0)] [(0, 3, (.t 10))], none, true, []⟩,
  ⟨some 12, .bslice 2 [.nils, .nils] [(0, 1, (.t 9)), (1, 1, (.t 11))], none, true, []⟩,
  ⟨some 13, .call 37 [(.t 12)], none, true, []⟩,
  ⟨some 14, .build [.nils] [(0, 1, (.t 13))], none, true, []⟩,
  ⟨some 6, .alloc [.nils], none, true, []⟩,
  ⟨none, .store 1 (.t 6) (.t 14), none, true, []⟩])
 (.seq (.seq (.region [⟨some 15, .load true 1 (.t 6), none, true, []⟩,
  ⟨some 16, .call 30 [(.t 15)], none, true, []⟩,
  ⟨some 7, .mov (.t 16), none, true, []⟩])
 (.seq (.region [⟨some 17, .mov (.t 7), none, true, []⟩,
  ⟨some 18, .eql true ⟨false, [(0, .i)]⟩ (.t 17) (.c (.int .i64 0)), none, true, []⟩])
 (.cond (.t 18) (.seq (.region [⟨some 19, .build [.nils] [], none, true, []⟩,
  ⟨some 20, .mov (.t 7), none, true, []⟩,
  ⟨none, .store 1 (.t 4) (.t 19), none, true, []⟩,
  ⟨some 5, .mov (.t 20), none, true, []⟩])
 .ret)
 .skip)))
 (.seq (.region [⟨some 21, .load true 1 (.t 6), none, true, []⟩,
  ⟨none, .store 1 (.t 4) (.t 21), none, true, []⟩,
  ⟨some 5, .mov (.c (.int .i64 0)), none, true, []⟩])
 .ret))))⟩

def v26 : VFn := ⟨20, [(4, none), (5, none)],
 (.seq (.region [⟨some 3, .box (.t 1) 3, none, true, []⟩,
  ⟨some 4, .mov (.c .nils), none, true, []⟩,
  ⟨some 5, .mov (.c (.int .i64 0)), none, true, []⟩])
 (.seq (.region [⟨some 6, .mov (.c .nils), none, true, []⟩])
 (.seq (.region [⟨some 7, .mov (.t 6), none, true, []⟩,
  ⟨some 8, .mov (.t 0), none, true, []⟩,
  ⟨some 9, .append 3 24 (.t 7) (.t 8), none, true, []⟩,
  ⟨some 6, .mov (.t 9), none, true, []⟩])
 (.seq (.region [⟨some 10, .mov (.t 6), none, true, []⟩,
  ⟨some 11, .load true 3 (.t 3), none, true, []⟩,
  ⟨some 12, .bslice 1 [(.int .i64 0), (.int .i64 0), (.int .i64 0)] [(0, 3, (.t 11))], none, true, []⟩,
  ⟨some 13, .append 3 24 (.t 10) (.t 12), none, true, []⟩,
  ⟨some 6, .mov (.t 13), none, true, []⟩])
 (.seq (.seq (.region [⟨some 14, .mov (.t 6), none, true, []⟩,
  ⟨some 15, .call 31 [(.t 14)], none, true, []⟩,
  ⟨some 16, .arith .gtr (.t 15) (.c (.int .i64 0)), none, true, []⟩])
 (.cond (.t 16) (.seq (.region [⟨some 17, .mov (.t 6), none, true, []⟩,
  ⟨some 18, .call 31 [(.t 17)], none, true, []⟩,
  ⟨some 4, .mov (.c .nils), none, true, []⟩,
  ⟨some 5, .mov (.t 18), none, true, []⟩])
 .ret)
 .skip))
 (.seq (.region [⟨some 19, .mov (.t 6), none, true, []⟩,
  ⟨some 4, .mov (.t 19), none, true, []⟩,
  ⟨some 5, .mov (.c (.int .i64 0)), none, true, []⟩])
 .ret))))))⟩

def v27 : VFn := ⟨38, [(4, none), (5, none)],
 (.seq (.region [⟨some 4, .mov (.c .nils), none, true, []⟩,
  ⟨some 5, .mov (.c (.int .i64 0)), none, true, []⟩])
 (.seq (.seq (.region [⟨some 8, .mov (.t 0), none, true, []⟩,
  ⟨some 9, .call 31 [(.t 8)], none, true, []⟩,
  ⟨some 10, .arith .gtr (.t 9) (.c (.int .i64 0)), none, true, []⟩])
 (.cond (.t 10) (.seq (.region [⟨some 11, .mov (.t 0), none, true, []⟩,
  ⟨some 12, .call 31 [(.t 11)], none, true, []⟩,
  ⟨some 4, .mov (.c .nils), none, true, []⟩,
  ⟨some 5, .mov (.t 12), none, true, []⟩])
 .ret)
 .skip))
 (.seq (.seq (.region [⟨some 13, .mov (.t 0), none, true, []⟩,
  ⟨some 14, .mov (.t 1), none, true, []⟩,
  ⟨some 15, .call 22 [(.t 13), (.t 14)], none, true, []⟩,
  ⟨some 16, .arith .lss (.t 15) (.c (.int .i64 0)), none, true, []⟩])
 (.cond (.t 16) (.seq (.region [⟨some 4, .mov (.c .nils), none, true, []⟩,
  ⟨some 5, .mov (.c (.int .i64 8)), none, true, []⟩])
 .ret)
 .skip))
 (.seq (.region [⟨some 6, .mov (.c .nils), none, true, []⟩])
 (.seq (.seq (.region [⟨some 7, .mov (.c (.int .i64 0)), none, true, []⟩])
 (.block 0 (.loop (.seq (.seq (.region [⟨some 17, .mov (.t 7), none, true, []⟩,
  ⟨some 18, .mov (.t 0), none, true, []⟩,
  ⟨some 19, .lenOf (.t 18), none, true, []⟩,
  ⟨some 20, .arith .lss (.t 17) (.t 19), none, true, []⟩])
 (.cond (.t 20) .skip
 (.exit 0)))
 (.seq (.block 1 (.seq (.region [⟨some 23, .mov (.t 0), none, true, []⟩,
  ⟨some 24, .mov (.t 7), none, true, []⟩,
  ⟨some 25, .iaddr 3 (.t 23) (.t 24), none, true, []⟩,
  ⟨some 26, .faddr 0 (.t 25), none, true, []⟩,
  ⟨some 27, .load false 1 (.t 26), none, true, []⟩,
  ⟨some 28, .mov (.t 1), none, true, []⟩,
  ⟨some 29, .eql true ⟨false, [(0, .i)]⟩ (.t 27) (.t 28), none, true, []⟩])
 (.cond (.t 29) (.region [⟨some 30, .mov (.t 6), none, true, []⟩,
  ⟨some 31, .mov (.t 0), none, true, []⟩,
  ⟨some 32, .mov (.t 7), none, true, []⟩,
  ⟨some 33, .iaddr 3 (.t 31) (.t 32), none, true, []⟩,
  ⟨some 34, .load true 3 (.t 33), none, true, []⟩,
  ⟨some 35, .bslice 1 [(.int .i64 0), (.int .i64 0), (.int .i64 0)] [(0, 3, (.t 34))], none, true, []⟩,
  ⟨some 36, .append 3 24 (.t 30) (.t 35), none, true, []⟩,
  ⟨some 6, .mov (.t 36), none, true, []⟩])
 .skip)))
 (.region [⟨some 21, .mov (.t 7), none, true, []⟩,
  ⟨some 22, .arith .add (.t 21) (.c (.int .i64 1)), none, true, []⟩,
  ⟨some 7, .mov (.t 22), none, true, []⟩]))))))
 (.seq (.region [⟨some 37, .mov (.t 6), none, true, []⟩,
  ⟨some 4, .mov (.t 37), none, true, []⟩,
  ⟨some 5, .mov (.c (.int .i64 0)), none, true, []⟩])
 .ret))))))⟩

def v28 : VFn := ⟨42, [(6, none), (7, none)],
 (.seq (.region [⟨some 6, .mov (.c .nils), none, true, []⟩,
  ⟨some 7, .mov (.c (.int .i64 0)), none, true, []⟩])
 (.seq (.seq (.region [⟨some 10, .mov (.t 0), none, true, []⟩,
  ⟨some 11, .call 31 [(.t 10)], none, true, []⟩,
  ⟨some 12, .arith .gtr (.t 11) (.c (.int .i64 0)), none, true, []⟩])
 (.cond (.t 12) (.seq (.region [⟨some 13, .mov (.t 0), none, true, []⟩,
  ⟨some 14, .call 31 [(.t 13)], none, true, []⟩,
  ⟨some 6, .mov (.c .nils), none, true, []⟩,
  ⟨some 7, .mov (.t 14), none, true, []⟩])
 .ret)
 .skip))
 (.seq (.seq (.region [⟨some 15, .mov (.t 2), none, true, []⟩,
  ⟨some 16, .arith .lss (.t 15) (.c (.int .i64 0)), none, true, []⟩,
  ⟨some 17, .mov (.t 16), none, true, []⟩,
  ⟨some 18, .mov (.t 2), some (17, false), true, []⟩,
  ⟨some 19, .arith .gtr (.t 18) (.c (.int .i64 7)), some (17, false), true, []⟩,
  ⟨some 20, .pick (.t 17) (.c (.bool true)) (.t 19), none, true, []⟩])
 (.cond (.t 20) (.seq (.region [⟨some 6, .mov (.c .nils), none, true, []⟩,
  ⟨some 7, .mov (.c (.int .i64 4)), none, true, []⟩])
 .ret)
 .skip))
 (.seq (.region [⟨some 21, .mov (.t 0), none, true, []⟩,
  ⟨some 22, .mov (.t 1), none, true, []⟩,
  ⟨some 23, .call 22 [(.t 21), (.t 22)], none, true, []⟩,
  ⟨some 8, .mov (.t 23), none, true, []⟩])
 (.seq (.seq (.region [⟨some 24, .mov (.t 8), none, true, []⟩,
  ⟨some 25, .arith .lss (.t 24) (.c (.int .i64 0)), none, true, []⟩])
 (.cond (.t 25) (.seq (.region [⟨some 6, .mov (.c .nils), none, true, []⟩,
  ⟨some 7, .mov (.c (.int .i64 8)), none, true, []⟩])
 .ret)
 .skip))
 (.seq (.region [⟨some 9, .mov (.c .nils), none, true, []⟩])
 (.seq (.region [⟨some 26, .mov (.t 9), none, true, []⟩,
  ⟨some 27, .mov (.t 0), none, true, []⟩,
  ⟨some 28, .append 3 24 (.t 26) (.t 27), none, true, []⟩,
  ⟨some 9, .mov (.t 28), none, true, []⟩])
 (.seq (.seq (.region [⟨some 29, .mov (.t 9), none, true, []⟩,
  ⟨some 30, .mov (.t 8), none, true, []⟩,
  ⟨some 31, .iaddr 3 (.t 29) (.t 30), none, true, []⟩,
  ⟨some 32, .faddr 1 (.t 31), none, true, []⟩,
  ⟨some 33, .load false 1 (.t 32), none, true, []⟩,
  ⟨some 34, .mov (.t 2), none, true, []⟩,
  ⟨some 35, .arith .gtr (.t 33) (.t 34), none, true, []⟩])
 (.cond (.t 35) (.region [⟨some 36, .mov (.t 9), none, true, []⟩,
  ⟨some 37, .mov (.t 8), none, true, []⟩,
  ⟨some 38, .mov (.t 2), none, true, []⟩,
  ⟨some 39, .iaddr 3 (.t 36) (.t 37), none, true, []⟩,
  ⟨some 40, .faddr 1 (.t 39), none, true, []⟩,
  ⟨none, .store 1 (.t 40) (.t 38), none, true, []⟩])
 .skip))
 (.seq (.region [⟨some 41, .mov (.t 9), none, true, []⟩,
  ⟨some 6, .mov (.t 41), none, true, []⟩,
  ⟨some 7, .mov (.c (.int .i64 0)), none, true, []⟩])
 .ret)))))))))⟩

def v29 : VFn := ⟨32, [(4, some (true, 1)), (5, none)],
 (.seq (.region [⟨some 2, .box (.t 0) 1, none, true, []⟩,
  ⟨some 4, .alloc [.nils], none, true, []⟩,
  ⟨some 5, .mov (.c (.int .i64 0)), none, true, []⟩])
 (.seq (.seq (.region [⟨some 8, .load true 1 (.t 2), none, true, []⟩,
  ⟨some 9, .call 30 [(.t 8)], none, true, []⟩,
  ⟨some 6, .mov (.t 9), none, true, []⟩])
 (.seq (.region [⟨some 10, .mov (.t 6), none, true, []⟩,
  ⟨some 11, .eql true ⟨false, [(0, .i)]⟩ (.t 10) (.c (.int .i64 0)), none, true, []⟩])
 (.cond (.t 11) (.seq (.region [⟨some 12, .build [.nils] [], none, true, []⟩,
  ⟨some 13, .mov (.t 6), none, true, []⟩,
  ⟨none, .store 1 (.t 4) (.t 12), none, true, []⟩,
  ⟨some 5, .mov (.t 13), none, true, []⟩])
 .ret)
 .skip)))
 (.seq (.region [⟨some 14, .load true 1 (.t 2), none, true, []⟩,
  ⟨some 15, .mov (.t 1), none, true, []⟩,
  ⟨some 16, .call 44 [(.t 14), (.t 15)], none, true, []⟩,
  ⟨some 7, .mov (.t 16), none, true, []⟩])
 (.seq (.seq (.region [⟨some 17, .mov (.t 7), none, true, []⟩,
  ⟨some 18, .arith .lss (.t 17) (.c (.int .i64 0)), none, true, []⟩])
 (.cond (.t 18) (.seq (.region [⟨some 19, .build [.nils] [], none, true, []⟩,
  ⟨none, .store 1 (.t 4) (.t 19), none, true, []⟩,
  ⟨some 5, .mov (.c (.int .i64 8)), none, true, []⟩])
 .ret)
 .skip))
 (.seq (.draw [⟨some 20, .faddr 0 (.t 2), none, false, []⟩,
  ⟨some 21, .load false 1 (.t 20), none, false, []⟩,
  ⟨some 22, .mov (.t 7), none, false, [1]⟩,
  ⟨some 23, .slice 3 (.t 21) none (some (.t 22)) none, none, false, []⟩,
  ⟨some 24, .faddr 0 (.t 2), none, false, [1]⟩,
  ⟨some 25, .load false 1 (.t 24), none, false, [1]⟩,
  ⟨some 26, .mov (.t 7), none, false, [1, 5]⟩,
  ⟨some 27, .arith .add (.t 26) (.c (.int .i64 1)), none, false, [1, 5]⟩,
  ⟨some 28, .slice 3 (.t 25) (some (.t 27)) none none, none, false, [1]⟩,
  ⟨some 29, .bslice 2 [.nils, .nils] [(0, 1, (.t 23)), (1, 1, (.t 28))], none, true, []⟩,
  ⟨some 30, .call 37 [(.t 29)], none, true, []⟩,
  ⟨some 31, .build [.nils] [(0, 1, (.t 30))], none, true, []⟩,
  ⟨none, .store 1 (.t 4) (.t 31), none, true, []⟩,
  ⟨some 5, .mov (.c (.int .i64 0)), none, true, []⟩])
 .ret)))))⟩

def v30 : VFn := ⟨49, [(2, none)],
 (.seq (.region [⟨some 1, .box (.t 0) 1, none, true, []⟩,
  ⟨some 2, .mov (.c (.int .i64 0)), none, true, []⟩])
 (.seq (.seq (.region [⟨some 5, .faddr 0 (.t 1), none, true, []⟩,
  ⟨some 6, .load false 1 (.t 5), none, true, []⟩,
  ⟨some 7, .lenOf (.t 6), none, true, []⟩,
  ⟨some 8, .arith .gtr (.t 7) (.c (.int .i64 64)), none, true, []⟩])
 (.cond (.t 8) (.seq (.region [⟨some 2, .mov (.c (.int .i64 3)), none, true, []⟩])
 .ret)
 .skip))
 (.seq (.seq (.region [⟨some 9, .faddr 0 (.t 1), none, true, []⟩,
  ⟨some 10, .load false 1 (.t 9), none, true, []⟩,
  ⟨some 11, .lenOf (.t 10), none, true, []⟩,
  ⟨some 12, .mov (.c (.int .i64 0)), none, true, []⟩])
 (.block 0 (.loop (.seq (.region [⟨some 13, .arith .lss (.t 12) (.t 11), none, true, []⟩])
 (.seq (.cond (.t 13) .skip
 (.exit 0))
 (.seq (.block 1 (.seq (.region [⟨some 14, .mov (.t 12), none, true, []⟩,
  ⟨some 15, .iaddr 3 (.t 10) (.t 12), none, true, []⟩,
  ⟨some 16, .load true 3 (.t 15), none, true, []⟩,
  ⟨some 4, .alloc [(.int .i64 0), (.int .i64 0), (.int .i64 0)], none, true, []⟩,
  ⟨some 3, .mov (.t 14), none, true, []⟩,
  ⟨none, .store 3 (.t 4) (.t 16), none, true, []⟩])
 (.block 2 (.seq (.region [⟨some 18, .load true 3 (.t 4), none, true, []⟩,
  ⟨some 19, .call 42 [(.t 18)], none, true, []⟩,
  ⟨some 20, .un .not (.t 19), none, true, []⟩,
  ⟨some 17, .mov (.t 20), none, true, []⟩])
 (.cond (.t 17) (.seq (.region [⟨some 2, .mov (.c (.int .i64 4)), none, true, []⟩])
 .ret)
 (.seq (.draw [⟨some 22, .mov (.t 3), none, true, []⟩,
  ⟨some 23, .arith .gtr (.t 22) (.c (.int .i64 0)), none, true, []⟩,
  ⟨some 24, .mov (.t 23), none, true, []⟩,
  ⟨some 25, .faddr 0 (.t 4), some (24, true), false, []⟩,
  ⟨some 26, .load false 1 (.t 25), some (24, true), false, []⟩,
  ⟨some 27, .faddr 0 (.t 1), some (24, true), false, [4]⟩,
  ⟨some 28, .load false 1 (.t 27), some (24, true), false, [4]⟩,
  ⟨some 29, .mov (.t 3), some (24, true), false, [4, 6]⟩,
  ⟨some 30, .arith .sub (.t 29) (.c (.int .i64 1)), some (24, true), false, [4, 6]⟩,
  ⟨some 31, .iaddr 3 (.t 28) (.t 30), some (24, true), false, [4]⟩,
  ⟨some 32, .faddr 0 (.t 31), some (24, true), false, [4]⟩,
  ⟨some 33, .load false 1 (.t 32), some (24, true), false, [4]⟩,
  ⟨some 34, .arith .leq (.t 26) (.t 33), some (24, true), true, []⟩,
  ⟨some 35, .mov (.t 34), some (24, true), true, []⟩,
  ⟨some 36, .faddr 2 (.t 4), some (35, false), false, []⟩,
  ⟨some 37, .load false 1 (.t 36), some (35, false), false, []⟩,
  ⟨some 38, .faddr 0 (.t 1), some (35, false), false, [15]⟩,
  ⟨some 39, .load false 1 (.t 38), some (35, false), false, [15]⟩,
  ⟨some 40, .mov (.t 3), some (35, false), false, [15, 17]⟩,
  ⟨some 41, .arith .sub (.t 40) (.c (.int .i64 1)), some (35, false), false, [15, 17]⟩,
  ⟨some 42, .iaddr 3 (.t 39) (.t 41), some (35, false), false, [15]⟩,
  ⟨some 43, .faddr 2 (.t 42), some (35, false), false, [15]⟩,
  ⟨some 44, .load false 1 (.t 43), some (35, false), false, [15]⟩,
  ⟨some 45, .arith .lss (.t 37) (.t 44), some (35, false), true, []⟩,
  ⟨some 46, .pick (.t 35) (.c (.bool true)) (.t 45), some (24, true), true, []⟩,
  ⟨some 47, .pick (.t 24) (.t 46) (.c (.bool false)), none, true, []⟩,
  ⟨some 21, .mov (.t 47), none, true, []⟩])
 (.cond (.t 21) (.seq (.region [⟨some 2, .mov (.c (.int .i64 18)), none, true, []⟩])
 .ret)
 .skip)))))))
 (.region [⟨some 48, .arith .add (.t 12) (.c (.int .i64 1)), none, true, []⟩,
  ⟨some 12, .mov (.t 48), none, true, []⟩])))))))
 (.seq (.region [⟨some 2, .mov (.c (.int .i64 0)), none, true, []⟩])
 .ret))))⟩

def v31 : VFn := ⟨49, [(2, none)],
 (.seq (.region [⟨some 2, .mov (.c (.int .i64 0)), none, true, []⟩])
 (.seq (.seq (.region [⟨some 4, .mov (.t 0), none, true, []⟩,
  ⟨some 5, .lenOf (.t 4), none, true, []⟩,
  ⟨some 6, .arith .gtr (.t 5) (.c (.int .i64 64)), none, true, []⟩])
 (.cond (.t 6) (.seq (.region [⟨some 2, .mov (.c (.int .i64 3)), none, true, []⟩])
 .ret)
 .skip))
 (.seq (.seq (.region [⟨some 3, .mov (.c (.int .i64 0)), none, true, []⟩])
 (.block 0 (.loop (.seq (.seq (.region [⟨some 7, .mov (.t 3), none, true, []⟩,
  ⟨some 8, .mov (.t 0), none, true, []⟩,
  ⟨some 9, .lenOf (.t 8), none, true, []⟩,
  ⟨some 10, .arith .lss (.t 7) (.t 9), none, true, []⟩])
 (.cond (.t 10) .skip
 (.exit 0)))
 (.seq (.block 1 (.seq (.seq (.region [⟨some 13, .mov (.t 0), none, true, []⟩,
  ⟨some 14, .mov (.t 3), none, true, []⟩,
  ⟨some 15, .iaddr 3 (.t 13) (.t 14), none, true, []⟩,
  ⟨some 16, .load true 3 (.t 15), none, true, []⟩,
  ⟨some 17, .call 16 [(.t 16)], none, true, []⟩,
  ⟨some 18, .eql false ⟨false, [(0, .i)]⟩ (.t 17) (.c (.int .i64 0)), none, true, []⟩])
 (.cond (.t 18) (.seq (.region [⟨some 2, .mov (.c (.int .i64 4)), none, true, []⟩])
 .ret)
 .skip))
 (.seq (.draw [⟨some 19, .mov (.t 3), none, true, []⟩,
  ⟨some 20, .arith .gtr (.t 19) (.c (.int .i64 0)), none, true, []⟩,
  ⟨some 21, .mov (.t 20), none, true, []⟩,
  ⟨some 22, .mov (.t 0), some (21, true), false, []⟩,
  ⟨some 23, .mov (.t 3), some (21, true), false, []⟩,
  ⟨some 24, .arith .sub (.t 23) (.c (.int .i64 1)), some (21, true), false, []⟩,
  ⟨some 25, .iaddr 3 (.t 22) (.t 24), some (21, true), false, []⟩,
  ⟨some 26, .faddr 0 (.t 25), some (21, true), false, []⟩,
  ⟨some 27, .load false 1 (.t 26), some (21, true), false, []⟩,
  ⟨some 28, .mov (.t 0), some (21, true), false, [8]⟩,
  ⟨some 29, .mov (.t 3), some (21, true), false, [8]⟩,
  ⟨some 30, .iaddr 3 (.t 28) (.t 29), some (21, true), false, [8]⟩,
  ⟨some 31, .faddr 0 (.t 30), some (21, true), false, [8]⟩,
  ⟨some 32, .load false 1 (.t 31), some (21, true), false, [8]⟩,
  ⟨some 33, .arith .geq (.t 27) (.t 32), some (21, true), true, []⟩,
  ⟨some 34, .mov (.t 33), some (21, true), true, []⟩,
  ⟨some 35, .mov (.t 0), some (34, false), false, []⟩,
  ⟨some 36, .mov (.t 3), some (34, false), false, []⟩,
  ⟨some 37, .arith .sub (.t 36) (.c (.int .i64 1)), some (34, false), false, []⟩,
  ⟨some 38, .iaddr 3 (.t 35) (.t 37), some (34, false), false, []⟩,
  ⟨some 39, .faddr 2 (.t 38), some (34, false), false, []⟩,
  ⟨some 40, .load false 1 (.t 39), some (34, false), false, []⟩,
  ⟨some 41, .mov (.t 0), some (34, false), false, [21]⟩,
  ⟨some 42, .mov (.t 3), some (34, false), false, [21]⟩,
  ⟨some 43, .iaddr 3 (.t 41) (.t 42), some (34, false), false, [21]⟩,
  ⟨some 44, .faddr 2 (.t 43), some (34, false), false, [21]⟩,
  ⟨some 45, .load false 1 (.t 44), some (34, false), false, [21]⟩,
  ⟨some 46, .arith .gtr (.t 40) (.t 45), some (34, false), true, []⟩,
  ⟨some 47, .pick (.t 34) (.c (.bool true)) (.t 46), some (21, true), true, []⟩,
  ⟨some 48, .pick (.t 21) (.t 47) (.c (.bool false)), none, true, []⟩])
 (.cond (.t 48) (.seq (.region [⟨some 2, .mov (.c (.int .i64 18)), none, true, []⟩])
 .ret)
 .skip))))
 (.region [⟨some 11, .mov (.t 3), none, true, []⟩,
  ⟨some 12, .arith .add (.t 11) (.c (.int .i64 1)), none, true, []⟩,
  ⟨some 3, .mov (.t 12), none, true, []⟩]))))))
 (.seq (.region [⟨some 2, .mov (.c (.int .i64 0)), none, true, []⟩])
 .ret))))⟩

def v32 : VFn := ⟨25, [(8, none)],
 (.seq (.region [⟨some 4, .box (.t 0) 1, none, true, []⟩,
  ⟨some 8, .mov (.c (.int .i64 0)), none, true, []⟩])
 (.seq (.seq (.region [⟨some 9, .mov (.t 1), none, true, []⟩,
  ⟨some 10, .mov (.t 3), none, true, []⟩,
  ⟨some 11, .eql true ⟨false, [(0, .i)]⟩ (.t 9) (.t 10), none, true, []⟩,
  ⟨some 12, .mov (.t 11), none, true, []⟩,
  ⟨some 13, .faddr 0 (.t 4), some (12, false), true, []⟩,
  ⟨some 14, .load false 1 (.t 13), some (12, false), true, []⟩,
  ⟨some 15, .capOf (.t 14), some (12, false), true, []⟩,
  ⟨some 16, .faddr 0 (.t 4), some (12, false), true, []⟩,
  ⟨some 17, .load false 1 (.t 16), some (12, false), true, []⟩,
  ⟨some 18, .lenOf (.t 17), some (12, false), true, []⟩,
  ⟨some 19, .eql true ⟨false, [(0, .i)]⟩ (.t 15) (.t 18), some (12, false), true, []⟩,
  ⟨some 20, .pick (.t 12) (.c (.bool true)) (.t 19), none, true, []⟩])
 (.cond (.t 20) (.seq (.region [⟨some 8, .mov (.c (.int .i64 0)), none, true, []⟩])
 .ret)
 .skip))
 (.seq (.region [⟨some 21, .faddr 0 (.t 4), none, true, []⟩,
  ⟨some 22, .load false 1 (.t 21), none, true, []⟩,
  ⟨some 23, .mov (.t 2), none, true, []⟩,
  ⟨some 24, .call 33 [(.t 22), (.t 23)], none, true, []⟩,
  ⟨some 8, .mov (.t 24), none, true, []⟩])
 .ret)))⟩

def v33 : VFn := ⟨26, [(4, none)],
 (.seq (.region [⟨some 4, .mov (.c (.int .i64 0)), none, true, []⟩])
 (.seq (.seq (.region [⟨some 6, .mov (.t 0), none, true, []⟩,
  ⟨some 7, .lenOf (.t 6), none, true, []⟩,
  ⟨some 8, .mov (.t 1), none, true, []⟩,
  ⟨some 9, .lenOf (.t 8), none, true, []⟩,
  ⟨some 10, .eql true ⟨false, [(0, .i)]⟩ (.t 7) (.t 9), none, true, []⟩])
 (.cond (.t 10) (.seq (.region [⟨some 4, .mov (.c (.int .i64 0)), none, true, []⟩])
 .ret)
 .skip))
 (.seq (.seq (.region [⟨some 5, .mov (.c (.int .i64 0)), none, true, []⟩])
 (.block 0 (.loop (.seq (.seq (.region [⟨some 11, .mov (.t 5), none, true, []⟩,
  ⟨some 12, .mov (.t 0), none, true, []⟩,
  ⟨some 13, .lenOf (.t 12), none, true, []⟩,
  ⟨some 14, .arith .lss (.t 11) (.t 13), none, true, []⟩])
 (.cond (.t 14) .skip
 (.exit 0)))
 (.seq (.block 1 (.seq (.draw [⟨some 17, .mov (.t 0), none, false, []⟩,
  ⟨some 18, .mov (.t 5), none, false, []⟩,
  ⟨some 19, .iaddr 3 (.t 17) (.t 18), none, false, []⟩,
  ⟨some 20, .load true 3 (.t 19), none, false, []⟩,
  ⟨some 21, .mov (.t 1), none, false, [3]⟩,
  ⟨some 22, .mov (.t 5), none, false, [3]⟩,
  ⟨some 23, .iaddr 3 (.t 21) (.t 22), none, false, [3]⟩,
  ⟨some 24, .load true 3 (.t 23), none, false, [3]⟩,
  ⟨some 25, .eql true ⟨true, [(0, .i), (1, .i), (2, .i)]⟩ (.t 20) (.t 24), none, true, []⟩])
 (.cond (.t 25) (.seq (.region [⟨some 4, .mov (.c (.int .i64 0)), none, true, []⟩])
 .ret)
 .skip)))
 (.region [⟨some 15, .mov (.t 5), none, true, []⟩,
  ⟨some 16, .arith .add (.t 15) (.c (.int .i64 1)), none, true, []⟩,
  ⟨some 5, .mov (.t 16), none, true, []⟩]))))))
 (.seq (.region [⟨some 4, .mov (.c (.int .i64 1)), none, true, []⟩])
 .ret))))⟩

def v34 : VFn := ⟨6, [(0, some (true, 1))],
 (.seq (.region [⟨some 0, .alloc [.nils], none, true, []⟩])
 (.seq (.region [⟨some 1, .build [(.int .i64 0), (.int .i64 0), (.int .i64 0)] [(0, 1, (.c (.int .i64 3))), (1, 1, (.c (.int .i64 2)))], none, true, []⟩,
  ⟨some 2, .build [(.int .i64 0), (.int .i64 0), (.int .i64 0)] [(0, 1, (.c (.int .i64 5))), (2, 1, (.c (.int .i64 4)))], none, true, []⟩,
  ⟨some 3, .build [(.int .i64 0), (.int .i64 0), (.int .i64 0)] [(0, 1, (.c (.int .i64 8))), (1, 1, (.c (.int .i64 1))), (2, 1, (.c (.int .i64 4)))], none, true, []⟩,
  ⟨some 4, .bslice 3 [(.int .i64 0), (.int .i64 0), (.int .i64 0), (.int .i64 0), (.int .i64 0), (.int .i64 0), (.int .i64 0), (.int .i64 0), (.int .i64 0)] [(0, 3, (.t 1)), (3, 3, (.t 2)), (6, 3, (.t 3))], none, true, []⟩,
  ⟨some 5, .build [.nils] [(0, 1, (.t 4))], none, true, []⟩,
  ⟨none, .store 1 (.t 0) (.t 5), none, true, []⟩])
 .ret))⟩

def v35 : VFn := ⟨23, [(8, none)],
 (.seq (.region [⟨some 4, .box (.t 0) 1, none, true, []⟩,
  ⟨some 8, .mov (.c (.int .i64 0)), none, true, []⟩])
 (.seq (.region [⟨some 12, .load true 1 (.t 4), none, true, []⟩,
  ⟨some 13, .mov (.t 1), none, true, []⟩,
  ⟨some 14, .mov (.t 2), none, true, []⟩,
  ⟨some 15, .call 10 [(.t 12), (.t 13), (.t 14)], none, true, []⟩,
  ⟨some 11, .mov (.t 15), none, true, []⟩,
  ⟨some 16, .ext (.t 11) 0, none, true, []⟩,
  ⟨some 17, .ext (.t 11) 1, none, true, []⟩,
  ⟨some 9, .mov (.t 16), none, true, []⟩,
  ⟨some 10, .mov (.t 17), none, true, []⟩])
 (.seq (.seq (.region [⟨some 18, .mov (.t 10), none, true, []⟩,
  ⟨some 19, .eql true ⟨false, [(0, .i)]⟩ (.t 18) (.c (.int .i64 0)), none, true, []⟩])
 (.cond (.t 19) (.seq (.region [⟨some 8, .mov (.c (.int .i64 0)), none, true, []⟩])
 .ret)
 .skip))
 (.seq (.region [⟨some 20, .mov (.t 9), none, true, []⟩,
  ⟨some 21, .mov (.t 3), none, true, []⟩,
  ⟨some 22, .call 13 [(.t 20), (.t 21)], none, true, []⟩,
  ⟨some 8, .mov (.t 22), none, true, []⟩])
 .ret))))⟩

def v36 : VFn := ⟨21, [(2, none)],
 (.seq (.region [⟨some 1, .box (.t 0) 2, none, true, []⟩,
  ⟨some 2, .mov (.c (.bool false)), none, true, []⟩])
 (.seq (.region [⟨some 3, .faddr 1 (.t 1), none, true, []⟩,
  ⟨some 4, .load false 1 (.t 3), none, true, []⟩,
  ⟨some 5, .arith .geq (.t 4) (.c (.int .i64 1)), none, true, []⟩,
  ⟨some 6, .mov (.t 5), none, true, []⟩,
  ⟨some 7, .faddr 1 (.t 1), some (6, true), true, []⟩,
  ⟨some 8, .load false 1 (.t 7), some (6, true), true, []⟩,
  ⟨some 9, .arith .leq (.t 8) (.c (.int .i64 64)), some (6, true), true, []⟩,
  ⟨some 10, .pick (.t 6) (.t 9) (.c (.bool false)), none, true, []⟩,
  ⟨some 11, .mov (.t 10), none, true, []⟩,
  ⟨some 12, .faddr 0 (.t 1), some (11, true), true, []⟩,
  ⟨some 13, .load false 1 (.t 12), some (11, true), true, []⟩,
  ⟨some 14, .arith .geq (.t 13) (.c (.int .i64 0)), some (11, true), true, []⟩,
  ⟨some 15, .pick (.t 11) (.t 14) (.c (.bool false)), none, true, []⟩,
  ⟨some 16, .mov (.t 15), none, true, []⟩,
  ⟨some 17, .faddr 0 (.t 1), some (16, true), true, []⟩,
  ⟨some 18, .load false 1 (.t 17), some (16, true), true, []⟩,
  ⟨some 19, .arith .leq (.t 18) (.c (.int .i64 4611686018427387904)), some (16, true), true, []⟩,
  ⟨some 20, .pick (.t 16) (.t 19) (.c (.bool false)), none, true, []⟩,
  ⟨some 2, .mov (.t 20), none, true, []⟩])
 .ret))⟩

def v37 : VFn := ⟨17, [(2, none)],
 (.seq (.region [⟨some 2, .mov (.c .nils), none, true, []⟩])
 (.seq (.region [⟨some 5, .mov (.t 0), none, true, []⟩,
  ⟨some 6, .call 45 [(.t 5)], none, true, []⟩,
  ⟨some 3, .mov (.t 6), none, true, []⟩])
 (.seq (.seq (.region [⟨some 7, .mov (.t 3), none, true, []⟩,
  ⟨some 8, .lenOf (.t 7), none, true, []⟩,
  ⟨some 9, .eql false ⟨false, [(0, .i)]⟩ (.t 8) (.c (.int .i64 0)), none, true, []⟩])
 (.cond (.t 9) (.seq (.region [⟨some 2, .mov (.c .nils), none, true, []⟩])
 .ret)
 .skip))
 (.seq (.region [⟨some 10, .mov (.t 3), none, true, []⟩,
  ⟨some 11, .lenOf (.t 10), none, true, []⟩,
  ⟨some 12, .mkslice 3 24 [(.int .i64 0), (.int .i64 0), (.int .i64 0)] (.t 11) (.t 11), none, true, []⟩,
  ⟨some 4, .mov (.t 12), none, true, []⟩])
 (.seq (.region [⟨some 13, .mov (.t 4), none, true, []⟩,
  ⟨some 14, .mov (.t 3), none, true, []⟩,
  ⟨some 15, .copy 3 (.t 13) (.t 14), none, true, []⟩])
 (.seq (.region [⟨some 16, .mov (.t 4), none, true, []⟩,
  ⟨some 2, .mov (.t 16), none, true, []⟩])
 .ret))))))⟩

def v38 : VFn := ⟨9, [],
 (.region [⟨some 4, .mov (.t 0), none, true, []⟩,
  ⟨some 5, .mov (.t 0), none, true, []⟩,
  ⟨some 6, .lenOf (.t 5), none, true, []⟩,
  ⟨some 7, .mov (.t 1), none, true, []⟩,
  ⟨some 8, .call 46 [(.t 4), (.t 6), (.t 7)], none, true, []⟩])⟩

def v39 : VFn := ⟨14, [(6, none)],
 (.seq (.region [⟨some 3, .box (.t 0) 2, none, true, []⟩,
  ⟨some 4, .box (.t 1) 3, none, true, []⟩,
  ⟨some 5, .box (.t 2) 3, none, true, []⟩,
  ⟨some 6, .mov (.c (.int .i64 0)), none, true, []⟩])
 (.seq (.draw [⟨some 7, .load true 2 (.t 3), none, false, []⟩,
  ⟨some 8, .load true 3 (.t 4), none, false, [0]⟩,
  ⟨some 9, .call 43 [(.t 7), (.t 8)], none, false, []⟩,
  ⟨some 10, .load true 2 (.t 3), none, false, [0, 1, 2]⟩,
  ⟨some 11, .load true 3 (.t 5), none, false, [0, 1, 2, 3]⟩,
  ⟨some 12, .call 43 [(.t 10), (.t 11)], none, true, []⟩,
  ⟨some 13, .call 47 [(.t 9), (.t 12)], none, true, []⟩,
  ⟨some 6, .mov (.t 13), none, true, []⟩])
 .ret))⟩

def v40 : VFn := ⟨17, [(2, none)],
 (.seq (.region [⟨some 2, .mov (.c .nils), none, true, []⟩])
 (.seq (.region [⟨some 5, .mov (.t 0), none, true, []⟩,
  ⟨some 6, .call 48 [(.t 5)], none, true, []⟩,
  ⟨some 3, .mov (.t 6), none, true, []⟩])
 (.seq (.seq (.region [⟨some 7, .mov (.t 3), none, true, []⟩,
  ⟨some 8, .lenOf (.t 7), none, true, []⟩,
  ⟨some 9, .eql false ⟨false, [(0, .i)]⟩ (.t 8) (.c (.int .i64 0)), none, true, []⟩])
 (.cond (.t 9) (.seq (.region [⟨some 2, .mov (.c .nils), none, true, []⟩])
 .ret)
 .skip))
 (.seq (.region [⟨some 10, .mov (.t 3), none, true, []⟩,
  ⟨some 11, .lenOf (.t 10), none, true, []⟩,
  ⟨some 12, .mkslice 1 8 [(.int .i64 0)] (.t 11) (.t 11), none, true, []⟩,
  ⟨some 4, .mov (.t 12), none, true, []⟩])
 (.seq (.region [⟨some 13, .mov (.t 4), none, true, []⟩,
  ⟨some 14, .mov (.t 3), none, true, []⟩,
  ⟨some 15, .copy 1 (.t 13) (.t 14), none, true, []⟩])
 (.seq (.region [⟨some 16, .mov (.t 4), none, true, []⟩,
  ⟨some 2, .mov (.t 16), none, true, []⟩])
 .ret))))))⟩

def v41 : VFn := ⟨9, [(4, none)],
 (.seq (.region [⟨some 4, .mov (.c (.bool false)), none, true, []⟩])
 (.seq (.region [⟨some 5, .mov (.t 0), none, true, []⟩,
  ⟨some 6, .mov (.t 1), none, true, []⟩,
  ⟨some 7, .call 49 [(.t 5), (.t 6)], none, true, []⟩,
  ⟨some 8, .arith .geq (.t 7) (.c (.int .i64 0)), none, true, []⟩,
  ⟨some 4, .mov (.t 8), none, true, []⟩])
 .ret))⟩

def v42 : VFn := ⟨26, [(2, none)],
 (.seq (.region [⟨some 1, .box (.t 0) 3, none, true, []⟩,
  ⟨some 2, .mov (.c (.bool false)), none, true, []⟩])
 (.seq (.region [⟨some 3, .faddr 0 (.t 1), none, true, []⟩,
  ⟨some 4, .load false 1 (.t 3), none, true, []⟩,
  ⟨some 5, .arith .geq (.t 4) (.c (.int .i64 0)), none, true, []⟩,
  ⟨some 6, .mov (.t 5), none, true, []⟩,
  ⟨some 7, .faddr 1 (.t 1), some (6, true), true, []⟩,
  ⟨some 8, .load false 1 (.t 7), some (6, true), true, []⟩,
  ⟨some 9, .arith .geq (.t 8) (.c (.int .i64 0)), some (6, true), true, []⟩,
  ⟨some 10, .pick (.t 6) (.t 9) (.c (.bool false)), none, true, []⟩,
  ⟨some 11, .mov (.t 10), none, true, []⟩,
  ⟨some 12, .faddr 1 (.t 1), some (11, true), true, []⟩,
  ⟨some 13, .load false 1 (.t 12), some (11, true), true, []⟩,
  ⟨some 14, .arith .lss (.t 13) (.c (.int .i64 8)), some (11, true), true, []⟩,
  ⟨some 15, .pick (.t 11) (.t 14) (.c (.bool false)), none, true, []⟩,
  ⟨some 16, .mov (.t 15), none, true, []⟩,
  ⟨some 17, .faddr 2 (.t 1), some (16, true), true, []⟩,
  ⟨some 18, .load false 1 (.t 17), some (16, true), true, []⟩,
  ⟨some 19, .arith .geq (.t 18) (.c (.int .i64 0)), some (16, true), true, []⟩,
  ⟨some 20, .pick (.t 16) (.t 19) (.c (.bool false)), none, true, []⟩,
  ⟨some 21, .mov (.t 20), none, true, []⟩,
  ⟨some 22, .faddr 2 (.t 1), some (21, true), true, []⟩,
  ⟨some 23, .load false 1 (.t 22), some (21, true), true, []⟩,
  ⟨some 24, .arith .leq (.t 23) (.c (.int .i64 4611686018427387904)), some (21, true), true, []⟩,
  ⟨some 25, .pick (.t 21) (.t 24) (.c (.bool false)), none, true, []⟩,
  ⟨some 2, .mov (.t 25), none, true, []⟩])
 .ret))⟩

def v43 : VFn := ⟨17, [(4, none)],
 (.seq (.region [⟨some 2, .box (.t 0) 2, none, true, []⟩,
  ⟨some 3, .box (.t 1) 3, none, true, []⟩,
  ⟨some 4, .mov (.c (.int .i64 0)), none, true, []⟩])
 (.seq (.draw [⟨some 5, .faddr 1 (.t 3), none, false, []⟩,
  ⟨some 6, .load false 1 (.t 5), none, false, []⟩,
  ⟨some 7, .faddr 0 (.t 2), none, false, [1]⟩,
  ⟨some 8, .load false 1 (.t 7), none, false, [1]⟩,
  ⟨some 9, .faddr 2 (.t 3), none, false, [1, 3]⟩,
  ⟨some 10, .load false 1 (.t 9), none, false, [1, 3]⟩,
  ⟨some 11, .arith .sub (.t 8) (.t 10), none, false, [1]⟩,
  ⟨some 12, .faddr 1 (.t 2), none, false, [1, 3, 5]⟩,
  ⟨some 13, .load false 1 (.t 12), none, false, [1, 3, 5]⟩,
  ⟨some 14, .arith .quo (.t 11) (.t 13), none, false, [1]⟩,
  ⟨some 15, .arith .sub (.t 6) (.t 14), none, true, []⟩,
  ⟨some 16, .minmax true [(.c (.int .i64 0)), (.t 15)], none, true, []⟩,
  ⟨some 4, .mov (.t 16), none, true, []⟩])
 .ret))⟩

def v44 : VFn := ⟨9, [(4, none)],
 (.seq (.region [⟨some 2, .box (.t 0) 1, none, true, []⟩,
  ⟨some 3, .box (.t 1) 1, none, true, []⟩,
  ⟨some 4, .mov (.c (.int .i64 0)), none, true, []⟩])
 (.seq (.region [⟨some 5, .faddr 0 (.t 2), none, true, []⟩,
  ⟨some 6, .load false 1 (.t 5), none, true, []⟩,
  ⟨some 7, .mkfunc (.func 51) [] [(.t 3)], none, true, []⟩,
  ⟨some 8, .call 50 [(.t 6), (.t 7)], none, true, []⟩,
  ⟨some 4, .mov (.t 8), none, true, []⟩])
 .ret))⟩

def v45 : VFn := ⟨36, [(2, none)],
 (.seq (.region [⟨some 2, .mov (.c .nils), none, true, []⟩])
 (.seq (.region [⟨some 3, .mov (.c (.int .i64 0)), none, true, []⟩])
 (.seq (.seq (.region [⟨some 9, .mov (.t 0), none, true, []⟩,
  ⟨some 10, .lenOf (.t 9), none, true, []⟩,
  ⟨some 11, .mov (.c (.int .i64 0)), none, true, []⟩])
 (.block 0 (.loop (.seq (.region [⟨some 12, .arith .lss (.t 11) (.t 10), none, true, []⟩])
 (.seq (.cond (.t 12) .skip
 (.exit 0))
 (.seq (.block 1 (.seq (.region [⟨some 13, .iaddr 1 (.t 9) (.t 11), none, true, []⟩,
  ⟨some 14, .load false 1 (.t 13), none, true, []⟩,
  ⟨some 5, .mov (.t 14), none, true, []⟩])
 (.seq (.region [⟨some 15, .mov (.t 3), none, true, []⟩,
  ⟨some 16, .mov (.t 5), none, true, []⟩,
  ⟨some 17, .lenOf (.t 16), none, true, []⟩,
  ⟨some 18, .arith .add (.t 15) (.t 17), none, true, []⟩,
  ⟨some 3, .mov (.t 18), none, true, []⟩])
 (.seq (.region [⟨some 19, .mov (.t 3), none, true, []⟩,
  ⟨some 20, .arith .lss (.t 19) (.c (.int .i64 0)), none, true, []⟩])
 (.cond (.t 20) (.region [⟨some 21, .mkiface 9 (.c (.str [108, 101, 110, 32, 111, 117, 116, 32, 111, 102, 32, 114, 97, 110, 103, 101])), none, true, []⟩,
  ⟨none, .bad, none, true, []⟩])
 .skip)))))
 (.region [⟨some 22, .arith .add (.t 11) (.c (.int .i64 1)), none, true, []⟩,
  ⟨some 11, .mov (.t 22), none, true, []⟩])))))))
 (.seq (.region [⟨some 23, .mov (.t 3), none, true, []⟩,
  ⟨some 24, .call 52 [(.c .nils), (.t 23)], none, true, []⟩,
  ⟨some 6, .mov (.t 24), none, true, []⟩])
 (.seq (.seq (.region [⟨some 25, .mov (.t 0), none, true, []⟩,
  ⟨some 26, .lenOf (.t 25), none, true, []⟩,
  ⟨some 27, .mov (.c (.int .i64 0)), none, true, []⟩])
 (.block 2 (.loop (.seq (.region [⟨some 28, .arith .lss (.t 27) (.t 26), none, true, []⟩])
 (.seq (.cond (.t 28) .skip
 (.exit 2))
 (.seq (.block 3 (.seq (.region [⟨some 29, .iaddr 1 (.t 25) (.t 27), none, true, []⟩,
  ⟨some 30, .load false 1 (.t 29), none, true, []⟩,
  ⟨some 8, .mov (.t 30), none, true, []⟩])
 (.region [⟨some 31, .mov (.t 6), none, true, []⟩,
  ⟨some 32, .mov (.t 8), none, true, []⟩,
  ⟨some 33, .append 3 24 (.t 31) (.t 32), none, true, []⟩,
  ⟨some 6, .mov (.t 33), none, true, []⟩])))
 (.region [⟨some 34, .arith .add (.t 27) (.c (.int .i64 1)), none, true, []⟩,
  ⟨some 27, .mov (.t 34), none, true, []⟩])))))))
 (.seq (.region [⟨some 35, .mov (.t 6), none, true, []⟩,
  ⟨some 2, .mov (.t 35), none, true, []⟩])
 .ret))))))⟩

def v46 : VFn := ⟨63, [],
 (.seq (.region [⟨some 6, .mov (.c (.int .i64 20)), none, true, []⟩])
 (.seq (.region [⟨some 10, .mov (.t 6), none, true, []⟩,
  ⟨some 7, .mov (.c (.int .i64 0)), none, true, []⟩,
  ⟨some 8, .mov (.t 10), none, true, []⟩])
 (.seq (.block 0 (.loop (.seq (.seq (.region [⟨some 11, .mov (.t 8), none, true, []⟩,
  ⟨some 12, .mov (.t 1), none, true, []⟩,
  ⟨some 13, .arith .leq (.t 11) (.t 12), none, true, []⟩])
 (.cond (.t 13) .skip
 (.exit 0)))
 (.block 1 (.seq (.region [⟨some 14, .mov (.t 0), none, true, []⟩,
  ⟨some 15, .mov (.t 7), none, true, []⟩,
  ⟨some 16, .mov (.t 8), none, true, []⟩,
  ⟨some 17, .mov (.t 2), none, true, []⟩,
  ⟨some 18, .call 53 [(.t 14), (.t 15), (.t 16), (.t 17)], none, true, []⟩])
 (.seq (.region [⟨some 19, .mov (.t 8), none, true, []⟩,
  ⟨some 7, .mov (.t 19), none, true, []⟩])
 (.region [⟨some 20, .mov (.t 8), none, true, []⟩,
  ⟨some 21, .mov (.t 6), none, true, []⟩,
  ⟨some 22, .arith .add (.t 20) (.t 21), none, true, []⟩,
  ⟨some 8, .mov (.t 22), none, true, []⟩])))))))
 (.seq (.region [⟨some 23, .mov (.t 0), none, true, []⟩,
  ⟨some 24, .mov (.t 7), none, true, []⟩,
  ⟨some 25, .mov (.t 1), none, true, []⟩,
  ⟨some 26, .mov (.t 2), none, true, []⟩,
  ⟨some 27, .call 53 [(.t 23), (.t 24), (.t 25), (.t 26)], none, true, []⟩])
 (.block 2 (.loop (.seq (.seq (.region [⟨some 28, .mov (.t 6), none, true, []⟩,
  ⟨some 29, .mov (.t 1), none, true, []⟩,
  ⟨some 30, .arith .lss (.t 28) (.t 29), none, true, []⟩])
 (.cond (.t 30) .skip
 (.exit 2)))
 (.block 3 (.seq (.region [⟨some 31, .mov (.t 6), none, true, []⟩,
  ⟨some 32, .arith .mul (.c (.int .i64 2)) (.t 31), none, true, []⟩,
  ⟨some 7, .mov (.c (.int .i64 0)), none, true, []⟩,
  ⟨some 8, .mov (.t 32), none, true, []⟩])
 (.seq (.block 4 (.loop (.seq (.seq (.region [⟨some 33, .mov (.t 8), none, true, []⟩,
  ⟨some 34, .mov (.t 1), none, true, []⟩,
  ⟨some 35, .arith .leq (.t 33) (.t 34), none, true, []⟩])
 (.cond (.t 35) .skip
 (.exit 4)))
 (.block 5 (.seq (.region [⟨some 36, .mov (.t 0), none, true, []⟩,
  ⟨some 37, .mov (.t 7), none, true, []⟩,
  ⟨some 38, .mov (.t 7), none, true, []⟩,
  ⟨some 39, .mov (.t 6), none, true, []⟩,
  ⟨some 40, .arith .add (.t 38) (.t 39), none, true, []⟩,
  ⟨some 41, .mov (.t 8), none, true, []⟩,
  ⟨some 42, .mov (.t 2), none, true, []⟩,
  ⟨some 43, .call 54 [(.t 36), (.t 37), (.t 40), (.t 41), (.t 42)], none, true, []⟩])
 (.seq (.region [⟨some 44, .mov (.t 8), none, true, []⟩,
  ⟨some 7, .mov (.t 44), none, true, []⟩])
 (.region [⟨some 45, .mov (.t 8), none, true, []⟩,
  ⟨some 46, .mov (.t 6), none, true, []⟩,
  ⟨some 47, .arith .mul (.c (.int .i64 2)) (.t 46), none, true, []⟩,
  ⟨some 48, .arith .add (.t 45) (.t 47), none, true, []⟩,
  ⟨some 8, .mov (.t 48), none, true, []⟩])))))))
 (.seq (.seq (.region [⟨some 49, .mov (.t 7), none, true, []⟩,
  ⟨some 50, .mov (.t 6), none, true, []⟩,
  ⟨some 51, .arith .add (.t 49) (.t 50), none, true, []⟩,
  ⟨some 9, .mov (.t 51), none, true, []⟩])
 (.seq (.region [⟨some 52, .mov (.t 9), none, true, []⟩,
  ⟨some 53, .mov (.t 1), none, true, []⟩,
  ⟨some 54, .arith .lss (.t 52) (.t 53), none, true, []⟩])
 (.cond (.t 54) (.region [⟨some 55, .mov (.t 0), none, true, []⟩,
  ⟨some 56, .mov (.t 7), none, true, []⟩,
  ⟨some 57, .mov (.t 9), none, true, []⟩,
  ⟨some 58, .mov (.t 1), none, true, []⟩,
  ⟨some 59, .mov (.t 2), none, true, []⟩,
  ⟨some 60, .call 54 [(.t 55), (.t 56), (.t 57), (.t 58), (.t 59)], none, true, []⟩])
 .skip)))
 (.region [⟨some 61, .mov (.t 6), none, true, []⟩,
  ⟨some 62, .arith .mul (.t 61) (.c (.int .i64 2)), none, true, []⟩,
  ⟨some 6, .mov (.t 62), none, true, []⟩]))))))))))))⟩

def v47 : VFn := ⟨20, [(4, none)],
 (.seq (.region [⟨some 4, .mov (.c (.int .i64 0)), none, true, []⟩])
 (.seq (.region [⟨some 7, .mov (.t 0), none, true, []⟩,
  ⟨some 8, .call 55 [(.t 7)], none, true, []⟩,
  ⟨some 5, .mov (.t 8), none, true, []⟩])
 (.seq (.region [⟨some 9, .mov (.t 1), none, true, []⟩,
  ⟨some 10, .call 55 [(.t 9)], none, true, []⟩,
  ⟨some 6, .mov (.t 10), none, true, []⟩])
 (.seq (.seq (.region [⟨some 11, .mov (.t 5), none, true, []⟩])
 (.cond (.t 11) (.seq (.seq (.region [⟨some 12, .mov (.t 6), none, true, []⟩])
 (.cond (.t 12) (.seq (.region [⟨some 4, .mov (.c (.int .i64 0)), none, true, []⟩])
 .ret)
 .skip))
 (.seq (.region [⟨some 4, .mov (.c (.int .i64 (-1))), none, true, []⟩])
 .ret))
 .skip))
 (.seq (.seq (.region [⟨some 13, .mov (.t 6), none, true, []⟩])
 (.cond (.t 13) (.seq (.region [⟨some 4, .mov (.c (.int .i64 1)), none, true, []⟩])
 .ret)
 .skip))
 (.seq (.seq (.region [⟨some 14, .mov (.t 0), none, true, []⟩,
  ⟨some 15, .mov (.t 1), none, true, []⟩,
  ⟨some 16, .arith .lss (.t 14) (.t 15), none, true, []⟩])
 (.cond (.t 16) (.seq (.region [⟨some 4, .mov (.c (.int .i64 (-1))), none, true, []⟩])
 .ret)
 .skip))
 (.seq (.seq (.region [⟨some 17, .mov (.t 0), none, true, []⟩,
  ⟨some 18, .mov (.t 1), none, true, []⟩,
  ⟨some 19, .arith .gtr (.t 17) (.t 18), none, true, []⟩])
 (.cond (.t 19) (.seq (.region [⟨some 4, .mov (.c (.int .i64 1)), none, true, []⟩])
 .ret)
 .skip))
 (.seq (.region [⟨some 4, .mov (.c (.int .i64 0)), none, true, []⟩])
 .ret))))))))⟩

def v48 : VFn := ⟨36, [(2, none)],
 (.seq (.region [⟨some 2, .mov (.c .nils), none, true, []⟩])
 (.seq (.region [⟨some 3, .mov (.c (.int .i64 0)), none, true, []⟩])
 (.seq (.seq (.region [⟨some 9, .mov (.t 0), none, true, []⟩,
  ⟨some 10, .lenOf (.t 9), none, true, []⟩,
  ⟨some 11, .mov (.c (.int .i64 0)), none, true, []⟩])
 (.block 0 (.loop (.seq (.region [⟨some 12, .arith .lss (.t 11) (.t 10), none, true, []⟩])
 (.seq (.cond (.t 12) .skip
 (.exit 0))
 (.seq (.block 1 (.seq (.region [⟨some 13, .iaddr 1 (.t 9) (.t 11), none, true, []⟩,
  ⟨some 14, .load false 1 (.t 13), none, true, []⟩,
  ⟨some 5, .mov (.t 14), none, true, []⟩])
 (.seq (.region [⟨some 15, .mov (.t 3), none, true, []⟩,
  ⟨some 16, .mov (.t 5), none, true, []⟩,
  ⟨some 17, .lenOf (.t 16), none, true, []⟩,
  ⟨some 18, .arith .add (.t 15) (.t 17), none, true, []⟩,
  ⟨some 3, .mov (.t 18), none, true, []⟩])
 (.seq (.region [⟨some 19, .mov (.t 3), none, true, []⟩,
  ⟨some 20, .arith .lss (.t 19) (.c (.int .i64 0)), none, true, []⟩])
 (.cond (.t 20) (.region [⟨some 21, .mkiface 9 (.c (.str [108, 101, 110, 32, 111, 117, 116, 32, 111, 102, 32, 114, 97, 110, 103, 101])), none, true, []⟩,
  ⟨none, .bad, none, true, []⟩])
 .skip)))))
 (.region [⟨some 22, .arith .add (.t 11) (.c (.int .i64 1)), none, true, []⟩,
  ⟨some 11, .mov (.t 22), none, true, []⟩])))))))
 (.seq (.region [⟨some 23, .mov (.t 3), none, true, []⟩,
  ⟨some 24, .call 56 [(.c .nils), (.t 23)], none, true, []⟩,
  ⟨some 6, .mov (.t 24), none, true, []⟩])
 (.seq (.seq (.region [⟨some 25, .mov (.t 0), none, true, []⟩,
  ⟨some 26, .lenOf (.t 25), none, true, []⟩,
  ⟨some 27, .mov (.c (.int .i64 0)), none, true, []⟩])
 (.block 2 (.loop (.seq (.region [⟨some 28, .arith .lss (.t 27) (.t 26), none, true, []⟩])
 (.seq (.cond (.t 28) .skip
 (.exit 2))
 (.seq (.block 3 (.seq (.region [⟨some 29, .iaddr 1 (.t 25) (.t 27), none, true, []⟩,
  ⟨some 30, .load false 1 (.t 29), none, true, []⟩,
  ⟨some 8, .mov (.t 30), none, true, []⟩])
 (.region [⟨some 31, .mov (.t 6), none, true, []⟩,
  ⟨some 32, .mov (.t 8), none, true, []⟩,
  ⟨some 33, .append 1 8 (.t 31) (.t 32), none, true, []⟩,
  ⟨some 6, .mov (.t 33), none, true, []⟩])))
 (.region [⟨some 34, .arith .add (.t 27) (.c (.int .i64 1)), none, true, []⟩,
  ⟨some 27, .mov (.t 34), none, true, []⟩])))))))
 (.seq (.region [⟨some 35, .mov (.t 6), none, true, []⟩,
  ⟨some 2, .mov (.t 35), none, true, []⟩])
 .ret))))))⟩

def v49 : VFn := ⟨19, [(4, none)],
 (.seq (.region [⟨some 4, .mov (.c (.int .i64 0)), none, true, []⟩])
 (.seq (.seq (.region [⟨some 6, .mov (.t 0), none, true, []⟩,
  ⟨some 7, .lenOf (.t 6), none, true, []⟩,
  ⟨some 8, .mov (.c (.int .i64 0)), none, true, []⟩])
 (.block 0 (.loop (.seq (.region [⟨some 9, .arith .lss (.t 8) (.t 7), none, true, []⟩])
 (.seq (.cond (.t 9) .skip
 (.exit 0))
 (.seq (.block 1 (.seq (.region [⟨some 10, .mov (.t 8), none, true, []⟩,
  ⟨some 5, .mov (.t 10), none, true, []⟩])
 (.seq (.region [⟨some 11, .mov (.t 1), none, true, []⟩,
  ⟨some 12, .mov (.t 0), none, true, []⟩,
  ⟨some 13, .mov (.t 5), none, true, []⟩,
  ⟨some 14, .iaddr 1 (.t 12) (.t 13), none, true, []⟩,
  ⟨some 15, .load false 1 (.t 14), none, true, []⟩,
  ⟨some 16, .eql false ⟨false, [(0, .i)]⟩ (.t 11) (.t 15), none, true, []⟩])
 (.cond (.t 16) (.seq (.region [⟨some 17, .mov (.t 5), none, true, []⟩,
  ⟨some 4, .mov (.t 17), none, true, []⟩])
 .ret)
 .skip))))
 (.region [⟨some 18, .arith .add (.t 8) (.c (.int .i64 1)), none, true, []⟩,
  ⟨some 8, .mov (.t 18), none, true, []⟩])))))))
 (.seq (.region [⟨some 4, .mov (.c (.int .i64 (-1))), none, true, []⟩])
 .ret)))⟩

def v50 : VFn := ⟨19, [(4, none)],
 (.seq (.region [⟨some 4, .mov (.c (.int .i64 0)), none, true, []⟩])
 (.seq (.seq (.region [⟨some 6, .mov (.t 0), none, true, []⟩,
  ⟨some 7, .lenOf (.t 6), none, true, []⟩,
  ⟨some 8, .mov (.c (.int .i64 0)), none, true, []⟩])
 (.block 0 (.loop (.seq (.region [⟨some 9, .arith .lss (.t 8) (.t 7), none, true, []⟩])
 (.seq (.cond (.t 9) .skip
 (.exit 0))
 (.seq (.block 1 (.seq (.region [⟨some 10, .mov (.t 8), none, true, []⟩,
  ⟨some 5, .mov (.t 10), none, true, []⟩])
 (.seq (.region [⟨some 11, .mov (.t 1), none, true, []⟩,
  ⟨some 12, .mov (.t 0), none, true, []⟩,
  ⟨some 13, .mov (.t 5), none, true, []⟩,
  ⟨some 14, .iaddr 3 (.t 12) (.t 13), none, true, []⟩,
  ⟨some 15, .load true 3 (.t 14), none, true, []⟩,
  ⟨some 16, .callv (.t 11) [(.t 15)], none, true, []⟩])
 (.cond (.t 16) (.seq (.region [⟨some 17, .mov (.t 5), none, true, []⟩,
  ⟨some 4, .mov (.t 17), none, true, []⟩])
 .ret)
 .skip))))
 (.region [⟨some 18, .arith .add (.t 8) (.c (.int .i64 1)), none, true, []⟩,
  ⟨some 8, .mov (.t 18), none, true, []⟩])))))))
 (.seq (.region [⟨some 4, .mov (.c (.int .i64 (-1))), none, true, []⟩])
 .ret)))⟩

def v51 : VFn := ⟨8, [(3, none)],
 (.seq (.region [⟨some 2, .box (.t 0) 3, none, true, []⟩,
  ⟨some 3, .mov (.c (.bool false)), none, true, []⟩])
 (.seq (.region [⟨some 4, .faddr 0 (.t 2), none, true, []⟩,
  ⟨some 5, .load false 1 (.t 4), none, true, []⟩,
  ⟨some 6, .load false 1 (.t 1), none, true, []⟩,
  ⟨some 7, .eql false ⟨false, [(0, .i)]⟩ (.t 5) (.t 6), none, true, []⟩,
  ⟨some 3, .mov (.t 7), none, true, []⟩])
 .ret))⟩

def v52 : VFn := ⟨27, [(4, none)],
 (.seq (.region [⟨some 4, .mov (.c .nils), none, true, []⟩])
 (.seq (.seq (.region [⟨some 5, .mov (.t 1), none, true, []⟩,
  ⟨some 6, .arith .lss (.t 5) (.c (.int .i64 0)), none, true, []⟩])
 (.cond (.t 6) (.region [⟨some 7, .mkiface 9 (.c (.str [99, 97, 110, 110, 111, 116, 32, 98, 101, 32, 110, 101, 103, 97, 116, 105, 118, 101])), none, true, []⟩,
  ⟨none, .bad, none, true, []⟩])
 .skip))
 (.seq (.seq (.region [⟨some 8, .mov (.t 1), none, true, []⟩,
  ⟨some 9, .mov (.t 0), none, true, []⟩,
  ⟨some 10, .capOf (.t 9), none, true, []⟩,
  ⟨some 11, .mov (.t 0), none, true, []⟩,
  ⟨some 12, .lenOf (.t 11), none, true, []⟩,
  ⟨some 13, .arith .sub (.t 10) (.t 12), none, true, []⟩,
  ⟨some 14, .arith .sub (.t 8) (.t 13), none, true, []⟩,
  ⟨some 1, .mov (.t 14), none, true, []⟩])
 (.seq (.region [⟨some 15, .mov (.t 1), none, true, []⟩,
  ⟨some 16, .arith .gtr (.t 15) (.c (.int .i64 0)), none, true, []⟩])
 (.cond (.t 16) (.region [⟨some 17, .mov (.t 0), none, true, []⟩,
  ⟨some 18, .mov (.t 0), none, true, []⟩,
  ⟨some 19, .capOf (.t 18), none, true, []⟩,
  ⟨some 20, .slice 3 (.t 17) none (some (.t 19)) none, none, true, []⟩,
  ⟨some 21, .mov (.t 1), none, true, []⟩,
  ⟨some 22, .appendZ 3 24 [(.int .i64 0), (.int .i64 0), (.int .i64 0)] (.t 20) (.t 21), none, true, []⟩,
  ⟨some 23, .mov (.t 0), none, true, []⟩,
  ⟨some 24, .lenOf (.t 23), none, true, []⟩,
  ⟨some 25, .slice 3 (.t 22) none (some (.t 24)) none, none, true, []⟩,
  ⟨some 0, .mov (.t 25), none, true, []⟩])
 .skip)))
 (.seq (.region [⟨some 26, .mov (.t 0), none, true, []⟩,
  ⟨some 4, .mov (.t 26), none, true, []⟩])
 .ret))))⟩

def v53 : VFn := ⟨53, [],
 (.seq (.region [⟨some 10, .mov (.t 1), none, true, []⟩,
  ⟨some 11, .arith .add (.t 10) (.c (.int .i64 1)), none, true, []⟩,
  ⟨some 8, .mov (.t 11), none, true, []⟩])
 (.block 0 (.loop (.seq (.seq (.region [⟨some 12, .mov (.t 8), none, true, []⟩,
  ⟨some 13, .mov (.t 2), none, true, []⟩,
  ⟨some 14, .arith .lss (.t 12) (.t 13), none, true, []⟩])
 (.cond (.t 14) .skip
 (.exit 0)))
 (.seq (.block 1 (.seq (.region [⟨some 17, .mov (.t 8), none, true, []⟩,
  ⟨some 9, .mov (.t 17), none, true, []⟩])
 (.block 2 (.loop (.seq (.seq (.draw [⟨some 18, .mov (.t 9), none, true, []⟩,
  ⟨some 19, .mov (.t 1), none, true, []⟩,
  ⟨some 20, .arith .gtr (.t 18) (.t 19), none, true, []⟩,
  ⟨some 21, .mov (.t 20), none, true, []⟩,
  ⟨some 22, .mov (.t 3), some (21, true), false, []⟩,
  ⟨some 23, .mov (.t 0), some (21, true), false, []⟩,
  ⟨some 24, .mov (.t 9), some (21, true), false, []⟩,
  ⟨some 25, .iaddr 3 (.t 23) (.t 24), some (21, true), false, []⟩,
  ⟨some 26, .load true 3 (.t 25), some (21, true), false, []⟩,
  ⟨some 27, .mov (.t 0), some (21, true), false, [8]⟩,
  ⟨some 28, .mov (.t 9), some (21, true), false, [8]⟩,
  ⟨some 29, .arith .sub (.t 28) (.c (.int .i64 1)), some (21, true), false, [8]⟩,
  ⟨some 30, .iaddr 3 (.t 27) (.t 29), some (21, true), false, [8]⟩,
  ⟨some 31, .load true 3 (.t 30), some (21, true), false, [8]⟩,
  ⟨some 32, .callv (.t 22) [(.t 26), (.t 31)], some (21, true), true, []⟩,
  ⟨some 33, .arith .lss (.t 32) (.c (.int .i64 0)), some (21, true), true, []⟩,
  ⟨some 34, .pick (.t 21) (.t 33) (.c (.bool false)), none, true, []⟩])
 (.cond (.t 34) .skip
 (.exit 2)))
 (.seq (.block 3 (.draw [⟨some 37, .mov (.t 0), none, false, []⟩,
  ⟨some 38, .mov (.t 9), none, false, []⟩,
  ⟨some 39, .mov (.t 0), none, false, []⟩,
  ⟨some 40, .mov (.t 9), none, false, []⟩,
  ⟨some 41, .arith .sub (.t 40) (.c (.int .i64 1)), none, false, []⟩,
  ⟨some 42, .mov (.t 0), none, false, []⟩,
  ⟨some 43, .mov (.t 9), none, false, []⟩,
  ⟨some 44, .arith .sub (.t 43) (.c (.int .i64 1)), none, false, []⟩,
  ⟨some 45, .iaddr 3 (.t 42) (.t 44), none, false, []⟩,
  ⟨some 46, .load true 3 (.t 45), none, false, []⟩,
  ⟨some 47, .mov (.t 0), none, false, [9]⟩,
  ⟨some 48, .mov (.t 9), none, false, [9]⟩,
  ⟨some 49, .iaddr 3 (.t 47) (.t 48), none, false, [9]⟩,
  ⟨some 50, .load true 3 (.t 49), none, false, [9]⟩,
  ⟨some 51, .iaddr 3 (.t 37) (.t 38), none, true, []⟩,
  ⟨none, .store 3 (.t 51) (.t 46), none, true, []⟩,
  ⟨some 52, .iaddr 3 (.t 39) (.t 41), none, true, []⟩,
  ⟨none, .store 3 (.t 52) (.t 50), none, true, []⟩]))
 (.region [⟨some 35, .mov (.t 9), none, true, []⟩,
  ⟨some 36, .arith .sub (.t 35) (.c (.int .i64 1)), none, true, []⟩,
  ⟨some 9, .mov (.t 36), none, true, []⟩])))))))
 (.region [⟨some 15, .mov (.t 8), none, true, []⟩,
  ⟨some 16, .arith .add (.t 15) (.c (.int .i64 1)), none, true, []⟩,
  ⟨some 8, .mov (.t 16), none, true, []⟩]))))))⟩

def v54 : VFn := ⟨220, [],
 (.seq (.seq (.region [⟨some 25, .mov (.t 2), none, true, []⟩,
  ⟨some 26, .mov (.t 1), none, true, []⟩,
  ⟨some 27, .arith .sub (.t 25) (.t 26), none, true, []⟩,
  ⟨some 28, .eql false ⟨false, [(0, .i)]⟩ (.t 27) (.c (.int .i64 1)), none, true, []⟩])
 (.cond (.t 28) (.seq (.region [⟨some 29, .mov (.t 2), none, true, []⟩,
  ⟨some 10, .mov (.t 29), none, true, []⟩])
 (.seq (.region [⟨some 30, .mov (.t 3), none, true, []⟩,
  ⟨some 11, .mov (.t 30), none, true, []⟩])
 (.seq (.block 0 (.loop (.seq (.seq (.region [⟨some 31, .mov (.t 10), none, true, []⟩,
  ⟨some 32, .mov (.t 11), none, true, []⟩,
  ⟨some 33, .arith .lss (.t 31) (.t 32), none, true, []⟩])
 (.cond (.t 33) .skip
 (.exit 0)))
 (.block 1 (.seq (.region [⟨some 34, .mov (.t 10), none, true, []⟩,
  ⟨some 35, .mov (.t 11), none, true, []⟩,
  ⟨some 36, .arith .add (.t 34) (.t 35), none, true, []⟩,
  ⟨some 37, .convInt .u64 (.t 36), none, true, []⟩,
  ⟨some 38, .arith .shr (.t 37) (.c (.int .u64 1)), none, true, []⟩,
  ⟨some 39, .convInt .i64 (.t 38), none, true, []⟩,
  ⟨some 12, .mov (.t 39), none, true, []⟩])
 (.seq (.draw [⟨some 40, .mov (.t 4), none, false, []⟩,
  ⟨some 41, .mov (.t 0), none, false, []⟩,
  ⟨some 42, .mov (.t 12), none, false, []⟩,
  ⟨some 43, .iaddr 3 (.t 41) (.t 42), none, false, []⟩,
  ⟨some 44, .load true 3 (.t 43), none, false, []⟩,
  ⟨some 45, .mov (.t 0), none, false, [4]⟩,
  ⟨some 46, .mov (.t 1), none, false, [4]⟩,
  ⟨some 47, .iaddr 3 (.t 45) (.t 46), none, false, [4]⟩,
  ⟨some 48, .load true 3 (.t 47), none, false, [4]⟩,
  ⟨some 49, .callv (.t 40) [(.t 44), (.t 48)], none, true, []⟩,
  ⟨some 50, .arith .lss (.t 49) (.c (.int .i64 0)), none, true, []⟩])
 (.cond (.t 50) (.region [⟨some 51, .mov (.t 12), none, true, []⟩,
  ⟨some 52, .arith .add (.t 51) (.c (.int .i64 1)), none, true, []⟩,
  ⟨some 10, .mov (.t 52), none, true, []⟩])
 (.region [⟨some 53, .mov (.t 12), none, true, []⟩,
  ⟨some 11, .mov (.t 53), none, true, []⟩]))))))))
 (.seq (.seq (.region [⟨some 54, .mov (.t 1), none, true, []⟩,
  ⟨some 13, .mov (.t 54), none, true, []⟩])
 (.block 2 (.loop (.seq (.seq (.region [⟨some 55, .mov (.t 13), none, true, []⟩,
  ⟨some 56, .mov (.t 10), none, true, []⟩,
  ⟨some 57, .arith .sub (.t 56) (.c (.int .i64 1)), none, true, []⟩,
  ⟨some 58, .arith .lss (.t 55) (.t 57), none, true, []⟩])
 (.cond (.t 58) .skip
 (.exit 2)))
 (.seq (.block 3 (.draw [⟨some 61, .mov (.t 0), none, false, []⟩,
  ⟨some 62, .mov (.t 13), none, false, []⟩,
  ⟨some 63, .mov (.t 0), none, false, []⟩,
  ⟨some 64, .mov (.t 13), none, false, []⟩,
  ⟨some 65, .arith .add (.t 64) (.c (.int .i64 1)), none, false, []⟩,
  ⟨some 66, .mov (.t 0), none, false, []⟩,
  ⟨some 67, .mov (.t 13), none, false, []⟩,
  ⟨some 68, .arith .add (.t 67) (.c (.int .i64 1)), none, false, []⟩,
  ⟨some 69, .iaddr 3 (.t 66) (.t 68), none, false, []⟩,
  ⟨some 70, .load true 3 (.t 69), none, false, []⟩,
  ⟨some 71, .mov (.t 0), none, false, [9]⟩,
  ⟨some 72, .mov (.t 13), none, false, [9]⟩,
  ⟨some 73, .iaddr 3 (.t 71) (.t 72), none, false, [9]⟩,
  ⟨some 74, .load true 3 (.t 73), none, false, [9]⟩,
  ⟨some 75, .iaddr 3 (.t 61) (.t 62), none, true, []⟩,
  ⟨none, .store 3 (.t 75) (.t 70), none, true, []⟩,
  ⟨some 76, .iaddr 3 (.t 63) (.t 65), none, true, []⟩,
  ⟨none, .store 3 (.t 76) (.t 74), none, true, []⟩]))
 (.region [⟨some 59, .mov (.t 13), none, true, []⟩,
  ⟨some 60, .arith .add (.t 59) (.c (.int .i64 1)), none, true, []⟩,
  ⟨some 13, .mov (.t 60), none, true, []⟩]))))))
 .ret))))
 .skip))
 (.seq (.seq (.region [⟨some 77, .mov (.t 3), none, true, []⟩,
  ⟨some 78, .mov (.t 2), none, true, []⟩,
  ⟨some 79, .arith .sub (.t 77) (.t 78), none, true, []⟩,
  ⟨some 80, .eql false ⟨false, [(0, .i)]⟩ (.t 79) (.c (.int .i64 1)), none, true, []⟩])
 (.cond (.t 80) (.seq (.region [⟨some 81, .mov (.t 1), none, true, []⟩,
  ⟨some 14, .mov (.t 81), none, true, []⟩])
 (.seq (.region [⟨some 82, .mov (.t 2), none, true, []⟩,
  ⟨some 15, .mov (.t 82), none, true, []⟩])
 (.seq (.block 4 (.loop (.seq (.seq (.region [⟨some 83, .mov (.t 14), none, true, []⟩,
  ⟨some 84, .mov (.t 15), none, true, []⟩,
  ⟨some 85, .arith .lss (.t 83) (.t 84), none, true, []⟩])
 (.cond (.t 85) .skip
 (.exit 4)))
 (.block 5 (.seq (.region [⟨some 86, .mov (.t 14), none, true, []⟩,
  ⟨some 87, .mov (.t 15), none, true, []⟩,
  ⟨some 88, .arith .add (.t 86) (.t 87), none, true, []⟩,
  ⟨some 89, .convInt .u64 (.t 88), none, true, []⟩,
  ⟨some 90, .arith .shr (.t 89) (.c (.int .u64 1)), none, true, []⟩,
  ⟨some 91, .convInt .i64 (.t 90), none, true, []⟩,
  ⟨some 16, .mov (.t 91), none, true, []⟩])
 (.seq (.draw [⟨some 92, .mov (.t 4), none, false, []⟩,
  ⟨some 93, .mov (.t 0), none, false, []⟩,
  ⟨some 94, .mov (.t 2), none, false, []⟩,
  ⟨some 95, .iaddr 3 (.t 93) (.t 94), none, false, []⟩,
  ⟨some 96, .load true 3 (.t 95), none, false, []⟩,
  ⟨some 97, .mov (.t 0), none, false, [4]⟩,
  ⟨some 98, .mov (.t 16), none, false, [4]⟩,
  ⟨some 99, .iaddr 3 (.t 97) (.t 98), none, false, [4]⟩,
  ⟨some 100, .load true 3 (.t 99), none, false, [4]⟩,
  ⟨some 101, .callv (.t 92) [(.t 96), (.t 100)], none, true, []⟩,
  ⟨some 102, .arith .lss (.t 101) (.c (.int .i64 0)), none, true, []⟩,
  ⟨some 103, .un .not (.t 102), none, true, []⟩])
 (.cond (.t 103) (.region [⟨some 104, .mov (.t 16), none, true, []⟩,
  ⟨some 105, .arith .add (.t 104) (.c (.int .i64 1)), none, true, []⟩,
  ⟨some 14, .mov (.t 105), none, true, []⟩])
 (.region [⟨some 106, .mov (.t 16), none, true, []⟩,
  ⟨some 15, .mov (.t 106), none, true, []⟩]))))))))
 (.seq (.seq (.region [⟨some 107, .mov (.t 2), none, true, []⟩,
  ⟨some 17, .mov (.t 107), none, true, []⟩])
 (.block 6 (.loop (.seq (.seq (.region [⟨some 108, .mov (.t 17), none, true, []⟩,
  ⟨some 109, .mov (.t 14), none, true, []⟩,
  ⟨some 110, .arith .gtr (.t 108) (.t 109), none, true, []⟩])
 (.cond (.t 110) .skip
 (.exit 6)))
 (.seq (.block 7 (.draw [⟨some 113, .mov (.t 0), none, false, []⟩,
  ⟨some 114, .mov (.t 17), none, false, []⟩,
  ⟨some 115, .mov (.t 0), none, false, []⟩,
  ⟨some 116, .mov (.t 17), none, false, []⟩,
  ⟨some 117, .arith .sub (.t 116) (.c (.int .i64 1)), none, false, []⟩,
  ⟨some 118, .mov (.t 0), none, false, []⟩,
  ⟨some 119, .mov (.t 17), none, false, []⟩,
  ⟨some 120, .arith .sub (.t 119) (.c (.int .i64 1)), none, false, []⟩,
  ⟨some 121, .iaddr 3 (.t 118) (.t 120), none, false, []⟩,
  ⟨some 122, .load true 3 (.t 121), none, false, []⟩,
  ⟨some 123, .mov (.t 0), none, false, [9]⟩,
  ⟨some 124, .mov (.t 17), none, false, [9]⟩,
  ⟨some 125, .iaddr 3 (.t 123) (.t 124), none, false, [9]⟩,
  ⟨some 126, .load true 3 (.t 125), none, false, [9]⟩,
  ⟨some 127, .iaddr 3 (.t 113) (.t 114), none, true, []⟩,
  ⟨none, .store 3 (.t 127) (.t 122), none, true, []⟩,
  ⟨some 128, .iaddr 3 (.t 115) (.t 117), none, true, []⟩,
  ⟨none, .store 3 (.t 128) (.t 126), none, true, []⟩]))
 (.region [⟨some 111, .mov (.t 17), none, true, []⟩,
  ⟨some 112, .arith .sub (.t 111) (.c (.int .i64 1)), none, true, []⟩,
  ⟨some 17, .mov (.t 112), none, true, []⟩]))))))
 .ret))))
 .skip))
 (.seq (.region [⟨some 129, .mov (.t 1), none, true, []⟩,
  ⟨some 130, .mov (.t 3), none, true, []⟩,
  ⟨some 131, .arith .add (.t 129) (.t 130), none, true, []⟩,
  ⟨some 132, .convInt .u64 (.t 131), none, true, []⟩,
  ⟨some 133, .arith .shr (.t 132) (.c (.int .u64 1)), none, true, []⟩,
  ⟨some 134, .convInt .i64 (.t 133), none, true, []⟩,
  ⟨some 18, .mov (.t 134), none, true, []⟩])
 (.seq (.region [⟨some 135, .mov (.t 18), none, true, []⟩,
  ⟨some 136, .mov (.t 2), none, true, []⟩,
  ⟨some 137, .arith .add (.t 135) (.t 136), none, true, []⟩,
  ⟨some 19, .mov (.t 137), none, true, []⟩])
 (.seq (.region [⟨some 20, .mov (.c (.int .i64 0)), none, true, []⟩,
  ⟨some 21, .mov (.c (.int .i64 0)), none, true, []⟩])
 (.seq (.seq (.region [⟨some 138, .mov (.t 2), none, true, []⟩,
  ⟨some 139, .mov (.t 18), none, true, []⟩,
  ⟨some 140, .arith .gtr (.t 138) (.t 139), none, true, []⟩])
 (.cond (.t 140) (.seq (.region [⟨some 141, .mov (.t 19), none, true, []⟩,
  ⟨some 142, .mov (.t 3), none, true, []⟩,
  ⟨some 143, .arith .sub (.t 141) (.t 142), none, true, []⟩,
  ⟨some 20, .mov (.t 143), none, true, []⟩])
 (.region [⟨some 144, .mov (.t 18), none, true, []⟩,
  ⟨some 21, .mov (.t 144), none, true, []⟩]))
 (.seq (.region [⟨some 145, .mov (.t 1), none, true, []⟩,
  ⟨some 20, .mov (.t 145), none, true, []⟩])
 (.region [⟨some 146, .mov (.t 2), none, true, []⟩,
  ⟨some 21, .mov (.t 146), none, true, []⟩]))))
 (.seq (.region [⟨some 147, .mov (.t 19), none, true, []⟩,
  ⟨some 148, .arith .sub (.t 147) (.c (.int .i64 1)), none, true, []⟩,
  ⟨some 22, .mov (.t 148), none, true, []⟩])
 (.seq (.block 8 (.loop (.seq (.seq (.region [⟨some 149, .mov (.t 20), none, true, []⟩,
  ⟨some 150, .mov (.t 21), none, true, []⟩,
  ⟨some 151, .arith .lss (.t 149) (.t 150), none, true, []⟩])
 (.cond (.t 151) .skip
 (.exit 8)))
 (.block 9 (.seq (.region [⟨some 152, .mov (.t 20), none, true, []⟩,
  ⟨some 153, .mov (.t 21), none, true, []⟩,
  ⟨some 154, .arith .add (.t 152) (.t 153), none, true, []⟩,
  ⟨some 155, .convInt .u64 (.t 154), none, true, []⟩,
  ⟨some 156, .arith .shr (.t 155) (.c (.int .u64 1)), none, true, []⟩,
  ⟨some 157, .convInt .i64 (.t 156), none, true, []⟩,
  ⟨some 23, .mov (.t 157), none, true, []⟩])
 (.seq (.draw [⟨some 158, .mov (.t 4), none, false, []⟩,
  ⟨some 159, .mov (.t 0), none, false, []⟩,
  ⟨some 160, .mov (.t 22), none, false, []⟩,
  ⟨some 161, .mov (.t 23), none, false, []⟩,
  ⟨some 162, .arith .sub (.t 160) (.t 161), none, false, []⟩,
  ⟨some 163, .iaddr 3 (.t 159) (.t 162), none, false, []⟩,
  ⟨some 164, .load true 3 (.t 163), none, false, []⟩,
  ⟨some 165, .mov (.t 0), none, false, [6]⟩,
  ⟨some 166, .mov (.t 23), none, false, [6]⟩,
  ⟨some 167, .iaddr 3 (.t 165) (.t 166), none, false, [6]⟩,
  ⟨some 168, .load true 3 (.t 167), none, false, [6]⟩,
  ⟨some 169, .callv (.t 158) [(.t 164), (.t 168)], none, true, []⟩,
  ⟨some 170, .arith .lss (.t 169) (.c (.int .i64 0)), none, true, []⟩,
  ⟨some 171, .un .not (.t 170), none, true, []⟩])
 (.cond (.t 171) (.region [⟨some 172, .mov (.t 23), none, true, []⟩,
  ⟨some 173, .arith .add (.t 172) (.c (.int .i64 1)), none, true, []⟩,
  ⟨some 20, .mov (.t 173), none, true, []⟩])
 (.region [⟨some 174, .mov (.t 23), none, true, []⟩,
  ⟨some 21, .mov (.t 174), none, true, []⟩]))))))))
 (.seq (.region [⟨some 175, .mov (.t 19), none, true, []⟩,
  ⟨some 176, .mov (.t 20), none, true, []⟩,
  ⟨some 177, .arith .sub (.t 175) (.t 176), none, true, []⟩,
  ⟨some 24, .mov (.t 177), none, true, []⟩])
 (.seq (.seq (.region [⟨some 178, .mov (.t 20), none, true, []⟩,
  ⟨some 179, .mov (.t 2), none, true, []⟩,
  ⟨some 180, .arith .lss (.t 178) (.t 179), none, true, []⟩,
  ⟨some 181, .mov (.t 180), none, true, []⟩,
  ⟨some 182, .mov (.t 2), some (181, true), true, []⟩,
  ⟨some 183, .mov (.t 24), some (181, true), true, []⟩,
  ⟨some 184, .arith .lss (.t 182) (.t 183), some (181, true), true, []⟩,
  ⟨some 185, .pick (.t 181) (.t 184) (.c (.bool false)), none, true, []⟩])
 (.cond (.t 185) (.region [⟨some 186, .mov (.t 0), none, true, []⟩,
  ⟨some 187, .mov (.t 20), none, true, []⟩,
  ⟨some 188, .mov (.t 2), none, true, []⟩,
  ⟨some 189, .mov (.t 24), none, true, []⟩,
  ⟨some 190, .mov (.t 4), none, true, []⟩,
  ⟨some 191, .call 57 [(.t 186), (.t 187), (.t 188), (.t 189), (.t 190)], none, true, []⟩])
 .skip))
 (.seq (.seq (.region [⟨some 192, .mov (.t 1), none, true, []⟩,
  ⟨some 193, .mov (.t 20), none, true, []⟩,
  ⟨some 194, .arith .lss (.t 192) (.t 193), none, true, []⟩,
  ⟨some 195, .mov (.t 194), none, true, []⟩,
  ⟨some 196, .mov (.t 20), some (195, true), true, []⟩,
  ⟨some 197, .mov (.t 18), some (195, true), true, []⟩,
  ⟨some 198, .arith .lss (.t 196) (.t 197), some (195, true), true, []⟩,
  ⟨some 199, .pick (.t 195) (.t 198) (.c (.bool false)), none, true, []⟩])
 (.cond (.t 199) (.region [⟨some 200, .mov (.t 0), none, true, []⟩,
  ⟨some 201, .mov (.t 1), none, true, []⟩,
  ⟨some 202, .mov (.t 20), none, true, []⟩,
  ⟨some 203, .mov (.t 18), none, true, []⟩,
  ⟨some 204, .mov (.t 4), none, true, []⟩,
  ⟨some 205, .call 54 [(.t 200), (.t 201), (.t 202), (.t 203), (.t 204)], none, true, []⟩])
 .skip))
 (.seq (.region [⟨some 206, .mov (.t 18), none, true, []⟩,
  ⟨some 207, .mov (.t 24), none, true, []⟩,
  ⟨some 208, .arith .lss (.t 206) (.t 207), none, true, []⟩,
  ⟨some 209, .mov (.t 208), none, true, []⟩,
  ⟨some 210, .mov (.t 24), some (209, true), true, []⟩,
  ⟨some 211, .mov (.t 3), some (209, true), true, []⟩,
  ⟨some 212, .arith .lss (.t 210) (.t 211), some (209, true), true, []⟩,
  ⟨some 213, .pick (.t 209) (.t 212) (.c (.bool false)), none, true, []⟩])
 (.cond (.t 213) (.region [⟨some 214, .mov (.t 0), none, true, []⟩,
  ⟨some 215, .mov (.t 18), none, true, []⟩,
  ⟨some 216, .mov (.t 24), none, true, []⟩,
  ⟨some 217, .mov (.t 3), none, true, []⟩,
  ⟨some 218, .mov (.t 4), none, true, []⟩,
  ⟨some 219, .call 54 [(.t 214), (.t 215), (.t 216), (.t 217), (.t 218)], none, true, []⟩])
 .skip)))))))))))))⟩

def v55 : VFn := ⟨6, [(2, none)],
 (.seq (.region [⟨some 2, .mov (.c (.bool false)), none, true, []⟩])
 (.seq (.region [⟨some 3, .mov (.t 0), none, true, []⟩,
  ⟨some 4, .mov (.t 0), none, true, []⟩,
  ⟨some 5, .eql true ⟨false, [(0, .i)]⟩ (.t 3) (.t 4), none, true, []⟩,
  ⟨some 2, .mov (.t 5), none, true, []⟩])
 .ret))⟩

def v56 : VFn := ⟨27, [(4, none)],
 (.seq (.region [⟨some 4, .mov (.c .nils), none, true, []⟩])
 (.seq (.seq (.region [⟨some 5, .mov (.t 1), none, true, []⟩,
  ⟨some 6, .arith .lss (.t 5) (.c (.int .i64 0)), none, true, []⟩])
 (.cond (.t 6) (.region [⟨some 7, .mkiface 9 (.c (.str [99, 97, 110, 110, 111, 116, 32, 98, 101, 32, 110, 101, 103, 97, 116, 105, 118, 101])), none, true, []⟩,
  ⟨none, .bad, none, true, []⟩])
 .skip))
 (.seq (.seq (.region [⟨some 8, .mov (.t 1), none, true, []⟩,
  ⟨some 9, .mov (.t 0), none, true, []⟩,
  ⟨some 10, .capOf (.t 9), none, true, []⟩,
  ⟨some 11, .mov (.t 0), none, true, []⟩,
  ⟨some 12, .lenOf (.t 11), none, true, []⟩,
  ⟨some 13, .arith .sub (.t 10) (.t 12), none, true, []⟩,
  ⟨some 14, .arith .sub (.t 8) (.t 13), none, true, []⟩,
  ⟨some 1, .mov (.t 14), none, true, []⟩])
 (.seq (.region [⟨some 15, .mov (.t 1), none, true, []⟩,
  ⟨some 16, .arith .gtr (.t 15) (.c (.int .i64 0)), none, true, []⟩])
 (.cond (.t 16) (.region [⟨some 17, .mov (.t 0), none, true, []⟩,
  ⟨some 18, .mov (.t 0), none, true, []⟩,
  ⟨some 19, .capOf (.t 18), none, true, []⟩,
  ⟨some 20, .slice 1 (.t 17) none (some (.t 19)) none, none, true, []⟩,
  ⟨some 21, .mov (.t 1), none, true, []⟩,
  ⟨some 22, .appendZ 1 8 [(.int .i64 0)] (.t 20) (.t 21), none, true, []⟩,
  ⟨some 23, .mov (.t 0), none, true, []⟩,
  ⟨some 24, .lenOf (.t 23), none, true, []⟩,
  ⟨some 25, .slice 1 (.t 22) none (some (.t 24)) none, none, true, []⟩,
  ⟨some 0, .mov (.t 25), none, true, []⟩])
 .skip)))
 (.seq (.region [⟨some 26, .mov (.t 0), none, true, []⟩,
  ⟨some 4, .mov (.t 26), none, true, []⟩])
 .ret))))⟩

def v57 : VFn := ⟨58, [],
 (.seq (.region [⟨some 12, .mov (.t 2), none, true, []⟩,
  ⟨some 13, .mov (.t 1), none, true, []⟩,
  ⟨some 14, .arith .sub (.t 12) (.t 13), none, true, []⟩,
  ⟨some 10, .mov (.t 14), none, true, []⟩])
 (.seq (.region [⟨some 15, .mov (.t 3), none, true, []⟩,
  ⟨some 16, .mov (.t 2), none, true, []⟩,
  ⟨some 17, .arith .sub (.t 15) (.t 16), none, true, []⟩,
  ⟨some 11, .mov (.t 17), none, true, []⟩])
 (.seq (.block 0 (.loop (.seq (.seq (.region [⟨some 18, .mov (.t 10), none, true, []⟩,
  ⟨some 19, .mov (.t 11), none, true, []⟩,
  ⟨some 20, .eql true ⟨false, [(0, .i)]⟩ (.t 18) (.t 19), none, true, []⟩])
 (.cond (.t 20) .skip
 (.exit 0)))
 (.block 1 (.seq (.region [⟨some 21, .mov (.t 10), none, true, []⟩,
  ⟨some 22, .mov (.t 11), none, true, []⟩,
  ⟨some 23, .arith .gtr (.t 21) (.t 22), none, true, []⟩])
 (.cond (.t 23) (.seq (.region [⟨some 24, .mov (.t 0), none, true, []⟩,
  ⟨some 25, .mov (.t 2), none, true, []⟩,
  ⟨some 26, .mov (.t 10), none, true, []⟩,
  ⟨some 27, .arith .sub (.t 25) (.t 26), none, true, []⟩,
  ⟨some 28, .mov (.t 2), none, true, []⟩,
  ⟨some 29, .mov (.t 11), none, true, []⟩,
  ⟨some 30, .mov (.t 4), none, true, []⟩,
  ⟨some 31, .call 58 [(.t 24), (.t 27), (.t 28), (.t 29), (.t 30)], none, true, []⟩])
 (.region [⟨some 32, .mov (.t 10), none, true, []⟩,
  ⟨some 33, .mov (.t 11), none, true, []⟩,
  ⟨some 34, .arith .sub (.t 32) (.t 33), none, true, []⟩,
  ⟨some 10, .mov (.t 34), none, true, []⟩]))
 (.seq (.region [⟨some 35, .mov (.t 0), none, true, []⟩,
  ⟨some 36, .mov (.t 2), none, true, []⟩,
  ⟨some 37, .mov (.t 10), none, true, []⟩,
  ⟨some 38, .arith .sub (.t 36) (.t 37), none, true, []⟩,
  ⟨some 39, .mov (.t 2), none, true, []⟩,
  ⟨some 40, .mov (.t 11), none, true, []⟩,
  ⟨some 41, .arith .add (.t 39) (.t 40), none, true, []⟩,
  ⟨some 42, .mov (.t 10), none, true, []⟩,
  ⟨some 43, .arith .sub (.t 41) (.t 42), none, true, []⟩,
  ⟨some 44, .mov (.t 10), none, true, []⟩,
  ⟨some 45, .mov (.t 4), none, true, []⟩,
  ⟨some 46, .call 58 [(.t 35), (.t 38), (.t 43), (.t 44), (.t 45)], none, true, []⟩])
 (.region [⟨some 47, .mov (.t 11), none, true, []⟩,
  ⟨some 48, .mov (.t 10), none, true, []⟩,
  ⟨some 49, .arith .sub (.t 47) (.t 48), none, true, []⟩,
  ⟨some 11, .mov (.t 49), none, true, []⟩]))))))))
 (.region [⟨some 50, .mov (.t 0), none, true, []⟩,
  ⟨some 51, .mov (.t 2), none, true, []⟩,
  ⟨some 52, .mov (.t 10), none, true, []⟩,
  ⟨some 53, .arith .sub (.t 51) (.t 52), none, true, []⟩,
  ⟨some 54, .mov (.t 2), none, true, []⟩,
  ⟨some 55, .mov (.t 10), none, true, []⟩,
  ⟨some 56, .mov (.t 4), none, true, []⟩,
  ⟨some 57, .call 58 [(.t 50), (.t 53), (.t 54), (.t 55), (.t 56)], none, true, []⟩]))))⟩

def v58 : VFn := ⟨38, [],
 (.seq (.region [⟨some 10, .mov (.c (.int .i64 0)), none, true, []⟩])
 (.block 0 (.loop (.seq (.seq (.region [⟨some 11, .mov (.t 10), none, true, []⟩,
  ⟨some 12, .mov (.t 3), none, true, []⟩,
  ⟨some 13, .arith .lss (.t 11) (.t 12), none, true, []⟩])
 (.cond (.t 13) .skip
 (.exit 0)))
 (.seq (.block 1 (.draw [⟨some 16, .mov (.t 0), none, false, []⟩,
  ⟨some 17, .mov (.t 1), none, false, []⟩,
  ⟨some 18, .mov (.t 10), none, false, []⟩,
  ⟨some 19, .arith .add (.t 17) (.t 18), none, false, []⟩,
  ⟨some 20, .mov (.t 0), none, false, []⟩,
  ⟨some 21, .mov (.t 2), none, false, []⟩,
  ⟨some 22, .mov (.t 10), none, false, []⟩,
  ⟨some 23, .arith .add (.t 21) (.t 22), none, false, []⟩,
  ⟨some 24, .mov (.t 0), none, false, []⟩,
  ⟨some 25, .mov (.t 2), none, false, []⟩,
  ⟨some 26, .mov (.t 10), none, false, []⟩,
  ⟨some 27, .arith .add (.t 25) (.t 26), none, false, []⟩,
  ⟨some 28, .iaddr 3 (.t 24) (.t 27), none, false, []⟩,
  ⟨some 29, .load true 3 (.t 28), none, false, []⟩,
  ⟨some 30, .mov (.t 0), none, false, [13]⟩,
  ⟨some 31, .mov (.t 1), none, false, [13]⟩,
  ⟨some 32, .mov (.t 10), none, false, [13]⟩,
  ⟨some 33, .arith .add (.t 31) (.t 32), none, false, [13]⟩,
  ⟨some 34, .iaddr 3 (.t 30) (.t 33), none, false, [13]⟩,
  ⟨some 35, .load true 3 (.t 34), none, false, [13]⟩,
  ⟨some 36, .iaddr 3 (.t 16) (.t 19), none, true, []⟩,
  ⟨none, .store 3 (.t 36) (.t 29), none, true, []⟩,
  ⟨some 37, .iaddr 3 (.t 20) (.t 23), none, true, []⟩,
  ⟨none, .store 3 (.t 37) (.t 35), none, true, []⟩]))
 (.region [⟨some 14, .mov (.t 10), none, true, []⟩,
  ⟨some 15, .arith .add (.t 14) (.c (.int .i64 1)), none, true, []⟩,
  ⟨some 10, .mov (.t 15), none, true, []⟩]))))))⟩

def fns : FuncId → Option VFn
  | 3 => some v3
  | 4 => some v4
  | 5 => some v5
  | 6 => some v6
  | 7 => some v7
  | 8 => some v8
  | 9 => some v9
  | 10 => some v10
  | 11 => some v11
  | 12 => some v12
  | 13 => some v13
  | 14 => some v14
  | 15 => some v15
  | 16 => some v16
  | 17 => some v17
  | 18 => some v18
  | 19 => some v19
  | 20 => some v20
  | 21 => some v21
  | 22 => some v22
  | 23 => some v23
  | 24 => some v24
  | 25 => some v25
  | 26 => some v26
  | 27 => some v27
  | 28 => some v28
  | 29 => some v29
  | 30 => some v30
  | 31 => some v31
  | 32 => some v32
  | 33 => some v33
  | 34 => some v34
  | 35 => some v35
  | 36 => some v36
  | 37 => some v37
  | 38 => some v38
  | 39 => some v39
  | 40 => some v40
  | 41 => some v41
  | 42 => some v42
  | 43 => some v43
  | 44 => some v44
  | 45 => some v45
  | 46 => some v46
  | 47 => some v47
  | 48 => some v48
  | 49 => some v49
  | 50 => some v50
  | 51 => some v51
  | 52 => some v52
  | 53 => some v53
  | 54 => some v54
  | 55 => some v55
  | 56 => some v56
  | 57 => some v57
  | 58 => some v58
  | _ => none

end Go.V
end

section
set_option linter.unusedVariables false
set_option linter.unusedSimpArgs false
set_option linter.unusedSectionVars false
-- DRAWS
-- NEW
set_option maxHeartbeats 400000
namespace Go.V
attribute [local irreducible] stepK opK opV

def E35 : Env := { fns := fns, prims := fun f => if f = 8 then some (wholeP (.bool true)) else none, meth := fun _ _ _ => none }

theorem lives_ok {h : Heap} : WC E35 8 [] h fun v h' => Grow h h' ∧ v = .bool true := ⟨0, _, _, rfl, .refl _, rfl⟩

def validB (id cl si : Int) : Bool := decide (id ≥ 0) && (decide (cl ≥ 0) && (decide (cl < 8) && (decide (si ≥ 0) && decide (si ≤ 4611686018427387904))))

/-- An entry. -/
abbrev ent (id cl si : Int) : Val := .agg [.int .i64 id, .int .i64 cl, .int .i64 si]

theorem valid_ok {h : Heap} (w : Wf h) {id cl si : Int} : WC E35 42 [ent id cl si] h fun v h' => Grow h h' ∧ v = .bool (validB id cl si) := by
  refine WC.fn1 (n := 26) rfl rfl (by rfl) ?_
  intro fr hl ha
  have h0 : fr.getD 0 .undef = ent id cl si := ha 0
  clear ha
  unfold v42
  refine WE.seqR ?_
  (refine WO.op1 ?_; simp only [opK, wanted, setDst, *])
  refine stepK_box w (c := [.int .i64 id, .int .i64 cl, .int .i64 si]) (by simp only [V.ev, *]; rfl) rfl fun b h2 g hb hg hnx => ?_
  have l0 : h2.load b 0 1 = some [.int .i64 id] := load_get hg (by simp)
  have l1 : h2.load b 1 1 = some [.int .i64 cl] := load_get hg (by simp)
  have l2 : h2.load b 2 1 = some [.int .i64 si] := load_get hg (by simp)
  repeat' (first | refine WE.seqR ?_ | refine WO.nil ?_ | (refine WO.op1s ?_; simp only [opK, wanted, stepK, step, setDst, pureV, arith, intBin, true_and, V.ev, Nat.reduceEqDiff, Nat.reduceLT, Nat.add_zero, Nat.zero_add, Bool.false_eq_true, beq_self_eq_true, getD_ne, getD_eq, List.length_set, if_true, if_false, Bool.false_beq, Bool.not_true, *]; with_reducible show WO _ _ _ _ _) | (refine WO.guardE ?_; simp only [Nat.reduceLT, getD_eq, List.length_set, Bool.not_true, *]; refine ⟨_, rfl, fun hcd => ?_, fun hcd => ?_⟩) | refine WE.ret ?_)
  all_goals ((try dsimp only); refine Exists.intro _ ⟨(by (simp only [readResults, Nat.reduceLT, getD_eq, List.length_set, *]; try rfl)), ?_⟩)
  all_goals refine ⟨g, ?_⟩
  all_goals simp only [validB, resultOf, Bool.true_and, Bool.false_and, *]

def rightB (ro ag : Int) : Bool := decide (ag ≥ 1) && (decide (ag ≤ 64) && (decide (ro ≥ 0) && decide (ro ≤ 4611686018427387904)))

theorem right_ok {h : Heap} (w : Wf h) {ro ag : Int} : WC E35 36 [.agg [.int .i64 ro, .int .i64 ag]] h fun v h' => Grow h h' ∧ v = .bool (rightB ro ag) := by
  refine WC.fn1 (n := 21) rfl rfl (by rfl) ?_
  intro fr hl ha
  have h0 : fr.getD 0 .undef = .agg [.int .i64 ro, .int .i64 ag] := ha 0
  clear ha
  unfold v36
  refine WE.seqR ?_
  (refine WO.op1 ?_; simp only [opK, wanted, setDst, *])
  refine stepK_box w (c := [.int .i64 ro, .int .i64 ag]) (by simp only [V.ev, *]; rfl) rfl fun b h2 g hb hg hnx => ?_
  have l0 : h2.load b 0 1 = some [.int .i64 ro] := load_get hg (by simp)
  have l1 : h2.load b 1 1 = some [.int .i64 ag] := load_get hg (by simp)
  repeat' (first | refine WE.seqR ?_ | refine WO.nil ?_ | (refine WO.op1s ?_; simp only [opK, wanted, stepK, step, setDst, pureV, arith, intBin, true_and, V.ev, Nat.reduceEqDiff, Nat.reduceLT, Nat.add_zero, Nat.zero_add, Bool.false_eq_true, beq_self_eq_true, getD_ne, getD_eq, List.length_set, if_true, if_false, Bool.false_beq, Bool.not_true, *]; with_reducible show WO _ _ _ _ _) | (refine WO.guardE ?_; simp only [Nat.reduceLT, getD_eq, List.length_set, Bool.not_true, *]; refine ⟨_, rfl, fun hcd => ?_, fun hcd => ?_⟩) | refine WE.ret ?_)
  all_goals ((try dsimp only); refine Exists.intro _ ⟨(by (simp only [readResults, Nat.reduceLT, getD_eq, List.length_set, *]; try rfl)), ?_⟩)
  all_goals refine ⟨g, ?_⟩
  all_goals simp only [rightB, resultOf, Bool.true_and, Bool.false_and, *]

theorem clock_ok {h : Heap} {ro ag : Int} : WC E35 17 [.int .i64 ro, .int .i64 ag] h fun v h' => Grow h h' ∧ v = .int .i64 (if rightB ro ag then 1 else 0) := by
  refine WC.fn1 (n := 19) rfl rfl (by rfl) ?_
  intro fr hl ha
  have h0 : fr.getD 0 .undef = .int .i64 ro := ha 0
  have h1 : fr.getD 1 .undef = .int .i64 ag := ha 1
  clear ha
  unfold v17
  repeat' (first | refine WE.assoc ?_ | refine WE.seqR ?_ | refine WO.nil ?_ | (refine WO.op1s ?_; simp only [opK, wanted, stepK, step, setDst, pureV, arith, intBin, true_and, V.ev, Nat.reduceEqDiff, Nat.reduceLT, beq_self_eq_true, getD_ne, getD_eq, List.length_set, if_true, reduceCtorEq, Bool.true_beq, *]; with_reducible show WO _ _ _ _ _) | refine WE.seqSkip ?_ | refine WE.seqRet ?_ | (refine WE.seqCond (t := true) ?hc (fun _ => ?_) (fun hh => Bool.noConfusion hh); case hc => simp only [V.ev, Nat.reduceLT, getD_eq, List.length_set, *]) | (refine WE.seqCondE ?_; simp only [V.ev, Nat.reduceLT, getD_eq, List.length_set, *]; refine ⟨_, rfl, fun hcd => ?_, fun hcd => ?_⟩) | (refine WO.guardE ?_; simp only [Nat.reduceLT, getD_eq, List.length_set, Bool.not_false, *]; refine ⟨_, rfl, fun hcd => ?_, fun hcd => ?_⟩) | refine WE.ret ?_)
  all_goals ((try dsimp only); refine Exists.intro _ ⟨(by (simp only [readResults, Nat.reduceLT, getD_eq, List.length_set, *]; try rfl)), ?_⟩)
  all_goals refine ⟨.refl _, ?_⟩
  all_goals simp only [rightB, resultOf, Val.int.injEq, true_and, decide_eq_true_eq, decide_eq_false_iff_not, Bool.and_eq_true] at *
  all_goals first | rw [if_neg (by omega)] | rw [if_pos (by omega)]

theorem entry_ok {h : Heap} (w : Wf h) {id cl si : Int} : WC E35 16 [ent id cl si] h fun v h' => Grow h h' ∧ v = .int .i64 (if validB id cl si then 1 else 0) := by
  refine WC.fn1 (n := 26) rfl rfl (by rfl) ?_
  intro fr hl ha
  have h0 : fr.getD 0 .undef = ent id cl si := ha 0
  clear ha
  unfold v16
  refine WE.seqR ?_
  (refine WO.op1 ?_; simp only [opK, wanted, setDst, *])
  refine stepK_box w (c := [.int .i64 id, .int .i64 cl, .int .i64 si]) (by simp only [V.ev, *]; rfl) rfl fun b h2 g hb hg hnx => ?_
  have l0 : h2.load b 0 1 = some [.int .i64 id] := load_get hg (by simp)
  have l1 : h2.load b 1 1 = some [.int .i64 cl] := load_get hg (by simp)
  have l2 : h2.load b 2 1 = some [.int .i64 si] := load_get hg (by simp)
  repeat' (first | refine WE.assoc ?_ | refine WE.seqR ?_ | refine WO.nil ?_ | (refine WO.op1s ?_; simp only [opK, wanted, stepK, step, setDst, pureV, arith, intBin, true_and, V.ev, Nat.reduceEqDiff, Nat.reduceLT, Nat.add_zero, Nat.zero_add, Bool.false_eq_true, beq_self_eq_true, getD_ne, getD_eq, List.length_set, if_true, if_false, Bool.true_beq, *]; with_reducible show WO _ _ _ _ _) | refine WE.seqSkip ?_ | refine WE.seqRet ?_ | (refine WE.seqCond (t := true) ?hc (fun _ => ?_) (fun hh => Bool.noConfusion hh); case hc => simp only [V.ev, Nat.reduceLT, getD_eq, List.length_set, *]) | (refine WE.seqCondE ?_; simp only [V.ev, Nat.reduceLT, getD_eq, List.length_set, *]; refine ⟨_, rfl, fun hcd => ?_, fun hcd => ?_⟩) | (refine WO.guardE ?_; simp only [Nat.reduceLT, getD_eq, List.length_set, Bool.not_false, *]; refine ⟨_, rfl, fun hcd => ?_, fun hcd => ?_⟩) | refine WE.ret ?_)
  all_goals ((try dsimp only); refine Exists.intro _ ⟨(by (simp only [readResults, Nat.reduceLT, getD_eq, List.length_set, *]; try rfl)), ?_⟩)
  all_goals refine ⟨g, ?_⟩
  all_goals clear h0 hl l0 l1 l2 hg hnx hb
  all_goals simp only [validB, resultOf, Val.int.injEq, true_and, decide_eq_true_eq, decide_eq_false_iff_not, Bool.and_eq_true] at *
  all_goals first | rw [if_neg (by omega)] | rw [if_pos (by omega)]

/-- The effective class. -/
def effI (ro ag cl si : Int) : Int := if IntKind.i64.wrap (cl - IntKind.i64.wrap ((IntKind.i64.wrap (ro - si)).tdiv ag)) > 0 then IntKind.i64.wrap (cl - IntKind.i64.wrap ((IntKind.i64.wrap (ro - si)).tdiv ag)) else 0

theorem effective_ok {h : Heap} (w : Wf h) {ro ag id cl si : Int} (hag : ag ≠ 0) : WC E35 43 [.agg [.int .i64 ro, .int .i64 ag], ent id cl si] h fun v h' => Grow h h' ∧ v = .int .i64 (effI ro ag cl si) := by
  refine WC.fn1 (n := 17) rfl rfl (by rfl) ?_
  intro fr hl ha
  have h0 : fr.getD 0 .undef = .agg [.int .i64 ro, .int .i64 ag] := ha 0
  have h1 : fr.getD 1 .undef = ent id cl si := ha 1
  clear ha
  unfold v43
  refine WE.seqR ?_
  (refine WO.op1 ?_; simp only [opK, wanted, setDst, *])
  refine stepK_box w (c := [.int .i64 ro, .int .i64 ag]) (by simp only [V.ev, *]; rfl) rfl fun b h2 g hb hg hnx => ?_
  (refine WO.op1 ?_; simp only [opK, wanted, setDst, *])
  refine stepK_box (g.wf w) (c := [.int .i64 id, .int .i64 cl, .int .i64 si]) (by simp only [V.ev, Nat.reduceEqDiff, getD_ne, *]; rfl) rfl fun b2 h3 g2 hb2 hg2 hnx2 => ?_
  have l0 : h3.load b 0 1 = some [.int .i64 ro] := load_get (g2.keep _ _ hg) (by simp)
  have l1 : h3.load b 1 1 = some [.int .i64 ag] := load_get (g2.keep _ _ hg) (by simp)
  have m1 : h3.load b2 1 1 = some [.int .i64 cl] := load_get hg2 (by simp)
  have m2 : h3.load b2 2 1 = some [.int .i64 si] := load_get hg2 (by simp)
  repeat' (first | refine WO.nil ?_ | refine WE.seqD ?_ | refine WD.nil2 ?_ | (refine WO.op1s ?_; simp only [opK, wanted, stepK, step, setDst, true_and, V.ev, *]; with_reducible show WO _ _ _ _ _) | (refine WD.op2s ?_; simp only [opV, VOp.kind, hiddenOf, unveil_veil, veil_next, below_nil, below_cons, or_false, or_self, wanted, stepK, step, setDst, pureV, arith, intBin, evs, minmaxL, List.nil_append, List.cons_append, true_and, List.getD_cons_zero, List.getD_cons_succ, V.ev, Nat.reduceEqDiff, Nat.reduceLT, Nat.reduceLeDiff, Nat.add_zero, Nat.zero_add, Bool.false_eq_true, getD_ne, getD_eq, List.length_set, if_true, if_false, reduceCtorEq, *]; with_reducible show WD _ _ _ _ _ _) | refine WE.ret ?_)

  all_goals ((try dsimp only); refine Exists.intro _ ⟨(by (simp only [readResults, Nat.reduceLT, getD_eq, List.length_set, *]; try rfl)), ?_⟩)

  exact ⟨g.trans g2, rfl⟩

end Go.V
end

section
set_option linter.unusedVariables false
set_option linter.unusedSimpArgs false
set_option linter.unusedSectionVars false
-- BUILDS
-- NEW
set_option maxHeartbeats 400000
namespace Go.V
attribute [local irreducible] stepK opK opV

/-- The definition's effective class: one less for each full age. -/
def refEff (cl left ag : Int) : Nat → Int
  | 0 => cl
  | n + 1 => if cl > 0 ∧ left ≥ ag then refEff (cl - 1) (left - ag) ag n else cl

def RefI (h : Heap) (ag res : Int) (k : Nat) (fr : List Val) (h' : Heap) : Prop := h' = h ∧ ∃ cl left : Int, fr.length = 28 ∧ fr.getD 2 .undef = .int .i64 ag ∧ fr.getD 7 .undef = .int .i64 cl ∧ fr.getD 8 .undef = .int .i64 left ∧
  (k : Int) = cl ∧ cl < 8 ∧ 0 ≤ left ∧ left ≤ 4611686018427387904 ∧ res = refEff cl left ag k

theorem refeff_ok {h : Heap} (w : Wf h) {id cl si ro ag : Int} (hcl : 0 ≤ cl ∧ cl < 8) (hag : 1 ≤ ag ∧ ag ≤ 64) (hsi : 0 ≤ si ∧ si ≤ ro ∧ ro ≤ 4611686018427387904) :
    WC E35 18 [ent id cl si, .int .i64 ro, .int .i64 ag] h fun v h' => Grow h h' ∧ v = .int .i64 (refEff cl (ro - si) ag cl.toNat) := by
  refine WC.fn1 (n := 28) rfl rfl (by rfl) ?_
  intro fr hl ha
  have h0 : fr.getD 0 .undef = ent id cl si := ha 0
  have h1 : fr.getD 1 .undef = .int .i64 ro := ha 1
  have h2 : fr.getD 2 .undef = .int .i64 ag := ha 2
  clear ha
  unfold v18
  refine WE.seqR ?_
  (refine WO.op1 ?_; simp only [opK, wanted, setDst, *])
  refine stepK_box w (c := [.int .i64 id, .int .i64 cl, .int .i64 si]) (by simp only [V.ev, *]; rfl) rfl fun b hp g hb hg hnx => ?_
  have l1 : hp.load b 1 1 = some [.int .i64 cl] := load_get hg (by simp)
  have l2 : hp.load b 2 1 = some [.int .i64 si] := load_get hg (by simp)
  repeat' (first | refine WE.seqR ?_ | refine WO.nil ?_ | (refine WO.op1s ?_; simp only [opK, wanted, stepK, step, setDst, pureV, arith, intBin, true_and, V.ev, Nat.reduceEqDiff, Nat.reduceLT, Nat.zero_add, Bool.false_eq_true, getD_ne, getD_eq, List.length_set, if_true, if_false, *]; with_reducible show WO _ _ _ _ _) | refine WE.seqBlock ?_)
  refine WE.loop (RefI hp ag (refEff cl (ro - si) ag cl.toNat)) ?_ cl.toNat _ _ ?_
  · rintro k fr2 h2 ⟨rfl, cl2, left, hl, h2, h7, h8, hk, hc1, hl1, hl2, hres⟩
    repeat' (first | refine WE.assoc ?_ | refine WE.seqR ?_ | refine WO.nil ?_ | (refine WO.op1s ?_; simp only [opK, wanted, stepK, step, setDst, pureV, arith, intBin, true_and, V.ev, Nat.reduceEqDiff, Nat.reduceLT, beq_self_eq_true, getD_ne, getD_eq, List.length_set, if_true, Bool.false_beq, Bool.not_true, *]; with_reducible show WO _ _ _ _ _) | refine WE.seqSkip ?_ | refine WE.seqExit ?_ | (refine WE.seqCond (t := false) ?hc (fun hh => Bool.noConfusion hh) (fun _ => ?_); case hc => simp only [V.ev, Nat.reduceLT, getD_eq, List.length_set, *]) | (refine WE.seqCondE ?_; simp only [V.ev, Nat.reduceLT, getD_eq, List.length_set, *]; refine ⟨_, rfl, fun hcd => ?_, fun hcd => ?_⟩) | (refine WO.guardE ?_; simp only [Nat.reduceLT, getD_eq, List.length_set, Bool.not_true, *]; refine ⟨_, rfl, fun hcd => ?_, fun hcd => ?_⟩) | refine WE.ret ?_ | refine WE.region ?_ | refine WE.block ?_ | (with_reducible show blockQ _ _ _ _ _; simp only [blockQ]))
    · simp only [decide_eq_true_eq] at *
      obtain ⟨k, rfl⟩ : ∃ j, k = j + 1 := ⟨k - 1, by omega⟩
      refine ⟨k, by omega, rfl, cl2 - 1, left - ag, by simp only [List.length_set, hl], by simp only [Nat.reduceEqDiff, getD_ne, *], ?_, ?_, by omega, by omega, by omega, by omega, ?_⟩
      · simp only [Nat.reduceEqDiff, Nat.reduceLT, getD_ne, getD_eq, List.length_set, *]; rw [wrap_i64 (by omega) (by omega)]
      · simp only [Nat.reduceLT, getD_eq, List.length_set, *]; rw [wrap_i64 (by omega) (by omega)]
      · rw [refEff, if_pos ⟨by assumption, by assumption⟩]
    all_goals ((try dsimp only); refine Exists.intro _ ⟨(by (simp only [readResults, Nat.reduceLT, getD_eq, List.length_set, *]; try rfl)), ?_⟩)
    all_goals refine ⟨g, ?_⟩
    all_goals simp only [decide_eq_true_eq, decide_eq_false_iff_not] at *
    all_goals cases k with
      | zero => simp only [resultOf, refEff]
      | succ k => first | (simp only [resultOf]; rw [refEff, if_neg (by omega)]) | omega
  · rw [wrap_i64 (by omega) (by omega)]
    exact ⟨rfl, cl, ro - si, by simp only [List.length_set, hl], by simp only [Nat.reduceEqDiff, getD_ne, *], by simp only [Nat.reduceEqDiff, Nat.reduceLT, getD_ne, getD_eq, List.length_set, *], by simp only [Nat.reduceLT, getD_eq, List.length_set, *], by omega, by omega, by omega, by omega, rfl⟩

def effRes (id cl si ro ag : Int) : Val := if validB id cl si ∧ rightB ro ag ∧ si ≤ ro then .tup [.int .i64 (effI ro ag cl si), .int .i64 0] else .tup [.int .i64 0, .int .i64 4]

theorem Effective_ok {h : Heap} (w : Wf h) {id cl si ro ag : Int} : WC E35 14 [ent id cl si, .int .i64 ro, .int .i64 ag] h fun v h' => Grow h h' ∧ v = effRes id cl si ro ag := by
  refine WC.fn1 (n := 29) rfl rfl (by rfl) ?_
  intro fr hl ha
  have h0 : fr.getD 0 .undef = ent id cl si := ha 0
  have h1 : fr.getD 1 .undef = .int .i64 ro := ha 1
  have h2 : fr.getD 2 .undef = .int .i64 ag := ha 2
  clear ha
  unfold v14
  refine WE.seqR ?_
  (refine WO.op1 ?_; simp only [opK, wanted, setDst, *])
  refine stepK_box w (c := [.int .i64 id, .int .i64 cl, .int .i64 si]) (by simp only [V.ev, *]; rfl) rfl fun b hp g hb hg hnx => ?_
  repeat' (first | refine WE.seqR ?_ | refine WO.nil ?_ | (refine WO.op1s ?_; simp only [opK, wanted, stepK, step, setDst, Val.cells, fill, splice, List.take_zero, List.take_succ_cons, List.drop_zero, List.drop_succ_cons, List.nil_append, List.cons_append, List.length_cons, List.length_nil, List.drop_nil, true_and, and_self, Nat.le_refl, V.ev, Nat.reduceEqDiff, Nat.reduceLT, Nat.reduceLeDiff, Nat.reduceAdd, Nat.zero_add, getD_ne, getD_eq, List.length_set, if_true, *]; with_reducible show WO _ _ _ _ _))
  (refine WO.op1 ?_; simp only [opK, wanted, setDst, *])
  refine stepK_alloc (g.wf w) fun b2 hp2 g2 hb2 hg2 hnx2 => ?_
  (refine WO.op1 ?_; simp only [opK, wanted, setDst, *])
  refine stepK_store (b := b2) (o := 0) (cs := [.int .i64 0, .int .i64 0]) (us := [.int .i64 ro, .int .i64 ag]) (by simp only [V.ev, Nat.reduceLT, getD_eq, List.length_set, *]) (by simp only [V.ev, Nat.reduceEqDiff, Nat.reduceLT, getD_ne, getD_eq, List.length_set, *]; rfl) rfl hg2 (by rw [g2.floor, g.floor]; have := w.fl; omega) (by simp) rfl fun hp3 k3 => ?_
  have g3 : Grow h hp3 := (g.trans g2).wrote (by omega) w k3
  have w3 := g3.wf w
  have gg := Grow.refl hp3
  have e1 : hp3.get b = some (.cells [.int .i64 id, .int .i64 cl, .int .i64 si]) := by rw [k3.else_ b (by omega)]; exact g2.keep _ _ hg
  have e2 : hp3.get b2 = some (.cells [.int .i64 ro, .int .i64 ag]) := k3.at_
  have l3 : ∀ h', Grow hp3 h' → h'.load b 0 3 = some [.int .i64 id, .int .i64 cl, .int .i64 si] := fun h' g => g.part e1 (by simp)
  have l2 : ∀ h', Grow hp3 h' → h'.load b 2 1 = some [.int .i64 si] := fun h' g => g.part e1 (by simp)
  have m2 : ∀ h', Grow hp3 h' → h'.load b2 0 2 = some [.int .i64 ro, .int .i64 ag] := fun h' g => g.part e2 (by simp)
  have wB := w3
  repeat' (first | refine WE.assoc ?_ | refine WE.seqR ?_ | refine WO.nil ?_ | (refine WO.op1s ?_; simp only [opK, wanted, stepK, step, setDst, pureV, arith, intBin, unary, evs, true_and, V.ev, Nat.reduceEqDiff, Nat.reduceLT, Nat.zero_add, Bool.false_eq_true, beq_self_eq_true, getD_ne, getD_eq, List.length_set, if_true, if_false, Bool.true_beq, *]; with_reducible show WO _ _ _ _ _) | (refine WO.callG (f := 42) (g := none) wB gg _ rfl (fun h1 w1 k1 => by (simp only [evs, V.ev, Nat.reduceLT, getD_eq, List.length_set, *]); exact  valid_ok w1) ?_; clear gg; (rintro _ hh gg rfl; simp only [setDst])) | (refine WO.callG (f := 36) (g := none) wB gg _ rfl (fun h1 w1 k1 => by (simp only [evs, V.ev, Nat.reduceLT, getD_eq, List.length_set, *]); exact  right_ok w1) ?_; clear gg; (rintro _ hh gg rfl; simp only [setDst])) | (refine WO.callG (f := 43) (g := none) wB gg _ rfl (fun h1 w1 k1 => by (simp only [evs, V.ev, Nat.reduceEqDiff, Nat.reduceLT, getD_ne, getD_eq, List.length_set, *]); exact  effective_ok w1 (by rintro rfl; simp [rightB] at *)) ?_; clear gg; (rintro _ hh gg rfl; simp only [setDst])) | refine WE.seqSkip ?_ | refine WE.seqRet ?_ | (refine WE.seqCond (t := true) ?hc (fun _ => ?_) (fun hh => Bool.noConfusion hh); case hc => simp only [V.ev, Nat.reduceLT, getD_eq, List.length_set, *]) | (refine WO.known ?hc ?_; case hc => (simp only [wanted, Bool.false_beq, Nat.reduceEqDiff, Nat.reduceLT, getD_ne, getD_eq, List.length_set, Bool.not_false, *])) | (refine WE.seqCondE ?_; simp only [V.ev, Nat.reduceLT, getD_eq, List.length_set, *]; refine ⟨_, rfl, fun hcd => ?_, fun hcd => ?_⟩) | (refine WO.guardE ?_; simp only [Nat.reduceLT, getD_eq, List.length_set, Bool.not_false, *]; refine ⟨_, rfl, fun hcd => ?_, fun hcd => ?_⟩) | refine WE.ret ?_)
  all_goals ((try dsimp only); refine Exists.intro _ ⟨(by (simp only [readResults, Nat.reduceEqDiff, Nat.reduceLT, getD_ne, getD_eq, List.length_set, *]; try rfl)), ?_⟩)
  all_goals refine ⟨g3.trans gg, ?_⟩
  all_goals clear l3 l2 m2 e1 e2 k3 g3 hg2 hnx2 hg hnx hl h0 h1 h2 gg g g2 w3 wB hb hb2
  all_goals first | (rw [effRes, if_pos ⟨by simp_all, by simp_all, by simp_all⟩]; rfl) | (rw [effRes, if_neg (by simp_all)]; rfl)

def ripeRes (id cl si ag : Int) : Val := if validB id cl si ∧ rightB 0 ag then .tup [.int .i64 (IntKind.i64.wrap (si + IntKind.i64.wrap (cl * ag))), .int .i64 0] else .tup [.int .i64 0, .int .i64 4]

theorem Ripe_ok {h : Heap} (w : Wf h) {id cl si ag : Int} : WC E35 15 [ent id cl si, .int .i64 ag] h fun v h' => Grow h h' ∧ v = ripeRes id cl si ag := by
  refine WC.fn1 (n := 22) rfl rfl (by rfl) ?_
  intro fr hl ha
  have h0 : fr.getD 0 .undef = ent id cl si := ha 0
  have h1 : fr.getD 1 .undef = .int .i64 ag := ha 1
  clear ha
  unfold v15
  refine WE.seqR ?_
  (refine WO.op1 ?_; simp only [opK, wanted, setDst, *])
  refine stepK_box w (c := [.int .i64 id, .int .i64 cl, .int .i64 si]) (by simp only [V.ev, *]; rfl) rfl fun b hp g hb hg hnx => ?_
  have wB := g.wf w
  have gg := Grow.refl hp
  have l3 : ∀ h', Grow hp h' → h'.load b 0 3 = some [.int .i64 id, .int .i64 cl, .int .i64 si] := fun h' g => g.part hg (by simp)
  have l2 : ∀ h', Grow hp h' → h'.load b 2 1 = some [.int .i64 si] := fun h' g => g.part hg (by simp)
  have l1 : ∀ h', Grow hp h' → h'.load b 1 1 = some [.int .i64 cl] := fun h' g => g.part hg (by simp)
  repeat' (first | refine WE.assoc ?_ | refine WE.seqR ?_ | refine WO.nil ?_ | (refine WO.op1s ?_; simp only [opK, wanted, stepK, step, setDst, pureV, arith, intBin, unary, evs, Val.cells, fill, splice, List.take_zero, List.take_succ_cons, List.drop_zero, List.drop_succ_cons, List.nil_append, List.cons_append, List.length_cons, List.length_nil, List.drop_nil, true_and, and_self, Nat.le_refl, V.ev, Nat.reduceEqDiff, Nat.reduceLT, Nat.reduceLeDiff, Nat.reduceAdd, Nat.zero_add, Bool.false_eq_true, beq_self_eq_true, getD_ne, getD_eq, List.length_set, if_true, if_false, Bool.true_beq, *]; with_reducible show WO _ _ _ _ _) | (refine WO.callG (f := 42) (g := none) wB gg _ rfl (fun h1 w1 k1 => by (simp only [evs, V.ev, Nat.reduceLT, getD_eq, List.length_set, *]); exact  valid_ok w1) ?_; clear gg; (rintro _ hh gg rfl; simp only [setDst])) | (refine WO.callG (f := 36) (g := none) wB gg _ rfl (fun h1 w1 k1 => by (simp only [evs, V.ev, Nat.reduceLT, getD_eq, List.length_set, *]); exact  right_ok w1) ?_; clear gg; (rintro _ hh gg rfl; simp only [setDst])) | refine WE.seqSkip ?_ | refine WE.seqRet ?_ | (refine WE.seqCond (t := true) ?hc (fun _ => ?_) (fun hh => Bool.noConfusion hh); case hc => simp only [V.ev, Nat.reduceLT, getD_eq, List.length_set, *]) | (refine WO.known ?hc ?_; case hc => (simp only [wanted, Bool.false_beq, Nat.reduceEqDiff, Nat.reduceLT, getD_ne, getD_eq, List.length_set, Bool.not_false, *])) | (refine WE.seqCondE ?_; simp only [V.ev, Nat.reduceLT, getD_eq, List.length_set, *]; refine ⟨_, rfl, fun hcd => ?_, fun hcd => ?_⟩) | (refine WO.guardE ?_; simp only [Nat.reduceLT, getD_eq, List.length_set, Bool.not_false, *]; refine ⟨_, rfl, fun hcd => ?_, fun hcd => ?_⟩) | refine WE.ret ?_)
  all_goals ((try dsimp only); refine Exists.intro _ ⟨(by (simp only [readResults, Nat.reduceEqDiff, Nat.reduceLT, getD_ne, getD_eq, List.length_set, *]; try rfl)), ?_⟩)
  all_goals refine ⟨g.trans gg, ?_⟩
  all_goals clear l3 l2 l1 hg hnx hl h0 h1 gg g wB hb w
  all_goals first | (rw [ripeRes, if_pos ⟨by simp_all, by simp_all⟩]; rfl) | (rw [ripeRes, if_neg (by simp_all)]; rfl)

end Go.V
end

section
set_option linter.unusedVariables false
set_option linter.unusedSimpArgs false
set_option linter.unusedSectionVars false
namespace Go.V

theorem effI_eq {ro ag cl si : Int} (hcl : 0 ≤ cl ∧ cl < 8) (hag : 1 ≤ ag ∧ ag ≤ 64) (hsi : 0 ≤ si ∧ si ≤ ro ∧ ro ≤ 4611686018427387905) : effI ro ag cl si = max 0 (cl - (ro - si) / ag) := by
  have h0 : 0 ≤ (ro - si) / ag := Int.ediv_nonneg (by omega) (by omega)
  have h1 : (ro - si) / ag ≤ ro - si := Int.ediv_le_self _ (by omega)
  have hd : (ro - si).tdiv ag = (ro - si) / ag := Int.tdiv_eq_ediv_of_nonneg (by omega)
  unfold effI
  rw [wrap_i64 (n := ro - si) (by omega) (by omega), hd, wrap_i64 (n := (ro - si) / ag) (by omega) (by omega), wrap_i64 (n := cl - (ro - si) / ag) (by omega) (by omega)]
  split <;> omega

theorem refEff_eq {ag : Int} (hag : 1 ≤ ag) : ∀ (n : Nat) (d : Int), 0 ≤ d → refEff n d ag n = max 0 ((n : Int) - d / ag)
  | 0, d, hd => by
    have := Int.ediv_nonneg hd (show 0 ≤ ag by omega)
    simp only [refEff]; omega
  | n + 1, d, hd => by
    simp only [refEff]
    by_cases hg : d ≥ ag
    · rw [if_pos ⟨by omega, hg⟩]
      have e1 : ((n + 1 : Nat) : Int) - 1 = (n : Int) := by omega
      rw [e1, refEff_eq hag n (d - ag) (by omega)]
      have : (d - ag) / ag = d / ag - 1 := by
        have := Int.add_mul_ediv_right (d - ag) 1 (show ag ≠ 0 by omega)
        rw [show d - ag + 1 * ag = d by omega] at this
        omega
      rw [this]; omega
    · rw [if_neg (by omega)]
      have : d / ag = 0 := Int.ediv_eq_zero_of_lt hd (by omega)
      rw [this]; omega

theorem refEff_eq' {ag cl d : Int} (hag : 1 ≤ ag) (hcl : 0 ≤ cl) (hd : 0 ≤ d) : refEff cl d ag cl.toNat = max 0 (cl - d / ag) := by
  obtain ⟨n, rfl⟩ := Int.eq_ofNat_of_zero_le hcl
  exact refEff_eq hag n d hd

theorem ripe_iff {ag cl d : Int} (hag : 1 ≤ ag) : max 0 (cl - d / ag) = 0 ↔ cl * ag ≤ d := by
  rw [← Int.le_ediv_iff_mul_le (by omega)]
  omega

theorem eff_mono {ag d : Int} (hag : 1 ≤ ag) : d / ag ≤ (d + 1) / ag := Int.ediv_le_ediv (by omega) (by omega)

theorem validB_iff {id cl si : Int} : validB id cl si = true ↔ 0 ≤ id ∧ 0 ≤ cl ∧ cl < 8 ∧ 0 ≤ si ∧ si ≤ 4611686018427387904 := by
  simp [validB]

theorem rightB_iff {ro ag : Int} : rightB ro ag = true ↔ 1 ≤ ag ∧ ag ≤ 64 ∧ 0 ≤ ro ∧ ro ≤ 4611686018427387904 := by
  simp [rightB]

end Go.V
end

section
set_option linter.unusedVariables false
set_option linter.unusedSimpArgs false
set_option linter.unusedSectionVars false
-- DRAWS
-- NEW
set_option maxHeartbeats 1000000
namespace Go.V
attribute [local irreducible] stepK opK opV

def badB (p e : Ent) : Bool := decide (e.id ≤ p.id) || decide (e.si < p.si)

/-- What is wrong at a place; 0: nothing. -/
def chkAt (es : List Ent) (i : Nat) : Int :=
  match es[i]? with
  | none => 0
  | some e => if validB e.id e.cl e.si = false then 4 else match i with
    | 0 => 0
    | j + 1 => match es[j]? with
      | some p => if badB p e then 18 else 0
      | none => 0

def chkFrom (es : List Ent) (i : Nat) : Nat → Int
  | 0 => 0
  | k + 1 => if chkAt es i = 0 then chkFrom es (i + 1) k else chkAt es i

/-- The number of a queue's error. -/
def chk (es : List Ent) : Int := if es.length > 64 then 3 else chkFrom es 0 es.length

theorem chkAt_eq {es : List Ent} {i : Nat} (hi : i < es.length) : chkAt es i = if validB es[i].id es[i].cl es[i].si = false then 4 else if h : 0 < i then (if badB es[i - 1] es[i] then 18 else 0) else 0 := by
  unfold chkAt
  rw [List.getElem?_eq_getElem hi]
  simp only
  cases i with
  | zero => simp
  | succ j =>
    have e1 : es[j]? = some es[j] := List.getElem?_eq_getElem (by omega)
    simp [e1]

theorem chk_step {es : List Ent} {i k : Nat} {res : Int} (hi : i < es.length) (h : chkFrom es i (k + 1) = res) :
    (validB es[i].id es[i].cl es[i].si = false → res = 4) ∧ (validB es[i].id es[i].cl es[i].si = true → (∀ hp : 0 < i, badB es[i - 1] es[i] = true → res = 18) ∧ ((∀ hp : 0 < i, badB es[i - 1] es[i] = false) → chkFrom es (i + 1) k = res)) := by
  rw [chkFrom, chkAt_eq hi] at h
  refine ⟨fun hv => ?_, fun hv => ⟨fun hp hb => ?_, fun hb => ?_⟩⟩
  · simp [hv] at h; exact h.symm
  · simp [hv, hp, hb] at h; exact h.symm
  · by_cases hp : 0 < i
    · simp [hv, hp, hb hp] at h; exact h
    · simp [hv, hp] at h; exact h

end Go.V
end

section
set_option linter.unusedVariables false
set_option linter.unusedSimpArgs false
set_option linter.unusedSectionVars false
-- DRAWS
-- NEW
set_option maxHeartbeats 1000000
namespace Go.V
attribute [local irreducible] stepK opK opV

def ChkI (h : Heap) (b : Nat) (s : Val) (es : List Ent) (res : Int) (k : Nat) (fr : List Val) (h' : Heap) : Prop := Grow h h' ∧ ∃ i : Nat, i + k = es.length ∧ fr.length = 49 ∧ fr.getD 1 .undef = .ptr b 0 ∧ fr.getD 10 .undef = s ∧ fr.getD 11 .undef = .int .i64 (es.length : Int) ∧ fr.getD 12 .undef = .int .i64 (i : Int) ∧ chkFrom es i k = res

theorem check_ok {h : Heap} (w : Wf h) {s : Val} {es : List Ent} (hs : Es h s es) (hn : es.length < 4611686018427387904) : WC E35 30 [.agg [s]] h fun v h' => Grow h h' ∧ v = .int .i64 (chk es) := by
  refine WC.fn1 (n := 49) rfl rfl (by rfl) ?_
  intro fr hl ha
  have h0 : fr.getD 0 .undef = .agg [s] := ha 0
  clear ha
  have hlen := hs.lenI
  unfold v30
  repeat' (first | refine WE.seqR ?_)
  (refine WO.op1 ?_; simp only [opK, wanted, setDst, *])
  refine stepK_box w (c := [s]) (by simp only [V.ev, *]; rfl) rfl fun b hB g hb hg hnx => ?_
  have wB := g.wf w
  have gg := Grow.refl hB
  have ls : ∀ h', Grow hB h' → h'.load b 0 1 = some [s] := fun h' g => g.part hg (by simp)
  have hs' := g.kp.es hs
  clear hs
  repeat' (first | refine WE.assoc ?_ | refine WE.seqR ?_ | refine WO.nil ?_ | (refine WO.lenOfE ?_; simp only [setDst, V.ev, Nat.reduceLT, getD_eq, List.length_set, *]; refine ⟨_, rfl, ?_⟩) | (refine WO.op1s ?_; simp only [opK, wanted, stepK, step, setDst, pureV, arith, intBin, true_and, V.ev, Nat.reduceEqDiff, Nat.reduceLT, Nat.add_zero, Bool.false_eq_true, getD_ne, getD_eq, List.length_set, if_true, if_false, *]; with_reducible show WO _ _ _ _ _) | refine WE.seqSkip ?_ | refine WE.seqRet ?_ | (refine WE.seqCondE ?_; simp only [V.ev, Nat.reduceLT, getD_eq, List.length_set, *]; refine ⟨_, rfl, fun hcd => ?_, fun hcd => ?_⟩) | refine WE.seqBlock ?_)
  · ((try dsimp only); refine Exists.intro _ ⟨(by (simp only [readResults, Nat.reduceLT, getD_eq, List.length_set, *]; try rfl)), ?_⟩)
    refine ⟨g.trans gg, ?_⟩
    simp only [decide_eq_true_eq] at *
    rw [chk, if_pos (by omega)]; rfl
  simp only [decide_eq_false_iff_not] at hcd
  have hchk : chkFrom es 0 es.length = chk es := by rw [chk, if_neg (by omega)]
  generalize chk es = res at *
  clear hcd gg
  refine WE.loop (ChkI hB b s es res) ?_ es.length _ _ ⟨.refl _, 0, by omega, by simp only [List.length_set, hl], by simp only [Nat.reduceEqDiff, Nat.reduceLT, getD_ne, getD_eq, *], by simp only [Nat.reduceEqDiff, Nat.reduceLT, getD_ne, getD_eq, List.length_set, *], by simp only [Nat.reduceEqDiff, Nat.reduceLT, getD_ne, getD_eq, List.length_set, *], by simp only [Nat.reduceLT, Int.cast_ofNat_Int, getD_eq, List.length_set, *], hchk⟩
  clear hchk h0 hl
  rintro k fr2 h2 ⟨gg, i, hik, hl, h1, h10, h11, h12, hres⟩
  by_cases hlt : i < es.length
  · obtain ⟨k, rfl⟩ : ∃ j, k = j + 1 := ⟨k - 1, by omega⟩
    have hd : decide ((i : Int) < (es.length : Int)) = true := by simp; omega
    obtain ⟨bx, o, he, l3, _, _, _⟩ := hs'.elt (k := .i64) hlt
    obtain ⟨hr1, hr2⟩ := chk_step hlt hres
    have hwi : IntKind.i64.wrap ((i : Int) + 1) = ((i + 1 : Nat) : Int) := by rw [wrap_i64 (by omega) (by omega)]; omega
    have next : ∀ h5 fr5, Grow hB h5 → fr5.length = 49 → fr5.getD 1 .undef = .ptr b 0 → fr5.getD 10 .undef = s → fr5.getD 11 .undef = .int .i64 (es.length : Int) → fr5.getD 12 .undef = .int .i64 ((i + 1 : Nat) : Int) → chkFrom es (i + 1) k = res → ∃ k', k' < k + 1 ∧ ChkI hB b s es res k' fr5 h5 :=
      fun h5 fr5 a b c c2 c3 d e => ⟨k, by omega, a, i + 1, by omega, b, c, c2, c3, d, e⟩
    repeat' (first | refine WE.seqR ?_ | refine WO.nil ?_ | (refine WO.iaddrE ?_; simp only [setDst, V.ev, Nat.reduceEqDiff, getD_ne, *]; refine ⟨_, rfl, ?_⟩) | (refine WO.op1s ?_; simp only [opK, wanted, stepK, step, setDst, pureV, arith, intBin, true_and, V.ev, Nat.reduceEqDiff, Nat.reduceLT, getD_ne, getD_eq, List.length_set, if_true, *]; with_reducible show WO _ _ _ _ _) | refine WE.seqSkip ?_ | (refine WE.seqCond (t := true) ?hc (fun _ => ?_) (fun hh => Bool.noConfusion hh); case hc => simp only [V.ev, Nat.reduceLT, getD_eq, *]) | refine WE.seqBlock ?_)
    (refine WO.op1 ?_; simp only [opK, wanted, setDst, *])
    refine stepK_alloc (gg.wf wB) fun b4 h3 g3 hb3 hg3 hn3 => ?_
    repeat' (first | (refine WO.op1s ?_; simp only [opK, wanted, stepK, step, setDst, Val.cells, true_and, V.ev, Nat.reduceEqDiff, Nat.reduceLT, getD_ne, getD_eq, List.length_set, *]; with_reducible show WO _ _ _ _ _))
    (refine WO.op1 ?_; simp only [opK, wanted, setDst, *])
    refine stepK_store (b := b4) (o := 0) (cs := [.int .i64 0, .int .i64 0, .int .i64 0]) (us := es[i].cells) (by simp only [V.ev, Nat.reduceEqDiff, Nat.reduceLT, getD_ne, getD_eq, List.length_set, *]) (by simp only [V.ev, Nat.reduceEqDiff, Nat.reduceLT, getD_ne, getD_eq, List.length_set, *]; rfl) rfl hg3 (by rw [g3.floor, gg.floor]; have := wB.fl; have := gg.next; omega) (by simp [Ent.cells]) rfl fun h4 k4 => ?_
    have g4 : Grow h2 h4 := g3.wrote hb3 (gg.wf wB) k4
    have gB := gg.trans g4
    have w4 := g4.wf (gg.wf wB)
    have e4 : h4.get b4 = some (.cells [.int .i64 es[i].id, .int .i64 es[i].cl, .int .i64 es[i].si]) := k4.at_
    clear l3 hg3 k4 g3 hn3 hb3 he
    have ls4 : ∀ h', Grow h4 h' → h'.load b 0 1 = some [s] := fun h' g => ls h' (gB.trans g)
    have x3 : ∀ h', Grow h4 h' → h'.load b4 0 3 = some [.int .i64 es[i].id, .int .i64 es[i].cl, .int .i64 es[i].si] := fun h' g => g.part e4 (by simp)
    have x0 : ∀ h', Grow h4 h' → h'.load b4 0 1 = some [.int .i64 es[i].id] := fun h' g => g.part e4 (by simp)
    have x2 : ∀ h', Grow h4 h' → h'.load b4 2 1 = some [.int .i64 es[i].si] := fun h' g => g.part e4 (by simp)
    have done_ : ∀ h', Grow h4 h' → Grow h h' := fun h' g' => (g.trans gB).trans g'
    have doneB : ∀ h', Grow h4 h' → Grow hB h' := fun h' g' => gB.trans g'
    by_cases hv : validB es[i].id es[i].cl es[i].si = true
    · obtain ⟨hr3, hr4⟩ := hr2 hv
      by_cases hi0 : 0 < i
      · have hd2 : decide ((i : Int) > 0) = true := by simp; omega
        have hlt' : i - 1 < es.length := by omega
        obtain ⟨b', o', he', _, m1, _, m2⟩ := (gB.kp.es hs').elt (k := .i64) hlt'
        have hw : IntKind.i64.wrap ((i : Int) - 1) = ((i - 1 : Nat) : Int) := by rw [wrap_i64 (by omega) (by omega)]; omega
        have hr6 : badB es[i - 1] es[i] = false → chkFrom es (i + 1) k = res := fun q => hr4 fun _ => q
        have h18 : badB es[i - 1] es[i] = true → Val.int .i64 18 = .int .i64 res := fun q => by rw [hr3 hi0 q]
        clear hr1 hr2 hr3 hr4 hres ls gg g4 gB e4 wB g hg hnx
        generalize es[i] = x at *
        generalize es[i - 1] = y at *
        have wB := w4
        have gg := Grow.refl h4
        repeat' (first | refine WE.seqR ?_ | refine WO.nil ?_ | refine WE.seqD ?_ | refine WD.nil2 ?_ | (refine WO.op1s ?_; simp only [opK, wanted, stepK, step, setDst, pureV, arith, intBin, unary, evs, true_and, V.ev, Nat.reduceEqDiff, Nat.reduceLT, getD_ne, getD_eq, List.length_set, if_true, Bool.not_true, *]; with_reducible show WO _ _ _ _ _) | (refine WD.iaddrE ?_; simp only [setDst, List.nil_append, List.cons_append, V.ev, Nat.reduceEqDiff, Nat.reduceLT, getD_ne, getD_eq, List.length_set, *]; refine ⟨_, rfl, ?_⟩) | (refine WD.op2s ?_; simp only [opV, VOp.kind, hiddenOf, unveil_veil, veil_next, below_nil, below_cons, or_false, or_self, wanted, stepK, step, setDst, pureV, arith, intBin, List.nil_append, List.cons_append, true_and, List.getD_cons_zero, List.getD_cons_succ, V.ev, Nat.reduceEqDiff, Nat.reduceLT, Nat.reduceLeDiff, Nat.add_zero, Nat.zero_add, Bool.false_eq_true, beq_self_eq_true, getD_ne, getD_eq, List.length_set, if_true, if_false, reduceCtorEq, Bool.true_beq, *]; with_reducible show WD _ _ _ _ _ _) | (refine WO.callG (f := 42) (g := none) wB gg _ rfl (fun h1 w1 k1 => by (simp only [evs, V.ev, Nat.reduceLT, getD_eq, List.length_set, *]); exact  valid_ok w1) ?_; clear gg; (rintro _ hh gg rfl; simp only [setDst])) | refine WE.skip ?_ | (refine WE.cond2 (t := true) ?hc (fun _ => ?_) (fun hh => Bool.noConfusion hh); case hc => simp only [V.ev, Nat.reduceLT, getD_eq, List.length_set, *]) | (refine WE.cond2 (t := false) ?hc (fun hh => Bool.noConfusion hh) (fun _ => ?_); case hc => simp only [V.ev, Nat.reduceLT, getD_eq, List.length_set, *]) | (refine WD.known ?hc ?_; case hc => (simp only [wanted, Bool.true_beq, Bool.false_beq, Nat.reduceEqDiff, Nat.reduceLT, getD_ne, getD_eq, List.length_set, Bool.not_false, *])) | (refine WD.guardE ?_; simp only [Nat.reduceLT, getD_eq, List.length_set, Bool.not_false, *]; refine ⟨_, rfl, fun hcd => ?_, fun hcd => ?_⟩) | (refine WE.condE ?_; simp only [V.ev, Nat.reduceLT, getD_eq, List.length_set, *]; refine ⟨_, rfl, fun hcd => ?_, fun hcd => ?_⟩) | refine WE.ret ?_ | refine WE.region ?_ | refine WE.block ?_ | (with_reducible show blockQ _ _ _ _ _; simp only [blockQ, seqQ]))
        all_goals clear ls4 x3 x0 x2 m1 m2 he' hw hwi
        · ((try dsimp only); refine Exists.intro _ ⟨(by (simp only [readResults, Nat.reduceLT, getD_eq, List.length_set, *]; try rfl)), ?_⟩)
          exact ⟨done_ _ gg, h18 (by simp only [badB, Bool.or_eq_true, decide_eq_true_eq] at *; exact .inr hcd)⟩
        · exact next _ _ (doneB _ gg) (by simp only [List.length_set, hl]) (by simp only [Nat.reduceEqDiff, getD_ne, *]) (by simp only [Nat.reduceEqDiff, getD_ne, *]) (by simp only [Nat.reduceEqDiff, getD_ne, *]) (by simp only [Nat.reduceLT, getD_eq, List.length_set, *]) (hr6 (by simp only [badB, Bool.or_eq_false_iff, decide_eq_false_iff_not] at *; exact ⟨by assumption, by assumption⟩))
        · ((try dsimp only); refine Exists.intro _ ⟨(by (simp only [readResults, Nat.reduceLT, getD_eq, List.length_set, *]; try rfl)), ?_⟩)
          exact ⟨done_ _ gg, h18 (by simp only [badB, Bool.or_eq_true, decide_eq_true_eq] at *; exact .inl hcd)⟩
      · have hd2 : decide ((i : Int) > 0) = false := by simp; omega
        have hr6 := hr4 fun q => absurd q hi0
        clear hr1 hr2 hr3 hr4 hres ls gg g4 gB e4 wB g hg hnx
        generalize es[i] = x at *
        have wB := w4
        have gg := Grow.refl h4
        repeat' (first | refine WE.seqR ?_ | refine WO.nil ?_ | refine WE.seqD ?_ | refine WD.nil2 ?_ | (refine WO.op1s ?_; simp only [opK, wanted, stepK, step, setDst, pureV, arith, intBin, unary, evs, true_and, V.ev, Nat.reduceEqDiff, Nat.reduceLT, getD_ne, getD_eq, List.length_set, if_true, Bool.not_true, *]; with_reducible show WO _ _ _ _ _) | (refine WD.op2s ?_; simp only [opV, VOp.kind, hiddenOf, unveil_veil, veil_next, or_self, wanted, stepK, step, setDst, pureV, arith, intBin, List.nil_append, List.cons_append, true_and, V.ev, Nat.reduceEqDiff, Nat.reduceLT, Nat.reduceLeDiff, getD_ne, getD_eq, List.length_set, if_true, reduceCtorEq, Bool.false_beq, Bool.not_true, *]; with_reducible show WD _ _ _ _ _ _) | (refine WO.callG (f := 42) (g := none) wB gg _ rfl (fun h1 w1 k1 => by (simp only [evs, V.ev, Nat.reduceLT, getD_eq, List.length_set, *]); exact  valid_ok w1) ?_; clear gg; (rintro _ hh gg rfl; simp only [setDst])) | refine WE.skip ?_ | (refine WE.cond2 (t := false) ?hc (fun hh => Bool.noConfusion hh) (fun _ => ?_); case hc => simp only [V.ev, Nat.reduceLT, getD_eq, List.length_set, *]) | refine WE.region ?_ | refine WE.block ?_)
        exact next _ _ (doneB _ gg) (by simp only [List.length_set, hl]) (by simp only [Nat.reduceEqDiff, getD_ne, *]) (by simp only [Nat.reduceEqDiff, getD_ne, *]) (by simp only [Nat.reduceEqDiff, getD_ne, *]) (by simp only [Nat.reduceLT, getD_eq, List.length_set, *]) hr6
    · simp only [Bool.not_eq_true] at hv
      have hr6 := hr1 hv
      clear hr1 hr2 hres ls gg g4 gB e4 wB g hg hnx
      subst hr6
      generalize es[i] = x at *
      have wB := w4
      have gg := Grow.refl h4
      repeat' (first | refine WE.seqR ?_ | refine WO.nil ?_ | (refine WO.op1s ?_; simp only [opK, wanted, stepK, step, setDst, pureV, unary, evs, true_and, V.ev, Nat.reduceEqDiff, Nat.reduceLT, getD_ne, getD_eq, List.length_set, if_true, Bool.not_false, *]; with_reducible show WO _ _ _ _ _) | (refine WO.callG (f := 42) (g := none) wB gg _ rfl (fun h1 w1 k1 => by (simp only [evs, V.ev, Nat.reduceLT, getD_eq, List.length_set, *]); exact  valid_ok w1) ?_; clear gg; (rintro _ hh gg rfl; simp only [setDst])) | (refine WE.cond2 (t := true) ?hc (fun _ => ?_) (fun hh => Bool.noConfusion hh); case hc => simp only [V.ev, Nat.reduceLT, getD_eq, List.length_set, *]) | refine WE.ret ?_ | refine WE.block ?_ | (with_reducible show blockQ _ _ _ _ _; simp only [blockQ, seqQ]))
      ((try dsimp only); refine Exists.intro _ ⟨(by (simp only [readResults, Nat.reduceLT, getD_eq, List.length_set, *]; try rfl)), ?_⟩)
      exact ⟨done_ _ gg, rfl⟩
  · have hd : decide ((i : Int) < (es.length : Int)) = false := by simp; omega
    obtain rfl : k = 0 := by omega
    repeat' (first | refine WE.seqR ?_ | refine WO.nil ?_ | (refine WO.op1s ?_; simp only [opK, wanted, stepK, step, setDst, pureV, arith, intBin, true_and, V.ev, if_true, *]; with_reducible show WO _ _ _ _ _) | refine WE.seqExit ?_ | (refine WE.seqCond (t := false) ?hc (fun hh => Bool.noConfusion hh) (fun _ => ?_); case hc => simp only [V.ev, Nat.reduceLT, getD_eq, *]) | refine WE.ret ?_)
    ((try dsimp only); refine Exists.intro _ ⟨(by (simp only [readResults, Nat.reduceLT, getD_eq, List.length_set, *]; try rfl)), ?_⟩)
    exact ⟨g.trans gg, by rw [← hres]; rfl⟩

end Go.V
end

section
set_option linter.unusedVariables false
set_option linter.unusedSimpArgs false
set_option linter.unusedSectionVars false
-- DRAWS
-- NEW
set_option maxHeartbeats 1000000
namespace Go.V
attribute [local irreducible] stepK opK opV

def atFrom (es : List Ent) (id : Int) (i : Nat) : Nat → Int
  | 0 => -1
  | k + 1 => match es[i]? with
    | some e => if e.id = id then i else atFrom es id (i + 1) k
    | none => -1

/-- Where an entry stands; -1 if there is none. -/
def atI (es : List Ent) (id : Int) : Int := atFrom es id 0 es.length

theorem at_step {es : List Ent} {id : Int} {i k : Nat} {res : Int} (hi : i < es.length) (h : atFrom es id i (k + 1) = res) : (es[i].id = id → Val.int .i64 i = .int .i64 res) ∧ (¬ es[i].id = id → atFrom es id (i + 1) k = res) := by
  rw [atFrom, List.getElem?_eq_getElem hi] at h
  simp only at h
  exact ⟨fun e => by rw [if_pos e] at h; rw [h], fun e => by rw [if_neg e] at h; exact h⟩

def AtI (h : Heap) (s : Val) (es : List Ent) (id res : Int) (k : Nat) (fr : List Val) (h' : Heap) : Prop := Grow h h' ∧ ∃ i : Nat, i + k = es.length ∧ fr.length = 20 ∧ fr.getD 0 .undef = s ∧ fr.getD 1 .undef = .int .i64 id ∧ fr.getD 5 .undef = .int .i64 (i : Int) ∧ atFrom es id i k = res

theorem at_ok {h : Heap} (w : Wf h) {s : Val} {es : List Ent} {id : Int} (hs : Es h s es) (hn : es.length < 4611686018427387904) : WC E35 22 [s, .int .i64 id] h fun v h' => Grow h h' ∧ v = .int .i64 (atI es id) := by
  refine WC.fn1 (n := 20) rfl rfl (by rfl) ?_
  intro fr hl ha
  have h0 : fr.getD 0 .undef = s := ha 0
  have h1 : fr.getD 1 .undef = .int .i64 id := ha 1
  clear ha
  have hlen := hs.lenI
  have hchk : atFrom es id 0 es.length = atI es id := rfl
  generalize atI es id = res at *
  unfold v22
  repeat' (first | refine WE.assoc ?_ | refine WE.seqR ?_ | refine WO.nil ?_ | (refine WO.op1s ?_; simp only [opK, wanted, stepK, step, setDst, true_and, V.ev, Int.reduceNeg, *]; with_reducible show WO _ _ _ _ _) | refine WE.seqBlock ?_)
  refine WE.loop (AtI h s es id res) ?_ es.length _ _ ⟨.refl _, 0, by omega, by simp only [List.length_set, hl], by simp only [getD_ne, reduceCtorEq, *], by simp only [Nat.reduceEqDiff, getD_ne, *], by simp only [Nat.reduceLT, Int.cast_ofNat_Int, getD_eq, List.length_set, *], hchk⟩
  clear hchk h0 h1 hl
  rintro k fr2 h2 ⟨gg, i, hik, hl, h0, h1, h5, hres⟩
  by_cases hlt : i < es.length
  · obtain ⟨k, rfl⟩ : ∃ j, k = j + 1 := ⟨k - 1, by omega⟩
    have hd : decide ((i : Int) < (es.length : Int)) = true := by simp; omega
    obtain ⟨bx, o, he, _, l1, _, _⟩ := hs.elt (k := .i64) hlt
    obtain ⟨hr1, hr2⟩ := at_step hlt hres
    have hwi : IntKind.i64.wrap ((i : Int) + 1) = ((i + 1 : Nat) : Int) := by rw [wrap_i64 (by omega) (by omega)]; omega
    clear hres
    generalize es[i] = x at *
    repeat' (first | refine WE.assoc ?_ | refine WE.seqR ?_ | refine WO.nil ?_ | (refine WO.lenOfE ?_; simp only [setDst, V.ev, Nat.reduceLT, getD_eq, List.length_set, *]; refine ⟨_, rfl, ?_⟩) | (refine WO.iaddrE ?_; simp only [setDst, V.ev, Nat.reduceEqDiff, Nat.reduceLT, getD_ne, getD_eq, List.length_set, *]; refine ⟨_, rfl, ?_⟩) | (refine WO.op1s ?_; simp only [opK, wanted, stepK, step, setDst, pureV, arith, intBin, eqVal, eqAt, eqv, Val.isAgg, Val.cells, true_and, and_self, Bool.and_true, List.getElem?_cons_zero, V.ev, Nat.reduceEqDiff, Nat.reduceLT, Nat.add_zero, Int.reduceNeg, Bool.false_eq_true, getD_ne, getD_eq, List.length_set, if_true, if_false, reduceCtorEq, *]; with_reducible show WO _ _ _ _ _) | refine WE.seqSkip ?_ | (refine WE.seqCond (t := true) ?hc (fun _ => ?_) (fun hh => Bool.noConfusion hh); case hc => simp only [V.ev, Nat.reduceLT, getD_eq, List.length_set, *]) | refine WE.skip ?_ | (refine WE.condE ?_; simp only [V.ev, Nat.reduceLT, getD_eq, List.length_set, *]; refine ⟨_, rfl, fun hcd => ?_, fun hcd => ?_⟩) | refine WE.ret ?_ | refine WE.region ?_ | refine WE.seqBlock ?_ | (with_reducible show blockQ _ _ _ _ _; simp only [blockQ, seqQ]))
    · ((try dsimp only); refine Exists.intro _ ⟨(by (simp only [readResults, Nat.reduceLT, getD_eq, List.length_set, *]; try rfl)), ?_⟩)
      exact ⟨gg, hr1 (by simpa using hcd)⟩
    · exact ⟨k, by omega, gg, i + 1, by omega, by simp only [List.length_set, hl], by simp only [getD_ne, reduceCtorEq, *], by simp only [Nat.reduceEqDiff, getD_ne, *], by simp only [Nat.reduceLT, getD_eq, List.length_set, *], hr2 (by simpa using hcd)⟩
  · have hd : decide ((i : Int) < (es.length : Int)) = false := by simp; omega
    obtain rfl : k = 0 := by omega
    repeat' (first | refine WE.assoc ?_ | refine WE.seqR ?_ | refine WO.nil ?_ | (refine WO.lenOfE ?_; simp only [setDst, V.ev, Nat.reduceLT, getD_eq, List.length_set, *]; refine ⟨_, rfl, ?_⟩) | (refine WO.op1s ?_; simp only [opK, wanted, stepK, step, setDst, pureV, arith, intBin, true_and, V.ev, Nat.reduceEqDiff, Nat.reduceLT, Int.reduceNeg, getD_ne, getD_eq, List.length_set, if_true, reduceCtorEq, *]; with_reducible show WO _ _ _ _ _) | refine WE.seqExit ?_ | (refine WE.seqCond (t := false) ?hc (fun hh => Bool.noConfusion hh) (fun _ => ?_); case hc => simp only [V.ev, Nat.reduceLT, getD_eq, List.length_set, *]) | refine WE.ret ?_)
    ((try dsimp only); refine Exists.intro _ ⟨(by (simp only [readResults, Nat.reduceLT, Int.reduceNeg, getD_eq, List.length_set, *]; try rfl)), ?_⟩)
    exact ⟨gg, by rw [← hres]; rfl⟩

theorem place1_ok {h : Heap} (w : Wf h) {e : Ent} {b o : Nat} {id : Int} (hp : h.load b o 1 = some [.int .i64 id]) : WC E35 51 [.agg e.cells, .ptr b o] h fun v h' => Grow h h' ∧ v = .bool (e.id == id) := by
  refine WC.fn1 (n := 8) rfl rfl (by rfl) ?_
  intro fr hl ha
  have h0 : fr.getD 0 .undef = .agg e.cells := ha 0
  have h1 : fr.getD 1 .undef = .ptr b o := ha 1
  clear ha
  unfold v51
  repeat' (first | refine WE.seqR ?_)
  (refine WO.op1 ?_; simp only [opK, wanted, setDst, *])
  refine stepK_box w (c := e.cells) (by simp only [V.ev, *]; rfl) rfl fun b2 hB g hb hg hnx => ?_
  have l0 : hB.load b2 0 1 = some [.int .i64 e.id] := load_get hg (by simp [Ent.cells])
  have l1 := g.load hp
  repeat' (first | refine WE.seqR ?_ | refine WO.nil ?_ | (refine WO.op1s ?_; simp only [opK, wanted, stepK, step, setDst, eqVal, eqAt, eqv, Val.isAgg, Val.cells, true_and, and_self, Bool.and_true, List.getElem?_cons_zero, V.ev, Nat.reduceEqDiff, Nat.reduceLT, Nat.add_zero, Bool.false_eq_true, getD_ne, getD_eq, List.length_set, if_true, if_false, *]; with_reducible show WO _ _ _ _ _) | refine WE.ret ?_)
  ((try dsimp only); refine Exists.intro _ ⟨(by (simp only [readResults, Nat.reduceLT, getD_eq, List.length_set, *]; try rfl)), ?_⟩)
  exact ⟨g, rfl⟩

def IdxI (h : Heap) (s : Val) (es : List Ent) (b o : Nat) (id res : Int) (k : Nat) (fr : List Val) (h' : Heap) : Prop := Grow h h' ∧ ∃ i : Nat, i + k = es.length ∧ fr.length = 19 ∧ fr.getD 0 .undef = s ∧ fr.getD 1 .undef = .func (.func 51) [] [.ptr b o] ∧
  fr.getD 7 .undef = .int .i64 (es.length : Int) ∧ fr.getD 8 .undef = .int .i64 (i : Int) ∧ atFrom es id i k = res

theorem index_ok {h : Heap} (w : Wf h) {s : Val} {es : List Ent} {b o : Nat} {id : Int} (hs : Es h s es) (hn : es.length < 4611686018427387904) (hp : h.load b o 1 = some [.int .i64 id]) : WC E35 50 [s, .func (.func 51) [] [.ptr b o]] h fun v h' => Grow h h' ∧ v = .int .i64 (atI es id) := by
  refine WC.fn1 (n := 19) rfl rfl (by rfl) ?_
  intro fr hl ha
  have h0 : fr.getD 0 .undef = s := ha 0
  have h1 : fr.getD 1 .undef = .func (.func 51) [] [.ptr b o] := ha 1
  clear ha
  have hlen := hs.lenI
  have hchk : atFrom es id 0 es.length = atI es id := rfl
  generalize atI es id = res at *
  unfold v50
  repeat' (first | refine WE.assoc ?_ | refine WE.seqR ?_ | refine WO.nil ?_ | (refine WO.lenOfE ?_; simp only [setDst, V.ev, Nat.reduceLT, getD_eq, List.length_set, *]; refine ⟨_, rfl, ?_⟩) | (refine WO.op1s ?_; simp only [opK, wanted, stepK, step, setDst, true_and, V.ev, Int.reduceNeg, getD_ne, reduceCtorEq, *]; with_reducible show WO _ _ _ _ _) | refine WE.seqBlock ?_)
  refine WE.loop (IdxI h s es b o id res) ?_ es.length _ _ ⟨.refl _, 0, by omega, by simp only [List.length_set, hl], by simp only [getD_ne, reduceCtorEq, *], by simp only [Nat.reduceEqDiff, getD_ne, *], by simp only [Nat.reduceEqDiff, Nat.reduceLT, getD_ne, getD_eq, List.length_set, *], by simp only [Nat.reduceLT, Int.cast_ofNat_Int, getD_eq, List.length_set, *], hchk⟩
  clear hchk h0 h1 hl
  rintro k fr2 h2 ⟨gg, i, hik, hl, h0, h1, h7, h8, hres⟩
  by_cases hlt : i < es.length
  · obtain ⟨k, rfl⟩ : ∃ j, k = j + 1 := ⟨k - 1, by omega⟩
    have hd : decide ((i : Int) < (es.length : Int)) = true := by simp; omega
    obtain ⟨bx, o2, he, l3, _, _, _⟩ := hs.elt (k := .i64) hlt
    obtain ⟨hr1, hr2⟩ := at_step hlt hres
    have hwi : IntKind.i64.wrap ((i : Int) + 1) = ((i + 1 : Nat) : Int) := by rw [wrap_i64 (by omega) (by omega)]; omega
    clear hres
    generalize es[i] = x at *
    repeat' (first | refine WE.seqR ?_ | refine WO.nil ?_ | (refine WO.iaddrE ?_; simp only [setDst, V.ev, Nat.reduceEqDiff, Nat.reduceLT, getD_ne, getD_eq, List.length_set, *]; refine ⟨_, rfl, ?_⟩) | (refine WO.op1s ?_; simp only [opK, wanted, stepK, step, setDst, pureV, arith, intBin, evs, List.nil_append, List.cons_append, true_and, V.ev, Nat.reduceEqDiff, Nat.reduceLT, Int.reduceNeg, getD_ne, getD_eq, List.length_set, if_true, reduceCtorEq, *]; with_reducible show WO _ _ _ _ _) | refine WE.seqSkip ?_ | (refine WE.seqCond (t := true) ?hc (fun _ => ?_) (fun hh => Bool.noConfusion hh); case hc => simp only [V.ev, Nat.reduceLT, getD_eq, *]) | refine WE.seqBlock ?_)
    refine WO.callvG (f := 51) (a := []) (c := [.ptr b o]) w gg _ (by simp only [V.ev, Nat.reduceEqDiff, Nat.reduceLT, getD_ne, getD_eq, List.length_set, *]) (fun h3 w3 g3 => by (simp only [evs, List.nil_append, List.cons_append, V.ev, Nat.reduceLT, getD_eq, List.length_set, *]); exact place1_ok w3 (g3.load hp)) ?_
    clear gg
    (rintro _ hh gg rfl; simp only [setDst])
    repeat' (first | refine WE.seqR ?_ | refine WO.nil ?_ | (refine WO.op1s ?_; simp only [opK, wanted, stepK, step, setDst, pureV, arith, intBin, true_and, V.ev, Nat.reduceEqDiff, Nat.reduceLT, Int.reduceNeg, getD_ne, getD_eq, List.length_set, if_true, *]; with_reducible show WO _ _ _ _ _) | refine WE.skip ?_ | (refine WE.condE ?_; simp only [V.ev, Nat.reduceLT, getD_eq, List.length_set, *]; refine ⟨_, rfl, fun hcd => ?_, fun hcd => ?_⟩) | refine WE.ret ?_ | refine WE.region ?_ | (with_reducible show blockQ _ _ _ _ _; simp only [blockQ, seqQ]))
    · ((try dsimp only); refine Exists.intro _ ⟨(by (simp only [readResults, Nat.reduceLT, getD_eq, List.length_set, *]; try rfl)), ?_⟩)
      exact ⟨gg, hr1 (by simpa using hcd)⟩
    · exact ⟨k, by omega, gg, i + 1, by omega, by simp only [List.length_set, hl], by simp only [getD_ne, reduceCtorEq, *], by simp only [Nat.reduceEqDiff, getD_ne, *], by simp only [Nat.reduceEqDiff, getD_ne, *], by simp only [Nat.reduceLT, getD_eq, List.length_set, *], hr2 (by simpa using hcd)⟩
  · have hd : decide ((i : Int) < (es.length : Int)) = false := by simp; omega
    obtain rfl : k = 0 := by omega
    repeat' (first | refine WE.seqR ?_ | refine WO.nil ?_ | (refine WO.op1s ?_; simp only [opK, wanted, stepK, step, setDst, pureV, arith, intBin, true_and, V.ev, Int.reduceNeg, if_true, *]; with_reducible show WO _ _ _ _ _) | refine WE.seqExit ?_ | (refine WE.seqCond (t := false) ?hc (fun hh => Bool.noConfusion hh) (fun _ => ?_); case hc => simp only [V.ev, Nat.reduceLT, getD_eq, *]) | refine WE.ret ?_)
    ((try dsimp only); refine Exists.intro _ ⟨(by (simp only [readResults, Nat.reduceLT, Int.reduceNeg, getD_eq, List.length_set, *]; try rfl)), ?_⟩)
    exact ⟨gg, by rw [← hres]; rfl⟩

theorem place_ok {h : Heap} (w : Wf h) {s : Val} {es : List Ent} {id : Int} (hs : Es h s es) (hn : es.length < 4611686018427387904) : WC E35 44 [.agg [s], .int .i64 id] h fun v h' => Grow h h' ∧ v = .int .i64 (atI es id) := by
  refine WC.fn1 (n := 9) rfl rfl (by rfl) ?_
  intro fr hl ha
  have h0 : fr.getD 0 .undef = .agg [s] := ha 0
  have h1 : fr.getD 1 .undef = .int .i64 id := ha 1
  clear ha
  unfold v44
  repeat' (first | refine WE.seqR ?_)
  (refine WO.op1 ?_; simp only [opK, wanted, setDst, *])
  refine stepK_box w (c := [s]) (by simp only [V.ev, *]; rfl) rfl fun b hB g hb hg hnx => ?_
  (refine WO.op1 ?_; simp only [opK, wanted, setDst, *])
  refine stepK_box (g.wf w) (c := [.int .i64 id]) (by simp only [V.ev, Nat.reduceEqDiff, getD_ne, *]; rfl) rfl fun b2 hB2 g2 hb2 hg2 hnx2 => ?_
  have wB := (g.trans g2).wf w
  have gg := Grow.refl hB2
  have l0 : hB2.load b 0 1 = some [s] := load_get (g2.keep _ _ hg) (by simp)
  have l1 : hB2.load b2 0 1 = some [.int .i64 id] := load_get hg2 (by simp)
  have hs2 := (g.trans g2).kp.es hs
  repeat' (first | refine WE.seqR ?_ | refine WO.nil ?_ | (refine WO.op1s ?_; simp only [opK, wanted, stepK, step, setDst, evs, true_and, V.ev, Nat.reduceEqDiff, Nat.reduceLT, Nat.add_zero, Bool.false_eq_true, getD_ne, getD_eq, List.length_set, if_false, *]; with_reducible show WO _ _ _ _ _))
  refine WO.callG (f := 50) (g := none) wB gg _ rfl (fun h3 w3 g3 => by (simp only [evs, V.ev, Nat.reduceEqDiff, Nat.reduceLT, getD_ne, getD_eq, List.length_set, *]); exact index_ok w3 (g3.es hs2) hn (g3.load l1)) ?_
  clear gg
  (rintro _ hh gg rfl; simp only [setDst])
  repeat' (first | refine WO.nil ?_ | (refine WO.op1s ?_; simp only [opK, wanted, stepK, step, setDst, true_and, V.ev, Nat.reduceLT, getD_eq, List.length_set, *]; with_reducible show WO _ _ _ _ _) | refine WE.ret ?_)
  ((try dsimp only); refine Exists.intro _ ⟨(by (simp only [readResults, Nat.reduceLT, getD_eq, List.length_set, *]; try rfl)), ?_⟩)
  exact ⟨(g.trans g2).trans gg, rfl⟩

end Go.V
end

section
set_option linter.unusedVariables false
set_option linter.unusedSimpArgs false
set_option linter.unusedSectionVars false
-- BUILDS
-- NEW
set_option maxHeartbeats 4000000
namespace Go.V
attribute [local irreducible] stepK opK opV

abbrev zeroE : List Val := [.int .i64 0, .int .i64 0, .int .i64 0]

theorem grow_ok {h : Heap} (w : Wf h) {n : Nat} (hn : n ≤ 1000000) : WC E35 52 [.nils, .int .i64 (n : Int)] h fun v h' => Grow h h' ∧ Own h h' v 3 [] ∧ (0 < n → ∃ b cells, v = .slice b 0 0 n 3 ∧ h.next ≤ b ∧ h'.get b = some (.cells cells) ∧ cells.length = n * 3) := by
  refine WC.fn1 (n := 27) rfl rfl (by rfl) ?_
  intro fr hl ha
  have h0 : fr.getD 0 .undef = .nils := ha 0
  have h1 : fr.getD 1 .undef = .int .i64 (n : Int) := ha 1
  clear ha
  have hd : decide ((n : Int) < 0) = false := by simp <;> omega
  have hw0 : IntKind.i64.wrap (0 - 0) = 0 := rfl
  have hw1 : IntKind.i64.wrap ((n : Int) - 0) = (n : Int) := by rw [Int.sub_zero]; exact wrap_i64 (by omega) (by omega)
  have hlen : lenI .nils = some 0 := rfl
  have hc0 : ((0 : Nat) : Int) = 0 := rfl
  unfold v52
  by_cases hn0 : n = 0
  · have hd2 : decide ((n : Int) > 0) = false := by simp <;> omega
    repeat' (first | refine WE.assoc ?_ | refine WE.seqR ?_ | refine WO.nil ?_ | (refine WO.lenOfE ?_; simp only [setDst, V.ev, Nat.reduceLT, getD_eq, List.length_set, *]; refine ⟨_, rfl, ?_⟩) | (refine WO.op1s ?_; simp only [opK, wanted, stepK, step, setDst, pureV, arith, intBin, true_and, V.ev, Nat.reduceEqDiff, Nat.reduceLT, Nat.reduceMul, Int.reduceLT, Int.reduceGT, decide_false, getD_ne, getD_eq, List.length_set, if_true, reduceCtorEq, *]; with_reducible show WO _ _ _ _ _) | refine WE.seqSkip ?_ | (refine WE.seqCond (t := false) ?hc (fun hh => Bool.noConfusion hh) (fun _ => ?_); case hc => simp only [V.ev, Nat.reduceLT, getD_eq, List.length_set, *]) | refine WE.ret ?_)
    ((try dsimp only); refine Exists.intro _ ⟨(by (simp only [readResults, Nat.reduceLT, getD_eq, List.length_set, *]; try rfl)), ?_⟩)
    exact ⟨.refl _, .inl ⟨rfl, rfl⟩, fun q => by first | omega | (simp at q; done) | exact absurd q (by omega)⟩
  · have hd2 : decide ((n : Int) > 0) = true := by simp <;> omega
    repeat' (first | refine WE.assoc ?_ | refine WE.seqR ?_ | refine WO.nil ?_ | (refine WO.lenOfE ?_; simp only [setDst, V.ev, Nat.reduceLT, getD_eq, List.length_set, *]; refine ⟨_, rfl, ?_⟩) | (refine WO.op1s ?_; simp only [opK, wanted, stepK, step, setDst, pureV, arith, intBin, true_and, V.ev, Nat.reduceEqDiff, Nat.reduceLT, getD_ne, getD_eq, List.length_set, if_true, reduceCtorEq, *]; with_reducible show WO _ _ _ _ _) | refine WE.seqSkip ?_ | (refine WE.seqCond (t := true) ?hc (fun _ => ?_) (fun hh => Bool.noConfusion hh); case hc => simp only [V.ev, Nat.reduceLT, getD_eq, List.length_set, *]) | (refine WE.seqCond (t := false) ?hc (fun hh => Bool.noConfusion hh) (fun _ => ?_); case hc => simp only [V.ev, Nat.reduceLT, getD_eq, List.length_set, *]))
    (refine WO.op1 ?_; simp only [opK, wanted, setDst, *])
    refine stepK_hi_nil (by (simp only [V.ev, Nat.reduceEqDiff, Nat.reduceLT, getD_ne, getD_eq, List.length_set, *]; try rfl)) (by (simp only [V.ev, Nat.reduceLT, getD_eq, List.length_set, *]; try rfl)) ?_
    repeat' (first | (refine WO.op1s ?_; simp only [opK, wanted, stepK, step, setDst, List.length_cons, List.length_nil, true_and, and_true, V.ev, Nat.reduceEqDiff, Nat.reduceLT, Nat.reduceAdd, Nat.zero_add, getD_ne, getD_eq, List.length_set, *]; with_reducible show WO _ _ _ _ _))
    (refine WO.op1 ?_; simp only [opK, wanted, setDst, *])
    refine stepK_appendZ (n := n) (zero := zeroE) w (.refl _) (by (simp only [V.ev, Nat.reduceEqDiff, Nat.reduceLT, getD_ne, getD_eq, List.length_set, *]; try rfl)) (by (simp only [V.ev, Nat.reduceLT, getD_eq, List.length_set, *]; try rfl)) (by rfl) (by omega) (by omega) (by rw [maxB]; omega) (by rw [maxB]; omega) fun b h2 g hb hg => ?_
    repeat' (first | (refine WO.lenOfE ?_; simp only [setDst, V.ev, Nat.reduceLT, getD_eq, List.length_set, *]; refine ⟨_, rfl, ?_⟩) | (refine WO.op1s ?_; simp only [opK, wanted, stepK, step, setDst, pureV, true_and, V.ev, Nat.reduceEqDiff, Nat.reduceLT, getD_ne, getD_eq, List.length_set, reduceCtorEq, *]; with_reducible show WO _ _ _ _ _))
    refine WO.op1 ?_
    simp only [opK, wanted, setDst]
    refine stepK_hi0 (sz := 3) (x := .t 22) (y := .t 24) (ik := .i64) (b := b) (o := 0) (n := n) (cap := n) (ls := 3) ?_ ?_ ?_ ?_
    · (simp only [V.ev, Nat.reduceEqDiff, Nat.reduceLT, getD_ne, getD_eq, List.length_set, *]; try rfl)
    · (simp only [V.ev, Nat.reduceLT, getD_eq, List.length_set, *]; try rfl)
    · exact .inr rfl
    repeat' (first | refine WE.seqR ?_ | refine WO.nil ?_ | (refine WO.op1s ?_; simp only [opK, wanted, stepK, step, setDst, true_and, V.ev, Nat.reduceLT, getD_eq, List.length_set, *]; with_reducible show WO _ _ _ _ _) | refine WE.ret ?_)
    ((try dsimp only); refine Exists.intro _ ⟨(by (simp only [readResults, Nat.reduceLT, getD_eq, List.length_set, *]; try rfl)), ?_⟩)
    have hcl : (repeatL zeroE n).length = n * 3 := repeatL_length _ _
    exact ⟨g, .inr ⟨b, 0, n, 3, _, rfl, .inr rfl, hb, hg, Nat.zero_le _, hcl, rfl, rfl⟩, fun _ => ⟨b, _, rfl, hb, hg, hcl⟩⟩

/-- A list of lists of entries in memory. -/
structure Ess (h : Heap) (s : Val) (ess : List (List Ent)) (vals : List Val) : Prop where
  sl : Sl h s 1 vals.length vals
  len : vals.length = ess.length
  es : ∀ i (hi : i < ess.length), Es h (vals[i]'(by omega)) ess[i]
  small : ess.length ≤ 1000 ∧ ess.flatten.length ≤ 1000000

def sumL (ess : List (List Ent)) (i : Nat) : Nat := (ess.take i).flatten.length

theorem sumL_succ {ess : List (List Ent)} {i : Nat} (hi : i < ess.length) : sumL ess (i + 1) = sumL ess i + ess[i].length := by
  unfold sumL
  rw [List.take_succ_eq_append_getElem hi, List.flatten_append, List.length_append]
  simp

theorem flatten_take_le (ess : List (List Ent)) (i : Nat) : (ess.take i).flatten.length ≤ ess.flatten.length := by
  have : ess.flatten = (ess.take i).flatten ++ (ess.drop i).flatten := by rw [← List.flatten_append, List.take_append_drop]
  rw [this, List.length_append]; omega

theorem sumL_le (ess : List (List Ent)) (i : Nat) : sumL ess i ≤ ess.flatten.length := flatten_take_le ess i

def SumI (h : Heap) (s : Val) (ess : List (List Ent)) (k : Nat) (fr : List Val) (h' : Heap) : Prop := h' = h ∧ ∃ i : Nat, i + k = ess.length ∧ fr.length = 36 ∧ fr.getD 0 .undef = s ∧ fr.getD 9 .undef = s ∧ fr.getD 10 .undef = .int .i64 (ess.length : Int) ∧ fr.getD 11 .undef = .int .i64 (i : Int) ∧ fr.getD 3 .undef = .int .i64 (sumL ess i : Int)

def CatI (h : Heap) (s : Val) (ess : List (List Ent)) (k : Nat) (fr : List Val) (h' : Heap) : Prop := Grow h h' ∧ ∃ i : Nat, i + k = ess.length ∧ fr.length = 36 ∧ fr.getD 25 .undef = s ∧ fr.getD 26 .undef = .int .i64 (ess.length : Int) ∧ fr.getD 27 .undef = .int .i64 (i : Int) ∧
  Own h h' (fr.getD 6 .undef) 3 ((ess.take i).flatten.flatMap Ent.cells)

theorem ones (es : List Ent) : (es.flatMap Ent.cells).all Val.one = true := by
  rw [List.all_flatMap]
  simp [Ent.cells, Val.one]

theorem cells_len (es : List Ent) : (es.flatMap Ent.cells).length = es.length * 3 := flat_len (f := Ent.cells) (fun _ => rfl) es

theorem concat_ok {h : Heap} (w : Wf h) {s : Val} {ess : List (List Ent)} {vals : List Val} (e : Ess h s ess vals) : WC E35 45 [s] h fun v h' => Grow h h' ∧ Own h h' v 3 (ess.flatten.flatMap Ent.cells) := by
  refine WC.fn1 (n := 36) rfl rfl (by rfl) ?_
  intro fr hl ha
  have h0 : fr.getD 0 .undef = s := ha 0
  clear ha
  have hlen := e.sl.lenI
  rw [e.len] at hlen
  have hsm := e.small
  unfold v45
  repeat' (first | refine WE.assoc ?_ | refine WE.seqR ?_ | refine WO.nil ?_ | (refine WO.lenOfE ?_; simp only [setDst, V.ev, Nat.reduceLT, getD_eq, List.length_set, *]; refine ⟨_, rfl, ?_⟩) | (refine WO.op1s ?_; simp only [opK, wanted, stepK, step, setDst, true_and, V.ev, getD_ne, reduceCtorEq, *]; with_reducible show WO _ _ _ _ _) | refine WE.seqBlock ?_)
  refine WE.loop (SumI h s ess) ?_ ess.length _ _ ⟨rfl, 0, by omega, by simp only [List.length_set, hl], by (simp only [getD_ne, reduceCtorEq, *]; try rfl), by (simp only [Nat.reduceEqDiff, Nat.reduceLT, getD_ne, getD_eq, List.length_set, *]; try rfl), by (simp only [Nat.reduceEqDiff, Nat.reduceLT, getD_ne, getD_eq, List.length_set, *]; try rfl), by (simp only [Nat.reduceLT, Int.cast_ofNat_Int, getD_eq, List.length_set, *]; try rfl), by (simp only [Nat.reduceEqDiff, Nat.reduceLT, getD_ne, getD_eq, List.length_set, *]; try rfl)⟩
  clear h0 hl
  rintro k fr2 h2 ⟨rfl, i, hik, hl, h0, h9, h10, h11, hst⟩
  have hsum := sumL_le ess i
  by_cases hlt : i < ess.length
  · have hd : decide ((i : Int) < (ess.length : Int)) = true := by simp <;> omega
    have hlt' : i < vals.length := by rw [e.len]; exact hlt
    obtain ⟨bx, o, he, l1⟩ := e.sl.elt1 (k := .i64) hlt'
    have l1' := l1 _ (.refl _)
    have hes := (e.es i hlt).lenI
    have hsucc := sumL_succ hlt
    have hsum2 := sumL_le ess (i + 1)
    have hw : IntKind.i64.wrap ((sumL ess i : Int) + (ess[i].length : Int)) = ((sumL ess (i + 1) : Nat) : Int) := by rw [wrap_i64 (by omega) (by omega)]; omega
    have hd2 : decide (((sumL ess (i + 1) : Nat) : Int) < 0) = false := by simp <;> omega
    have hwi : IntKind.i64.wrap ((i : Int) + 1) = ((i + 1 : Nat) : Int) := by rw [wrap_i64 (by omega) (by omega)]; omega
    clear l1 hsucc hsum2
    obtain ⟨S, hS⟩ : ∃ S, sumL ess (i + 1) = S := ⟨_, rfl⟩
    rw [hS] at hw hd2
    repeat' (first | refine WE.seqR ?_ | refine WO.nil ?_ | (refine WO.lenOfE ?_; simp only [setDst, V.ev, Nat.reduceLT, getD_eq, List.length_set, *]; refine ⟨_, rfl, ?_⟩) | (refine WO.iaddrE ?_; simp only [setDst, V.ev, Nat.reduceEqDiff, getD_ne, *]; refine ⟨_, rfl, ?_⟩) | (refine WO.op1s ?_; simp only [opK, wanted, stepK, step, setDst, pureV, arith, intBin, true_and, V.ev, Nat.reduceEqDiff, Nat.reduceLT, Bool.false_eq_true, getD_ne, getD_eq, List.length_set, if_true, if_false, *]; with_reducible show WO _ _ _ _ _) | refine WE.seqSkip ?_ | (refine WE.seqCond (t := true) ?hc (fun _ => ?_) (fun hh => Bool.noConfusion hh); case hc => simp only [V.ev, Nat.reduceLT, getD_eq, *]) | refine WE.skip ?_ | (refine WE.cond2 (t := false) ?hc (fun hh => Bool.noConfusion hh) (fun _ => ?_); case hc => simp only [V.ev, Nat.reduceLT, getD_eq, List.length_set, *]) | refine WE.region ?_ | refine WE.seqBlock ?_)
    exact ⟨k - 1, by omega, rfl, i + 1, by omega, by simp only [List.length_set, hl], by (simp only [getD_ne, reduceCtorEq, *]; try rfl), by (simp only [Nat.reduceEqDiff, getD_ne, *]; try rfl), by (simp only [Nat.reduceEqDiff, getD_ne, *]; try rfl), by (simp only [Nat.reduceLT, getD_eq, List.length_set, *]; try rfl), by (simp only [Nat.reduceEqDiff, Nat.reduceLT, getD_ne, getD_eq, List.length_set, *]; try rfl)⟩
  · have hd : decide ((i : Int) < (ess.length : Int)) = false := by simp <;> omega
    obtain rfl : i = ess.length := by omega
    have hfull : sumL ess ess.length = ess.flatten.length := by unfold sumL; rw [List.take_length]
    rw [hfull] at hst hsum
    have wB := w
    have gg := Grow.refl h2
    repeat' (first | refine WE.seqR ?_ | refine WO.nil ?_ | (refine WO.op1s ?_; simp only [opK, wanted, stepK, step, setDst, pureV, arith, intBin, evs, true_and, V.ev, Nat.reduceEqDiff, Nat.reduceLT, getD_ne, getD_eq, List.length_set, if_true, *]; with_reducible show WO _ _ _ _ _) | refine WE.seqExit ?_ | (refine WE.seqCond (t := false) ?hc (fun hh => Bool.noConfusion hh) (fun _ => ?_); case hc => simp only [V.ev, Nat.reduceLT, getD_eq, *]))
    refine WO.call rfl ?_
    (simp only [evs, V.ev, Nat.reduceLT, getD_eq, List.length_set, *])
    refine (grow_ok w (by omega)).mono ?_
    rintro v h3 ⟨g3, ho, _⟩
    simp only [setDst]
    repeat' (first | refine WE.assoc ?_ | refine WE.seqR ?_ | refine WO.nil ?_ | (refine WO.lenOfE ?_; simp only [setDst, V.ev, Nat.reduceLT, getD_eq, List.length_set, *]; refine ⟨_, rfl, ?_⟩) | (refine WO.op1s ?_; simp only [opK, wanted, stepK, step, setDst, true_and, V.ev, Nat.reduceLT, getD_ne, getD_eq, List.length_set, reduceCtorEq, *]; with_reducible show WO _ _ _ _ _) | refine WE.seqBlock ?_)
    refine WE.loop (CatI h2 s ess) ?_ ess.length _ _ ⟨g3, 0, by omega, by simp only [List.length_set, hl], by (simp only [Nat.reduceEqDiff, Nat.reduceLT, getD_ne, getD_eq, List.length_set, *]; try rfl), by (simp only [Nat.reduceEqDiff, Nat.reduceLT, getD_ne, getD_eq, List.length_set, *]; try rfl), by (simp only [Nat.reduceLT, Int.cast_ofNat_Int, getD_eq, List.length_set, *]; try rfl), by (simp only [Nat.reduceEqDiff, Nat.reduceLT, getD_ne, getD_eq, List.length_set, *]; try rfl); exact ho⟩
    clear hl h0 h9 h10 h11 hst gg ho
    rintro k fr3 h4 ⟨gg, i, hik, hl, h25, h26, h27, ho⟩
    by_cases hlt : i < ess.length
    · have hd : decide ((i : Int) < (ess.length : Int)) = true := by simp <;> omega
      have hlt' : i < vals.length := by rw [e.len]; exact hlt
      obtain ⟨bx, o, he, l1⟩ := e.sl.elt1 (k := .i64) hlt'
      have l1' := l1 _ gg
      have hes := gg.kp.es (e.es i hlt)
      have hwi : IntKind.i64.wrap ((i : Int) + 1) = ((i + 1 : Nat) : Int) := by rw [wrap_i64 (by omega) (by omega)]; omega
      have hle := flatten_take_le ess (i + 1)
      have hsucc := sumL_succ hlt
      unfold sumL at hsucc
      clear l1
      repeat' (first | refine WE.seqR ?_ | refine WO.nil ?_ | (refine WO.iaddrE ?_; simp only [setDst, V.ev, Nat.reduceEqDiff, getD_ne, *]; refine ⟨_, rfl, ?_⟩) | (refine WO.op1s ?_; simp only [opK, wanted, stepK, step, setDst, pureV, arith, intBin, true_and, V.ev, Nat.reduceEqDiff, Nat.reduceLT, Bool.false_eq_true, getD_ne, getD_eq, List.length_set, if_true, if_false, *]; with_reducible show WO _ _ _ _ _) | refine WE.seqSkip ?_ | (refine WE.seqCond (t := true) ?hc (fun _ => ?_) (fun hh => Bool.noConfusion hh); case hc => simp only [V.ev, Nat.reduceLT, getD_eq, *]) | refine WE.region ?_ | refine WE.seqBlock ?_)
      (refine WO.op1 ?_; simp only [opK, wanted, setDst, *])
      refine stepK_append w gg (by (simp only [V.ev, Nat.reduceEqDiff, Nat.reduceLT, getD_ne, getD_eq, List.length_set, *]; try rfl)) (by (simp only [V.ev, Nat.reduceLT, getD_eq, List.length_set, *]; try rfl)) ho hes (by omega) (ones _) (by rw [cells_len, cells_len]; rw [maxB]; omega) (by rw [cells_len, cells_len]; rw [maxB]; omega) (by omega) fun v' h5 g5 ho5 => ?_
      repeat' (first | refine WO.nil ?_ | (refine WO.op1s ?_; simp only [opK, wanted, stepK, step, setDst, pureV, arith, intBin, true_and, V.ev, Nat.reduceEqDiff, Nat.reduceLT, getD_ne, getD_eq, List.length_set, if_true, *]; with_reducible show WO _ _ _ _ _) | refine WE.region ?_)
      refine ⟨k - 1, by omega, g5, i + 1, by omega, by simp only [List.length_set, hl], by (simp only [Nat.reduceEqDiff, getD_ne, *]; try rfl), by (simp only [Nat.reduceEqDiff, getD_ne, *]; try rfl), by (simp only [Nat.reduceLT, getD_eq, List.length_set, *]; try rfl), ?_⟩
      simp only [Nat.reduceEqDiff, Nat.reduceLT, getD_ne, getD_eq, List.length_set, *]
      rw [List.take_succ_eq_append_getElem hlt, List.flatten_append, List.flatMap_append]
      simpa using ho5
    · have hd : decide ((i : Int) < (ess.length : Int)) = false := by simp <;> omega
      obtain rfl : i = ess.length := by omega
      rw [List.take_length] at ho
      repeat' (first | refine WE.seqR ?_ | refine WO.nil ?_ | (refine WO.op1s ?_; simp only [opK, wanted, stepK, step, setDst, pureV, arith, intBin, true_and, V.ev, Nat.reduceEqDiff, Nat.reduceLT, getD_ne, getD_eq, List.length_set, if_true, *]; with_reducible show WO _ _ _ _ _) | refine WE.seqExit ?_ | (refine WE.seqCond (t := false) ?hc (fun hh => Bool.noConfusion hh) (fun _ => ?_); case hc => simp only [V.ev, Nat.reduceLT, getD_eq, *]) | refine WE.ret ?_)
      ((try dsimp only); refine Exists.intro _ ⟨(by (simp only [readResults, Nat.reduceLT, getD_eq, List.length_set, *]; try rfl)), ?_⟩)
      exact ⟨gg, ho⟩

/-- What 'own' makes: new memory, without spare capacity. -/
def OwnE (h0 h : Heap) (v : Val) (es : List Ent) : Prop := (es = [] ∧ v = .nils) ∨ (es ≠ [] ∧ ∃ b, v = .slice b 0 es.length es.length 0 ∧ h0.next ≤ b ∧ h.get b = some (.cells (es.flatMap Ent.cells)))

theorem OwnE.es {h0 h : Heap} {v : Val} {es : List Ent} (o : OwnE h0 h v es) : Es h v es := by
  refine ⟨cells_len es, ?_⟩
  rcases o with ⟨rfl, rfl⟩ | ⟨_, b, rfl, _, hg⟩
  · exact .inl ⟨rfl, rfl⟩
  · refine .inr ⟨b, 0, es.length, 0, rfl, .inl rfl, Nat.le_refl _, .inr ?_⟩
    rw [load_get hg (by rw [cells_len]; omega), List.drop_zero, ← cells_len, List.take_length]

theorem own_ok {h : Heap} (w : Wf h) {s : Val} {ess : List (List Ent)} {vals : List Val} (e : Ess h s ess vals) : WC E35 37 [s] h fun v h' => Grow h h' ∧ OwnE h h' v ess.flatten := by
  refine WC.fn1 (n := 17) rfl rfl (by rfl) ?_
  intro fr hl ha
  have h0 : fr.getD 0 .undef = s := ha 0
  clear ha
  have hsm := e.small
  unfold v37
  repeat' (first | refine WE.seqR ?_ | refine WO.nil ?_ | (refine WO.op1s ?_; simp only [opK, wanted, stepK, step, setDst, evs, true_and, V.ev, Nat.reduceLT, getD_ne, getD_eq, List.length_set, reduceCtorEq, *]; with_reducible show WO _ _ _ _ _))
  refine WO.call rfl ?_
  (simp only [evs, V.ev, Nat.reduceLT, getD_eq, List.length_set, *])
  refine (concat_ok w e).mono ?_
  rintro v h3 ⟨g3, ho⟩
  simp only [setDst]
  obtain ⟨n, hn, hsl⟩ := ho.sl (by omega)
  rw [cells_len] at hn
  obtain rfl : n = ess.flatten.length := by omega
  have hlen := hsl.lenI
  by_cases h0' : ess.flatten = []
  · have hd : ((ess.flatten.length : Int) == 0) = true := by rw [h0']; rfl
    repeat' (first | refine WE.assoc ?_ | refine WE.seqR ?_ | refine WO.nil ?_ | (refine WO.lenOfE ?_; simp only [setDst, V.ev, Nat.reduceLT, getD_eq, List.length_set, *]; refine ⟨_, rfl, ?_⟩) | (refine WO.op1s ?_; simp only [opK, wanted, stepK, step, setDst, eqVal, eqAt, eqv, Val.isAgg, Val.cells, List.length_nil, true_and, and_self, Bool.and_true, List.getElem?_cons_zero, V.ev, Nat.reduceLT, Bool.false_eq_true, beq_self_eq_true, Int.cast_ofNat_Int, getD_eq, List.length_set, if_true, if_false, Bool.not_true, *]; with_reducible show WO _ _ _ _ _) | refine WE.seqRet ?_ | (refine WE.seqCond (t := true) ?hc (fun _ => ?_) (fun hh => Bool.noConfusion hh); case hc => simp only [V.ev, Nat.reduceLT, getD_eq, List.length_set, *]))
    ((try dsimp only); refine Exists.intro _ ⟨(by (simp only [readResults, Nat.reduceLT, getD_eq, List.length_set, *]; try rfl)), ?_⟩)
    exact ⟨g3, by first | exact .inl ⟨h0', rfl⟩ | exact .inl ⟨rfl, rfl⟩⟩
  · have hpos : 0 < ess.flatten.length := List.length_pos_iff.2 h0'
    have hd : ((ess.flatten.length : Int) == 0) = false := by rw [beq_eq_false_iff_ne]; omega
    repeat' (first | refine WE.assoc ?_ | refine WE.seqR ?_ | refine WO.nil ?_ | (refine WO.lenOfE ?_; simp only [setDst, V.ev, Nat.reduceLT, getD_eq, List.length_set, *]; refine ⟨_, rfl, ?_⟩) | (refine WO.op1s ?_; simp only [opK, wanted, stepK, step, setDst, eqVal, eqAt, eqv, Val.isAgg, Val.cells, List.length_cons, List.length_nil, true_and, and_true, and_self, Bool.and_true, List.getElem?_cons_zero, V.ev, Nat.reduceEqDiff, Nat.reduceLT, Nat.reduceAdd, Nat.zero_add, Bool.false_eq_true, getD_ne, getD_eq, List.length_set, if_true, if_false, Bool.not_false, *]; with_reducible show WO _ _ _ _ _) | refine WE.seqSkip ?_ | (refine WE.seqCond (t := false) ?hc (fun hh => Bool.noConfusion hh) (fun _ => ?_); case hc => simp only [V.ev, Nat.reduceLT, getD_eq, List.length_set, *]))
    (refine WO.op1 ?_; simp only [opK, wanted, setDst, *])
    refine stepK_make w g3 (n := ess.flatten.length) (by (simp only [V.ev, Nat.reduceLT, getD_eq, List.length_set, *]; try rfl)) (by (simp only [V.ev, Nat.reduceLT, getD_eq, List.length_set, *]; try rfl)) (by rfl) (by rw [maxB]; omega) (by rw [maxB]; omega) fun b h4 g4 hb hg4 k4 => ?_
    have hsl4 := Keep.sl k4 hsl
    repeat' (first | refine WE.seqR ?_ | refine WO.nil ?_ | (refine WO.op1s ?_; simp only [opK, wanted, stepK, step, setDst, true_and, V.ev, Nat.reduceEqDiff, Nat.reduceLT, getD_ne, getD_eq, List.length_set, *]; with_reducible show WO _ _ _ _ _))
    (refine WO.op1 ?_; simp only [opK, wanted, setDst, *])
    refine stepK_copy w g4 (by (simp only [V.ev, Nat.reduceEqDiff, Nat.reduceLT, getD_ne, getD_eq, List.length_set, *]; try rfl)) (by (simp only [V.ev, Nat.reduceLT, getD_eq, List.length_set, *]; try rfl)) hsl4 hb hg4 (repeatL_length _ _) (by omega) (ones _) fun h5 g5 hg5 => ?_
    repeat' (first | refine WE.seqR ?_ | refine WO.nil ?_ | (refine WO.op1s ?_; simp only [opK, wanted, stepK, step, setDst, true_and, V.ev, Nat.reduceEqDiff, Nat.reduceLT, getD_ne, getD_eq, List.length_set, *]; with_reducible show WO _ _ _ _ _) | refine WE.ret ?_)
    ((try dsimp only); refine Exists.intro _ ⟨(by (simp only [readResults, Nat.reduceLT, getD_eq, List.length_set, *]; try rfl)), ?_⟩)
    exact ⟨g5, .inr ⟨h0', b, rfl, hb, hg5⟩⟩

end Go.V
end

section
set_option linter.unusedVariables false
set_option linter.unusedSimpArgs false
set_option linter.unusedSectionVars false
-- NEW
set_option maxHeartbeats 4000000
namespace Go.V
attribute [local irreducible] stepK opK opV

theorem chkFrom_nonneg (es : List Ent) : ∀ (k i : Nat), 0 ≤ chkFrom es i k
  | 0, _ => Int.le_refl _
  | k + 1, i => by
    rw [chkFrom]
    split
    · exact chkFrom_nonneg es k (i + 1)
    · unfold chkAt
      split
      · simp
      · split
        · omega
        · split
          · omega
          · split
            · split <;> omega
            · omega

theorem chk_nonneg (es : List Ent) : 0 ≤ chk es := by
  unfold chk
  split
  · omega
  · exact chkFrom_nonneg _ _ _

theorem Own.es {h0 h : Heap} {v : Val} {es : List Ent} (o : Own h0 h v 3 (es.flatMap Ent.cells)) : Es h v es := by
  obtain ⟨n, hn, hs⟩ := o.sl (by omega)
  rw [cells_len] at hn
  obtain rfl : n = es.length := by omega
  exact hs

end Go.V
end

section
set_option linter.unusedVariables false
set_option linter.unusedSimpArgs false
set_option linter.unusedSectionVars false
-- BUILDS
-- NEW
set_option maxHeartbeats 4000000
namespace Go.V
attribute [local irreducible] stepK opK opV

/-- What the program makes, and a number. -/
def ProRes (h h' : Heap) (v : Val) (r : List Ent × Int) : Prop := Grow h h' ∧ ∃ u, v = .tup [.agg [u], .int .i64 r.2] ∧ OwnE h h' u r.1

theorem OwnE.keep {h0 h h' : Heap} {v : Val} {es : List Ent} (o : OwnE h0 h v es) (g : Keep h h') : OwnE h0 h' v es := by
  rcases o with o | ⟨a, b, c, d, e⟩
  · exact .inl o
  · exact .inr ⟨a, b, c, d, g _ _ e⟩

theorem OwnE.down {h0 h1 h : Heap} {v : Val} {es : List Ent} (o : OwnE h1 h v es) (g : h0.next ≤ h1.next) : OwnE h0 h v es := by
  rcases o with o | ⟨a, b, c, d, e⟩
  · exact .inl o
  · exact .inr ⟨a, b, c, Nat.le_trans g d, e⟩

theorem OwnE.one {h0 h : Heap} {v : Val} {es : List Ent} (o : OwnE h0 h v es) : v.cells = [v] ∧ Val.one v = true := Sl.cells1 o.es

theorem Ess.one {h : Heap} {s u : Val} {es : List Ent} (hs : Sl h s 1 1 [u]) (h1 : Es h u es) (hn : es.length ≤ 1000000) : Ess h s [es] [u] := by
  refine ⟨hs, rfl, ?_, by simp, by simpa using hn⟩
  intro i hi
  match i, hi with
  | 0, _ => exact h1

end Go.V
end

section
set_option linter.unusedVariables false
set_option linter.unusedSimpArgs false
set_option linter.unusedSectionVars false
-- NEW
set_option maxHeartbeats 4000000
namespace Go.V
attribute [local irreducible] stepK opK opV

theorem atFrom_range (es : List Ent) (id : Int) : ∀ (k i : Nat), atFrom es id i k = -1 ∨ ∃ j : Nat, atFrom es id i k = (j : Int) ∧ j < es.length ∧ ∃ h : j < es.length, es[j].id = id
  | 0, _ => .inl rfl
  | k + 1, i => by
    rw [atFrom]
    split
    · rename_i e he
      by_cases q : e.id = id
      · rw [if_pos q]
        obtain ⟨h, h1⟩ := List.getElem?_eq_some_iff.1 he
        exact .inr ⟨i, rfl, h, h, by rw [h1]; exact q⟩
      · rw [if_neg q]
        exact atFrom_range es id k (i + 1)
    · exact .inl rfl

theorem atI_range (es : List Ent) (id : Int) : atI es id = -1 ∨ ∃ j : Nat, atI es id = (j : Int) ∧ j < es.length ∧ ∃ h : j < es.length, es[j].id = id := atFrom_range es id _ _

theorem chk_all : ∀ (es : List Ent) (k i : Nat), chkFrom es i k = 0 → ∀ j, i ≤ j → j < i + k → chkAt es j = 0
  | _, 0, _, _, j, h1, h2 => by omega
  | es, k + 1, i, h, j, h1, h2 => by
    rw [chkFrom] at h
    split at h
    · rename_i h0
      rcases Nat.eq_or_lt_of_le h1 with rfl | h1
      · exact h0
      · exact chk_all es k (i + 1) h j h1 (by omega)
    · rename_i h0; exact absurd h h0

theorem chk_zero {es : List Ent} (h : chk es = 0) : es.length ≤ 64 ∧ ∀ j (hj : j < es.length), validB es[j].id es[j].cl es[j].si = true ∧ ∀ h0 : 0 < j, es[j - 1].id < es[j].id ∧ es[j - 1].si ≤ es[j].si := by
  unfold chk at h
  split at h
  · omega
  · rename_i hl
    refine ⟨by omega, fun j hj => ?_⟩
    have h1 := chk_all es _ _ h j (by omega) (by omega)
    rw [chkAt_eq hj] at h1
    split at h1
    · omega
    · rename_i hv
      refine ⟨by simpa using hv, fun h0 => ?_⟩
      rw [dif_pos h0] at h1
      split at h1
      · omega
      · rename_i hb
        simp only [badB, Bool.not_eq_true, Bool.or_eq_false_iff, decide_eq_false_iff_not] at hb
        omega

theorem chk_mono {es : List Ent} (h : chk es = 0) : ∀ (j i : Nat) (hi : i < j) (hj : j < es.length), es[i].id < es[j].id
  | 0, i, hi, _ => by omega
  | j + 1, i, hi, hj => by
    have h1 := (chk_zero h).2 (j + 1) hj |>.2 (by omega)
    simp only [Nat.add_sub_cancel] at h1
    rcases Nat.eq_or_lt_of_le (Nat.le_of_lt_succ hi) with rfl | h2
    · exact h1.1
    · have := chk_mono h j i h2 (by omega)
      omega

end Go.V
end

section
set_option linter.unusedVariables false
set_option linter.unusedSimpArgs false
set_option linter.unusedSectionVars false
-- DRAWS
-- BUILDS
-- NEW
set_option maxHeartbeats 1000000
namespace Go.V
attribute [local irreducible] stepK opK opV

end Go.V
end

section
set_option linter.unusedVariables false
set_option linter.unusedSimpArgs false
set_option linter.unusedSectionVars false
-- DRAWS
-- NEW
set_option maxHeartbeats 1000000
namespace Go.V
attribute [local irreducible] stepK opK opV

abbrev flat (L : List Ent) : List Val := L.flatMap Ent.cells

/-- A fact that is not looked up. -/
structure Hid (p : Prop) : Prop where
  out : p

/-- A block of one's own holds these entries. -/
structure SB (h0 h : Heap) (b : Nat) (L : List Ent) : Prop where
  g : Grow h0 h
  hb : h0.next ≤ b
  at_ : h.get b = some (.cells (flat L))

theorem SB.grow {h0 h h' : Heap} {b : Nat} {L : List Ent} (s : SB h0 h b L) (g : Grow h h') : SB h0 h' b L := ⟨s.g.trans g, s.hb, g.keep _ _ s.at_⟩

theorem SB.cast {h0 h : Heap} {b : Nat} {L L' : List Ent} (s : SB h0 h b L) (e : L = L') : SB h0 h b L' := e ▸ s

theorem SB.load {h0 h : Heap} {b : Nat} {A R : List Ent} {x : Ent} {L : List Ent} (s : SB h0 h b L) (e : L = A ++ x :: R) {i : Nat} (hi : i = A.length) : h.load b (i * 3) 3 = some x.cells := by
  subst e hi
  rw [load_get s.at_ (by rw [cells_len]; simp; omega)]
  have : flat (A ++ x :: R) = flat A ++ (x.cells ++ flat R) := by simp [flat, List.flatMap_append]
  rw [this, List.drop_left' (by rw [cells_len])]
  simp [Ent.cells]

theorem splice_mid {A R : List Ent} {x y : Ent} : splice (flat (A ++ x :: R)) (A.length * 3) y.cells = flat (A ++ y :: R) := by
  have h1 : ∀ z : Ent, flat (A ++ z :: R) = flat A ++ (z.cells ++ flat R) := fun z => by simp [flat, List.flatMap_append]
  rw [h1, h1]
  unfold splice
  rw [List.take_left' (by rw [cells_len]), show (flat A ++ (x.cells ++ flat R)) = (flat A ++ x.cells) ++ flat R by simp, List.drop_left' (by simp only [List.length_append, cells_len]; simp [Ent.cells])]
  simp

theorem SB.store {E : Env} {fr : List Val} {h0 h : Heap} (w0 : Wf h0) {b : Nat} {A R : List Ent} {x y : Ent} {L : List Ent} (s : SB h0 h b L) (e : L = A ++ x :: R) {a v : Opd} {i : Nat} (hi : i = A.length) (ha : V.ev fr a = .ptr b (i * 3)) (hv : V.ev fr v = .agg y.cells) {K : Val → Heap → Prop}
    (k : ∀ h', SB h0 h' b (A ++ y :: R) → h'.next = h.next → K .undef h') : stepK E fr h (.store 3 a v) K := by
  subst e hi
  refine stepK_store (us := y.cells) ha (by rw [hv]; rfl) (by simp [Ent.cells]) s.at_ (by rw [s.g.floor]; have := w0.fl; have := s.hb; omega) (by rw [cells_len]; simp; omega) (by simp [Ent.cells, Val.one]) fun h' k' => ?_
  rw [splice_mid] at k'
  exact k h' ⟨s.g.wrote s.hb w0 k', s.hb, k'.at_⟩ k'.next

theorem sb_elt {b n cap ls i : Nat} {k : IntKind} (hi : i < n) : eltI 3 (.slice b 0 n cap ls) (.int k (i : Int)) = some (.ptr b (i * 3)) := by
  simp only [eltI]
  rw [if_pos ⟨by omega, by omega⟩]
  simp

theorem wrap_nat {n : Nat} (hn : n < 9223372036854775808) : IntKind.i64.wrap (n : Int) = (n : Int) := wrap_i64 (by omega) (by omega)

theorem wrap_add {a b : Nat} (h : a + b < 9223372036854775808) : IntKind.i64.wrap ((a : Int) + (b : Int)) = ((a + b : Nat) : Int) := by rw [wrap_i64 (by omega) (by omega)]; omega

theorem wrap_sub {a b : Nat} (h : b ≤ a) (ha : a < 9223372036854775808) : IntKind.i64.wrap ((a : Int) - (b : Int)) = ((a - b : Nat) : Int) := by rw [wrap_i64 (by omega) (by omega)]; omega

def SwpI (h0 : Heap) (b n cap ls : Nat) (P X M Y S : List Ent) (k : Nat) (fr : List Val) (h' : Heap) : Prop :=
  ∃ X1 X2 Y1 Y2 : List Ent, X = X1 ++ X2 ∧ Y = Y1 ++ Y2 ∧ Hid (X1.length = Y1.length ∧ X2.length = k ∧ Y2.length = k) ∧ SB h0 h' b (P ++ (Y1 ++ (X2 ++ (M ++ (X1 ++ (Y2 ++ S)))))) ∧
    fr.length = 38 ∧ fr.getD 0 .undef = .slice b 0 n cap ls ∧ fr.getD 1 .undef = .int .i64 (P.length : Nat) ∧ fr.getD 2 .undef = .int .i64 ((P.length + X.length + M.length : Nat) : Int) ∧ fr.getD 3 .undef = .int .i64 (X.length : Nat) ∧ fr.getD 10 .undef = .int .i64 (X1.length : Nat)

theorem swapRange_ok {h0 h : Heap} (w0 : Wf h0) {b n cap ls : Nat} {P X M Y S : List Ent} {fv : Val} (hn : n = (P ++ (X ++ (M ++ (Y ++ S)))).length) (hn2 : n ≤ 100000) (hxy : X.length = Y.length) (s : SB h0 h b (P ++ (X ++ (M ++ (Y ++ S))))) {xa xb xn : Nat} (ea : xa = P.length) (eb : xb = P.length + X.length + M.length) (en : xn = X.length) :
    WC E35 58 [.slice b 0 n cap ls, .int .i64 (xa : Nat), .int .i64 (xb : Nat), .int .i64 (xn : Nat), fv] h fun _ h' => SB h0 h' b (P ++ (Y ++ (M ++ (X ++ S)))) := by
  subst ea eb en
  refine WC.fn1 (n := 38) rfl rfl (by rfl) ?_
  intro fr hl ha
  have f0 : fr.getD 0 .undef = .slice b 0 n cap ls := ha 0
  have f1 : fr.getD 1 .undef = .int .i64 (P.length : Nat) := ha 1
  have f2 : fr.getD 2 .undef = .int .i64 ((P.length + X.length + M.length : Nat) : Int) := ha 2
  have f3 : fr.getD 3 .undef = .int .i64 (X.length : Nat) := ha 3
  clear ha
  have H := Hid.mk hxy
  replace hn := Hid.mk hn
  clear hxy
  unfold v58
  repeat' (first | refine WE.seqR ?_ | refine WO.nil ?_ | (refine WO.op1s ?_; simp only [opK, wanted, stepK, step, setDst, true_and, V.ev, *]; with_reducible show WO _ _ _ _ _) | refine WE.block ?_)
  refine WE.loop (SwpI h0 b n cap ls P X M Y S) ?_ X.length _ _ ⟨[], X, [], Y, rfl, rfl, ⟨rfl, rfl, H.out.symm⟩, s, by simp only [List.length_set, hl], by (simp only [getD_ne, reduceCtorEq, *]; try rfl), by (simp only [Nat.reduceEqDiff, getD_ne, *]; try rfl), by (simp only [Nat.reduceEqDiff, getD_ne, *]; try rfl), by (simp only [Nat.reduceEqDiff, getD_ne, *]; try rfl), by (simp only [Nat.reduceLT, getD_eq, *]; try rfl)⟩
  clear f0 f1 f2 f3 hl s
  rintro k fr h ⟨X1, X2, Y1, Y2, hX, hY, h12, s, hl, f0, f1, f2, f3, f10⟩
  subst hX hY
  match X2, Y2, k, h12 with
  | [], [], 0, _ =>
    have hd : decide ((X1.length : Int) < ((X1 ++ []).length : Nat)) = false := by simp
    repeat' (first | refine WE.assoc ?_ | refine WE.seqR ?_ | refine WO.nil ?_ | (refine WO.op1s ?_; simp only [opK, wanted, stepK, step, setDst, pureV, arith, intBin, true_and, V.ev, Nat.reduceEqDiff, Nat.reduceLT, getD_ne, getD_eq, List.length_set, if_true, *]; with_reducible show WO _ _ _ _ _) | refine WE.seqExit ?_ | (refine WE.seqCond (t := false) ?hc (fun hh => Bool.noConfusion hh) (fun _ => ?_); case hc => simp only [V.ev, Nat.reduceLT, getD_eq, List.length_set, *]) | (with_reducible show blockQ _ _ _ _ _; simp only [blockQ, if_true]))
    ((try dsimp only); refine Exists.intro _ ⟨(by (simp only [readResults, *]; try rfl)), ?_⟩)
    simpa using s
  | x :: X2, y :: Y2, k + 1, h12 =>
    have hd : decide ((X1.length : Int) < ((X1 ++ x :: X2).length : Nat)) = true := by simp; omega
    have hn' := hn.out
    have hk := h12.out
    simp only [List.length_append, List.length_cons] at hn' hk
    have e1 : IntKind.i64.wrap ((P.length : Int) + (X1.length : Int)) = ((P.length + X1.length : Nat) : Int) := wrap_add (by omega)
    have e2 : IntKind.i64.wrap (((P.length + (X1 ++ x :: X2).length + M.length : Nat) : Int) + (X1.length : Int)) = ((P.length + (X1 ++ x :: X2).length + M.length + X1.length : Nat) : Int) := wrap_add (by simp; omega)
    have e3 : IntKind.i64.wrap ((X1.length : Int) + 1) = ((X1.length + 1 : Nat) : Int) := wrap_add (b := 1) (by omega)
    have t1 : eltI 3 (.slice b 0 n cap ls) (.int .i64 ((P.length + X1.length : Nat) : Int)) = some (.ptr b ((P.length + X1.length) * 3)) := sb_elt (by omega)
    have t2 : eltI 3 (.slice b 0 n cap ls) (.int .i64 ((P.length + (X1 ++ x :: X2).length + M.length + X1.length : Nat) : Int)) = some (.ptr b ((P.length + (X1 ++ x :: X2).length + M.length + X1.length) * 3)) := sb_elt (by simp; omega)
    have q1 : P ++ (Y1 ++ (x :: X2 ++ (M ++ (X1 ++ (y :: Y2 ++ S))))) = (P ++ Y1) ++ x :: (X2 ++ (M ++ (X1 ++ (y :: Y2 ++ S)))) := by simp
    have q2 : P ++ (Y1 ++ (x :: X2 ++ (M ++ (X1 ++ (y :: Y2 ++ S))))) = (P ++ (Y1 ++ (x :: X2 ++ (M ++ X1)))) ++ y :: (Y2 ++ S) := by simp
    have l1 := s.load q1 (i := P.length + X1.length) (by simp; omega)
    have l2 := s.load q2 (i := P.length + (X1 ++ x :: X2).length + M.length + X1.length) (by simp; omega)
    replace q1 := Hid.mk q1
    clear hn' hk q2
    repeat' (first | refine WE.assoc ?_ | refine WE.seqR ?_ | refine WO.nil ?_ | refine WE.draw ?_ | (refine WO.op1s ?_; simp only [opK, wanted, stepK, step, setDst, pureV, arith, intBin, true_and, V.ev, Nat.reduceEqDiff, Nat.reduceLT, getD_ne, getD_eq, List.length_set, if_true, *]; with_reducible show WO _ _ _ _ _) | (refine WD.iaddrE ?_; simp only [setDst, List.nil_append, List.cons_append, V.ev, Nat.reduceEqDiff, Nat.reduceLT, getD_ne, getD_eq, List.length_set, *]; refine ⟨_, rfl, ?_⟩) | (refine WD.op2s ?_; simp only [opV, VOp.kind, hiddenOf, unveil_veil, veil_next, below_nil, below_cons, or_true, or_false, or_self, wanted, stepK, step, setDst, pureV, arith, intBin, Val.cells, List.nil_append, List.cons_append, true_and, List.getD_cons_zero, List.getD_cons_succ, V.ev, Nat.reduceEqDiff, Nat.reduceLT, Nat.reduceLeDiff, Bool.false_eq_true, getD_ne, getD_eq, List.length_set, if_true, if_false, reduceCtorEq, *]; with_reducible show WD _ _ _ _ _ _) | refine WE.seqSkip ?_ | (refine WE.seqCond (t := true) ?hc (fun _ => ?_) (fun hh => Bool.noConfusion hh); case hc => simp only [V.ev, Nat.reduceLT, getD_eq, List.length_set, *]) | refine WE.seqBlock ?_)
    (refine WD.op2 ?_; simp only [opV, VOp.kind, hiddenOf, wanted, setDst, or_true, List.nil_append, List.cons_append, Nat.reduceEqDiff, Nat.reduceLeDiff, if_true, *])
    refine SB.store w0 s q1.out (y := y) (i := P.length + X1.length) (by have := h12.out; simp; omega) (by (simp only [V.ev, Nat.reduceLT, getD_eq, List.length_set, *]; try rfl)) (by (simp only [V.ev, Nat.reduceEqDiff, Nat.reduceLT, getD_ne, getD_eq, List.length_set, *]; try rfl)) fun h1 s1 n1 => ?_
    clear l1 l2 n1
    repeat' (first | (refine WD.iaddrE ?_; simp only [setDst, List.nil_append, List.cons_append, V.ev, Nat.reduceEqDiff, Nat.reduceLT, getD_ne, getD_eq, List.length_set, *]; refine ⟨_, rfl, ?_⟩))
    (refine WD.op2 ?_; simp only [opV, VOp.kind, hiddenOf, wanted, setDst, or_true, List.nil_append, List.cons_append, Nat.reduceEqDiff, Nat.reduceLeDiff, if_true, *])
    have q3 : (P ++ Y1) ++ y :: (X2 ++ (M ++ (X1 ++ (y :: Y2 ++ S)))) = (P ++ (Y1 ++ (y :: X2 ++ (M ++ X1)))) ++ y :: (Y2 ++ S) := by simp
    refine SB.store w0 s1 q3 (y := x) (i := P.length + (X1 ++ x :: X2).length + M.length + X1.length) (by have := h12.out; simp; omega) (by clear q3; (simp only [V.ev, Nat.reduceLT, getD_eq, List.length_set, *]; try rfl)) (by clear q3; (simp only [V.ev, Nat.reduceEqDiff, Nat.reduceLT, getD_ne, getD_eq, List.length_set, *]; try rfl)) fun h2 s2 n2 => ?_
    clear q3 n2
    repeat' (first | refine WO.nil ?_ | refine WD.nil2 ?_ | (refine WO.op1s ?_; simp only [opK, wanted, stepK, step, setDst, pureV, arith, intBin, true_and, V.ev, Nat.reduceEqDiff, Nat.reduceLT, getD_ne, getD_eq, List.length_set, if_true, *]; with_reducible show WO _ _ _ _ _) | refine WE.region ?_)
    have hk := h12.out
    simp only [List.length_cons] at hk
    refine ⟨k, by omega, X1 ++ [x], X2, Y1 ++ [y], Y2, by simp, by simp, ⟨by simp only [List.length_append, List.length_cons, List.length_nil]; omega, by omega, by omega⟩, s2.cast (by simp), by simp only [List.length_set, hl], by clear hk; (simp only [getD_ne, reduceCtorEq, *]; try rfl), by clear hk; (simp only [Nat.reduceEqDiff, getD_ne, *]; try rfl), by clear hk; (simp only [Nat.reduceEqDiff, getD_ne, *]; try rfl), by clear hk; (simp only [Nat.reduceEqDiff, getD_ne, *]; try rfl), by clear hk; (simp only [Nat.reduceLT, getD_eq, List.length_set, *]; try rfl); simp⟩

end Go.V
end
