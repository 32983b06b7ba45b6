/-
  The functions, as the abstract machine has them. Printed by print/Print.lean.
-/
import Derived.Test.YtkmaaddlimgdoaaCore
set_option linter.unusedVariables false
set_option linter.unusedSimpArgs false
set_option linter.unusedSectionVars false
set_option maxRecDepth 100000
namespace Go.V

def v4 : VFn := ⟨134, [(4, none)],
 (.seq (.region [⟨some 2, .box (.t 0) 3, none, true, []⟩,
  ⟨some 3, .box (.t 1) 2, none, true, []⟩,
  ⟨some 4, .mov (.c (.bool false)), none, true, []⟩])
 (.seq (.region [⟨some 12, .iaddrArr 2 1 (.t 3) (.c (.int .i64 1)), none, true, []⟩,
  ⟨some 13, .load false 1 (.t 12), none, true, []⟩,
  ⟨some 5, .mov (.t 13), none, true, []⟩])
 (.seq (.region [⟨some 15, .load true 3 (.t 2), none, true, []⟩,
  ⟨some 16, .iaddrArr 2 1 (.t 3) (.c (.int .i64 0)), none, true, []⟩,
  ⟨some 17, .load false 1 (.t 16), none, true, []⟩,
  ⟨some 18, .mov (.t 5), none, true, []⟩,
  ⟨some 19, .call 14 [(.t 15), (.t 17), (.t 18)], none, true, []⟩,
  ⟨some 14, .mov (.t 19), none, true, []⟩,
  ⟨some 20, .ext (.t 14) 0, none, true, []⟩,
  ⟨some 21, .ext (.t 14) 1, none, true, []⟩,
  ⟨some 6, .mov (.t 20), none, true, []⟩,
  ⟨some 7, .mov (.t 21), none, true, []⟩])
 (.seq (.region [⟨some 23, .load true 3 (.t 2), none, true, []⟩,
  ⟨some 24, .mov (.t 5), none, true, []⟩,
  ⟨some 25, .call 15 [(.t 23), (.t 24)], none, true, []⟩,
  ⟨some 22, .mov (.t 25), none, true, []⟩,
  ⟨some 26, .ext (.t 22) 0, none, true, []⟩,
  ⟨some 27, .ext (.t 22) 1, none, true, []⟩,
  ⟨some 8, .mov (.t 26), none, true, []⟩,
  ⟨some 9, .mov (.t 27), none, true, []⟩])
 (.seq (.seq (.region [⟨some 28, .load true 3 (.t 2), none, true, []⟩,
  ⟨some 29, .call 16 [(.t 28)], none, true, []⟩,
  ⟨some 30, .mov (.t 5), none, true, []⟩,
  ⟨some 31, .call 17 [(.c (.int .i64 0)), (.t 30)], none, true, []⟩,
  ⟨some 32, .arith .mul (.t 29) (.t 31), none, true, []⟩,
  ⟨some 33, .eql false ⟨false, [(0, .i)]⟩ (.t 32) (.c (.int .i64 0)), none, true, []⟩])
 (.cond (.t 33) (.seq (.region [⟨some 34, .mov (.t 7), none, true, []⟩,
  ⟨some 35, .eql false ⟨false, [(0, .i)]⟩ (.t 34) (.c (.int .i64 4)), none, true, []⟩,
  ⟨some 36, .mov (.t 35), none, true, []⟩,
  ⟨some 37, .mov (.t 9), some (36, true), true, []⟩,
  ⟨some 38, .eql false ⟨false, [(0, .i)]⟩ (.t 37) (.c (.int .i64 4)), some (36, true), true, []⟩,
  ⟨some 39, .pick (.t 36) (.t 38) (.c (.bool false)), none, true, []⟩,
  ⟨some 40, .mov (.t 39), none, true, []⟩,
  ⟨some 41, .mov (.t 6), some (40, true), true, []⟩,
  ⟨some 42, .eql false ⟨false, [(0, .i)]⟩ (.t 41) (.c (.int .i64 0)), some (40, true), true, []⟩,
  ⟨some 43, .pick (.t 40) (.t 42) (.c (.bool false)), none, true, []⟩,
  ⟨some 44, .mov (.t 43), none, true, []⟩,
  ⟨some 45, .mov (.t 8), some (44, true), true, []⟩,
  ⟨some 46, .eql false ⟨false, [(0, .i)]⟩ (.t 45) (.c (.int .i64 0)), some (44, true), true, []⟩,
  ⟨some 47, .pick (.t 44) (.t 46) (.c (.bool false)), none, true, []⟩,
  ⟨some 48, .mov (.t 47), none, true, []⟩,
  ⟨some 49, .call 8 [], some (48, true), true, []⟩,
  ⟨some 50, .pick (.t 48) (.t 49) (.c (.bool false)), none, true, []⟩,
  ⟨some 4, .mov (.t 50), none, true, []⟩])
 .ret)
 .skip))
 (.seq (.seq (.region [⟨some 51, .mov (.t 9), none, true, []⟩,
  ⟨some 52, .eql true ⟨false, [(0, .i)]⟩ (.t 51) (.c (.int .i64 0)), none, true, []⟩,
  ⟨some 53, .mov (.t 52), none, true, []⟩,
  ⟨some 54, .mov (.t 8), some (53, false), true, []⟩,
  ⟨some 55, .faddr 2 (.t 2), some (53, false), true, []⟩,
  ⟨some 56, .load false 1 (.t 55), some (53, false), true, []⟩,
  ⟨some 57, .faddr 1 (.t 2), some (53, false), true, []⟩,
  ⟨some 58, .load false 1 (.t 57), some (53, false), true, []⟩,
  ⟨some 59, .mov (.t 5), some (53, false), true, []⟩,
  ⟨some 60, .arith .mul (.t 58) (.t 59), some (53, false), true, []⟩,
  ⟨some 61, .arith .add (.t 56) (.t 60), some (53, false), true, []⟩,
  ⟨some 62, .eql true ⟨false, [(0, .i)]⟩ (.t 54) (.t 61), some (53, false), true, []⟩,
  ⟨some 63, .pick (.t 53) (.c (.bool true)) (.t 62), none, true, []⟩])
 (.cond (.t 63) (.seq (.region [⟨some 4, .mov (.c (.bool false)), none, true, []⟩])
 .ret)
 .skip))
 (.seq (.seq (.region [⟨some 64, .iaddrArr 2 1 (.t 3) (.c (.int .i64 0)), none, true, []⟩,
  ⟨some 65, .load false 1 (.t 64), none, true, []⟩,
  ⟨some 66, .mov (.t 5), none, true, []⟩,
  ⟨some 67, .call 17 [(.t 65), (.t 66)], none, true, []⟩,
  ⟨some 68, .eql false ⟨false, [(0, .i)]⟩ (.t 67) (.c (.int .i64 0)), none, true, []⟩,
  ⟨some 69, .mov (.t 68), none, true, []⟩,
  ⟨some 70, .iaddrArr 2 1 (.t 3) (.c (.int .i64 0)), some (69, false), true, []⟩,
  ⟨some 71, .load false 1 (.t 70), some (69, false), true, []⟩,
  ⟨some 72, .faddr 2 (.t 2), some (69, false), true, []⟩,
  ⟨some 73, .load false 1 (.t 72), some (69, false), true, []⟩,
  ⟨some 74, .arith .lss (.t 71) (.t 73), some (69, false), true, []⟩,
  ⟨some 75, .pick (.t 69) (.c (.bool true)) (.t 74), none, true, []⟩])
 (.cond (.t 75) (.seq (.region [⟨some 76, .mov (.t 7), none, true, []⟩,
  ⟨some 77, .eql false ⟨false, [(0, .i)]⟩ (.t 76) (.c (.int .i64 4)), none, true, []⟩,
  ⟨some 78, .mov (.t 77), none, true, []⟩,
  ⟨some 79, .mov (.t 6), some (78, true), true, []⟩,
  ⟨some 80, .eql false ⟨false, [(0, .i)]⟩ (.t 79) (.c (.int .i64 0)), some (78, true), true, []⟩,
  ⟨some 81, .pick (.t 78) (.t 80) (.c (.bool false)), none, true, []⟩,
  ⟨some 82, .mov (.t 81), none, true, []⟩,
  ⟨some 83, .call 8 [], some (82, true), true, []⟩,
  ⟨some 84, .pick (.t 82) (.t 83) (.c (.bool false)), none, true, []⟩,
  ⟨some 4, .mov (.t 84), none, true, []⟩])
 .ret)
 .skip))
 (.seq (.seq (.region [⟨some 85, .mov (.t 7), none, true, []⟩,
  ⟨some 86, .eql true ⟨false, [(0, .i)]⟩ (.t 85) (.c (.int .i64 0)), none, true, []⟩,
  ⟨some 87, .mov (.t 86), none, true, []⟩,
  ⟨some 88, .mov (.t 6), some (87, false), true, []⟩,
  ⟨some 89, .load true 3 (.t 2), some (87, false), true, []⟩,
  ⟨some 90, .iaddrArr 2 1 (.t 3) (.c (.int .i64 0)), some (87, false), true, []⟩,
  ⟨some 91, .load false 1 (.t 90), some (87, false), true, []⟩,
  ⟨some 92, .mov (.t 5), some (87, false), true, []⟩,
  ⟨some 93, .call 18 [(.t 89), (.t 91), (.t 92)], some (87, false), true, []⟩,
  ⟨some 94, .eql true ⟨false, [(0, .i)]⟩ (.t 88) (.t 93), some (87, false), true, []⟩,
  ⟨some 95, .pick (.t 87) (.c (.bool true)) (.t 94), none, true, []⟩,
  ⟨some 96, .mov (.t 95), none, true, []⟩,
  ⟨some 97, .mov (.t 6), some (96, false), true, []⟩,
  ⟨some 98, .faddr 1 (.t 2), some (96, false), true, []⟩,
  ⟨some 99, .load false 1 (.t 98), some (96, false), true, []⟩,
  ⟨some 100, .arith .gtr (.t 97) (.t 99), some (96, false), true, []⟩,
  ⟨some 101, .pick (.t 96) (.c (.bool true)) (.t 100), none, true, []⟩,
  ⟨some 102, .mov (.t 101), none, true, []⟩,
  ⟨some 103, .mov (.t 6), some (102, false), true, []⟩,
  ⟨some 104, .eql false ⟨false, [(0, .i)]⟩ (.t 103) (.c (.int .i64 0)), some (102, false), true, []⟩,
  ⟨some 105, .iaddrArr 2 1 (.t 3) (.c (.int .i64 0)), some (102, false), true, []⟩,
  ⟨some 106, .load false 1 (.t 105), some (102, false), true, []⟩,
  ⟨some 107, .mov (.t 8), some (102, false), true, []⟩,
  ⟨some 108, .arith .geq (.t 106) (.t 107), some (102, false), true, []⟩,
  ⟨some 109, .eql true ⟨false, [(0, .b)]⟩ (.t 104) (.t 108), some (102, false), true, []⟩,
  ⟨some 110, .pick (.t 102) (.c (.bool true)) (.t 109), none, true, []⟩])
 (.cond (.t 110) (.seq (.region [⟨some 4, .mov (.c (.bool false)), none, true, []⟩])
 .ret)
 .skip))
 (.seq (.seq (.region [⟨some 111, .iaddrArr 2 1 (.t 3) (.c (.int .i64 0)), none, true, []⟩,
  ⟨some 112, .load false 1 (.t 111), none, true, []⟩,
  ⟨some 113, .arith .lss (.t 112) (.c (.int .i64 4611686018427387904)), none, true, []⟩])
 (.cond (.t 113) (.seq (.region [⟨some 115, .load true 3 (.t 2), none, true, []⟩,
  ⟨some 116, .iaddrArr 2 1 (.t 3) (.c (.int .i64 0)), none, true, []⟩,
  ⟨some 117, .load false 1 (.t 116), none, true, []⟩,
  ⟨some 118, .arith .add (.t 117) (.c (.int .i64 1)), none, true, []⟩,
  ⟨some 119, .mov (.t 5), none, true, []⟩,
  ⟨some 120, .call 14 [(.t 115), (.t 118), (.t 119)], none, true, []⟩,
  ⟨some 114, .mov (.t 120), none, true, []⟩,
  ⟨some 121, .ext (.t 114) 0, none, true, []⟩,
  ⟨some 122, .ext (.t 114) 1, none, true, []⟩,
  ⟨some 10, .mov (.t 121), none, true, []⟩,
  ⟨some 11, .mov (.t 122), none, true, []⟩])
 (.seq (.region [⟨some 123, .mov (.t 11), none, true, []⟩,
  ⟨some 124, .eql false ⟨false, [(0, .i)]⟩ (.t 123) (.c (.int .i64 0)), none, true, []⟩,
  ⟨some 125, .mov (.t 124), none, true, []⟩,
  ⟨some 126, .mov (.t 10), some (125, true), true, []⟩,
  ⟨some 127, .mov (.t 6), some (125, true), true, []⟩,
  ⟨some 128, .arith .leq (.t 126) (.t 127), some (125, true), true, []⟩,
  ⟨some 129, .pick (.t 125) (.t 128) (.c (.bool false)), none, true, []⟩,
  ⟨some 130, .mov (.t 129), none, true, []⟩,
  ⟨some 131, .call 8 [], some (130, true), true, []⟩,
  ⟨some 132, .pick (.t 130) (.t 131) (.c (.bool false)), none, true, []⟩,
  ⟨some 4, .mov (.t 132), none, true, []⟩])
 .ret))
 .skip))
 (.seq (.region [⟨some 133, .call 8 [], none, true, []⟩,
  ⟨some 4, .mov (.t 133), none, true, []⟩])
 .ret))))))))))⟩

def v7 : VFn := ⟨123, [(6, none)],
 (.seq (.region [⟨some 3, .box (.t 0) 1, none, true, []⟩,
  ⟨some 4, .box (.t 1) 3, none, true, []⟩,
  ⟨some 5, .box (.t 2) 2, none, true, []⟩,
  ⟨some 6, .mov (.c (.bool false)), none, true, []⟩])
 (.seq (.seq (.region [⟨some 21, .faddr 0 (.t 3), none, true, []⟩,
  ⟨some 22, .load false 1 (.t 21), none, true, []⟩,
  ⟨some 23, .lenOf (.t 22), none, true, []⟩,
  ⟨some 24, .arith .gtr (.t 23) (.c (.int .i64 70)), none, true, []⟩])
 (.cond (.t 24) (.seq (.region [⟨some 25, .call 8 [], none, true, []⟩,
  ⟨some 6, .mov (.t 25), none, true, []⟩])
 .ret)
 .skip))
 (.seq (.region [⟨some 7, .mov (.c .nils), none, true, []⟩])
 (.seq (.region [⟨some 26, .mov (.t 7), none, true, []⟩,
  ⟨some 27, .faddr 0 (.t 3), none, true, []⟩,
  ⟨some 28, .load false 1 (.t 27), none, true, []⟩,
  ⟨some 29, .append 3 24 (.t 26) (.t 28), none, true, []⟩,
  ⟨some 7, .mov (.t 29), none, true, []⟩])
 (.seq (.region [⟨some 31, .faddr 0 (.t 3), none, true, []⟩,
  ⟨some 32, .load false 1 (.t 31), none, true, []⟩,
  ⟨some 33, .load true 3 (.t 4), none, true, []⟩,
  ⟨some 34, .call 26 [(.t 32), (.t 33)], none, true, []⟩,
  ⟨some 30, .mov (.t 34), none, true, []⟩,
  ⟨some 35, .ext (.t 30) 0, none, true, []⟩,
  ⟨some 36, .ext (.t 30) 1, none, true, []⟩,
  ⟨some 8, .mov (.t 35), none, true, []⟩,
  ⟨some 9, .mov (.t 36), none, true, []⟩])
 (.seq (.region [⟨some 38, .faddr 0 (.t 3), none, true, []⟩,
  ⟨some 39, .load false 1 (.t 38), none, true, []⟩,
  ⟨some 40, .iaddrArr 2 1 (.t 5) (.c (.int .i64 0)), none, true, []⟩,
  ⟨some 41, .load false 1 (.t 40), none, true, []⟩,
  ⟨some 42, .call 27 [(.t 39), (.t 41)], none, true, []⟩,
  ⟨some 37, .mov (.t 42), none, true, []⟩,
  ⟨some 43, .ext (.t 37) 0, none, true, []⟩,
  ⟨some 44, .ext (.t 37) 1, none, true, []⟩,
  ⟨some 10, .mov (.t 43), none, true, []⟩,
  ⟨some 11, .mov (.t 44), none, true, []⟩])
 (.seq (.region [⟨some 46, .faddr 0 (.t 3), none, true, []⟩,
  ⟨some 47, .load false 1 (.t 46), none, true, []⟩,
  ⟨some 48, .iaddrArr 2 1 (.t 5) (.c (.int .i64 0)), none, true, []⟩,
  ⟨some 49, .load false 1 (.t 48), none, true, []⟩,
  ⟨some 50, .iaddrArr 2 1 (.t 5) (.c (.int .i64 1)), none, true, []⟩,
  ⟨some 51, .load false 1 (.t 50), none, true, []⟩,
  ⟨some 52, .call 28 [(.t 47), (.t 49), (.t 51)], none, true, []⟩,
  ⟨some 45, .mov (.t 52), none, true, []⟩,
  ⟨some 53, .ext (.t 45) 0, none, true, []⟩,
  ⟨some 54, .ext (.t 45) 1, none, true, []⟩,
  ⟨some 12, .mov (.t 53), none, true, []⟩,
  ⟨some 13, .mov (.t 54), none, true, []⟩])
 (.seq (.region [⟨some 56, .load true 1 (.t 3), none, true, []⟩,
  ⟨some 57, .load true 3 (.t 4), none, true, []⟩,
  ⟨some 58, .call 25 [(.t 56), (.t 57)], none, true, []⟩,
  ⟨some 55, .mov (.t 58), none, true, []⟩,
  ⟨some 59, .ext (.t 55) 0, none, true, []⟩,
  ⟨some 60, .ext (.t 55) 1, none, true, []⟩,
  ⟨some 14, .alloc [.nils], none, true, []⟩,
  ⟨none, .store 1 (.t 14) (.t 59), none, true, []⟩,
  ⟨some 15, .mov (.t 60), none, true, []⟩])
 (.seq (.region [⟨some 62, .load true 1 (.t 3), none, true, []⟩,
  ⟨some 63, .iaddrArr 2 1 (.t 5) (.c (.int .i64 0)), none, true, []⟩,
  ⟨some 64, .load false 1 (.t 63), none, true, []⟩,
  ⟨some 65, .call 29 [(.t 62), (.t 64)], none, true, []⟩,
  ⟨some 61, .mov (.t 65), none, true, []⟩,
  ⟨some 66, .ext (.t 61) 0, none, true, []⟩,
  ⟨some 67, .ext (.t 61) 1, none, true, []⟩,
  ⟨some 16, .alloc [.nils], none, true, []⟩,
  ⟨none, .store 1 (.t 16) (.t 66), none, true, []⟩,
  ⟨some 17, .mov (.t 67), none, true, []⟩])
 (.seq (.region [⟨some 69, .load true 1 (.t 3), none, true, []⟩,
  ⟨some 70, .iaddrArr 2 1 (.t 5) (.c (.int .i64 0)), none, true, []⟩,
  ⟨some 71, .load false 1 (.t 70), none, true, []⟩,
  ⟨some 72, .iaddrArr 2 1 (.t 5) (.c (.int .i64 1)), none, true, []⟩,
  ⟨some 73, .load false 1 (.t 72), none, true, []⟩,
  ⟨some 74, .call 23 [(.t 69), (.t 71), (.t 73)], none, true, []⟩,
  ⟨some 68, .mov (.t 74), none, true, []⟩,
  ⟨some 75, .ext (.t 68) 0, none, true, []⟩,
  ⟨some 76, .ext (.t 68) 1, none, true, []⟩,
  ⟨some 18, .alloc [.nils], none, true, []⟩,
  ⟨none, .store 1 (.t 18) (.t 75), none, true, []⟩,
  ⟨some 19, .mov (.t 76), none, true, []⟩])
 (.seq (.seq (.draw [⟨some 77, .load true 1 (.t 3), none, false, []⟩,
  ⟨some 78, .call 30 [(.t 77)], none, false, []⟩,
  ⟨some 79, .faddr 0 (.t 3), none, false, [0, 1]⟩,
  ⟨some 80, .load false 1 (.t 79), none, false, [0, 1]⟩,
  ⟨some 81, .call 31 [(.t 80)], none, true, []⟩,
  ⟨some 82, .eql true ⟨false, [(0, .i)]⟩ (.t 78) (.t 81), none, true, []⟩,
  ⟨some 83, .mov (.t 82), none, true, []⟩,
  ⟨some 84, .load true 1 (.t 14), some (83, false), false, []⟩,
  ⟨some 85, .mov (.t 15), some (83, false), false, [7]⟩,
  ⟨some 86, .mov (.t 8), some (83, false), false, [7]⟩,
  ⟨some 87, .mov (.t 9), some (83, false), false, [7]⟩,
  ⟨some 88, .call 32 [(.t 84), (.t 85), (.t 86), (.t 87)], some (83, false), false, []⟩,
  ⟨some 89, .load true 1 (.t 16), some (83, false), false, [7, 11]⟩,
  ⟨some 90, .mov (.t 17), some (83, false), false, [7, 11, 12]⟩,
  ⟨some 91, .mov (.t 10), some (83, false), false, [7, 11, 12]⟩,
  ⟨some 92, .mov (.t 11), some (83, false), false, [7, 11, 12]⟩,
  ⟨some 93, .call 32 [(.t 89), (.t 90), (.t 91), (.t 92)], some (83, false), false, []⟩,
  ⟨some 94, .arith .mul (.t 88) (.t 93), some (83, false), false, []⟩,
  ⟨some 95, .load true 1 (.t 18), some (83, false), false, [7, 11, 12, 16]⟩,
  ⟨some 96, .mov (.t 19), some (83, false), false, [7, 11, 12, 16, 18]⟩,
  ⟨some 97, .mov (.t 12), some (83, false), false, [7, 11, 12, 16, 18]⟩,
  ⟨some 98, .mov (.t 13), some (83, false), false, [7, 11, 12, 16, 18]⟩,
  ⟨some 99, .call 32 [(.t 95), (.t 96), (.t 97), (.t 98)], some (83, false), true, []⟩,
  ⟨some 100, .arith .mul (.t 94) (.t 99), some (83, false), true, []⟩,
  ⟨some 101, .eql false ⟨false, [(0, .i)]⟩ (.t 100) (.c (.int .i64 0)), some (83, false), true, []⟩,
  ⟨some 102, .pick (.t 83) (.c (.bool true)) (.t 101), none, true, []⟩])
 (.cond (.t 102) (.seq (.region [⟨some 6, .mov (.c (.bool false)), none, true, []⟩])
 .ret)
 .skip))
 (.seq (.seq (.region [⟨some 20, .mov (.c (.int .i64 0)), none, true, []⟩])
 (.block 0 (.loop (.seq (.seq (.region [⟨some 103, .mov (.t 20), none, true, []⟩,
  ⟨some 104, .faddr 0 (.t 18), none, true, []⟩,
  ⟨some 105, .load false 1 (.t 104), none, true, []⟩,
  ⟨some 106, .lenOf (.t 105), none, true, []⟩,
  ⟨some 107, .arith .lss (.t 103) (.t 106), none, true, []⟩])
 (.cond (.t 107) .skip
 (.exit 0)))
 (.seq (.block 1 (.region [⟨some 110, .faddr 0 (.t 18), none, true, []⟩,
  ⟨some 111, .load false 1 (.t 110), none, true, []⟩,
  ⟨some 112, .mov (.t 20), none, true, []⟩,
  ⟨some 113, .iaddr 3 (.t 111) (.t 112), none, true, []⟩,
  ⟨some 114, .faddr 0 (.t 113), none, true, []⟩,
  ⟨none, .store 1 (.t 114) (.c (.int .i64 (-1))), none, true, []⟩]))
 (.region [⟨some 108, .mov (.t 20), none, true, []⟩,
  ⟨some 109, .arith .add (.t 108) (.c (.int .i64 1)), none, true, []⟩,
  ⟨some 20, .mov (.t 109), none, true, []⟩]))))))
 (.seq (.region [⟨some 115, .faddr 0 (.t 3), none, true, []⟩,
  ⟨some 116, .load false 1 (.t 115), none, true, []⟩,
  ⟨some 117, .mov (.t 7), none, true, []⟩,
  ⟨some 118, .call 33 [(.t 116), (.t 117)], none, true, []⟩,
  ⟨some 119, .eql false ⟨false, [(0, .i)]⟩ (.t 118) (.c (.int .i64 1)), none, true, []⟩,
  ⟨some 120, .mov (.t 119), none, true, []⟩,
  ⟨some 121, .call 8 [], some (120, true), true, []⟩,
  ⟨some 122, .pick (.t 120) (.t 121) (.c (.bool false)), none, true, []⟩,
  ⟨some 6, .mov (.t 122), none, true, []⟩])
 .ret)))))))))))))⟩

def v8 : VFn := ⟨190, [(0, none)],
 (.seq (.region [⟨some 0, .mov (.c (.bool false)), none, true, []⟩])
 (.seq (.region [⟨some 17, .call 34 [], none, true, []⟩,
  ⟨some 1, .alloc [.nils], none, true, []⟩,
  ⟨none, .store 1 (.t 1) (.t 17), none, true, []⟩])
 (.seq (.seq (.draw [⟨some 18, .load true 1 (.t 1), none, false, []⟩,
  ⟨some 19, .bslice 3 [(.int .i64 0), (.int .i64 0), (.int .i64 0)] [(0, 1, (.c (.int .i64 5))), (1, 1, (.c (.int .i64 3))), (2, 1, (.c (.int .i64 8)))], none, false, [0]⟩,
  ⟨some 20, .call 35 [(.t 18), (.c (.int .i64 4)), (.c (.int .i64 4)), (.t 19)], none, false, []⟩,
  ⟨some 21, .load true 1 (.t 1), none, false, [0, 1, 2]⟩,
  ⟨some 22, .bslice 3 [(.int .i64 0), (.int .i64 0), (.int .i64 0)] [(0, 1, (.c (.int .i64 3))), (1, 1, (.c (.int .i64 5))), (2, 1, (.c (.int .i64 8)))], none, false, [0, 1, 2, 3]⟩,
  ⟨some 23, .call 35 [(.t 21), (.c (.int .i64 4)), (.c (.int .i64 2)), (.t 22)], none, false, []⟩,
  ⟨some 24, .arith .mul (.t 20) (.t 23), none, false, []⟩,
  ⟨some 25, .load true 1 (.t 1), none, false, [0, 1, 2, 3, 4, 5]⟩,
  ⟨some 26, .bslice 3 [(.int .i64 0), (.int .i64 0), (.int .i64 0)] [(0, 1, (.c (.int .i64 3))), (1, 1, (.c (.int .i64 5))), (2, 1, (.c (.int .i64 8)))], none, false, [0, 1, 2, 3, 4, 5, 7]⟩,
  ⟨some 27, .call 35 [(.t 25), (.c (.int .i64 8)), (.c (.int .i64 4)), (.t 26)], none, true, []⟩,
  ⟨some 28, .arith .mul (.t 24) (.t 27), none, true, []⟩,
  ⟨some 29, .eql false ⟨false, [(0, .i)]⟩ (.t 28) (.c (.int .i64 0)), none, true, []⟩,
  ⟨some 30, .mov (.t 29), none, true, []⟩,
  ⟨some 31, .faddr 0 (.t 1), some (30, false), true, []⟩,
  ⟨some 32, .load false 1 (.t 31), some (30, false), true, []⟩,
  ⟨some 33, .lenOf (.t 32), some (30, false), true, []⟩,
  ⟨some 34, .eql true ⟨false, [(0, .i)]⟩ (.t 33) (.c (.int .i64 3)), some (30, false), true, []⟩,
  ⟨some 35, .pick (.t 30) (.c (.bool true)) (.t 34), none, true, []⟩])
 (.cond (.t 35) (.seq (.region [⟨some 0, .mov (.c (.bool false)), none, true, []⟩])
 .ret)
 .skip))
 (.seq (.region [⟨some 37, .faddr 0 (.t 1), none, true, []⟩,
  ⟨some 38, .load false 1 (.t 37), none, true, []⟩,
  ⟨some 39, .iaddr 3 (.t 38) (.c (.int .i64 0)), none, true, []⟩,
  ⟨some 40, .load true 3 (.t 39), none, true, []⟩,
  ⟨some 41, .call 14 [(.t 40), (.c (.int .i64 3)), (.c (.int .i64 4))], none, true, []⟩,
  ⟨some 36, .mov (.t 41), none, true, []⟩,
  ⟨some 42, .ext (.t 36) 0, none, true, []⟩,
  ⟨some 43, .ext (.t 36) 1, none, true, []⟩,
  ⟨some 2, .mov (.t 42), none, true, []⟩,
  ⟨some 3, .mov (.t 43), none, true, []⟩])
 (.seq (.region [⟨some 45, .faddr 0 (.t 1), none, true, []⟩,
  ⟨some 46, .load false 1 (.t 45), none, true, []⟩,
  ⟨some 47, .iaddr 3 (.t 46) (.c (.int .i64 0)), none, true, []⟩,
  ⟨some 48, .load true 3 (.t 47), none, true, []⟩,
  ⟨some 49, .call 14 [(.t 48), (.c (.int .i64 4)), (.c (.int .i64 4))], none, true, []⟩,
  ⟨some 44, .mov (.t 49), none, true, []⟩,
  ⟨some 50, .ext (.t 44) 0, none, true, []⟩,
  ⟨some 51, .ext (.t 44) 1, none, true, []⟩,
  ⟨some 4, .mov (.t 50), none, true, []⟩,
  ⟨some 5, .mov (.t 51), none, true, []⟩])
 (.seq (.region [⟨some 53, .faddr 0 (.t 1), none, true, []⟩,
  ⟨some 54, .load false 1 (.t 53), none, true, []⟩,
  ⟨some 55, .iaddr 3 (.t 54) (.c (.int .i64 2)), none, true, []⟩,
  ⟨some 56, .load true 3 (.t 55), none, true, []⟩,
  ⟨some 57, .call 14 [(.t 56), (.c (.int .i64 4)), (.c (.int .i64 4))], none, true, []⟩,
  ⟨some 52, .mov (.t 57), none, true, []⟩,
  ⟨some 58, .ext (.t 52) 0, none, true, []⟩,
  ⟨some 59, .ext (.t 52) 1, none, true, []⟩,
  ⟨some 6, .mov (.t 58), none, true, []⟩,
  ⟨some 7, .mov (.t 59), none, true, []⟩])
 (.seq (.region [⟨some 61, .faddr 0 (.t 1), none, true, []⟩,
  ⟨some 62, .load false 1 (.t 61), none, true, []⟩,
  ⟨some 63, .iaddr 3 (.t 62) (.c (.int .i64 0)), none, true, []⟩,
  ⟨some 64, .load true 3 (.t 63), none, true, []⟩,
  ⟨some 65, .call 15 [(.t 64), (.c (.int .i64 4))], none, true, []⟩,
  ⟨some 60, .mov (.t 65), none, true, []⟩,
  ⟨some 66, .ext (.t 60) 0, none, true, []⟩,
  ⟨some 67, .ext (.t 60) 1, none, true, []⟩,
  ⟨some 8, .mov (.t 66), none, true, []⟩,
  ⟨some 9, .mov (.t 67), none, true, []⟩])
 (.seq (.seq (.region [⟨some 68, .mov (.t 3), none, true, []⟩,
  ⟨some 69, .eql true ⟨false, [(0, .i)]⟩ (.t 68) (.c (.int .i64 0)), none, true, []⟩,
  ⟨some 70, .mov (.t 69), none, true, []⟩,
  ⟨some 71, .mov (.t 5), some (70, false), true, []⟩,
  ⟨some 72, .eql true ⟨false, [(0, .i)]⟩ (.t 71) (.c (.int .i64 0)), some (70, false), true, []⟩,
  ⟨some 73, .pick (.t 70) (.c (.bool true)) (.t 72), none, true, []⟩,
  ⟨some 74, .mov (.t 73), none, true, []⟩,
  ⟨some 75, .mov (.t 7), some (74, false), true, []⟩,
  ⟨some 76, .eql true ⟨false, [(0, .i)]⟩ (.t 75) (.c (.int .i64 0)), some (74, false), true, []⟩,
  ⟨some 77, .pick (.t 74) (.c (.bool true)) (.t 76), none, true, []⟩,
  ⟨some 78, .mov (.t 77), none, true, []⟩,
  ⟨some 79, .mov (.t 9), some (78, false), true, []⟩,
  ⟨some 80, .eql true ⟨false, [(0, .i)]⟩ (.t 79) (.c (.int .i64 0)), some (78, false), true, []⟩,
  ⟨some 81, .pick (.t 78) (.c (.bool true)) (.t 80), none, true, []⟩,
  ⟨some 82, .mov (.t 81), none, true, []⟩,
  ⟨some 83, .mov (.t 2), some (82, false), true, []⟩,
  ⟨some 84, .eql true ⟨false, [(0, .i)]⟩ (.t 83) (.c (.int .i64 2)), some (82, false), true, []⟩,
  ⟨some 85, .pick (.t 82) (.c (.bool true)) (.t 84), none, true, []⟩,
  ⟨some 86, .mov (.t 85), none, true, []⟩,
  ⟨some 87, .mov (.t 4), some (86, false), true, []⟩,
  ⟨some 88, .eql true ⟨false, [(0, .i)]⟩ (.t 87) (.c (.int .i64 1)), some (86, false), true, []⟩,
  ⟨some 89, .pick (.t 86) (.c (.bool true)) (.t 88), none, true, []⟩,
  ⟨some 90, .mov (.t 89), none, true, []⟩,
  ⟨some 91, .mov (.t 6), some (90, false), true, []⟩,
  ⟨some 92, .eql true ⟨false, [(0, .i)]⟩ (.t 91) (.c (.int .i64 1)), some (90, false), true, []⟩,
  ⟨some 93, .pick (.t 90) (.c (.bool true)) (.t 92), none, true, []⟩,
  ⟨some 94, .mov (.t 93), none, true, []⟩,
  ⟨some 95, .mov (.t 8), some (94, false), true, []⟩,
  ⟨some 96, .eql true ⟨false, [(0, .i)]⟩ (.t 95) (.c (.int .i64 8)), some (94, false), true, []⟩,
  ⟨some 97, .pick (.t 94) (.c (.bool true)) (.t 96), none, true, []⟩])
 (.cond (.t 97) (.seq (.region [⟨some 0, .mov (.c (.bool false)), none, true, []⟩])
 .ret)
 .skip))
 (.seq (.region [⟨some 99, .load true 1 (.t 1), none, true, []⟩,
  ⟨some 100, .bslice 2 [(.int .i64 0), (.int .i64 0)] [(0, 1, (.c (.int .i64 8))), (1, 1, (.c (.int .i64 3)))], none, true, []⟩,
  ⟨some 101, .call 11 [(.t 99), (.c (.int .i64 4)), (.c (.int .i64 4)), (.t 100)], none, true, []⟩,
  ⟨some 98, .mov (.t 101), none, true, []⟩,
  ⟨some 102, .ext (.t 98) 0, none, true, []⟩,
  ⟨some 103, .ext (.t 98) 1, none, true, []⟩,
  ⟨some 104, .ext (.t 98) 2, none, true, []⟩,
  ⟨some 10, .mov (.t 102), none, true, []⟩,
  ⟨some 11, .mov (.t 103), none, true, []⟩,
  ⟨some 3, .mov (.t 104), none, true, []⟩])
 (.seq (.region [⟨some 106, .load true 1 (.t 1), none, true, []⟩,
  ⟨some 107, .bslice 1 [(.int .i64 0)] [(0, 1, (.c (.int .i64 4)))], none, true, []⟩,
  ⟨some 108, .call 11 [(.t 106), (.c (.int .i64 4)), (.c (.int .i64 4)), (.t 107)], none, true, []⟩,
  ⟨some 105, .mov (.t 108), none, true, []⟩,
  ⟨some 109, .ext (.t 105) 0, none, true, []⟩,
  ⟨some 110, .ext (.t 105) 1, none, true, []⟩,
  ⟨some 111, .ext (.t 105) 2, none, true, []⟩,
  ⟨some 12, .mov (.t 109), none, true, []⟩,
  ⟨some 13, .mov (.t 110), none, true, []⟩,
  ⟨some 5, .mov (.t 111), none, true, []⟩])
 (.seq (.region [⟨some 113, .load true 1 (.t 1), none, true, []⟩,
  ⟨some 114, .call 23 [(.t 113), (.c (.int .i64 8)), (.c (.int .i64 0))], none, true, []⟩,
  ⟨some 112, .mov (.t 114), none, true, []⟩,
  ⟨some 115, .ext (.t 112) 0, none, true, []⟩,
  ⟨some 116, .ext (.t 112) 1, none, true, []⟩,
  ⟨some 14, .alloc [.nils], none, true, []⟩,
  ⟨none, .store 1 (.t 14) (.t 115), none, true, []⟩,
  ⟨some 7, .mov (.t 116), none, true, []⟩])
 (.seq (.seq (.region [⟨some 117, .mov (.t 3), none, true, []⟩,
  ⟨some 118, .eql true ⟨false, [(0, .i)]⟩ (.t 117) (.c (.int .i64 0)), none, true, []⟩,
  ⟨some 119, .mov (.t 118), none, true, []⟩,
  ⟨some 120, .mov (.t 5), some (119, false), true, []⟩,
  ⟨some 121, .eql true ⟨false, [(0, .i)]⟩ (.t 120) (.c (.int .i64 0)), some (119, false), true, []⟩,
  ⟨some 122, .pick (.t 119) (.c (.bool true)) (.t 121), none, true, []⟩,
  ⟨some 123, .mov (.t 122), none, true, []⟩,
  ⟨some 124, .mov (.t 7), some (123, false), true, []⟩,
  ⟨some 125, .eql true ⟨false, [(0, .i)]⟩ (.t 124) (.c (.int .i64 0)), some (123, false), true, []⟩,
  ⟨some 126, .pick (.t 123) (.c (.bool true)) (.t 125), none, true, []⟩,
  ⟨some 127, .mov (.t 126), none, true, []⟩,
  ⟨some 128, .mov (.t 11), some (127, false), true, []⟩,
  ⟨some 129, .un .not (.t 128), some (127, false), true, []⟩,
  ⟨some 130, .pick (.t 127) (.c (.bool true)) (.t 129), none, true, []⟩,
  ⟨some 131, .mov (.t 130), none, true, []⟩,
  ⟨some 132, .mov (.t 10), some (131, false), true, []⟩,
  ⟨some 133, .eql true ⟨false, [(0, .i)]⟩ (.t 132) (.c (.int .i64 3)), some (131, false), true, []⟩,
  ⟨some 134, .pick (.t 131) (.c (.bool true)) (.t 133), none, true, []⟩,
  ⟨some 135, .mov (.t 134), none, true, []⟩,
  ⟨some 136, .mov (.t 13), some (135, false), true, []⟩,
  ⟨some 137, .pick (.t 135) (.c (.bool true)) (.t 136), none, true, []⟩,
  ⟨some 138, .mov (.t 137), none, true, []⟩,
  ⟨some 139, .load true 1 (.t 14), some (138, false), true, []⟩,
  ⟨some 140, .bslice 3 [(.int .i64 0), (.int .i64 0), (.int .i64 0)] [(0, 1, (.c (.int .i64 5))), (1, 1, (.c (.int .i64 8))), (2, 1, (.c (.int .i64 3)))], some (138, false), true, []⟩,
  ⟨some 141, .call 35 [(.t 139), (.c (.int .i64 4)), (.c (.int .i64 4)), (.t 140)], some (138, false), true, []⟩,
  ⟨some 142, .eql false ⟨false, [(0, .i)]⟩ (.t 141) (.c (.int .i64 0)), some (138, false), true, []⟩,
  ⟨some 143, .pick (.t 138) (.c (.bool true)) (.t 142), none, true, []⟩])
 (.cond (.t 143) (.seq (.region [⟨some 0, .mov (.c (.bool false)), none, true, []⟩])
 .ret)
 .skip))
 (.seq (.region [⟨some 145, .load true 1 (.t 1), none, true, []⟩,
  ⟨some 146, .call 23 [(.t 145), (.c (.int .i64 4)), (.c (.int .i64 0))], none, true, []⟩,
  ⟨some 144, .mov (.t 146), none, true, []⟩,
  ⟨some 147, .ext (.t 144) 0, none, true, []⟩,
  ⟨some 148, .ext (.t 144) 1, none, true, []⟩,
  ⟨some 3, .mov (.t 148), none, true, []⟩])
 (.seq (.region [⟨some 150, .load true 1 (.t 1), none, true, []⟩,
  ⟨some 151, .call 23 [(.t 150), (.c (.int .i64 3)), (.c (.int .i64 8))], none, true, []⟩,
  ⟨some 149, .mov (.t 151), none, true, []⟩,
  ⟨some 152, .ext (.t 149) 0, none, true, []⟩,
  ⟨some 153, .ext (.t 149) 1, none, true, []⟩,
  ⟨some 5, .mov (.t 153), none, true, []⟩])
 (.seq (.region [⟨some 155, .load true 1 (.t 1), none, true, []⟩,
  ⟨some 156, .build [(.int .i64 0), (.int .i64 0), (.int .i64 0)] [(0, 1, (.c (.int .i64 8))), (2, 1, (.c (.int .i64 4)))], none, true, []⟩,
  ⟨some 157, .call 25 [(.t 155), (.t 156)], none, true, []⟩,
  ⟨some 154, .mov (.t 157), none, true, []⟩,
  ⟨some 158, .ext (.t 154) 0, none, true, []⟩,
  ⟨some 159, .ext (.t 154) 1, none, true, []⟩,
  ⟨some 7, .mov (.t 159), none, true, []⟩])
 (.seq (.region [⟨some 161, .load true 1 (.t 1), none, true, []⟩,
  ⟨some 162, .build [(.int .i64 0), (.int .i64 0), (.int .i64 0)] [(0, 1, (.c (.int .i64 9))), (2, 1, (.c (.int .i64 3)))], none, true, []⟩,
  ⟨some 163, .call 25 [(.t 161), (.t 162)], none, true, []⟩,
  ⟨some 160, .mov (.t 163), none, true, []⟩,
  ⟨some 164, .ext (.t 160) 0, none, true, []⟩,
  ⟨some 165, .ext (.t 160) 1, none, true, []⟩,
  ⟨some 9, .mov (.t 165), none, true, []⟩])
 (.seq (.region [⟨some 167, .load true 1 (.t 1), none, true, []⟩,
  ⟨some 168, .build [(.int .i64 0), (.int .i64 0), (.int .i64 0)] [(0, 1, (.c (.int .i64 9))), (2, 1, (.c (.int .i64 4))), (1, 1, (.c (.int .i64 8)))], none, true, []⟩,
  ⟨some 169, .call 25 [(.t 167), (.t 168)], none, true, []⟩,
  ⟨some 166, .mov (.t 169), none, true, []⟩,
  ⟨some 170, .ext (.t 166) 0, none, true, []⟩,
  ⟨some 171, .ext (.t 166) 1, none, true, []⟩,
  ⟨some 15, .alloc [.nils], none, true, []⟩,
  ⟨none, .store 1 (.t 15) (.t 170), none, true, []⟩,
  ⟨some 16, .mov (.t 171), none, true, []⟩])
 (.seq (.region [⟨some 172, .mov (.t 3), none, true, []⟩,
  ⟨some 173, .eql false ⟨false, [(0, .i)]⟩ (.t 172) (.c (.int .i64 8)), none, true, []⟩,
  ⟨some 174, .mov (.t 173), none, true, []⟩,
  ⟨some 175, .mov (.t 5), some (174, true), true, []⟩,
  ⟨some 176, .eql false ⟨false, [(0, .i)]⟩ (.t 175) (.c (.int .i64 4)), some (174, true), true, []⟩,
  ⟨some 177, .pick (.t 174) (.t 176) (.c (.bool false)), none, true, []⟩,
  ⟨some 178, .mov (.t 177), none, true, []⟩,
  ⟨some 179, .mov (.t 7), some (178, true), true, []⟩,
  ⟨some 180, .eql false ⟨false, [(0, .i)]⟩ (.t 179) (.c (.int .i64 18)), some (178, true), true, []⟩,
  ⟨some 181, .pick (.t 178) (.t 180) (.c (.bool false)), none, true, []⟩,
  ⟨some 182, .mov (.t 181), none, true, []⟩,
  ⟨some 183, .mov (.t 9), some (182, true), true, []⟩,
  ⟨some 184, .eql false ⟨false, [(0, .i)]⟩ (.t 183) (.c (.int .i64 18)), some (182, true), true, []⟩,
  ⟨some 185, .pick (.t 182) (.t 184) (.c (.bool false)), none, true, []⟩,
  ⟨some 186, .mov (.t 185), none, true, []⟩,
  ⟨some 187, .mov (.t 16), some (186, true), true, []⟩,
  ⟨some 188, .eql false ⟨false, [(0, .i)]⟩ (.t 187) (.c (.int .i64 4)), some (186, true), true, []⟩,
  ⟨some 189, .pick (.t 186) (.t 188) (.c (.bool false)), none, true, []⟩,
  ⟨some 0, .mov (.t 189), none, true, []⟩])
 .ret))))))))))))))))))⟩

def v9 : VFn := ⟨67, [(6, none), (7, none)],
 (.seq (.region [⟨some 6, .mov (.c .nils), none, true, []⟩,
  ⟨some 7, .mov (.c (.int .i64 0)), none, true, []⟩])
 (.seq (.seq (.region [⟨some 13, .mov (.t 0), none, true, []⟩,
  ⟨some 14, .call 31 [(.t 13)], none, true, []⟩,
  ⟨some 15, .arith .gtr (.t 14) (.c (.int .i64 0)), none, true, []⟩])
 (.cond (.t 15) (.seq (.region [⟨some 16, .mov (.t 0), none, true, []⟩,
  ⟨some 17, .call 31 [(.t 16)], none, true, []⟩,
  ⟨some 6, .mov (.c .nils), none, true, []⟩,
  ⟨some 7, .mov (.t 17), none, true, []⟩])
 .ret)
 .skip))
 (.seq (.region [⟨some 8, .mov (.c (.int .i64 0)), none, true, []⟩])
 (.seq (.seq (.region [⟨some 9, .mov (.c (.int .i64 0)), none, true, []⟩])
 (.block 0 (.loop (.seq (.seq (.region [⟨some 18, .mov (.t 9), none, true, []⟩,
  ⟨some 19, .mov (.t 0), none, true, []⟩,
  ⟨some 20, .lenOf (.t 19), none, true, []⟩,
  ⟨some 21, .arith .lss (.t 18) (.t 20), none, true, []⟩])
 (.cond (.t 21) .skip
 (.exit 0)))
 (.seq (.block 1 (.seq (.region [⟨some 24, .mov (.t 1), none, true, []⟩,
  ⟨some 25, .mov (.t 0), none, true, []⟩,
  ⟨some 26, .mov (.t 9), none, true, []⟩,
  ⟨some 27, .iaddr 3 (.t 25) (.t 26), none, true, []⟩,
  ⟨some 28, .faddr 2 (.t 27), none, true, []⟩,
  ⟨some 29, .load false 1 (.t 28), none, true, []⟩,
  ⟨some 30, .arith .lss (.t 24) (.t 29), none, true, []⟩])
 (.cond (.t 30) (.region [⟨some 8, .mov (.c (.int .i64 4)), none, true, []⟩])
 .skip)))
 (.region [⟨some 22, .mov (.t 9), none, true, []⟩,
  ⟨some 23, .arith .add (.t 22) (.c (.int .i64 1)), none, true, []⟩,
  ⟨some 9, .mov (.t 23), none, true, []⟩]))))))
 (.seq (.seq (.region [⟨some 31, .mov (.t 1), none, true, []⟩,
  ⟨some 32, .mov (.t 2), none, true, []⟩,
  ⟨some 33, .call 17 [(.t 31), (.t 32)], none, true, []⟩,
  ⟨some 34, .eql false ⟨false, [(0, .i)]⟩ (.t 33) (.c (.int .i64 0)), none, true, []⟩,
  ⟨some 35, .mov (.t 34), none, true, []⟩,
  ⟨some 36, .mov (.t 8), some (35, false), true, []⟩,
  ⟨some 37, .arith .gtr (.t 36) (.c (.int .i64 0)), some (35, false), true, []⟩,
  ⟨some 38, .pick (.t 35) (.c (.bool true)) (.t 37), none, true, []⟩])
 (.cond (.t 38) (.seq (.region [⟨some 6, .mov (.c .nils), none, true, []⟩,
  ⟨some 7, .mov (.c (.int .i64 4)), none, true, []⟩])
 .ret)
 .skip))
 (.seq (.region [⟨some 10, .mov (.c .nils), none, true, []⟩])
 (.seq (.seq (.region [⟨some 11, .mov (.c (.int .i64 0)), none, true, []⟩])
 (.block 2 (.loop (.seq (.seq (.region [⟨some 39, .mov (.t 11), none, true, []⟩,
  ⟨some 40, .arith .lss (.t 39) (.c (.int .i64 8)), none, true, []⟩])
 (.cond (.t 40) .skip
 (.exit 2)))
 (.seq (.block 3 (.seq (.region [⟨some 12, .mov (.c (.int .i64 0)), none, true, []⟩])
 (.block 4 (.loop (.seq (.seq (.region [⟨some 43, .mov (.t 12), none, true, []⟩,
  ⟨some 44, .mov (.t 0), none, true, []⟩,
  ⟨some 45, .lenOf (.t 44), none, true, []⟩,
  ⟨some 46, .arith .lss (.t 43) (.t 45), none, true, []⟩])
 (.cond (.t 46) .skip
 (.exit 4)))
 (.seq (.block 5 (.seq (.region [⟨some 49, .mov (.t 0), none, true, []⟩,
  ⟨some 50, .mov (.t 12), none, true, []⟩,
  ⟨some 51, .iaddr 3 (.t 49) (.t 50), none, true, []⟩,
  ⟨some 52, .load true 3 (.t 51), none, true, []⟩,
  ⟨some 53, .mov (.t 1), none, true, []⟩,
  ⟨some 54, .mov (.t 2), none, true, []⟩,
  ⟨some 55, .call 18 [(.t 52), (.t 53), (.t 54)], none, true, []⟩,
  ⟨some 56, .mov (.t 11), none, true, []⟩,
  ⟨some 57, .eql false ⟨false, [(0, .i)]⟩ (.t 55) (.t 56), none, true, []⟩])
 (.cond (.t 57) (.region [⟨some 58, .mov (.t 10), none, true, []⟩,
  ⟨some 59, .mov (.t 0), none, true, []⟩,
  ⟨some 60, .mov (.t 12), none, true, []⟩,
  ⟨some 61, .iaddr 3 (.t 59) (.t 60), none, true, []⟩,
  ⟨some 62, .faddr 0 (.t 61), none, true, []⟩,
  ⟨some 63, .load false 1 (.t 62), none, true, []⟩,
  ⟨some 64, .bslice 1 [(.int .i64 0)] [(0, 1, (.t 63))], none, true, []⟩,
  ⟨some 65, .append 1 8 (.t 58) (.t 64), none, true, []⟩,
  ⟨some 10, .mov (.t 65), none, true, []⟩])
 .skip)))
 (.region [⟨some 47, .mov (.t 12), none, true, []⟩,
  ⟨some 48, .arith .add (.t 47) (.c (.int .i64 1)), none, true, []⟩,
  ⟨some 12, .mov (.t 48), none, true, []⟩])))))))
 (.region [⟨some 41, .mov (.t 11), none, true, []⟩,
  ⟨some 42, .arith .add (.t 41) (.c (.int .i64 1)), none, true, []⟩,
  ⟨some 11, .mov (.t 42), none, true, []⟩]))))))
 (.seq (.region [⟨some 66, .mov (.t 10), none, true, []⟩,
  ⟨some 6, .mov (.t 66), none, true, []⟩,
  ⟨some 7, .mov (.c (.int .i64 0)), none, true, []⟩])
 .ret))))))))⟩

def v10 : VFn := ⟨71, [(6, none), (7, none)],
 (.seq (.region [⟨some 3, .box (.t 0) 1, none, true, []⟩,
  ⟨some 6, .mov (.c .nils), none, true, []⟩,
  ⟨some 7, .mov (.c (.int .i64 0)), none, true, []⟩])
 (.seq (.seq (.region [⟨some 14, .load true 1 (.t 3), none, true, []⟩,
  ⟨some 15, .call 30 [(.t 14)], none, true, []⟩,
  ⟨some 8, .mov (.t 15), none, true, []⟩])
 (.seq (.region [⟨some 16, .mov (.t 8), none, true, []⟩,
  ⟨some 17, .eql true ⟨false, [(0, .i)]⟩ (.t 16) (.c (.int .i64 0)), none, true, []⟩])
 (.cond (.t 17) (.seq (.region [⟨some 18, .mov (.t 8), none, true, []⟩,
  ⟨some 6, .mov (.c .nils), none, true, []⟩,
  ⟨some 7, .mov (.t 18), none, true, []⟩])
 .ret)
 .skip)))
 (.seq (.region [⟨some 19, .mov (.t 1), none, true, []⟩,
  ⟨some 20, .mov (.t 2), none, true, []⟩,
  ⟨some 21, .build [(.int .i64 0), (.int .i64 0)] [(0, 1, (.t 19)), (1, 1, (.t 20))], none, true, []⟩,
  ⟨some 9, .alloc [(.int .i64 0), (.int .i64 0)], none, true, []⟩,
  ⟨none, .store 2 (.t 9) (.t 21), none, true, []⟩])
 (.seq (.seq (.region [⟨some 22, .load true 2 (.t 9), none, true, []⟩,
  ⟨some 23, .call 36 [(.t 22)], none, true, []⟩,
  ⟨some 24, .un .not (.t 23), none, true, []⟩,
  ⟨some 25, .mov (.t 24), none, true, []⟩,
  ⟨some 26, .faddr 0 (.t 3), some (25, false), true, []⟩,
  ⟨some 27, .load false 1 (.t 26), some (25, false), true, []⟩,
  ⟨some 28, .lenOf (.t 27), some (25, false), true, []⟩,
  ⟨some 29, .arith .gtr (.t 28) (.c (.int .i64 0)), some (25, false), true, []⟩,
  ⟨some 30, .mov (.t 29), some (25, false), true, []⟩,
  ⟨some 31, .mov (.t 1), some (30, true), true, []⟩,
  ⟨some 32, .faddr 0 (.t 3), some (30, true), true, []⟩,
  ⟨some 33, .load false 1 (.t 32), some (30, true), true, []⟩,
  ⟨some 34, .faddr 0 (.t 3), some (30, true), true, []⟩,
  ⟨some 35, .load false 1 (.t 34), some (30, true), true, []⟩,
  ⟨some 36, .lenOf (.t 35), some (30, true), true, []⟩,
  ⟨some 37, .arith .sub (.t 36) (.c (.int .i64 1)), some (30, true), true, []⟩,
  ⟨some 38, .iaddr 3 (.t 33) (.t 37), some (30, true), true, []⟩,
  ⟨some 39, .faddr 2 (.t 38), some (30, true), true, []⟩,
  ⟨some 40, .load false 1 (.t 39), some (30, true), true, []⟩,
  ⟨some 41, .arith .lss (.t 31) (.t 40), some (30, true), true, []⟩,
  ⟨some 42, .pick (.t 30) (.t 41) (.c (.bool false)), some (25, false), true, []⟩,
  ⟨some 43, .pick (.t 25) (.c (.bool true)) (.t 42), none, true, []⟩])
 (.cond (.t 43) (.seq (.region [⟨some 6, .mov (.c .nils), none, true, []⟩,
  ⟨some 7, .mov (.c (.int .i64 4)), none, true, []⟩])
 .ret)
 .skip))
 (.seq (.region [⟨some 44, .faddr 0 (.t 3), none, true, []⟩,
  ⟨some 45, .load false 1 (.t 44), none, true, []⟩,
  ⟨some 46, .bslice 1 [.nils] [(0, 1, (.t 45))], none, true, []⟩,
  ⟨some 47, .call 37 [(.t 46)], none, true, []⟩,
  ⟨some 10, .mov (.t 47), none, true, []⟩])
 (.seq (.region [⟨some 48, .mov (.t 10), none, true, []⟩,
  ⟨some 49, .load true 2 (.t 9), none, true, []⟩,
  ⟨some 50, .mkfunc (.func 39) [(.t 49)] [], none, true, []⟩,
  ⟨some 51, .call 38 [(.t 48), (.t 50)], none, true, []⟩])
 (.seq (.region [⟨some 52, .mov (.t 10), none, true, []⟩,
  ⟨some 53, .lenOf (.t 52), none, true, []⟩,
  ⟨some 54, .mkslice 1 8 [(.int .i64 0)] (.t 53) (.t 53), none, true, []⟩,
  ⟨some 11, .mov (.t 54), none, true, []⟩])
 (.seq (.seq (.region [⟨some 55, .mov (.t 10), none, true, []⟩,
  ⟨some 56, .lenOf (.t 55), none, true, []⟩,
  ⟨some 57, .mov (.c (.int .i64 0)), none, true, []⟩])
 (.block 0 (.loop (.seq (.region [⟨some 58, .arith .lss (.t 57) (.t 56), none, true, []⟩])
 (.seq (.cond (.t 58) .skip
 (.exit 0))
 (.seq (.block 1 (.seq (.region [⟨some 59, .mov (.t 57), none, true, []⟩,
  ⟨some 60, .iaddr 3 (.t 55) (.t 57), none, true, []⟩,
  ⟨some 61, .load true 3 (.t 60), none, true, []⟩,
  ⟨some 13, .alloc [(.int .i64 0), (.int .i64 0), (.int .i64 0)], none, true, []⟩,
  ⟨some 12, .mov (.t 59), none, true, []⟩,
  ⟨none, .store 3 (.t 13) (.t 61), none, true, []⟩])
 (.region [⟨some 62, .mov (.t 11), none, true, []⟩,
  ⟨some 63, .mov (.t 12), none, true, []⟩,
  ⟨some 64, .faddr 0 (.t 13), none, true, []⟩,
  ⟨some 65, .load false 1 (.t 64), none, true, []⟩,
  ⟨some 66, .iaddr 1 (.t 62) (.t 63), none, true, []⟩,
  ⟨none, .store 1 (.t 66) (.t 65), none, true, []⟩])))
 (.region [⟨some 67, .arith .add (.t 57) (.c (.int .i64 1)), none, true, []⟩,
  ⟨some 57, .mov (.t 67), none, true, []⟩])))))))
 (.seq (.region [⟨some 68, .mov (.t 11), none, true, []⟩,
  ⟨some 69, .bslice 1 [.nils] [(0, 1, (.t 68))], none, true, []⟩,
  ⟨some 70, .call 40 [(.t 69)], none, true, []⟩,
  ⟨some 6, .mov (.t 70), none, true, []⟩,
  ⟨some 7, .mov (.c (.int .i64 0)), none, true, []⟩])
 .ret)))))))))⟩

def v11 : VFn := ⟨35, [(8, none), (9, none), (10, none)],
 (.seq (.region [⟨some 4, .box (.t 0) 1, none, true, []⟩,
  ⟨some 8, .mov (.c (.int .i64 0)), none, true, []⟩,
  ⟨some 9, .mov (.c (.bool false)), none, true, []⟩,
  ⟨some 10, .mov (.c (.int .i64 0)), none, true, []⟩])
 (.seq (.region [⟨some 15, .load true 1 (.t 4), none, true, []⟩,
  ⟨some 16, .mov (.t 1), none, true, []⟩,
  ⟨some 17, .mov (.t 2), none, true, []⟩,
  ⟨some 18, .call 10 [(.t 15), (.t 16), (.t 17)], none, true, []⟩,
  ⟨some 14, .mov (.t 18), none, true, []⟩,
  ⟨some 19, .ext (.t 14) 0, none, true, []⟩,
  ⟨some 20, .ext (.t 14) 1, none, true, []⟩,
  ⟨some 11, .mov (.t 19), none, true, []⟩,
  ⟨some 10, .mov (.t 20), none, true, []⟩])
 (.seq (.seq (.region [⟨some 21, .mov (.t 10), none, true, []⟩,
  ⟨some 22, .eql true ⟨false, [(0, .i)]⟩ (.t 21) (.c (.int .i64 0)), none, true, []⟩])
 (.cond (.t 22) (.seq (.region [⟨some 23, .mov (.t 10), none, true, []⟩,
  ⟨some 8, .mov (.c (.int .i64 0)), none, true, []⟩,
  ⟨some 9, .mov (.c (.bool false)), none, true, []⟩,
  ⟨some 10, .mov (.t 23), none, true, []⟩])
 .ret)
 .skip))
 (.seq (.seq (.region [⟨some 24, .mov (.t 11), none, true, []⟩,
  ⟨some 25, .lenOf (.t 24), none, true, []⟩,
  ⟨some 26, .mov (.c (.int .i64 0)), none, true, []⟩])
 (.block 0 (.loop (.seq (.region [⟨some 27, .arith .lss (.t 26) (.t 25), none, true, []⟩])
 (.seq (.cond (.t 27) .skip
 (.exit 0))
 (.seq (.block 1 (.seq (.region [⟨some 28, .iaddr 1 (.t 24) (.t 26), none, true, []⟩,
  ⟨some 29, .load false 1 (.t 28), none, true, []⟩,
  ⟨some 13, .mov (.t 29), none, true, []⟩])
 (.seq (.region [⟨some 30, .mov (.t 3), none, true, []⟩,
  ⟨some 31, .mov (.t 13), none, true, []⟩,
  ⟨some 32, .call 41 [(.t 30), (.t 31)], none, true, []⟩])
 (.cond (.t 32) (.seq (.region [⟨some 33, .mov (.t 13), none, true, []⟩,
  ⟨some 8, .mov (.t 33), none, true, []⟩,
  ⟨some 9, .mov (.c (.bool true)), none, true, []⟩,
  ⟨some 10, .mov (.c (.int .i64 0)), none, true, []⟩])
 .ret)
 .skip))))
 (.region [⟨some 34, .arith .add (.t 26) (.c (.int .i64 1)), none, true, []⟩,
  ⟨some 26, .mov (.t 34), none, true, []⟩])))))))
 (.seq (.region [⟨some 8, .mov (.c (.int .i64 0)), none, true, []⟩,
  ⟨some 9, .mov (.c (.bool false)), none, true, []⟩,
  ⟨some 10, .mov (.c (.int .i64 0)), none, true, []⟩])
 .ret)))))⟩

def v12 : VFn := ⟨39, [(8, none), (9, none)],
 (.seq (.region [⟨some 8, .mov (.c (.int .i64 0)), none, true, []⟩,
  ⟨some 9, .mov (.c (.int .i64 0)), none, true, []⟩])
 (.seq (.region [⟨some 14, .mov (.t 0), none, true, []⟩,
  ⟨some 15, .mov (.t 1), none, true, []⟩,
  ⟨some 16, .mov (.t 2), none, true, []⟩,
  ⟨some 17, .call 9 [(.t 14), (.t 15), (.t 16)], none, true, []⟩,
  ⟨some 13, .mov (.t 17), none, true, []⟩,
  ⟨some 18, .ext (.t 13) 0, none, true, []⟩,
  ⟨some 19, .ext (.t 13) 1, none, true, []⟩,
  ⟨some 10, .mov (.t 18), none, true, []⟩,
  ⟨some 11, .mov (.t 19), none, true, []⟩])
 (.seq (.seq (.region [⟨some 12, .mov (.c (.int .i64 0)), none, true, []⟩])
 (.block 0 (.loop (.seq (.seq (.region [⟨some 20, .mov (.t 12), none, true, []⟩,
  ⟨some 21, .mov (.t 10), none, true, []⟩,
  ⟨some 22, .lenOf (.t 21), none, true, []⟩,
  ⟨some 23, .arith .lss (.t 20) (.t 22), none, true, []⟩])
 (.cond (.t 23) .skip
 (.exit 0)))
 (.seq (.block 1 (.seq (.region [⟨some 26, .mov (.t 3), none, true, []⟩,
  ⟨some 27, .mov (.t 10), none, true, []⟩,
  ⟨some 28, .mov (.t 12), none, true, []⟩,
  ⟨some 29, .iaddr 1 (.t 27) (.t 28), none, true, []⟩,
  ⟨some 30, .load false 1 (.t 29), none, true, []⟩,
  ⟨some 31, .call 21 [(.t 26), (.t 30)], none, true, []⟩,
  ⟨some 32, .eql false ⟨false, [(0, .i)]⟩ (.t 31) (.c (.int .i64 1)), none, true, []⟩])
 (.cond (.t 32) (.seq (.region [⟨some 33, .mov (.t 10), none, true, []⟩,
  ⟨some 34, .mov (.t 12), none, true, []⟩,
  ⟨some 35, .iaddr 1 (.t 33) (.t 34), none, true, []⟩,
  ⟨some 36, .load false 1 (.t 35), none, true, []⟩,
  ⟨some 37, .mov (.t 11), none, true, []⟩,
  ⟨some 8, .mov (.t 36), none, true, []⟩,
  ⟨some 9, .mov (.t 37), none, true, []⟩])
 .ret)
 .skip)))
 (.region [⟨some 24, .mov (.t 12), none, true, []⟩,
  ⟨some 25, .arith .add (.t 24) (.c (.int .i64 1)), none, true, []⟩,
  ⟨some 12, .mov (.t 25), none, true, []⟩]))))))
 (.seq (.region [⟨some 38, .mov (.t 11), none, true, []⟩,
  ⟨some 8, .mov (.c (.int .i64 (-1))), none, true, []⟩,
  ⟨some 9, .mov (.t 38), none, true, []⟩])
 .ret))))⟩

def v13 : VFn := ⟨26, [(4, none)],
 (.seq (.region [⟨some 4, .mov (.c (.int .i64 0)), none, true, []⟩])
 (.seq (.seq (.region [⟨some 6, .mov (.t 0), none, true, []⟩,
  ⟨some 7, .lenOf (.t 6), none, true, []⟩,
  ⟨some 8, .mov (.t 1), none, true, []⟩,
  ⟨some 9, .lenOf (.t 8), none, true, []⟩,
  ⟨some 10, .eql true ⟨false, [(0, .i)]⟩ (.t 7) (.t 9), none, true, []⟩])
 (.cond (.t 10) (.seq (.region [⟨some 4, .mov (.c (.int .i64 0)), none, true, []⟩])
 .ret)
 .skip))
 (.seq (.seq (.region [⟨some 5, .mov (.c (.int .i64 0)), none, true, []⟩])
 (.block 0 (.loop (.seq (.seq (.region [⟨some 11, .mov (.t 5), none, true, []⟩,
  ⟨some 12, .mov (.t 0), none, true, []⟩,
  ⟨some 13, .lenOf (.t 12), none, true, []⟩,
  ⟨some 14, .arith .lss (.t 11) (.t 13), none, true, []⟩])
 (.cond (.t 14) .skip
 (.exit 0)))
 (.seq (.block 1 (.seq (.draw [⟨some 17, .mov (.t 0), none, false, []⟩,
  ⟨some 18, .mov (.t 5), none, false, []⟩,
  ⟨some 19, .iaddr 1 (.t 17) (.t 18), none, false, []⟩,
  ⟨some 20, .load false 1 (.t 19), none, false, []⟩,
  ⟨some 21, .mov (.t 1), none, false, [3]⟩,
  ⟨some 22, .mov (.t 5), none, false, [3]⟩,
  ⟨some 23, .iaddr 1 (.t 21) (.t 22), none, false, [3]⟩,
  ⟨some 24, .load false 1 (.t 23), none, false, [3]⟩,
  ⟨some 25, .eql true ⟨false, [(0, .i)]⟩ (.t 20) (.t 24), none, true, []⟩])
 (.cond (.t 25) (.seq (.region [⟨some 4, .mov (.c (.int .i64 0)), none, true, []⟩])
 .ret)
 .skip)))
 (.region [⟨some 15, .mov (.t 5), none, true, []⟩,
  ⟨some 16, .arith .add (.t 15) (.c (.int .i64 1)), none, true, []⟩,
  ⟨some 5, .mov (.t 16), none, true, []⟩]))))))
 (.seq (.region [⟨some 4, .mov (.c (.int .i64 1)), none, true, []⟩])
 .ret))))⟩

def v14 : VFn := ⟨29, [(6, none), (7, none)],
 (.seq (.region [⟨some 3, .box (.t 0) 3, none, true, []⟩,
  ⟨some 6, .mov (.c (.int .i64 0)), none, true, []⟩,
  ⟨some 7, .mov (.c (.int .i64 0)), none, true, []⟩])
 (.seq (.region [⟨some 9, .mov (.t 1), none, true, []⟩,
  ⟨some 10, .mov (.t 2), none, true, []⟩,
  ⟨some 11, .build [(.int .i64 0), (.int .i64 0)] [(0, 1, (.t 9)), (1, 1, (.t 10))], none, true, []⟩,
  ⟨some 8, .alloc [(.int .i64 0), (.int .i64 0)], none, true, []⟩,
  ⟨none, .store 2 (.t 8) (.t 11), none, true, []⟩])
 (.seq (.seq (.region [⟨some 12, .load true 3 (.t 3), none, true, []⟩,
  ⟨some 13, .call 42 [(.t 12)], none, true, []⟩,
  ⟨some 14, .un .not (.t 13), none, true, []⟩,
  ⟨some 15, .mov (.t 14), none, true, []⟩,
  ⟨some 16, .load true 2 (.t 8), some (15, false), true, []⟩,
  ⟨some 17, .call 36 [(.t 16)], some (15, false), true, []⟩,
  ⟨some 18, .un .not (.t 17), some (15, false), true, []⟩,
  ⟨some 19, .pick (.t 15) (.c (.bool true)) (.t 18), none, true, []⟩,
  ⟨some 20, .mov (.t 19), none, true, []⟩,
  ⟨some 21, .mov (.t 1), some (20, false), true, []⟩,
  ⟨some 22, .faddr 2 (.t 3), some (20, false), true, []⟩,
  ⟨some 23, .load false 1 (.t 22), some (20, false), true, []⟩,
  ⟨some 24, .arith .lss (.t 21) (.t 23), some (20, false), true, []⟩,
  ⟨some 25, .pick (.t 20) (.c (.bool true)) (.t 24), none, true, []⟩])
 (.cond (.t 25) (.seq (.region [⟨some 6, .mov (.c (.int .i64 0)), none, true, []⟩,
  ⟨some 7, .mov (.c (.int .i64 4)), none, true, []⟩])
 .ret)
 .skip))
 (.seq (.region [⟨some 26, .load true 2 (.t 8), none, true, []⟩,
  ⟨some 27, .load true 3 (.t 3), none, true, []⟩,
  ⟨some 28, .call 43 [(.t 26), (.t 27)], none, true, []⟩,
  ⟨some 6, .mov (.t 28), none, true, []⟩,
  ⟨some 7, .mov (.c (.int .i64 0)), none, true, []⟩])
 .ret))))⟩

def v15 : VFn := ⟨22, [(4, none), (5, none)],
 (.seq (.region [⟨some 2, .box (.t 0) 3, none, true, []⟩,
  ⟨some 4, .mov (.c (.int .i64 0)), none, true, []⟩,
  ⟨some 5, .mov (.c (.int .i64 0)), none, true, []⟩])
 (.seq (.seq (.region [⟨some 6, .load true 3 (.t 2), none, true, []⟩,
  ⟨some 7, .call 42 [(.t 6)], none, true, []⟩,
  ⟨some 8, .un .not (.t 7), none, true, []⟩,
  ⟨some 9, .mov (.t 8), none, true, []⟩,
  ⟨some 10, .mov (.t 1), some (9, false), true, []⟩,
  ⟨some 11, .build [(.int .i64 0), (.int .i64 0)] [(0, 1, (.c (.int .i64 0))), (1, 1, (.t 10))], some (9, false), true, []⟩,
  ⟨some 12, .call 36 [(.t 11)], some (9, false), true, []⟩,
  ⟨some 13, .un .not (.t 12), some (9, false), true, []⟩,
  ⟨some 14, .pick (.t 9) (.c (.bool true)) (.t 13), none, true, []⟩])
 (.cond (.t 14) (.seq (.region [⟨some 4, .mov (.c (.int .i64 0)), none, true, []⟩,
  ⟨some 5, .mov (.c (.int .i64 4)), none, true, []⟩])
 .ret)
 .skip))
 (.seq (.region [⟨some 15, .faddr 2 (.t 2), none, true, []⟩,
  ⟨some 16, .load false 1 (.t 15), none, true, []⟩,
  ⟨some 17, .faddr 1 (.t 2), none, true, []⟩,
  ⟨some 18, .load false 1 (.t 17), none, true, []⟩,
  ⟨some 19, .mov (.t 1), none, true, []⟩,
  ⟨some 20, .arith .mul (.t 18) (.t 19), none, true, []⟩,
  ⟨some 21, .arith .add (.t 16) (.t 20), none, true, []⟩,
  ⟨some 4, .mov (.t 21), none, true, []⟩,
  ⟨some 5, .mov (.c (.int .i64 0)), none, true, []⟩])
 .ret)))⟩

def v16 : VFn := ⟨26, [(2, none)],
 (.seq (.region [⟨some 1, .box (.t 0) 3, none, true, []⟩,
  ⟨some 2, .mov (.c (.int .i64 0)), none, true, []⟩])
 (.seq (.seq (.region [⟨some 3, .faddr 0 (.t 1), none, true, []⟩,
  ⟨some 4, .load false 1 (.t 3), none, true, []⟩,
  ⟨some 5, .arith .lss (.t 4) (.c (.int .i64 0)), none, true, []⟩,
  ⟨some 6, .mov (.t 5), none, true, []⟩,
  ⟨some 7, .faddr 1 (.t 1), some (6, false), true, []⟩,
  ⟨some 8, .load false 1 (.t 7), some (6, false), true, []⟩,
  ⟨some 9, .arith .lss (.t 8) (.c (.int .i64 0)), some (6, false), true, []⟩,
  ⟨some 10, .pick (.t 6) (.c (.bool true)) (.t 9), none, true, []⟩,
  ⟨some 11, .mov (.t 10), none, true, []⟩,
  ⟨some 12, .faddr 1 (.t 1), some (11, false), true, []⟩,
  ⟨some 13, .load false 1 (.t 12), some (11, false), true, []⟩,
  ⟨some 14, .arith .gtr (.t 13) (.c (.int .i64 7)), some (11, false), true, []⟩,
  ⟨some 15, .pick (.t 11) (.c (.bool true)) (.t 14), none, true, []⟩,
  ⟨some 16, .mov (.t 15), none, true, []⟩,
  ⟨some 17, .faddr 2 (.t 1), some (16, false), true, []⟩,
  ⟨some 18, .load false 1 (.t 17), some (16, false), true, []⟩,
  ⟨some 19, .arith .lss (.t 18) (.c (.int .i64 0)), some (16, false), true, []⟩,
  ⟨some 20, .pick (.t 16) (.c (.bool true)) (.t 19), none, true, []⟩,
  ⟨some 21, .mov (.t 20), none, true, []⟩,
  ⟨some 22, .faddr 2 (.t 1), some (21, false), true, []⟩,
  ⟨some 23, .load false 1 (.t 22), some (21, false), true, []⟩,
  ⟨some 24, .arith .gtr (.t 23) (.c (.int .i64 4611686018427387904)), some (21, false), true, []⟩,
  ⟨some 25, .pick (.t 21) (.c (.bool true)) (.t 24), none, true, []⟩])
 (.cond (.t 25) (.seq (.region [⟨some 2, .mov (.c (.int .i64 0)), none, true, []⟩])
 .ret)
 .skip))
 (.seq (.region [⟨some 2, .mov (.c (.int .i64 1)), none, true, []⟩])
 .ret)))⟩

def v17 : VFn := ⟨19, [(4, none)],
 (.seq (.region [⟨some 4, .mov (.c (.int .i64 0)), none, true, []⟩])
 (.seq (.seq (.region [⟨some 5, .mov (.t 1), none, true, []⟩,
  ⟨some 6, .arith .lss (.t 5) (.c (.int .i64 1)), none, true, []⟩,
  ⟨some 7, .mov (.t 6), none, true, []⟩,
  ⟨some 8, .mov (.t 1), some (7, false), true, []⟩,
  ⟨some 9, .arith .gtr (.t 8) (.c (.int .i64 64)), some (7, false), true, []⟩,
  ⟨some 10, .pick (.t 7) (.c (.bool true)) (.t 9), none, true, []⟩,
  ⟨some 11, .mov (.t 10), none, true, []⟩,
  ⟨some 12, .mov (.t 0), some (11, false), true, []⟩,
  ⟨some 13, .arith .lss (.t 12) (.c (.int .i64 0)), some (11, false), true, []⟩,
  ⟨some 14, .pick (.t 11) (.c (.bool true)) (.t 13), none, true, []⟩,
  ⟨some 15, .mov (.t 14), none, true, []⟩,
  ⟨some 16, .mov (.t 0), some (15, false), true, []⟩,
  ⟨some 17, .arith .gtr (.t 16) (.c (.int .i64 4611686018427387904)), some (15, false), true, []⟩,
  ⟨some 18, .pick (.t 15) (.c (.bool true)) (.t 17), none, true, []⟩])
 (.cond (.t 18) (.seq (.region [⟨some 4, .mov (.c (.int .i64 0)), none, true, []⟩])
 .ret)
 .skip))
 (.seq (.region [⟨some 4, .mov (.c (.int .i64 1)), none, true, []⟩])
 .ret)))⟩

def v18 : VFn := ⟨28, [(6, none)],
 (.seq (.region [⟨some 3, .box (.t 0) 3, none, true, []⟩,
  ⟨some 6, .mov (.c (.int .i64 0)), none, true, []⟩])
 (.seq (.region [⟨some 9, .faddr 1 (.t 3), none, true, []⟩,
  ⟨some 10, .load false 1 (.t 9), none, true, []⟩,
  ⟨some 7, .mov (.t 10), none, true, []⟩])
 (.seq (.region [⟨some 11, .mov (.t 1), none, true, []⟩,
  ⟨some 12, .faddr 2 (.t 3), none, true, []⟩,
  ⟨some 13, .load false 1 (.t 12), none, true, []⟩,
  ⟨some 14, .arith .sub (.t 11) (.t 13), none, true, []⟩,
  ⟨some 8, .mov (.t 14), none, true, []⟩])
 (.seq (.block 0 (.loop (.seq (.seq (.region [⟨some 15, .mov (.t 7), none, true, []⟩,
  ⟨some 16, .arith .gtr (.t 15) (.c (.int .i64 0)), none, true, []⟩,
  ⟨some 17, .mov (.t 16), none, true, []⟩,
  ⟨some 18, .mov (.t 8), some (17, true), true, []⟩,
  ⟨some 19, .mov (.t 2), some (17, true), true, []⟩,
  ⟨some 20, .arith .geq (.t 18) (.t 19), some (17, true), true, []⟩,
  ⟨some 21, .pick (.t 17) (.t 20) (.c (.bool false)), none, true, []⟩])
 (.cond (.t 21) .skip
 (.exit 0)))
 (.block 1 (.seq (.region [⟨some 22, .mov (.t 7), none, true, []⟩,
  ⟨some 23, .arith .sub (.t 22) (.c (.int .i64 1)), none, true, []⟩,
  ⟨some 7, .mov (.t 23), none, true, []⟩])
 (.region [⟨some 24, .mov (.t 8), none, true, []⟩,
  ⟨some 25, .mov (.t 2), none, true, []⟩,
  ⟨some 26, .arith .sub (.t 24) (.t 25), none, true, []⟩,
  ⟨some 8, .mov (.t 26), none, true, []⟩]))))))
 (.seq (.region [⟨some 27, .mov (.t 7), none, true, []⟩,
  ⟨some 6, .mov (.t 27), none, true, []⟩])
 .ret)))))⟩

def v19 : VFn := ⟨56, [(2, some (true, 1))],
 (.seq (.region [⟨some 1, .box (.t 0) 1, none, true, []⟩,
  ⟨some 2, .alloc [.nils], none, true, []⟩])
 (.seq (.region [⟨some 3, .alloc [.nils], none, true, []⟩])
 (.seq (.region [⟨some 4, .mov (.c (.int .i64 (-1))), none, true, []⟩,
  ⟨some 5, .mov (.c (.int .i64 0)), none, true, []⟩])
 (.seq (.seq (.region [⟨some 6, .mov (.c (.int .i64 0)), none, true, []⟩])
 (.block 0 (.loop (.seq (.seq (.region [⟨some 7, .mov (.t 6), none, true, []⟩,
  ⟨some 8, .faddr 0 (.t 1), none, true, []⟩,
  ⟨some 9, .load false 1 (.t 8), none, true, []⟩,
  ⟨some 10, .lenOf (.t 9), none, true, []⟩,
  ⟨some 11, .arith .lss (.t 7) (.t 10), none, true, []⟩,
  ⟨some 12, .mov (.t 11), none, true, []⟩,
  ⟨some 13, .mov (.t 6), some (12, true), true, []⟩,
  ⟨some 14, .arith .lss (.t 13) (.c (.int .i64 12)), some (12, true), true, []⟩,
  ⟨some 15, .pick (.t 12) (.t 14) (.c (.bool false)), none, true, []⟩])
 (.cond (.t 15) .skip
 (.exit 0)))
 (.seq (.block 1 (.seq (.region [⟨some 18, .mov (.t 4), none, true, []⟩,
  ⟨some 19, .arith .add (.t 18) (.c (.int .i64 1)), none, true, []⟩,
  ⟨some 20, .faddr 0 (.t 1), none, true, []⟩,
  ⟨some 21, .load false 1 (.t 20), none, true, []⟩,
  ⟨some 22, .mov (.t 6), none, true, []⟩,
  ⟨some 23, .iaddr 3 (.t 21) (.t 22), none, true, []⟩,
  ⟨some 24, .iaddrArr 3 1 (.t 23) (.c (.int .i64 0)), none, true, []⟩,
  ⟨some 25, .load false 1 (.t 24), none, true, []⟩,
  ⟨some 26, .arith .rem (.t 25) (.c (.int .u8 4)), none, true, []⟩,
  ⟨some 27, .convInt .i64 (.t 26), none, true, []⟩,
  ⟨some 28, .arith .add (.t 19) (.t 27), none, true, []⟩,
  ⟨some 4, .mov (.t 28), none, true, []⟩])
 (.seq (.region [⟨some 29, .mov (.t 5), none, true, []⟩,
  ⟨some 30, .faddr 0 (.t 1), none, true, []⟩,
  ⟨some 31, .load false 1 (.t 30), none, true, []⟩,
  ⟨some 32, .mov (.t 6), none, true, []⟩,
  ⟨some 33, .iaddr 3 (.t 31) (.t 32), none, true, []⟩,
  ⟨some 34, .iaddrArr 3 1 (.t 33) (.c (.int .i64 2)), none, true, []⟩,
  ⟨some 35, .load false 1 (.t 34), none, true, []⟩,
  ⟨some 36, .arith .rem (.t 35) (.c (.int .u8 8)), none, true, []⟩,
  ⟨some 37, .convInt .i64 (.t 36), none, true, []⟩,
  ⟨some 38, .arith .add (.t 29) (.t 37), none, true, []⟩,
  ⟨some 5, .mov (.t 38), none, true, []⟩])
 (.draw [⟨some 39, .faddr 0 (.t 3), none, false, []⟩,
  ⟨some 40, .load false 1 (.t 39), none, false, []⟩,
  ⟨some 41, .mov (.t 4), none, false, [1]⟩,
  ⟨some 42, .faddr 0 (.t 1), none, false, [1]⟩,
  ⟨some 43, .load false 1 (.t 42), none, false, [1]⟩,
  ⟨some 44, .mov (.t 6), none, false, [1, 4]⟩,
  ⟨some 45, .iaddr 3 (.t 43) (.t 44), none, false, [1]⟩,
  ⟨some 46, .iaddrArr 3 1 (.t 45) (.c (.int .i64 1)), none, false, [1]⟩,
  ⟨some 47, .load false 1 (.t 46), none, false, [1]⟩,
  ⟨some 48, .arith .rem (.t 47) (.c (.int .u8 8)), none, false, [1]⟩,
  ⟨some 49, .convInt .i64 (.t 48), none, false, [1]⟩,
  ⟨some 50, .mov (.t 5), none, false, [1, 4, 8]⟩,
  ⟨some 51, .build [(.int .i64 0), (.int .i64 0), (.int .i64 0)] [(0, 1, (.t 41)), (1, 1, (.t 49)), (2, 1, (.t 50))], none, false, [1]⟩,
  ⟨some 52, .bslice 1 [(.int .i64 0), (.int .i64 0), (.int .i64 0)] [(0, 3, (.t 51))], none, false, [1]⟩,
  ⟨some 53, .append 3 24 (.t 40) (.t 52), none, true, []⟩,
  ⟨some 54, .faddr 0 (.t 3), none, true, []⟩,
  ⟨none, .store 1 (.t 54) (.t 53), none, true, []⟩]))))
 (.region [⟨some 16, .mov (.t 6), none, true, []⟩,
  ⟨some 17, .arith .add (.t 16) (.c (.int .i64 1)), none, true, []⟩,
  ⟨some 6, .mov (.t 17), none, true, []⟩]))))))
 (.seq (.region [⟨some 55, .load true 1 (.t 3), none, true, []⟩,
  ⟨none, .store 1 (.t 2) (.t 55), none, true, []⟩])
 .ret)))))⟩

def v20 : VFn := ⟨23, [(4, none)],
 (.seq (.region [⟨some 2, .box (.t 0) 1, none, true, []⟩,
  ⟨some 4, .mov (.c (.int .i64 0)), none, true, []⟩])
 (.seq (.seq (.region [⟨some 5, .faddr 0 (.t 2), none, true, []⟩,
  ⟨some 6, .load false 1 (.t 5), none, true, []⟩,
  ⟨some 7, .lenOf (.t 6), none, true, []⟩,
  ⟨some 8, .eql false ⟨false, [(0, .i)]⟩ (.t 7) (.c (.int .i64 0)), none, true, []⟩])
 (.cond (.t 8) (.seq (.region [⟨some 9, .mov (.t 1), none, true, []⟩,
  ⟨some 10, .convInt .i64 (.t 9), none, true, []⟩,
  ⟨some 4, .mov (.t 10), none, true, []⟩])
 .ret)
 .skip))
 (.seq (.region [⟨some 11, .faddr 0 (.t 2), none, true, []⟩,
  ⟨some 12, .load false 1 (.t 11), none, true, []⟩,
  ⟨some 13, .faddr 0 (.t 2), none, true, []⟩,
  ⟨some 14, .load false 1 (.t 13), none, true, []⟩,
  ⟨some 15, .lenOf (.t 14), none, true, []⟩,
  ⟨some 16, .arith .sub (.t 15) (.c (.int .i64 1)), none, true, []⟩,
  ⟨some 17, .iaddr 3 (.t 12) (.t 16), none, true, []⟩,
  ⟨some 18, .faddr 2 (.t 17), none, true, []⟩,
  ⟨some 19, .load false 1 (.t 18), none, true, []⟩,
  ⟨some 20, .mov (.t 1), none, true, []⟩,
  ⟨some 21, .convInt .i64 (.t 20), none, true, []⟩,
  ⟨some 22, .arith .add (.t 19) (.t 21), none, true, []⟩,
  ⟨some 4, .mov (.t 22), none, true, []⟩])
 .ret)))⟩

def v21 : VFn := ⟨18, [(4, none)],
 (.seq (.region [⟨some 4, .mov (.c (.int .i64 0)), none, true, []⟩])
 (.seq (.seq (.region [⟨some 5, .mov (.c (.int .i64 0)), none, true, []⟩])
 (.block 0 (.loop (.seq (.seq (.region [⟨some 6, .mov (.t 5), none, true, []⟩,
  ⟨some 7, .mov (.t 0), none, true, []⟩,
  ⟨some 8, .lenOf (.t 7), none, true, []⟩,
  ⟨some 9, .arith .lss (.t 6) (.t 8), none, true, []⟩])
 (.cond (.t 9) .skip
 (.exit 0)))
 (.seq (.block 1 (.seq (.region [⟨some 12, .mov (.t 0), none, true, []⟩,
  ⟨some 13, .mov (.t 5), none, true, []⟩,
  ⟨some 14, .iaddr 1 (.t 12) (.t 13), none, true, []⟩,
  ⟨some 15, .load false 1 (.t 14), none, true, []⟩,
  ⟨some 16, .mov (.t 1), none, true, []⟩,
  ⟨some 17, .eql false ⟨false, [(0, .i)]⟩ (.t 15) (.t 16), none, true, []⟩])
 (.cond (.t 17) (.seq (.region [⟨some 4, .mov (.c (.int .i64 1)), none, true, []⟩])
 .ret)
 .skip)))
 (.region [⟨some 10, .mov (.t 5), none, true, []⟩,
  ⟨some 11, .arith .add (.t 10) (.c (.int .i64 1)), none, true, []⟩,
  ⟨some 5, .mov (.t 11), none, true, []⟩]))))))
 (.seq (.region [⟨some 4, .mov (.c (.int .i64 0)), none, true, []⟩])
 .ret)))⟩

def v22 : VFn := ⟨20, [(4, none)],
 (.seq (.region [⟨some 4, .mov (.c (.int .i64 0)), none, true, []⟩])
 (.seq (.seq (.region [⟨some 5, .mov (.c (.int .i64 0)), none, true, []⟩])
 (.block 0 (.loop (.seq (.seq (.region [⟨some 6, .mov (.t 5), none, true, []⟩,
  ⟨some 7, .mov (.t 0), none, true, []⟩,
  ⟨some 8, .lenOf (.t 7), none, true, []⟩,
  ⟨some 9, .arith .lss (.t 6) (.t 8), none, true, []⟩])
 (.cond (.t 9) .skip
 (.exit 0)))
 (.seq (.block 1 (.seq (.region [⟨some 12, .mov (.t 0), none, true, []⟩,
  ⟨some 13, .mov (.t 5), none, true, []⟩,
  ⟨some 14, .iaddr 3 (.t 12) (.t 13), none, true, []⟩,
  ⟨some 15, .faddr 0 (.t 14), none, true, []⟩,
  ⟨some 16, .load false 1 (.t 15), none, true, []⟩,
  ⟨some 17, .mov (.t 1), none, true, []⟩,
  ⟨some 18, .eql false ⟨false, [(0, .i)]⟩ (.t 16) (.t 17), none, true, []⟩])
 (.cond (.t 18) (.seq (.region [⟨some 19, .mov (.t 5), none, true, []⟩,
  ⟨some 4, .mov (.t 19), none, true, []⟩])
 .ret)
 .skip)))
 (.region [⟨some 10, .mov (.t 5), none, true, []⟩,
  ⟨some 11, .arith .add (.t 10) (.c (.int .i64 1)), none, true, []⟩,
  ⟨some 5, .mov (.t 11), none, true, []⟩]))))))
 (.seq (.region [⟨some 4, .mov (.c (.int .i64 (-1))), none, true, []⟩])
 .ret)))⟩

def v23 : VFn := ⟨49, [(6, some (true, 1)), (7, none)],
 (.seq (.region [⟨some 3, .box (.t 0) 1, none, true, []⟩,
  ⟨some 6, .alloc [.nils], none, true, []⟩,
  ⟨some 7, .mov (.c (.int .i64 0)), none, true, []⟩])
 (.seq (.seq (.region [⟨some 11, .load true 1 (.t 3), none, true, []⟩,
  ⟨some 12, .call 30 [(.t 11)], none, true, []⟩,
  ⟨some 8, .mov (.t 12), none, true, []⟩])
 (.seq (.region [⟨some 13, .mov (.t 8), none, true, []⟩,
  ⟨some 14, .eql true ⟨false, [(0, .i)]⟩ (.t 13) (.c (.int .i64 0)), none, true, []⟩])
 (.cond (.t 14) (.seq (.region [⟨some 15, .build [.nils] [], none, true, []⟩,
  ⟨some 16, .mov (.t 8), none, true, []⟩,
  ⟨none, .store 1 (.t 6) (.t 15), none, true, []⟩,
  ⟨some 7, .mov (.t 16), none, true, []⟩])
 .ret)
 .skip)))
 (.seq (.seq (.region [⟨some 17, .mov (.t 2), none, true, []⟩,
  ⟨some 18, .arith .lss (.t 17) (.c (.int .i64 0)), none, true, []⟩,
  ⟨some 19, .mov (.t 18), none, true, []⟩,
  ⟨some 20, .mov (.t 2), some (19, false), true, []⟩,
  ⟨some 21, .arith .geq (.t 20) (.c (.int .i64 8)), some (19, false), true, []⟩,
  ⟨some 22, .pick (.t 19) (.c (.bool true)) (.t 21), none, true, []⟩])
 (.cond (.t 22) (.seq (.region [⟨some 23, .build [.nils] [], none, true, []⟩,
  ⟨none, .store 1 (.t 6) (.t 23), none, true, []⟩,
  ⟨some 7, .mov (.c (.int .i64 4)), none, true, []⟩])
 .ret)
 .skip))
 (.seq (.region [⟨some 24, .load true 1 (.t 3), none, true, []⟩,
  ⟨some 25, .mov (.t 1), none, true, []⟩,
  ⟨some 26, .call 44 [(.t 24), (.t 25)], none, true, []⟩,
  ⟨some 9, .mov (.t 26), none, true, []⟩])
 (.seq (.seq (.region [⟨some 27, .mov (.t 9), none, true, []⟩,
  ⟨some 28, .arith .lss (.t 27) (.c (.int .i64 0)), none, true, []⟩])
 (.cond (.t 28) (.seq (.region [⟨some 29, .build [.nils] [], none, true, []⟩,
  ⟨none, .store 1 (.t 6) (.t 29), none, true, []⟩,
  ⟨some 7, .mov (.c (.int .i64 8)), none, true, []⟩])
 .ret)
 .skip))
 (.seq (.region [⟨some 30, .faddr 0 (.t 3), none, true, []⟩,
  ⟨some 31, .load false 1 (.t 30), none, true, []⟩,
  ⟨some 32, .bslice 1 [.nils] [(0, 1, (.t 31))], none, true, []⟩,
  ⟨some 33, .call 37 [(.t 32)], none, true, []⟩,
  ⟨some 34, .build [.nils] [(0, 1, (.t 33))], none, true, []⟩,
  ⟨some 10, .alloc [.nils], none, true, []⟩,
  ⟨none, .store 1 (.t 10) (.t 34), none, true, []⟩])
 (.seq (.draw [⟨some 35, .faddr 0 (.t 10), none, false, []⟩,
  ⟨some 36, .load false 1 (.t 35), none, false, []⟩,
  ⟨some 37, .mov (.t 9), none, false, [1]⟩,
  ⟨some 38, .faddr 0 (.t 10), none, false, [1]⟩,
  ⟨some 39, .load false 1 (.t 38), none, false, [1]⟩,
  ⟨some 40, .mov (.t 9), none, false, [1, 4]⟩,
  ⟨some 41, .iaddr 3 (.t 39) (.t 40), none, false, [1]⟩,
  ⟨some 42, .faddr 1 (.t 41), none, false, [1]⟩,
  ⟨some 43, .load false 1 (.t 42), none, false, [1]⟩,
  ⟨some 44, .mov (.t 2), none, false, [1, 4, 8]⟩,
  ⟨some 45, .minmax false [(.t 43), (.t 44)], none, false, [1]⟩,
  ⟨some 46, .iaddr 3 (.t 36) (.t 37), none, true, []⟩,
  ⟨some 47, .faddr 1 (.t 46), none, true, []⟩,
  ⟨none, .store 1 (.t 47) (.t 45), none, true, []⟩])
 (.seq (.region [⟨some 48, .load true 1 (.t 10), none, true, []⟩,
  ⟨none, .store 1 (.t 6) (.t 48), none, true, []⟩,
  ⟨some 7, .mov (.c (.int .i64 0)), none, true, []⟩])
 .ret))))))))⟩

def v24 : VFn := ⟨21, [(4, none)],
 (.seq (.region [⟨some 4, .mov (.c (.int .i64 0)), none, true, []⟩])
 (.seq (.seq (.region [⟨some 5, .mov (.c (.int .i64 0)), none, true, []⟩])
 (.block 0 (.loop (.seq (.seq (.region [⟨some 6, .mov (.t 5), none, true, []⟩,
  ⟨some 7, .mov (.t 0), none, true, []⟩,
  ⟨some 8, .lenOf (.t 7), none, true, []⟩,
  ⟨some 9, .arith .lss (.t 6) (.t 8), none, true, []⟩])
 (.cond (.t 9) .skip
 (.exit 0)))
 (.seq (.block 1 (.seq (.region [⟨some 12, .mov (.t 0), none, true, []⟩,
  ⟨some 13, .mov (.t 5), none, true, []⟩,
  ⟨some 14, .iaddr 1 (.t 12) (.t 13), none, true, []⟩,
  ⟨some 15, .load false 1 (.t 14), none, true, []⟩,
  ⟨some 16, .mov (.t 1), none, true, []⟩,
  ⟨some 17, .eql false ⟨false, [(0, .i)]⟩ (.t 15) (.t 16), none, true, []⟩])
 (.cond (.t 17) (.seq (.region [⟨some 18, .mov (.t 5), none, true, []⟩,
  ⟨some 4, .mov (.t 18), none, true, []⟩])
 .ret)
 .skip)))
 (.region [⟨some 10, .mov (.t 5), none, true, []⟩,
  ⟨some 11, .arith .add (.t 10) (.c (.int .i64 1)), none, true, []⟩,
  ⟨some 5, .mov (.t 11), none, true, []⟩]))))))
 (.seq (.region [⟨some 19, .mov (.t 0), none, true, []⟩,
  ⟨some 20, .lenOf (.t 19), none, true, []⟩,
  ⟨some 4, .mov (.t 20), none, true, []⟩])
 .ret)))⟩

def v25 : VFn := ⟨22, [(4, some (true, 1)), (5, none)],
 (.seq (.region [⟨some 2, .box (.t 0) 1, none, true, []⟩,
  ⟨some 3, .box (.t 1) 3, none, true, []⟩,
  ⟨some 4, .alloc [.nils], none, true, []⟩,
  ⟨some 5, .mov (.c (.int .i64 0)), none, true, []⟩])
 (.seq (.region [⟨some 8, .faddr 0 (.t 2), none, true, []⟩,
  ⟨some 9, .load false 1 (.t 8), none, true, []⟩,
  ⟨some 10, .load true 3 (.t 3), none, true, []⟩,
  ⟨some 11, .bslice 1 [(.int .i64 0), (.int .i64 0), (.int .i64 0)] [(0, 3, (.t 10))], none, true, []⟩,
  ⟨some 12, .bslice 2 [.nils, .nils] [(0, 1, (.t 9)), (1, 1, (.t 11))], none, true, []⟩,
  ⟨some 13, .call 37 [(.t 12)], none, true, []⟩,
  ⟨some 14, .build [.nils] [(0, 1, (.t 13))], none, true, []⟩,
  ⟨some 6, .alloc [.nils], none, true, []⟩,
  ⟨none, .store 1 (.t 6) (.t 14), none, true, []⟩])
 (.seq (.seq (.region [⟨some 15, .load true 1 (.t 6), none, true, []⟩,
  ⟨some 16, .call 30 [(.t 15)], none, true, []⟩,
  ⟨some 7, .mov (.t 16), none, true, []⟩])
 (.seq (.region [⟨some 17, .mov (.t 7), none, true, []⟩,
  ⟨some 18, .eql true ⟨false, [(0, .i)]⟩ (.t 17) (.c (.int .i64 0)), none, true, []⟩])
 (.cond (.t 18) (.seq (.region [⟨some 19, .build [.nils] [], none, true, []⟩,
  ⟨some 20, .mov (.t 7), none, true, []⟩,
  ⟨none, .store 1 (.t 4) (.t 19), none, true, []⟩,
  ⟨some 5, .mov (.t 20), none, true, []⟩])
 .ret)
 .skip)))
 (.seq (.region [⟨some 21, .load true 1 (.t 6), none, true, []⟩,
  ⟨none, .store 1 (.t 4) (.t 21), none, true, []⟩,
  ⟨some 5, .mov (.c (.int .i64 0)), none, true, []⟩])
 .ret))))⟩

def v26 : VFn := ⟨20, [(4, none), (5, none)],
 (.seq (.region [⟨some 3, .box (.t 1) 3, none, true, []⟩,
  ⟨some 4, .mov (.c .nils), none, true, []⟩,
  ⟨some 5, .mov (.c (.int .i64 0)), none, true, []⟩])
 (.seq (.region [⟨some 6, .mov (.c .nils), none, true, []⟩])
 (.seq (.region [⟨some 7, .mov (.t 6), none, true, []⟩,
  ⟨some 8, .mov (.t 0), none, true, []⟩,
  ⟨some 9, .append 3 24 (.t 7) (.t 8), none, true, []⟩,
  ⟨some 6, .mov (.t 9), none, true, []⟩])
 (.seq (.region [⟨some 10, .mov (.t 6), none, true, []⟩,
  ⟨some 11, .load true 3 (.t 3), none, true, []⟩,
  ⟨some 12, .bslice 1 [(.int .i64 0), (.int .i64 0), (.int .i64 0)] [(0, 3, (.t 11))], none, true, []⟩,
  ⟨some 13, .append 3 24 (.t 10) (.t 12), none, true, []⟩,
  ⟨some 6, .mov (.t 13), none, true, []⟩])
 (.seq (.seq (.region [⟨some 14, .mov (.t 6), none, true, []⟩,
  ⟨some 15, .call 31 [(.t 14)], none, true, []⟩,
  ⟨some 16, .arith .gtr (.t 15) (.c (.int .i64 0)), none, true, []⟩])
 (.cond (.t 16) (.seq (.region [⟨some 17, .mov (.t 6), none, true, []⟩,
  ⟨some 18, .call 31 [(.t 17)], none, true, []⟩,
  ⟨some 4, .mov (.c .nils), none, true, []⟩,
  ⟨some 5, .mov (.t 18), none, true, []⟩])
 .ret)
 .skip))
 (.seq (.region [⟨some 19, .mov (.t 6), none, true, []⟩,
  ⟨some 4, .mov (.t 19), none, true, []⟩,
  ⟨some 5, .mov (.c (.int .i64 0)), none, true, []⟩])
 .ret))))))⟩

def v27 : VFn := ⟨38, [(4, none), (5, none)],
 (.seq (.region [⟨some 4, .mov (.c .nils), none, true, []⟩,
  ⟨some 5, .mov (.c (.int .i64 0)), none, true, []⟩])
 (.seq (.seq (.region [⟨some 8, .mov (.t 0), none, true, []⟩,
  ⟨some 9, .call 31 [(.t 8)], none, true, []⟩,
  ⟨some 10, .arith .gtr (.t 9) (.c (.int .i64 0)), none, true, []⟩])
 (.cond (.t 10) (.seq (.region [⟨some 11, .mov (.t 0), none, true, []⟩,
  ⟨some 12, .call 31 [(.t 11)], none, true, []⟩,
  ⟨some 4, .mov (.c .nils), none, true, []⟩,
  ⟨some 5, .mov (.t 12), none, true, []⟩])
 .ret)
 .skip))
 (.seq (.seq (.region [⟨some 13, .mov (.t 0), none, true, []⟩,
  ⟨some 14, .mov (.t 1), none, true, []⟩,
  ⟨some 15, .call 22 [(.t 13), (.t 14)], none, true, []⟩,
  ⟨some 16, .arith .lss (.t 15) (.c (.int .i64 0)), none, true, []⟩])
 (.cond (.t 16) (.seq (.region [⟨some 4, .mov (.c .nils), none, true, []⟩,
  ⟨some 5, .mov (.c (.int .i64 8)), none, true, []⟩])
 .ret)
 .skip))
 (.seq (.region [⟨some 6, .mov (.c .nils), none, true, []⟩])
 (.seq (.seq (.region [⟨some 7, .mov (.c (.int .i64 0)), none, true, []⟩])
 (.block 0 (.loop (.seq (.seq (.region [⟨some 17, .mov (.t 7), none, true, []⟩,
  ⟨some 18, .mov (.t 0), none, true, []⟩,
  ⟨some 19, .lenOf (.t 18), none, true, []⟩,
  ⟨some 20, .arith .lss (.t 17) (.t 19), none, true, []⟩])
 (.cond (.t 20) .skip
 (.exit 0)))
 (.seq (.block 1 (.seq (.region [⟨some 23, .mov (.t 0), none, true, []⟩,
  ⟨some 24, .mov (.t 7), none, true, []⟩,
  ⟨some 25, .iaddr 3 (.t 23) (.t 24), none, true, []⟩,
  ⟨some 26, .faddr 0 (.t 25), none, true, []⟩,
  ⟨some 27, .load false 1 (.t 26), none, true, []⟩,
  ⟨some 28, .mov (.t 1), none, true, []⟩,
  ⟨some 29, .eql true ⟨false, [(0, .i)]⟩ (.t 27) (.t 28), none, true, []⟩])
 (.cond (.t 29) (.region [⟨some 30, .mov (.t 6), none, true, []⟩,
  ⟨some 31, .mov (.t 0), none, true, []⟩,
  ⟨some 32, .mov (.t 7), none, true, []⟩,
  ⟨some 33, .iaddr 3 (.t 31) (.t 32), none, true, []⟩,
  ⟨some 34, .load true 3 (.t 33), none, true, []⟩,
  ⟨some 35, .bslice 1 [(.int .i64 0), (.int .i64 0), (.int .i64 0)] [(0, 3, (.t 34))], none, true, []⟩,
  ⟨some 36, .append 3 24 (.t 30) (.t 35), none, true, []⟩,
  ⟨some 6, .mov (.t 36), none, true, []⟩])
 .skip)))
 (.region [⟨some 21, .mov (.t 7), none, true, []⟩,
  ⟨some 22, .arith .add (.t 21) (.c (.int .i64 1)), none, true, []⟩,
  ⟨some 7, .mov (.t 22), none, true, []⟩]))))))
 (.seq (.region [⟨some 37, .mov (.t 6), none, true, []⟩,
  ⟨some 4, .mov (.t 37), none, true, []⟩,
  ⟨some 5, .mov (.c (.int .i64 0)), none, true, []⟩])
 .ret))))))⟩

def v28 : VFn := ⟨42, [(6, none), (7, none)],
 (.seq (.region [⟨some 6, .mov (.c .nils), none, true, []⟩,
  ⟨some 7, .mov (.c (.int .i64 0)), none, true, []⟩])
 (.seq (.seq (.region [⟨some 10, .mov (.t 0), none, true, []⟩,
  ⟨some 11, .call 31 [(.t 10)], none, true, []⟩,
  ⟨some 12, .arith .gtr (.t 11) (.c (.int .i64 0)), none, true, []⟩])
 (.cond (.t 12) (.seq (.region [⟨some 13, .mov (.t 0), none, true, []⟩,
  ⟨some 14, .call 31 [(.t 13)], none, true, []⟩,
  ⟨some 6, .mov (.c .nils), none, true, []⟩,
  ⟨some 7, .mov (.t 14), none, true, []⟩])
 .ret)
 .skip))
 (.seq (.seq (.region [⟨some 15, .mov (.t 2), none, true, []⟩,
  ⟨some 16, .arith .lss (.t 15) (.c (.int .i64 0)), none, true, []⟩,
  ⟨some 17, .mov (.t 16), none, true, []⟩,
  ⟨some 18, .mov (.t 2), some (17, false), true, []⟩,
  ⟨some 19, .arith .gtr (.t 18) (.c (.int .i64 7)), some (17, false), true, []⟩,
  ⟨some 20, .pick (.t 17) (.c (.bool true)) (.t 19), none, true, []⟩])
 (.cond (.t 20) (.seq (.region [⟨some 6, .mov (.c .nils), none, true, []⟩,
  ⟨some 7, .mov (.c (.int .i64 4)), none, true, []⟩])
 .ret)
 .skip))
 (.seq (.region [⟨some 21, .mov (.t 0), none, true, []⟩,
  ⟨some 22, .mov (.t 1), none, true, []⟩,
  ⟨some 23, .call 22 [(.t 21), (.t 22)], none, true, []⟩,
  ⟨some 8, .mov (.t 23), none, true, []⟩])
 (.seq (.seq (.region [⟨some 24, .mov (.t 8), none, true, []⟩,
  ⟨some 25, .arith .lss (.t 24) (.c (.int .i64 0)), none, true, []⟩])
 (.cond (.t 25) (.seq (.region [⟨some 6, .mov (.c .nils), none, true, []⟩,
  ⟨some 7, .mov (.c (.int .i64 8)), none, true, []⟩])
 .ret)
 .skip))
 (.seq (.region [⟨some 9, .mov (.c .nils), none, true, []⟩])
 (.seq (.region [⟨some 26, .mov (.t 9), none, true, []⟩,
  ⟨some 27, .mov (.t 0), none, true, []⟩,
  ⟨some 28, .append 3 24 (.t 26) (.t 27), none, true, []⟩,
  ⟨some 9, .mov (.t 28), none, true, []⟩])
 (.seq (.seq (.region [⟨some 29, .mov (.t 9), none, true, []⟩,
  ⟨some 30, .mov (.t 8), none, true, []⟩,
  ⟨some 31, .iaddr 3 (.t 29) (.t 30), none, true, []⟩,
  ⟨some 32, .faddr 1 (.t 31), none, true, []⟩,
  ⟨some 33, .load false 1 (.t 32), none, true, []⟩,
  ⟨some 34, .mov (.t 2), none, true, []⟩,
  ⟨some 35, .arith .gtr (.t 33) (.t 34), none, true, []⟩])
 (.cond (.t 35) (.region [⟨some 36, .mov (.t 9), none, true, []⟩,
  ⟨some 37, .mov (.t 8), none, true, []⟩,
  ⟨some 38, .mov (.t 2), none, true, []⟩,
  ⟨some 39, .iaddr 3 (.t 36) (.t 37), none, true, []⟩,
  ⟨some 40, .faddr 1 (.t 39), none, true, []⟩,
  ⟨none, .store 1 (.t 40) (.t 38), none, true, []⟩])
 .skip))
 (.seq (.region [⟨some 41, .mov (.t 9), none, true, []⟩,
  ⟨some 6, .mov (.t 41), none, true, []⟩,
  ⟨some 7, .mov (.c (.int .i64 0)), none, true, []⟩])
 .ret)))))))))⟩

def v29 : VFn := ⟨32, [(4, some (true, 1)), (5, none)],
 (.seq (.region [⟨some 2, .box (.t 0) 1, none, true, []⟩,
  ⟨some 4, .alloc [.nils], none, true, []⟩,
  ⟨some 5, .mov (.c (.int .i64 0)), none, true, []⟩])
 (.seq (.seq (.region [⟨some 8, .load true 1 (.t 2), none, true, []⟩,
  ⟨some 9, .call 30 [(.t 8)], none, true, []⟩,
  ⟨some 6, .mov (.t 9), none, true, []⟩])
 (.seq (.region [⟨some 10, .mov (.t 6), none, true, []⟩,
  ⟨some 11, .eql true ⟨false, [(0, .i)]⟩ (.t 10) (.c (.int .i64 0)), none, true, []⟩])
 (.cond (.t 11) (.seq (.region [⟨some 12, .build [.nils] [], none, true, []⟩,
  ⟨some 13, .mov (.t 6), none, true, []⟩,
  ⟨none, .store 1 (.t 4) (.t 12), none, true, []⟩,
  ⟨some 5, .mov (.t 13), none, true, []⟩])
 .ret)
 .skip)))
 (.seq (.region [⟨some 14, .load true 1 (.t 2), none, true, []⟩,
  ⟨some 15, .mov (.t 1), none, true, []⟩,
  ⟨some 16, .call 44 [(.t 14), (.t 15)], none, true, []⟩,
  ⟨some 7, .mov (.t 16), none, true, []⟩])
 (.seq (.seq (.region [⟨some 17, .mov (.t 7), none, true, []⟩,
  ⟨some 18, .arith .lss (.t 17) (.c (.int .i64 0)), none, true, []⟩])
 (.cond (.t 18) (.seq (.region [⟨some 19, .build [.nils] [], none, true, []⟩,
  ⟨none, .store 1 (.t 4) (.t 19), none, true, []⟩,
  ⟨some 5, .mov (.c (.int .i64 8)), none, true, []⟩])
 .ret)
 .skip))
 (.seq (.draw [⟨some 20, .faddr 0 (.t 2), none, false, []⟩,
  ⟨some 21, .load false 1 (.t 20), none, false, []⟩,
  ⟨some 22, .mov (.t 7), none, false, [1]⟩,
  ⟨some 23, .slice 3 (.t 21) none (some (.t 22)) none, none, false, []⟩,
  ⟨some 24, .faddr 0 (.t 2), none, false, [1]⟩,
  ⟨some 25, .load false 1 (.t 24), none, false, [1]⟩,
  ⟨some 26, .mov (.t 7), none, false, [1, 5]⟩,
  ⟨some 27, .arith .add (.t 26) (.c (.int .i64 1)), none, false, [1, 5]⟩,
  ⟨some 28, .slice 3 (.t 25) (some (.t 27)) none none, none, false, [1]⟩,
  ⟨some 29, .bslice 2 [.nils, .nils] [(0, 1, (.t 23)), (1, 1, (.t 28))], none, true, []⟩,
  ⟨some 30, .call 37 [(.t 29)], none, true, []⟩,
  ⟨some 31, .build [.nils] [(0, 1, (.t 30))], none, true, []⟩,
  ⟨none, .store 1 (.t 4) (.t 31), none, true, []⟩,
  ⟨some 5, .mov (.c (.int .i64 0)), none, true, []⟩])
 .ret)))))⟩

def v30 : VFn := ⟨49, [(2, none)],
 (.seq (.region [⟨some 1, .box (.t 0) 1, none, true, []⟩,
  ⟨some 2, .mov (.c (.int .i64 0)), none, true, []⟩])
 (.seq (.seq (.region [⟨some 5, .faddr 0 (.t 1), none, true, []⟩,
  ⟨some 6, .load false 1 (.t 5), none, true, []⟩,
  ⟨some 7, .lenOf (.t 6), none, true, []⟩,
  ⟨some 8, .arith .gtr (.t 7) (.c (.int .i64 64)), none, true, []⟩])
 (.cond (.t 8) (.seq (.region [⟨some 2, .mov (.c (.int .i64 3)), none, true, []⟩])
 .ret)
 .skip))
 (.seq (.seq (.region [⟨some 9, .faddr 0 (.t 1), none, true, []⟩,
  ⟨some 10, .load false 1 (.t 9), none, true, []⟩,
  ⟨some 11, .lenOf (.t 10), none, true, []⟩,
  ⟨some 12, .mov (.c (.int .i64 0)), none, true, []⟩])
 (.block 0 (.loop (.seq (.region [⟨some 13, .arith .lss (.t 12) (.t 11), none, true, []⟩])
 (.seq (.cond (.t 13) .skip
 (.exit 0))
 (.seq (.block 1 (.seq (.region [⟨some 14, .mov (.t 12), none, true, []⟩,
  ⟨some 15, .iaddr 3 (.t 10) (.t 12), none, true, []⟩,
  ⟨some 16, .load true 3 (.t 15), none, true, []⟩,
  ⟨some 4, .alloc [(.int .i64 0), (.int .i64 0), (.int .i64 0)], none, true, []⟩,
  ⟨some 3, .mov (.t 14), none, true, []⟩,
  ⟨none, .store 3 (.t 4) (.t 16), none, true, []⟩])
 (.block 2 (.seq (.region [⟨some 18, .load true 3 (.t 4), none, true, []⟩,
  ⟨some 19, .call 42 [(.t 18)], none, true, []⟩,
  ⟨some 20, .un .not (.t 19), none, true, []⟩,
  ⟨some 17, .mov (.t 20), none, true, []⟩])
 (.cond (.t 17) (.seq (.region [⟨some 2, .mov (.c (.int .i64 4)), none, true, []⟩])
 .ret)
 (.seq (.draw [⟨some 22, .mov (.t 3), none, true, []⟩,
  ⟨some 23, .arith .gtr (.t 22) (.c (.int .i64 0)), none, true, []⟩,
  ⟨some 24, .mov (.t 23), none, true, []⟩,
  ⟨some 25, .faddr 0 (.t 4), some (24, true), false, []⟩,
  ⟨some 26, .load false 1 (.t 25), some (24, true), false, []⟩,
  ⟨some 27, .faddr 0 (.t 1), some (24, true), false, [4]⟩,
  ⟨some 28, .load false 1 (.t 27), some (24, true), false, [4]⟩,
  ⟨some 29, .mov (.t 3), some (24, true), false, [4, 6]⟩,
  ⟨some 30, .arith .sub (.t 29) (.c (.int .i64 1)), some (24, true), false, [4, 6]⟩,
  ⟨some 31, .iaddr 3 (.t 28) (.t 30), some (24, true), false, [4]⟩,
  ⟨some 32, .faddr 0 (.t 31), some (24, true), false, [4]⟩,
  ⟨some 33, .load false 1 (.t 32), some (24, true), false, [4]⟩,
  ⟨some 34, .arith .leq (.t 26) (.t 33), some (24, true), true, []⟩,
  ⟨some 35, .mov (.t 34), some (24, true), true, []⟩,
  ⟨some 36, .faddr 2 (.t 4), some (35, false), false, []⟩,
  ⟨some 37, .load false 1 (.t 36), some (35, false), false, []⟩,
  ⟨some 38, .faddr 0 (.t 1), some (35, false), false, [15]⟩,
  ⟨some 39, .load false 1 (.t 38), some (35, false), false, [15]⟩,
  ⟨some 40, .mov (.t 3), some (35, false), false, [15, 17]⟩,
  ⟨some 41, .arith .sub (.t 40) (.c (.int .i64 1)), some (35, false), false, [15, 17]⟩,
  ⟨some 42, .iaddr 3 (.t 39) (.t 41), some (35, false), false, [15]⟩,
  ⟨some 43, .faddr 2 (.t 42), some (35, false), false, [15]⟩,
  ⟨some 44, .load false 1 (.t 43), some (35, false), false, [15]⟩,
  ⟨some 45, .arith .lss (.t 37) (.t 44), some (35, false), true, []⟩,
  ⟨some 46, .pick (.t 35) (.c (.bool true)) (.t 45), some (24, true), true, []⟩,
  ⟨some 47, .pick (.t 24) (.t 46) (.c (.bool false)), none, true, []⟩,
  ⟨some 21, .mov (.t 47), none, true, []⟩])
 (.cond (.t 21) (.seq (.region [⟨some 2, .mov (.c (.int .i64 18)), none, true, []⟩])
 .ret)
 .skip)))))))
 (.region [⟨some 48, .arith .add (.t 12) (.c (.int .i64 1)), none, true, []⟩,
  ⟨some 12, .mov (.t 48), none, true, []⟩])))))))
 (.seq (.region [⟨some 2, .mov (.c (.int .i64 0)), none, true, []⟩])
 .ret))))⟩

def v31 : VFn := ⟨49, [(2, none)],
 (.seq (.region [⟨some 2, .mov (.c (.int .i64 0)), none, true, []⟩])
 (.seq (.seq (.region [⟨some 4, .mov (.t 0), none, true, []⟩,
  ⟨some 5, .lenOf (.t 4), none, true, []⟩,
  ⟨some 6, .arith .gtr (.t 5) (.c (.int .i64 64)), none, true, []⟩])
 (.cond (.t 6) (.seq (.region [⟨some 2, .mov (.c (.int .i64 3)), none, true, []⟩])
 .ret)
 .skip))
 (.seq (.seq (.region [⟨some 3, .mov (.c (.int .i64 0)), none, true, []⟩])
 (.block 0 (.loop (.seq (.seq (.region [⟨some 7, .mov (.t 3), none, true, []⟩,
  ⟨some 8, .mov (.t 0), none, true, []⟩,
  ⟨some 9, .lenOf (.t 8), none, true, []⟩,
  ⟨some 10, .arith .lss (.t 7) (.t 9), none, true, []⟩])
 (.cond (.t 10) .skip
 (.exit 0)))
 (.seq (.block 1 (.seq (.seq (.region [⟨some 13, .mov (.t 0), none, true, []⟩,
  ⟨some 14, .mov (.t 3), none, true, []⟩,
  ⟨some 15, .iaddr 3 (.t 13) (.t 14), none, true, []⟩,
  ⟨some 16, .load true 3 (.t 15), none, true, []⟩,
  ⟨some 17, .call 16 [(.t 16)], none, true, []⟩,
  ⟨some 18, .eql false ⟨false, [(0, .i)]⟩ (.t 17) (.c (.int .i64 0)), none, true, []⟩])
 (.cond (.t 18) (.seq (.region [⟨some 2, .mov (.c (.int .i64 4)), none, true, []⟩])
 .ret)
 .skip))
 (.seq (.draw [⟨some 19, .mov (.t 3), none, true, []⟩,
  ⟨some 20, .arith .gtr (.t 19) (.c (.int .i64 0)), none, true, []⟩,
  ⟨some 21, .mov (.t 20), none, true, []⟩,
  ⟨some 22, .mov (.t 0), some (21, true), false, []⟩,
  ⟨some 23, .mov (.t 3), some (21, true), false, []⟩,
  ⟨some 24, .arith .sub (.t 23) (.c (.int .i64 1)), some (21, true), false, []⟩,
  ⟨some 25, .iaddr 3 (.t 22) (.t 24), some (21, true), false, []⟩,
  ⟨some 26, .faddr 0 (.t 25), some (21, true), false, []⟩,
  ⟨some 27, .load false 1 (.t 26), some (21, true), false, []⟩,
  ⟨some 28, .mov (.t 0), some (21, true), false, [8]⟩,
  ⟨some 29, .mov (.t 3), some (21, true), false, [8]⟩,
  ⟨some 30, .iaddr 3 (.t 28) (.t 29), some (21, true), false, [8]⟩,
  ⟨some 31, .faddr 0 (.t 30), some (21, true), false, [8]⟩,
  ⟨some 32, .load false 1 (.t 31), some (21, true), false, [8]⟩,
  ⟨some 33, .arith .geq (.t 27) (.t 32), some (21, true), true, []⟩,
  ⟨some 34, .mov (.t 33), some (21, true), true, []⟩,
  ⟨some 35, .mov (.t 0), some (34, false), false, []⟩,
  ⟨some 36, .mov (.t 3), some (34, false), false, []⟩,
  ⟨some 37, .arith .sub (.t 36) (.c (.int .i64 1)), some (34, false), false, []⟩,
  ⟨some 38, .iaddr 3 (.t 35) (.t 37), some (34, false), false, []⟩,
  ⟨some 39, .faddr 2 (.t 38), some (34, false), false, []⟩,
  ⟨some 40, .load false 1 (.t 39), some (34, false), false, []⟩,
  ⟨some 41, .mov (.t 0), some (34, false), false, [21]⟩,
  ⟨some 42, .mov (.t 3), some (34, false), false, [21]⟩,
  ⟨some 43, .iaddr 3 (.t 41) (.t 42), some (34, false), false, [21]⟩,
  ⟨some 44, .faddr 2 (.t 43), some (34, false), false, [21]⟩,
  ⟨some 45, .load false 1 (.t 44), some (34, false), false, [21]⟩,
  ⟨some 46, .arith .gtr (.t 40) (.t 45), some (34, false), true, []⟩,
  ⟨some 47, .pick (.t 34) (.c (.bool true)) (.t 46), some (21, true), true, []⟩,
  ⟨some 48, .pick (.t 21) (.t 47) (.c (.bool false)), none, true, []⟩])
 (.cond (.t 48) (.seq (.region [⟨some 2, .mov (.c (.int .i64 18)), none, true, []⟩])
 .ret)
 .skip))))
 (.region [⟨some 11, .mov (.t 3), none, true, []⟩,
  ⟨some 12, .arith .add (.t 11) (.c (.int .i64 1)), none, true, []⟩,
  ⟨some 3, .mov (.t 12), none, true, []⟩]))))))
 (.seq (.region [⟨some 2, .mov (.c (.int .i64 0)), none, true, []⟩])
 .ret))))⟩

def v32 : VFn := ⟨25, [(8, none)],
 (.seq (.region [⟨some 4, .box (.t 0) 1, none, true, []⟩,
  ⟨some 8, .mov (.c (.int .i64 0)), none, true, []⟩])
 (.seq (.seq (.region [⟨some 9, .mov (.t 1), none, true, []⟩,
  ⟨some 10, .mov (.t 3), none, true, []⟩,
  ⟨some 11, .eql true ⟨false, [(0, .i)]⟩ (.t 9) (.t 10), none, true, []⟩,
  ⟨some 12, .mov (.t 11), none, true, []⟩,
  ⟨some 13, .faddr 0 (.t 4), some (12, false), true, []⟩,
  ⟨some 14, .load false 1 (.t 13), some (12, false), true, []⟩,
  ⟨some 15, .capOf (.t 14), some (12, false), true, []⟩,
  ⟨some 16, .faddr 0 (.t 4), some (12, false), true, []⟩,
  ⟨some 17, .load false 1 (.t 16), some (12, false), true, []⟩,
  ⟨some 18, .lenOf (.t 17), some (12, false), true, []⟩,
  ⟨some 19, .eql true ⟨false, [(0, .i)]⟩ (.t 15) (.t 18), some (12, false), true, []⟩,
  ⟨some 20, .pick (.t 12) (.c (.bool true)) (.t 19), none, true, []⟩])
 (.cond (.t 20) (.seq (.region [⟨some 8, .mov (.c (.int .i64 0)), none, true, []⟩])
 .ret)
 .skip))
 (.seq (.region [⟨some 21, .faddr 0 (.t 4), none, true, []⟩,
  ⟨some 22, .load false 1 (.t 21), none, true, []⟩,
  ⟨some 23, .mov (.t 2), none, true, []⟩,
  ⟨some 24, .call 33 [(.t 22), (.t 23)], none, true, []⟩,
  ⟨some 8, .mov (.t 24), none, true, []⟩])
 .ret)))⟩

def v33 : VFn := ⟨26, [(4, none)],
 (.seq (.region [⟨some 4, .mov (.c (.int .i64 0)), none, true, []⟩])
 (.seq (.seq (.region [⟨some 6, .mov (.t 0), none, true, []⟩,
  ⟨some 7, .lenOf (.t 6), none, true, []⟩,
  ⟨some 8, .mov (.t 1), none, true, []⟩,
  ⟨some 9, .lenOf (.t 8), none, true, []⟩,
  ⟨some 10, .eql true ⟨false, [(0, .i)]⟩ (.t 7) (.t 9), none, true, []⟩])
 (.cond (.t 10) (.seq (.region [⟨some 4, .mov (.c (.int .i64 0)), none, true, []⟩])
 .ret)
 .skip))
 (.seq (.seq (.region [⟨some 5, .mov (.c (.int .i64 0)), none, true, []⟩])
 (.block 0 (.loop (.seq (.seq (.region [⟨some 11, .mov (.t 5), none, true, []⟩,
  ⟨some 12, .mov (.t 0), none, true, []⟩,
  ⟨some 13, .lenOf (.t 12), none, true, []⟩,
  ⟨some 14, .arith .lss (.t 11) (.t 13), none, true, []⟩])
 (.cond (.t 14) .skip
 (.exit 0)))
 (.seq (.block 1 (.seq (.draw [⟨some 17, .mov (.t 0), none, false, []⟩,
  ⟨some 18, .mov (.t 5), none, false, []⟩,
  ⟨some 19, .iaddr 3 (.t 17) (.t 18), none, false, []⟩,
  ⟨some 20, .load true 3 (.t 19), none, false, []⟩,
  ⟨some 21, .mov (.t 1), none, false, [3]⟩,
  ⟨some 22, .mov (.t 5), none, false, [3]⟩,
  ⟨some 23, .iaddr 3 (.t 21) (.t 22), none, false, [3]⟩,
  ⟨some 24, .load true 3 (.t 23), none, false, [3]⟩,
  ⟨some 25, .eql true ⟨true, [(0, .i), (1, .i), (2, .i)]⟩ (.t 20) (.t 24), none, true, []⟩])
 (.cond (.t 25) (.seq (.region [⟨some 4, .mov (.c (.int .i64 0)), none, true, []⟩])
 .ret)
 .skip)))
 (.region [⟨some 15, .mov (.t 5), none, true, []⟩,
  ⟨some 16, .arith .add (.t 15) (.c (.int .i64 1)), none, true, []⟩,
  ⟨some 5, .mov (.t 16), none, true, []⟩]))))))
 (.seq (.region [⟨some 4, .mov (.c (.int .i64 1)), none, true, []⟩])
 .ret))))⟩

def v34 : VFn := ⟨6, [(0, some (true, 1))],
 (.seq (.region [⟨some 0, .alloc [.nils], none, true, []⟩])
 (.seq (.region [⟨some 1, .build [(.int .i64 0), (.int .i64 0), (.int .i64 0)] [(0, 1, (.c (.int .i64 3))), (1, 1, (.c (.int .i64 2)))], none, true, []⟩,
  ⟨some 2, .build [(.int .i64 0), (.int .i64 0), (.int .i64 0)] [(0, 1, (.c (.int .i64 5))), (2, 1, (.c (.int .i64 4)))], none, true, []⟩,
  ⟨some 3, .build [(.int .i64 0), (.int .i64 0), (.int .i64 0)] [(0, 1, (.c (.int .i64 8))), (1, 1, (.c (.int .i64 1))), (2, 1, (.c (.int .i64 4)))], none, true, []⟩,
  ⟨some 4, .bslice 3 [(.int .i64 0), (.int .i64 0), (.int .i64 0), (.int .i64 0), (.int .i64 0), (.int .i64 0), (.int .i64 0), (.int .i64 0), (.int .i64 0)] [(0, 3, (.t 1)), (3, 3, (.t 2)), (6, 3, (.t 3))], none, true, []⟩,
  ⟨some 5, .build [.nils] [(0, 1, (.t 4))], none, true, []⟩,
  ⟨none, .store 1 (.t 0) (.t 5), none, true, []⟩])
 .ret))⟩

def v35 : VFn := ⟨23, [(8, none)],
 (.seq (.region [⟨some 4, .box (.t 0) 1, none, true, []⟩,
  ⟨some 8, .mov (.c (.int .i64 0)), none, true, []⟩])
 (.seq (.region [⟨some 12, .load true 1 (.t 4), none, true, []⟩,
  ⟨some 13, .mov (.t 1), none, true, []⟩,
  ⟨some 14, .mov (.t 2), none, true, []⟩,
  ⟨some 15, .call 10 [(.t 12), (.t 13), (.t 14)], none, true, []⟩,
  ⟨some 11, .mov (.t 15), none, true, []⟩,
  ⟨some 16, .ext (.t 11) 0, none, true, []⟩,
  ⟨some 17, .ext (.t 11) 1, none, true, []⟩,
  ⟨some 9, .mov (.t 16), none, true, []⟩,
  ⟨some 10, .mov (.t 17), none, true, []⟩])
 (.seq (.seq (.region [⟨some 18, .mov (.t 10), none, true, []⟩,
  ⟨some 19, .eql true ⟨false, [(0, .i)]⟩ (.t 18) (.c (.int .i64 0)), none, true, []⟩])
 (.cond (.t 19) (.seq (.region [⟨some 8, .mov (.c (.int .i64 0)), none, true, []⟩])
 .ret)
 .skip))
 (.seq (.region [⟨some 20, .mov (.t 9), none, true, []⟩,
  ⟨some 21, .mov (.t 3), none, true, []⟩,
  ⟨some 22, .call 13 [(.t 20), (.t 21)], none, true, []⟩,
  ⟨some 8, .mov (.t 22), none, true, []⟩])
 .ret))))⟩

def v36 : VFn := ⟨21, [(2, none)],
 (.seq (.region [⟨some 1, .box (.t 0) 2, none, true, []⟩,
  ⟨some 2, .mov (.c (.bool false)), none, true, []⟩])
 (.seq (.region [⟨some 3, .faddr 1 (.t 1), none, true, []⟩,
  ⟨some 4, .load false 1 (.t 3), none, true, []⟩,
  ⟨some 5, .arith .geq (.t 4) (.c (.int .i64 1)), none, true, []⟩,
  ⟨some 6, .mov (.t 5), none, true, []⟩,
  ⟨some 7, .faddr 1 (.t 1), some (6, true), true, []⟩,
  ⟨some 8, .load false 1 (.t 7), some (6, true), true, []⟩,
  ⟨some 9, .arith .leq (.t 8) (.c (.int .i64 64)), some (6, true), true, []⟩,
  ⟨some 10, .pick (.t 6) (.t 9) (.c (.bool false)), none, true, []⟩,
  ⟨some 11, .mov (.t 10), none, true, []⟩,
  ⟨some 12, .faddr 0 (.t 1), some (11, true), true, []⟩,
  ⟨some 13, .load false 1 (.t 12), some (11, true), true, []⟩,
  ⟨some 14, .arith .geq (.t 13) (.c (.int .i64 0)), some (11, true), true, []⟩,
  ⟨some 15, .pick (.t 11) (.t 14) (.c (.bool false)), none, true, []⟩,
  ⟨some 16, .mov (.t 15), none, true, []⟩,
  ⟨some 17, .faddr 0 (.t 1), some (16, true), true, []⟩,
  ⟨some 18, .load false 1 (.t 17), some (16, true), true, []⟩,
  ⟨some 19, .arith .leq (.t 18) (.c (.int .i64 4611686018427387904)), some (16, true), true, []⟩,
  ⟨some 20, .pick (.t 16) (.t 19) (.c (.bool false)), none, true, []⟩,
  ⟨some 2, .mov (.t 20), none, true, []⟩])
 .ret))⟩

def v37 : VFn := ⟨17, [(2, none)],
 (.seq (.region [⟨some 2, .mov (.c .nils), none, true, []⟩])
 (.seq (.region [⟨some 5, .mov (.t 0), none, true, []⟩,
  ⟨some 6, .call 45 [(.t 5)], none, true, []⟩,
  ⟨some 3, .mov (.t 6), none, true, []⟩])
 (.seq (.seq (.region [⟨some 7, .mov (.t 3), none, true, []⟩,
  ⟨some 8, .lenOf (.t 7), none, true, []⟩,
  ⟨some 9, .eql false ⟨false, [(0, .i)]⟩ (.t 8) (.c (.int .i64 0)), none, true, []⟩])
 (.cond (.t 9) (.seq (.region [⟨some 2, .mov (.c .nils), none, true, []⟩])
 .ret)
 .skip))
 (.seq (.region [⟨some 10, .mov (.t 3), none, true, []⟩,
  ⟨some 11, .lenOf (.t 10), none, true, []⟩,
  ⟨some 12, .mkslice 3 24 [(.int .i64 0), (.int .i64 0), (.int .i64 0)] (.t 11) (.t 11), none, true, []⟩,
  ⟨some 4, .mov (.t 12), none, true, []⟩])
 (.seq (.region [⟨some 13, .mov (.t 4), none, true, []⟩,
  ⟨some 14, .mov (.t 3), none, true, []⟩,
  ⟨some 15, .copy 3 (.t 13) (.t 14), none, true, []⟩])
 (.seq (.region [⟨some 16, .mov (.t 4), none, true, []⟩,
  ⟨some 2, .mov (.t 16), none, true, []⟩])
 .ret))))))⟩

def v38 : VFn := ⟨9, [],
 (.region [⟨some 4, .mov (.t 0), none, true, []⟩,
  ⟨some 5, .mov (.t 0), none, true, []⟩,
  ⟨some 6, .lenOf (.t 5), none, true, []⟩,
  ⟨some 7, .mov (.t 1), none, true, []⟩,
  ⟨some 8, .call 46 [(.t 4), (.t 6), (.t 7)], none, true, []⟩])⟩

def v39 : VFn := ⟨14, [(6, none)],
 (.seq (.region [⟨some 3, .box (.t 0) 2, none, true, []⟩,
  ⟨some 4, .box (.t 1) 3, none, true, []⟩,
  ⟨some 5, .box (.t 2) 3, none, true, []⟩,
  ⟨some 6, .mov (.c (.int .i64 0)), none, true, []⟩])
 (.seq (.draw [⟨some 7, .load true 2 (.t 3), none, false, []⟩,
  ⟨some 8, .load true 3 (.t 4), none, false, [0]⟩,
  ⟨some 9, .call 43 [(.t 7), (.t 8)], none, false, []⟩,
  ⟨some 10, .load true 2 (.t 3), none, false, [0, 1, 2]⟩,
  ⟨some 11, .load true 3 (.t 5), none, false, [0, 1, 2, 3]⟩,
  ⟨some 12, .call 43 [(.t 10), (.t 11)], none, true, []⟩,
  ⟨some 13, .call 47 [(.t 9), (.t 12)], none, true, []⟩,
  ⟨some 6, .mov (.t 13), none, true, []⟩])
 .ret))⟩

def v40 : VFn := ⟨17, [(2, none)],
 (.seq (.region [⟨some 2, .mov (.c .nils), none, true, []⟩])
 (.seq (.region [⟨some 5, .mov (.t 0), none, true, []⟩,
  ⟨some 6, .call 48 [(.t 5)], none, true, []⟩,
  ⟨some 3, .mov (.t 6), none, true, []⟩])
 (.seq (.seq (.region [⟨some 7, .mov (.t 3), none, true, []⟩,
  ⟨some 8, .lenOf (.t 7), none, true, []⟩,
  ⟨some 9, .eql false ⟨false, [(0, .i)]⟩ (.t 8) (.c (.int .i64 0)), none, true, []⟩])
 (.cond (.t 9) (.seq (.region [⟨some 2, .mov (.c .nils), none, true, []⟩])
 .ret)
 .skip))
 (.seq (.region [⟨some 10, .mov (.t 3), none, true, []⟩,
  ⟨some 11, .lenOf (.t 10), none, true, []⟩,
  ⟨some 12, .mkslice 1 8 [(.int .i64 0)] (.t 11) (.t 11), none, true, []⟩,
  ⟨some 4, .mov (.t 12), none, true, []⟩])
 (.seq (.region [⟨some 13, .mov (.t 4), none, true, []⟩,
  ⟨some 14, .mov (.t 3), none, true, []⟩,
  ⟨some 15, .copy 1 (.t 13) (.t 14), none, true, []⟩])
 (.seq (.region [⟨some 16, .mov (.t 4), none, true, []⟩,
  ⟨some 2, .mov (.t 16), none, true, []⟩])
 .ret))))))⟩

def v41 : VFn := ⟨9, [(4, none)],
 (.seq (.region [⟨some 4, .mov (.c (.bool false)), none, true, []⟩])
 (.seq (.region [⟨some 5, .mov (.t 0), none, true, []⟩,
  ⟨some 6, .mov (.t 1), none, true, []⟩,
  ⟨some 7, .call 49 [(.t 5), (.t 6)], none, true, []⟩,
  ⟨some 8, .arith .geq (.t 7) (.c (.int .i64 0)), none, true, []⟩,
  ⟨some 4, .mov (.t 8), none, true, []⟩])
 .ret))⟩

def v42 : VFn := ⟨26, [(2, none)],
 (.seq (.region [⟨some 1, .box (.t 0) 3, none, true, []⟩,
  ⟨some 2, .mov (.c (.bool false)), none, true, []⟩])
 (.seq (.region [⟨some 3, .faddr 0 (.t 1), none, true, []⟩,
  ⟨some 4, .load false 1 (.t 3), none, true, []⟩,
  ⟨some 5, .arith .geq (.t 4) (.c (.int .i64 0)), none, true, []⟩,
  ⟨some 6, .mov (.t 5), none, true, []⟩,
  ⟨some 7, .faddr 1 (.t 1), some (6, true), true, []⟩,
  ⟨some 8, .load false 1 (.t 7), some (6, true), true, []⟩,
  ⟨some 9, .arith .geq (.t 8) (.c (.int .i64 0)), some (6, true), true, []⟩,
  ⟨some 10, .pick (.t 6) (.t 9) (.c (.bool false)), none, true, []⟩,
  ⟨some 11, .mov (.t 10), none, true, []⟩,
  ⟨some 12, .faddr 1 (.t 1), some (11, true), true, []⟩,
  ⟨some 13, .load false 1 (.t 12), some (11, true), true, []⟩,
  ⟨some 14, .arith .lss (.t 13) (.c (.int .i64 8)), some (11, true), true, []⟩,
  ⟨some 15, .pick (.t 11) (.t 14) (.c (.bool false)), none, true, []⟩,
  ⟨some 16, .mov (.t 15), none, true, []⟩,
  ⟨some 17, .faddr 2 (.t 1), some (16, true), true, []⟩,
  ⟨some 18, .load false 1 (.t 17), some (16, true), true, []⟩,
  ⟨some 19, .arith .geq (.t 18) (.c (.int .i64 0)), some (16, true), true, []⟩,
  ⟨some 20, .pick (.t 16) (.t 19) (.c (.bool false)), none, true, []⟩,
  ⟨some 21, .mov (.t 20), none, true, []⟩,
  ⟨some 22, .faddr 2 (.t 1), some (21, true), true, []⟩,
  ⟨some 23, .load false 1 (.t 22), some (21, true), true, []⟩,
  ⟨some 24, .arith .leq (.t 23) (.c (.int .i64 4611686018427387904)), some (21, true), true, []⟩,
  ⟨some 25, .pick (.t 21) (.t 24) (.c (.bool false)), none, true, []⟩,
  ⟨some 2, .mov (.t 25), none, true, []⟩])
 .ret))⟩

def v43 : VFn := ⟨17, [(4, none)],
 (.seq (.region [⟨some 2, .box (.t 0) 2, none, true, []⟩,
  ⟨some 3, .box (.t 1) 3, none, true, []⟩,
  ⟨some 4, .mov (.c (.int .i64 0)), none, true, []⟩])
 (.seq (.draw [⟨some 5, .faddr 1 (.t 3), none, false, []⟩,
  ⟨some 6, .load false 1 (.t 5), none, false, []⟩,
  ⟨some 7, .faddr 0 (.t 2), none, false, [1]⟩,
  ⟨some 8, .load false 1 (.t 7), none, false, [1]⟩,
  ⟨some 9, .faddr 2 (.t 3), none, false, [1, 3]⟩,
  ⟨some 10, .load false 1 (.t 9), none, false, [1, 3]⟩,
  ⟨some 11, .arith .sub (.t 8) (.t 10), none, false, [1]⟩,
  ⟨some 12, .faddr 1 (.t 2), none, false, [1, 3, 5]⟩,
  ⟨some 13, .load false 1 (.t 12), none, false, [1, 3, 5]⟩,
  ⟨some 14, .arith .quo (.t 11) (.t 13), none, false, [1]⟩,
  ⟨some 15, .arith .sub (.t 6) (.t 14), none, true, []⟩,
  ⟨some 16, .minmax true [(.c (.int .i64 0)), (.t 15)], none, true, []⟩,
  ⟨some 4, .mov (.t 16), none, true, []⟩])
 .ret))⟩

def v44 : VFn := ⟨9, [(4, none)],
 (.seq (.region [⟨some 2, .box (.t 0) 1, none, true, []⟩,
  ⟨some 3, .box (.t 1) 1, none, true, []⟩,
  ⟨some 4, .mov (.c (.int .i64 0)), none, true, []⟩])
 (.seq (.region [⟨some 5, .faddr 0 (.t 2), none, true, []⟩,
  ⟨some 6, .load false 1 (.t 5), none, true, []⟩,
  ⟨some 7, .mkfunc (.func 51) [] [(.t 3)], none, true, []⟩,
  ⟨some 8, .call 50 [(.t 6), (.t 7)], none, true, []⟩,
  ⟨some 4, .mov (.t 8), none, true, []⟩])
 .ret))⟩

def v45 : VFn := ⟨36, [(2, none)],
 (.seq (.region [⟨some 2, .mov (.c .nils), none, true, []⟩])
 (.seq (.region [⟨some 3, .mov (.c (.int .i64 0)), none, true, []⟩])
 (.seq (.seq (.region [⟨some 9, .mov (.t 0), none, true, []⟩,
  ⟨some 10, .lenOf (.t 9), none, true, []⟩,
  ⟨some 11, .mov (.c (.int .i64 0)), none, true, []⟩])
 (.block 0 (.loop (.seq (.region [⟨some 12, .arith .lss (.t 11) (.t 10), none, true, []⟩])
 (.seq (.cond (.t 12) .skip
 (.exit 0))
 (.seq (.block 1 (.seq (.region [⟨some 13, .iaddr 1 (.t 9) (.t 11), none, true, []⟩,
  ⟨some 14, .load false 1 (.t 13), none, true, []⟩,
  ⟨some 5, .mov (.t 14), none, true, []⟩])
 (.seq (.region [⟨some 15, .mov (.t 3), none, true, []⟩,
  ⟨some 16, .mov (.t 5), none, true, []⟩,
  ⟨some 17, .lenOf (.t 16), none, true, []⟩,
  ⟨some 18, .arith .add (.t 15) (.t 17), none, true, []⟩,
  ⟨some 3, .mov (.t 18), none, true, []⟩])
 (.seq (.region [⟨some 19, .mov (.t 3), none, true, []⟩,
  ⟨some 20, .arith .lss (.t 19) (.c (.int .i64 0)), none, true, []⟩])
 (.cond (.t 20) (.region [⟨some 21, .mkiface 9 (.c (.str [108, 101, 110, 32, 111, 117, 116, 32, 111, 102, 32, 114, 97, 110, 103, 101])), none, true, []⟩,
  ⟨none, .bad, none, true, []⟩])
 .skip)))))
 (.region [⟨some 22, .arith .add (.t 11) (.c (.int .i64 1)), none, true, []⟩,
  ⟨some 11, .mov (.t 22), none, true, []⟩])))))))
 (.seq (.region [⟨some 23, .mov (.t 3), none, true, []⟩,
  ⟨some 24, .call 52 [(.c .nils), (.t 23)], none, true, []⟩,
  ⟨some 6, .mov (.t 24), none, true, []⟩])
 (.seq (.seq (.region [⟨some 25, .mov (.t 0), none, true, []⟩,
  ⟨some 26, .lenOf (.t 25), none, true, []⟩,
  ⟨some 27, .mov (.c (.int .i64 0)), none, true, []⟩])
 (.block 2 (.loop (.seq (.region [⟨some 28, .arith .lss (.t 27) (.t 26), none, true, []⟩])
 (.seq (.cond (.t 28) .skip
 (.exit 2))
 (.seq (.block 3 (.seq (.region [⟨some 29, .iaddr 1 (.t 25) (.t 27), none, true, []⟩,
  ⟨some 30, .load false 1 (.t 29), none, true, []⟩,
  ⟨some 8, .mov (.t 30), none, true, []⟩])
 (.region [⟨some 31, .mov (.t 6), none, true, []⟩,
  ⟨some 32, .mov (.t 8), none, true, []⟩,
  ⟨some 33, .append 3 24 (.t 31) (.t 32), none, true, []⟩,
  ⟨some 6, .mov (.t 33), none, true, []⟩])))
 (.region [⟨some 34, .arith .add (.t 27) (.c (.int .i64 1)), none, true, []⟩,
  ⟨some 27, .mov (.t 34), none, true, []⟩])))))))
 (.seq (.region [⟨some 35, .mov (.t 6), none, true, []⟩,
  ⟨some 2, .mov (.t 35), none, true, []⟩])
 .ret))))))⟩

def v46 : VFn := ⟨63, [],
 (.seq (.region [⟨some 6, .mov (.c (.int .i64 20)), none, true, []⟩])
 (.seq (.region [⟨some 10, .mov (.t 6), none, true, []⟩,
  ⟨some 7, .mov (.c (.int .i64 0)), none, true, []⟩,
  ⟨some 8, .mov (.t 10), none, true, []⟩])
 (.seq (.block 0 (.loop (.seq (.seq (.region [⟨some 11, .mov (.t 8), none, true, []⟩,
  ⟨some 12, .mov (.t 1), none, true, []⟩,
  ⟨some 13, .arith .leq (.t 11) (.t 12), none, true, []⟩])
 (.cond (.t 13) .skip
 (.exit 0)))
 (.block 1 (.seq (.region [⟨some 14, .mov (.t 0), none, true, []⟩,
  ⟨some 15, .mov (.t 7), none, true, []⟩,
  ⟨some 16, .mov (.t 8), none, true, []⟩,
  ⟨some 17, .mov (.t 2), none, true, []⟩,
  ⟨some 18, .call 53 [(.t 14), (.t 15), (.t 16), (.t 17)], none, true, []⟩])
 (.seq (.region [⟨some 19, .mov (.t 8), none, true, []⟩,
  ⟨some 7, .mov (.t 19), none, true, []⟩])
 (.region [⟨some 20, .mov (.t 8), none, true, []⟩,
  ⟨some 21, .mov (.t 6), none, true, []⟩,
  ⟨some 22, .arith .add (.t 20) (.t 21), none, true, []⟩,
  ⟨some 8, .mov (.t 22), none, true, []⟩])))))))
 (.seq (.region [⟨some 23, .mov (.t 0), none, true, []⟩,
  ⟨some 24, .mov (.t 7), none, true, []⟩,
  ⟨some 25, .mov (.t 1), none, true, []⟩,
  ⟨some 26, .mov (.t 2), none, true, []⟩,
  ⟨some 27, .call 53 [(.t 23), (.t 24), (.t 25), (.t 26)], none, true, []⟩])
 (.block 2 (.loop (.seq (.seq (.region [⟨some 28, .mov (.t 6), none, true, []⟩,
  ⟨some 29, .mov (.t 1), none, true, []⟩,
  ⟨some 30, .arith .lss (.t 28) (.t 29), none, true, []⟩])
 (.cond (.t 30) .skip
 (.exit 2)))
 (.block 3 (.seq (.region [⟨some 31, .mov (.t 6), none, true, []⟩,
  ⟨some 32, .arith .mul (.c (.int .i64 2)) (.t 31), none, true, []⟩,
  ⟨some 7, .mov (.c (.int .i64 0)), none, true, []⟩,
  ⟨some 8, .mov (.t 32), none, true, []⟩])
 (.seq (.block 4 (.loop (.seq (.seq (.region [⟨some 33, .mov (.t 8), none, true, []⟩,
  ⟨some 34, .mov (.t 1), none, true, []⟩,
  ⟨some 35, .arith .leq (.t 33) (.t 34), none, true, []⟩])
 (.cond (.t 35) .skip
 (.exit 4)))
 (.block 5 (.seq (.region [⟨some 36, .mov (.t 0), none, true, []⟩,
  ⟨some 37, .mov (.t 7), none, true, []⟩,
  ⟨some 38, .mov (.t 7), none, true, []⟩,
  ⟨some 39, .mov (.t 6), none, true, []⟩,
  ⟨some 40, .arith .add (.t 38) (.t 39), none, true, []⟩,
  ⟨some 41, .mov (.t 8), none, true, []⟩,
  ⟨some 42, .mov (.t 2), none, true, []⟩,
  ⟨some 43, .call 54 [(.t 36), (.t 37), (.t 40), (.t 41), (.t 42)], none, true, []⟩])
 (.seq (.region [⟨some 44, .mov (.t 8), none, true, []⟩,
  ⟨some 7, .mov (.t 44), none, true, []⟩])
 (.region [⟨some 45, .mov (.t 8), none, true, []⟩,
  ⟨some 46, .mov (.t 6), none, true, []⟩,
  ⟨some 47, .arith .mul (.c (.int .i64 2)) (.t 46), none, true, []⟩,
  ⟨some 48, .arith .add (.t 45) (.t 47), none, true, []⟩,
  ⟨some 8, .mov (.t 48), none, true, []⟩])))))))
 (.seq (.seq (.region [⟨some 49, .mov (.t 7), none, true, []⟩,
  ⟨some 50, .mov (.t 6), none, true, []⟩,
  ⟨some 51, .arith .add (.t 49) (.t 50), none, true, []⟩,
  ⟨some 9, .mov (.t 51), none, true, []⟩])
 (.seq (.region [⟨some 52, .mov (.t 9), none, true, []⟩,
  ⟨some 53, .mov (.t 1), none, true, []⟩,
  ⟨some 54, .arith .lss (.t 52) (.t 53), none, true, []⟩])
 (.cond (.t 54) (.region [⟨some 55, .mov (.t 0), none, true, []⟩,
  ⟨some 56, .mov (.t 7), none, true, []⟩,
  ⟨some 57, .mov (.t 9), none, true, []⟩,
  ⟨some 58, .mov (.t 1), none, true, []⟩,
  ⟨some 59, .mov (.t 2), none, true, []⟩,
  ⟨some 60, .call 54 [(.t 55), (.t 56), (.t 57), (.t 58), (.t 59)], none, true, []⟩])
 .skip)))
 (.region [⟨some 61, .mov (.t 6), none, true, []⟩,
  ⟨some 62, .arith .mul (.t 61) (.c (.int .i64 2)), none, true, []⟩,
  ⟨some 6, .mov (.t 62), none, true, []⟩]))))))))))))⟩

def v47 : VFn := ⟨20, [(4, none)],
 (.seq (.region [⟨some 4, .mov (.c (.int .i64 0)), none, true, []⟩])
 (.seq (.region [⟨some 7, .mov (.t 0), none, true, []⟩,
  ⟨some 8, .call 55 [(.t 7)], none, true, []⟩,
  ⟨some 5, .mov (.t 8), none, true, []⟩])
 (.seq (.region [⟨some 9, .mov (.t 1), none, true, []⟩,
  ⟨some 10, .call 55 [(.t 9)], none, true, []⟩,
  ⟨some 6, .mov (.t 10), none, true, []⟩])
 (.seq (.seq (.region [⟨some 11, .mov (.t 5), none, true, []⟩])
 (.cond (.t 11) (.seq (.seq (.region [⟨some 12, .mov (.t 6), none, true, []⟩])
 (.cond (.t 12) (.seq (.region [⟨some 4, .mov (.c (.int .i64 0)), none, true, []⟩])
 .ret)
 .skip))
 (.seq (.region [⟨some 4, .mov (.c (.int .i64 (-1))), none, true, []⟩])
 .ret))
 .skip))
 (.seq (.seq (.region [⟨some 13, .mov (.t 6), none, true, []⟩])
 (.cond (.t 13) (.seq (.region [⟨some 4, .mov (.c (.int .i64 1)), none, true, []⟩])
 .ret)
 .skip))
 (.seq (.seq (.region [⟨some 14, .mov (.t 0), none, true, []⟩,
  ⟨some 15, .mov (.t 1), none, true, []⟩,
  ⟨some 16, .arith .lss (.t 14) (.t 15), none, true, []⟩])
 (.cond (.t 16) (.seq (.region [⟨some 4, .mov (.c (.int .i64 (-1))), none, true, []⟩])
 .ret)
 .skip))
 (.seq (.seq (.region [⟨some 17, .mov (.t 0), none, true, []⟩,
  ⟨some 18, .mov (.t 1), none, true, []⟩,
  ⟨some 19, .arith .gtr (.t 17) (.t 18), none, true, []⟩])
 (.cond (.t 19) (.seq (.region [⟨some 4, .mov (.c (.int .i64 1)), none, true, []⟩])
 .ret)
 .skip))
 (.seq (.region [⟨some 4, .mov (.c (.int .i64 0)), none, true, []⟩])
 .ret))))))))⟩

def v48 : VFn := ⟨36, [(2, none)],
 (.seq (.region [⟨some 2, .mov (.c .nils), none, true, []⟩])
 (.seq (.region [⟨some 3, .mov (.c (.int .i64 0)), none, true, []⟩])
 (.seq (.seq (.region [⟨some 9, .mov (.t 0), none, true, []⟩,
  ⟨some 10, .lenOf (.t 9), none, true, []⟩,
  ⟨some 11, .mov (.c (.int .i64 0)), none, true, []⟩])
 (.block 0 (.loop (.seq (.region [⟨some 12, .arith .lss (.t 11) (.t 10), none, true, []⟩])
 (.seq (.cond (.t 12) .skip
 (.exit 0))
 (.seq (.block 1 (.seq (.region [⟨some 13, .iaddr 1 (.t 9) (.t 11), none, true, []⟩,
  ⟨some 14, .load false 1 (.t 13), none, true, []⟩,
  ⟨some 5, .mov (.t 14), none, true, []⟩])
 (.seq (.region [⟨some 15, .mov (.t 3), none, true, []⟩,
  ⟨some 16, .mov (.t 5), none, true, []⟩,
  ⟨some 17, .lenOf (.t 16), none, true, []⟩,
  ⟨some 18, .arith .add (.t 15) (.t 17), none, true, []⟩,
  ⟨some 3, .mov (.t 18), none, true, []⟩])
 (.seq (.region [⟨some 19, .mov (.t 3), none, true, []⟩,
  ⟨some 20, .arith .lss (.t 19) (.c (.int .i64 0)), none, true, []⟩])
 (.cond (.t 20) (.region [⟨some 21, .mkiface 9 (.c (.str [108, 101, 110, 32, 111, 117, 116, 32, 111, 102, 32, 114, 97, 110, 103, 101])), none, true, []⟩,
  ⟨none, .bad, none, true, []⟩])
 .skip)))))
 (.region [⟨some 22, .arith .add (.t 11) (.c (.int .i64 1)), none, true, []⟩,
  ⟨some 11, .mov (.t 22), none, true, []⟩])))))))
 (.seq (.region [⟨some 23, .mov (.t 3), none, true, []⟩,
  ⟨some 24, .call 56 [(.c .nils), (.t 23)], none, true, []⟩,
  ⟨some 6, .mov (.t 24), none, true, []⟩])
 (.seq (.seq (.region [⟨some 25, .mov (.t 0), none, true, []⟩,
  ⟨some 26, .lenOf (.t 25), none, true, []⟩,
  ⟨some 27, .mov (.c (.int .i64 0)), none, true, []⟩])
 (.block 2 (.loop (.seq (.region [⟨some 28, .arith .lss (.t 27) (.t 26), none, true, []⟩])
 (.seq (.cond (.t 28) .skip
 (.exit 2))
 (.seq (.block 3 (.seq (.region [⟨some 29, .iaddr 1 (.t 25) (.t 27), none, true, []⟩,
  ⟨some 30, .load false 1 (.t 29), none, true, []⟩,
  ⟨some 8, .mov (.t 30), none, true, []⟩])
 (.region [⟨some 31, .mov (.t 6), none, true, []⟩,
  ⟨some 32, .mov (.t 8), none, true, []⟩,
  ⟨some 33, .append 1 8 (.t 31) (.t 32), none, true, []⟩,
  ⟨some 6, .mov (.t 33), none, true, []⟩])))
 (.region [⟨some 34, .arith .add (.t 27) (.c (.int .i64 1)), none, true, []⟩,
  ⟨some 27, .mov (.t 34), none, true, []⟩])))))))
 (.seq (.region [⟨some 35, .mov (.t 6), none, true, []⟩,
  ⟨some 2, .mov (.t 35), none, true, []⟩])
 .ret))))))⟩

def v49 : VFn := ⟨19, [(4, none)],
 (.seq (.region [⟨some 4, .mov (.c (.int .i64 0)), none, true, []⟩])
 (.seq (.seq (.region [⟨some 6, .mov (.t 0), none, true, []⟩,
  ⟨some 7, .lenOf (.t 6), none, true, []⟩,
  ⟨some 8, .mov (.c (.int .i64 0)), none, true, []⟩])
 (.block 0 (.loop (.seq (.region [⟨some 9, .arith .lss (.t 8) (.t 7), none, true, []⟩])
 (.seq (.cond (.t 9) .skip
 (.exit 0))
 (.seq (.block 1 (.seq (.region [⟨some 10, .mov (.t 8), none, true, []⟩,
  ⟨some 5, .mov (.t 10), none, true, []⟩])
 (.seq (.region [⟨some 11, .mov (.t 1), none, true, []⟩,
  ⟨some 12, .mov (.t 0), none, true, []⟩,
  ⟨some 13, .mov (.t 5), none, true, []⟩,
  ⟨some 14, .iaddr 1 (.t 12) (.t 13), none, true, []⟩,
  ⟨some 15, .load false 1 (.t 14), none, true, []⟩,
  ⟨some 16, .eql false ⟨false, [(0, .i)]⟩ (.t 11) (.t 15), none, true, []⟩])
 (.cond (.t 16) (.seq (.region [⟨some 17, .mov (.t 5), none, true, []⟩,
  ⟨some 4, .mov (.t 17), none, true, []⟩])
 .ret)
 .skip))))
 (.region [⟨some 18, .arith .add (.t 8) (.c (.int .i64 1)), none, true, []⟩,
  ⟨some 8, .mov (.t 18), none, true, []⟩])))))))
 (.seq (.region [⟨some 4, .mov (.c (.int .i64 (-1))), none, true, []⟩])
 .ret)))⟩

def v50 : VFn := ⟨19, [(4, none)],
 (.seq (.region [⟨some 4, .mov (.c (.int .i64 0)), none, true, []⟩])
 (.seq (.seq (.region [⟨some 6, .mov (.t 0), none, true, []⟩,
  ⟨some 7, .lenOf (.t 6), none, true, []⟩,
  ⟨some 8, .mov (.c (.int .i64 0)), none, true, []⟩])
 (.block 0 (.loop (.seq (.region [⟨some 9, .arith .lss (.t 8) (.t 7), none, true, []⟩])
 (.seq (.cond (.t 9) .skip
 (.exit 0))
 (.seq (.block 1 (.seq (.region [⟨some 10, .mov (.t 8), none, true, []⟩,
  ⟨some 5, .mov (.t 10), none, true, []⟩])
 (.seq (.region [⟨some 11, .mov (.t 1), none, true, []⟩,
  ⟨some 12, .mov (.t 0), none, true, []⟩,
  ⟨some 13, .mov (.t 5), none, true, []⟩,
  ⟨some 14, .iaddr 3 (.t 12) (.t 13), none, true, []⟩,
  ⟨some 15, .load true 3 (.t 14), none, true, []⟩,
  ⟨some 16, .callv (.t 11) [(.t 15)], none, true, []⟩])
 (.cond (.t 16) (.seq (.region [⟨some 17, .mov (.t 5), none, true, []⟩,
  ⟨some 4, .mov (.t 17), none, true, []⟩])
 .ret)
 .skip))))
 (.region [⟨some 18, .arith .add (.t 8) (.c (.int .i64 1)), none, true, []⟩,
  ⟨some 8, .mov (.t 18), none, true, []⟩])))))))
 (.seq (.region [⟨some 4, .mov (.c (.int .i64 (-1))), none, true, []⟩])
 .ret)))⟩

def v51 : VFn := ⟨8, [(3, none)],
 (.seq (.region [⟨some 2, .box (.t 0) 3, none, true, []⟩,
  ⟨some 3, .mov (.c (.bool false)), none, true, []⟩])
 (.seq (.region [⟨some 4, .faddr 0 (.t 2), none, true, []⟩,
  ⟨some 5, .load false 1 (.t 4), none, true, []⟩,
  ⟨some 6, .load false 1 (.t 1), none, true, []⟩,
  ⟨some 7, .eql false ⟨false, [(0, .i)]⟩ (.t 5) (.t 6), none, true, []⟩,
  ⟨some 3, .mov (.t 7), none, true, []⟩])
 .ret))⟩

def v52 : VFn := ⟨27, [(4, none)],
 (.seq (.region [⟨some 4, .mov (.c .nils), none, true, []⟩])
 (.seq (.seq (.region [⟨some 5, .mov (.t 1), none, true, []⟩,
  ⟨some 6, .arith .lss (.t 5) (.c (.int .i64 0)), none, true, []⟩])
 (.cond (.t 6) (.region [⟨some 7, .mkiface 9 (.c (.str [99, 97, 110, 110, 111, 116, 32, 98, 101, 32, 110, 101, 103, 97, 116, 105, 118, 101])), none, true, []⟩,
  ⟨none, .bad, none, true, []⟩])
 .skip))
 (.seq (.seq (.region [⟨some 8, .mov (.t 1), none, true, []⟩,
  ⟨some 9, .mov (.t 0), none, true, []⟩,
  ⟨some 10, .capOf (.t 9), none, true, []⟩,
  ⟨some 11, .mov (.t 0), none, true, []⟩,
  ⟨some 12, .lenOf (.t 11), none, true, []⟩,
  ⟨some 13, .arith .sub (.t 10) (.t 12), none, true, []⟩,
  ⟨some 14, .arith .sub (.t 8) (.t 13), none, true, []⟩,
  ⟨some 1, .mov (.t 14), none, true, []⟩])
 (.seq (.region [⟨some 15, .mov (.t 1), none, true, []⟩,
  ⟨some 16, .arith .gtr (.t 15) (.c (.int .i64 0)), none, true, []⟩])
 (.cond (.t 16) (.region [⟨some 17, .mov (.t 0), none, true, []⟩,
  ⟨some 18, .mov (.t 0), none, true, []⟩,
  ⟨some 19, .capOf (.t 18), none, true, []⟩,
  ⟨some 20, .slice 3 (.t 17) none (some (.t 19)) none, none, true, []⟩,
  ⟨some 21, .mov (.t 1), none, true, []⟩,
  ⟨some 22, .appendZ 3 24 [(.int .i64 0), (.int .i64 0), (.int .i64 0)] (.t 20) (.t 21), none, true, []⟩,
  ⟨some 23, .mov (.t 0), none, true, []⟩,
  ⟨some 24, .lenOf (.t 23), none, true, []⟩,
  ⟨some 25, .slice 3 (.t 22) none (some (.t 24)) none, none, true, []⟩,
  ⟨some 0, .mov (.t 25), none, true, []⟩])
 .skip)))
 (.seq (.region [⟨some 26, .mov (.t 0), none, true, []⟩,
  ⟨some 4, .mov (.t 26), none, true, []⟩])
 .ret))))⟩

def v53 : VFn := ⟨53, [],
 (.seq (.region [⟨some 10, .mov (.t 1), none, true, []⟩,
  ⟨some 11, .arith .add (.t 10) (.c (.int .i64 1)), none, true, []⟩,
  ⟨some 8, .mov (.t 11), none, true, []⟩])
 (.block 0 (.loop (.seq (.seq (.region [⟨some 12, .mov (.t 8), none, true, []⟩,
  ⟨some 13, .mov (.t 2), none, true, []⟩,
  ⟨some 14, .arith .lss (.t 12) (.t 13), none, true, []⟩])
 (.cond (.t 14) .skip
 (.exit 0)))
 (.seq (.block 1 (.seq (.region [⟨some 17, .mov (.t 8), none, true, []⟩,
  ⟨some 9, .mov (.t 17), none, true, []⟩])
 (.block 2 (.loop (.seq (.seq (.draw [⟨some 18, .mov (.t 9), none, true, []⟩,
  ⟨some 19, .mov (.t 1), none, true, []⟩,
  ⟨some 20, .arith .gtr (.t 18) (.t 19), none, true, []⟩,
  ⟨some 21, .mov (.t 20), none, true, []⟩,
  ⟨some 22, .mov (.t 3), some (21, true), false, []⟩,
  ⟨some 23, .mov (.t 0), some (21, true), false, []⟩,
  ⟨some 24, .mov (.t 9), some (21, true), false, []⟩,
  ⟨some 25, .iaddr 3 (.t 23) (.t 24), some (21, true), false, []⟩,
  ⟨some 26, .load true 3 (.t 25), some (21, true), false, []⟩,
  ⟨some 27, .mov (.t 0), some (21, true), false, [8]⟩,
  ⟨some 28, .mov (.t 9), some (21, true), false, [8]⟩,
  ⟨some 29, .arith .sub (.t 28) (.c (.int .i64 1)), some (21, true), false, [8]⟩,
  ⟨some 30, .iaddr 3 (.t 27) (.t 29), some (21, true), false, [8]⟩,
  ⟨some 31, .load true 3 (.t 30), some (21, true), false, [8]⟩,
  ⟨some 32, .callv (.t 22) [(.t 26), (.t 31)], some (21, true), true, []⟩,
  ⟨some 33, .arith .lss (.t 32) (.c (.int .i64 0)), some (21, true), true, []⟩,
  ⟨some 34, .pick (.t 21) (.t 33) (.c (.bool false)), none, true, []⟩])
 (.cond (.t 34) .skip
 (.exit 2)))
 (.seq (.block 3 (.draw [⟨some 37, .mov (.t 0), none, false, []⟩,
  ⟨some 38, .mov (.t 9), none, false, []⟩,
  ⟨some 39, .mov (.t 0), none, false, []⟩,
  ⟨some 40, .mov (.t 9), none, false, []⟩,
  ⟨some 41, .arith .sub (.t 40) (.c (.int .i64 1)), none, false, []⟩,
  ⟨some 42, .mov (.t 0), none, false, []⟩,
  ⟨some 43, .mov (.t 9), none, false, []⟩,
  ⟨some 44, .arith .sub (.t 43) (.c (.int .i64 1)), none, false, []⟩,
  ⟨some 45, .iaddr 3 (.t 42) (.t 44), none, false, []⟩,
  ⟨some 46, .load true 3 (.t 45), none, false, []⟩,
  ⟨some 47, .mov (.t 0), none, false, [9]⟩,
  ⟨some 48, .mov (.t 9), none, false, [9]⟩,
  ⟨some 49, .iaddr 3 (.t 47) (.t 48), none, false, [9]⟩,
  ⟨some 50, .load true 3 (.t 49), none, false, [9]⟩,
  ⟨some 51, .iaddr 3 (.t 37) (.t 38), none, true, []⟩,
  ⟨none, .store 3 (.t 51) (.t 46), none, true, []⟩,
  ⟨some 52, .iaddr 3 (.t 39) (.t 41), none, true, []⟩,
  ⟨none, .store 3 (.t 52) (.t 50), none, true, []⟩]))
 (.region [⟨some 35, .mov (.t 9), none, true, []⟩,
  ⟨some 36, .arith .sub (.t 35) (.c (.int .i64 1)), none, true, []⟩,
  ⟨some 9, .mov (.t 36), none, true, []⟩])))))))
 (.region [⟨some 15, .mov (.t 8), none, true, []⟩,
  ⟨some 16, .arith .add (.t 15) (.c (.int .i64 1)), none, true, []⟩,
  ⟨some 8, .mov (.t 16), none, true, []⟩]))))))⟩

def v54 : VFn := ⟨220, [],
 (.seq (.seq (.region [⟨some 25, .mov (.t 2), none, true, []⟩,
  ⟨some 26, .mov (.t 1), none, true, []⟩,
  ⟨some 27, .arith .sub (.t 25) (.t 26), none, true, []⟩,
  ⟨some 28, .eql false ⟨false, [(0, .i)]⟩ (.t 27) (.c (.int .i64 1)), none, true, []⟩])
 (.cond (.t 28) (.seq (.region [⟨some 29, .mov (.t 2), none, true, []⟩,
  ⟨some 10, .mov (.t 29), none, true, []⟩])
 (.seq (.region [⟨some 30, .mov (.t 3), none, true, []⟩,
  ⟨some 11, .mov (.t 30), none, true, []⟩])
 (.seq (.block 0 (.loop (.seq (.seq (.region [⟨some 31, .mov (.t 10), none, true, []⟩,
  ⟨some 32, .mov (.t 11), none, true, []⟩,
  ⟨some 33, .arith .lss (.t 31) (.t 32), none, true, []⟩])
 (.cond (.t 33) .skip
 (.exit 0)))
 (.block 1 (.seq (.region [⟨some 34, .mov (.t 10), none, true, []⟩,
  ⟨some 35, .mov (.t 11), none, true, []⟩,
  ⟨some 36, .arith .add (.t 34) (.t 35), none, true, []⟩,
  ⟨some 37, .convInt .u64 (.t 36), none, true, []⟩,
  ⟨some 38, .arith .shr (.t 37) (.c (.int .u64 1)), none, true, []⟩,
  ⟨some 39, .convInt .i64 (.t 38), none, true, []⟩,
  ⟨some 12, .mov (.t 39), none, true, []⟩])
 (.seq (.draw [⟨some 40, .mov (.t 4), none, false, []⟩,
  ⟨some 41, .mov (.t 0), none, false, []⟩,
  ⟨some 42, .mov (.t 12), none, false, []⟩,
  ⟨some 43, .iaddr 3 (.t 41) (.t 42), none, false, []⟩,
  ⟨some 44, .load true 3 (.t 43), none, false, []⟩,
  ⟨some 45, .mov (.t 0), none, false, [4]⟩,
  ⟨some 46, .mov (.t 1), none, false, [4]⟩,
  ⟨some 47, .iaddr 3 (.t 45) (.t 46), none, false, [4]⟩,
  ⟨some 48, .load true 3 (.t 47), none, false, [4]⟩,
  ⟨some 49, .callv (.t 40) [(.t 44), (.t 48)], none, true, []⟩,
  ⟨some 50, .arith .lss (.t 49) (.c (.int .i64 0)), none, true, []⟩])
 (.cond (.t 50) (.region [⟨some 51, .mov (.t 12), none, true, []⟩,
  ⟨some 52, .arith .add (.t 51) (.c (.int .i64 1)), none, true, []⟩,
  ⟨some 10, .mov (.t 52), none, true, []⟩])
 (.region [⟨some 53, .mov (.t 12), none, true, []⟩,
  ⟨some 11, .mov (.t 53), none, true, []⟩]))))))))
 (.seq (.seq (.region [⟨some 54, .mov (.t 1), none, true, []⟩,
  ⟨some 13, .mov (.t 54), none, true, []⟩])
 (.block 2 (.loop (.seq (.seq (.region [⟨some 55, .mov (.t 13), none, true, []⟩,
  ⟨some 56, .mov (.t 10), none, true, []⟩,
  ⟨some 57, .arith .sub (.t 56) (.c (.int .i64 1)), none, true, []⟩,
  ⟨some 58, .arith .lss (.t 55) (.t 57), none, true, []⟩])
 (.cond (.t 58) .skip
 (.exit 2)))
 (.seq (.block 3 (.draw [⟨some 61, .mov (.t 0), none, false, []⟩,
  ⟨some 62, .mov (.t 13), none, false, []⟩,
  ⟨some 63, .mov (.t 0), none, false, []⟩,
  ⟨some 64, .mov (.t 13), none, false, []⟩,
  ⟨some 65, .arith .add (.t 64) (.c (.int .i64 1)), none, false, []⟩,
  ⟨some 66, .mov (.t 0), none, false, []⟩,
  ⟨some 67, .mov (.t 13), none, false, []⟩,
  ⟨some 68, .arith .add (.t 67) (.c (.int .i64 1)), none, false, []⟩,
  ⟨some 69, .iaddr 3 (.t 66) (.t 68), none, false, []⟩,
  ⟨some 70, .load true 3 (.t 69), none, false, []⟩,
  ⟨some 71, .mov (.t 0), none, false, [9]⟩,
  ⟨some 72, .mov (.t 13), none, false, [9]⟩,
  ⟨some 73, .iaddr 3 (.t 71) (.t 72), none, false, [9]⟩,
  ⟨some 74, .load true 3 (.t 73), none, false, [9]⟩,
  ⟨some 75, .iaddr 3 (.t 61) (.t 62), none, true, []⟩,
  ⟨none, .store 3 (.t 75) (.t 70), none, true, []⟩,
  ⟨some 76, .iaddr 3 (.t 63) (.t 65), none, true, []⟩,
  ⟨none, .store 3 (.t 76) (.t 74), none, true, []⟩]))
 (.region [⟨some 59, .mov (.t 13), none, true, []⟩,
  ⟨some 60, .arith .add (.t 59) (.c (.int .i64 1)), none, true, []⟩,
  ⟨some 13, .mov (.t 60), none, true, []⟩]))))))
 .ret))))
 .skip))
 (.seq (.seq (.region [⟨some 77, .mov (.t 3), none, true, []⟩,
  ⟨some 78, .mov (.t 2), none, true, []⟩,
  ⟨some 79, .arith .sub (.t 77) (.t 78), none, true, []⟩,
  ⟨some 80, .eql false ⟨false, [(0, .i)]⟩ (.t 79) (.c (.int .i64 1)), none, true, []⟩])
 (.cond (.t 80) (.seq (.region [⟨some 81, .mov (.t 1), none, true, []⟩,
  ⟨some 14, .mov (.t 81), none, true, []⟩])
 (.seq (.region [⟨some 82, .mov (.t 2), none, true, []⟩,
  ⟨some 15, .mov (.t 82), none, true, []⟩])
 (.seq (.block 4 (.loop (.seq (.seq (.region [⟨some 83, .mov (.t 14), none, true, []⟩,
  ⟨some 84, .mov (.t 15), none, true, []⟩,
  ⟨some 85, .arith .lss (.t 83) (.t 84), none, true, []⟩])
 (.cond (.t 85) .skip
 (.exit 4)))
 (.block 5 (.seq (.region [⟨some 86, .mov (.t 14), none, true, []⟩,
  ⟨some 87, .mov (.t 15), none, true, []⟩,
  ⟨some 88, .arith .add (.t 86) (.t 87), none, true, []⟩,
  ⟨some 89, .convInt .u64 (.t 88), none, true, []⟩,
  ⟨some 90, .arith .shr (.t 89) (.c (.int .u64 1)), none, true, []⟩,
  ⟨some 91, .convInt .i64 (.t 90), none, true, []⟩,
  ⟨some 16, .mov (.t 91), none, true, []⟩])
 (.seq (.draw [⟨some 92, .mov (.t 4), none, false, []⟩,
  ⟨some 93, .mov (.t 0), none, false, []⟩,
  ⟨some 94, .mov (.t 2), none, false, []⟩,
  ⟨some 95, .iaddr 3 (.t 93) (.t 94), none, false, []⟩,
  ⟨some 96, .load true 3 (.t 95), none, false, []⟩,
  ⟨some 97, .mov (.t 0), none, false, [4]⟩,
  ⟨some 98, .mov (.t 16), none, false, [4]⟩,
  ⟨some 99, .iaddr 3 (.t 97) (.t 98), none, false, [4]⟩,
  ⟨some 100, .load true 3 (.t 99), none, false, [4]⟩,
  ⟨some 101, .callv (.t 92) [(.t 96), (.t 100)], none, true, []⟩,
  ⟨some 102, .arith .lss (.t 101) (.c (.int .i64 0)), none, true, []⟩,
  ⟨some 103, .un .not (.t 102), none, true, []⟩])
 (.cond (.t 103) (.region [⟨some 104, .mov (.t 16), none, true, []⟩,
  ⟨some 105, .arith .add (.t 104) (.c (.int .i64 1)), none, true, []⟩,
  ⟨some 14, .mov (.t 105), none, true, []⟩])
 (.region [⟨some 106, .mov (.t 16), none, true, []⟩,
  ⟨some 15, .mov (.t 106), none, true, []⟩]))))))))
 (.seq (.seq (.region [⟨some 107, .mov (.t 2), none, true, []⟩,
  ⟨some 17, .mov (.t 107), none, true, []⟩])
 (.block 6 (.loop (.seq (.seq (.region [⟨some 108, .mov (.t 17), none, true, []⟩,
  ⟨some 109, .mov (.t 14), none, true, []⟩,
  ⟨some 110, .arith .gtr (.t 108) (.t 109), none, true, []⟩])
 (.cond (.t 110) .skip
 (.exit 6)))
 (.seq (.block 7 (.draw [⟨some 113, .mov (.t 0), none, false, []⟩,
  ⟨some 114, .mov (.t 17), none, false, []⟩,
  ⟨some 115, .mov (.t 0), none, false, []⟩,
  ⟨some 116, .mov (.t 17), none, false, []⟩,
  ⟨some 117, .arith .sub (.t 116) (.c (.int .i64 1)), none, false, []⟩,
  ⟨some 118, .mov (.t 0), none, false, []⟩,
  ⟨some 119, .mov (.t 17), none, false, []⟩,
  ⟨some 120, .arith .sub (.t 119) (.c (.int .i64 1)), none, false, []⟩,
  ⟨some 121, .iaddr 3 (.t 118) (.t 120), none, false, []⟩,
  ⟨some 122, .load true 3 (.t 121), none, false, []⟩,
  ⟨some 123, .mov (.t 0), none, false, [9]⟩,
  ⟨some 124, .mov (.t 17), none, false, [9]⟩,
  ⟨some 125, .iaddr 3 (.t 123) (.t 124), none, false, [9]⟩,
  ⟨some 126, .load true 3 (.t 125), none, false, [9]⟩,
  ⟨some 127, .iaddr 3 (.t 113) (.t 114), none, true, []⟩,
  ⟨none, .store 3 (.t 127) (.t 122), none, true, []⟩,
  ⟨some 128, .iaddr 3 (.t 115) (.t 117), none, true, []⟩,
  ⟨none, .store 3 (.t 128) (.t 126), none, true, []⟩]))
 (.region [⟨some 111, .mov (.t 17), none, true, []⟩,
  ⟨some 112, .arith .sub (.t 111) (.c (.int .i64 1)), none, true, []⟩,
  ⟨some 17, .mov (.t 112), none, true, []⟩]))))))
 .ret))))
 .skip))
 (.seq (.region [⟨some 129, .mov (.t 1), none, true, []⟩,
  ⟨some 130, .mov (.t 3), none, true, []⟩,
  ⟨some 131, .arith .add (.t 129) (.t 130), none, true, []⟩,
  ⟨some 132, .convInt .u64 (.t 131), none, true, []⟩,
  ⟨some 133, .arith .shr (.t 132) (.c (.int .u64 1)), none, true, []⟩,
  ⟨some 134, .convInt .i64 (.t 133), none, true, []⟩,
  ⟨some 18, .mov (.t 134), none, true, []⟩])
 (.seq (.region [⟨some 135, .mov (.t 18), none, true, []⟩,
  ⟨some 136, .mov (.t 2), none, true, []⟩,
  ⟨some 137, .arith .add (.t 135) (.t 136), none, true, []⟩,
  ⟨some 19, .mov (.t 137), none, true, []⟩])
 (.seq (.region [⟨some 20, .mov (.c (.int .i64 0)), none, true, []⟩,
  ⟨some 21, .mov (.c (.int .i64 0)), none, true, []⟩])
 (.seq (.seq (.region [⟨some 138, .mov (.t 2), none, true, []⟩,
  ⟨some 139, .mov (.t 18), none, true, []⟩,
  ⟨some 140, .arith .gtr (.t 138) (.t 139), none, true, []⟩])
 (.cond (.t 140) (.seq (.region [⟨some 141, .mov (.t 19), none, true, []⟩,
  ⟨some 142, .mov (.t 3), none, true, []⟩,
  ⟨some 143, .arith .sub (.t 141) (.t 142), none, true, []⟩,
  ⟨some 20, .mov (.t 143), none, true, []⟩])
 (.region [⟨some 144, .mov (.t 18), none, true, []⟩,
  ⟨some 21, .mov (.t 144), none, true, []⟩]))
 (.seq (.region [⟨some 145, .mov (.t 1), none, true, []⟩,
  ⟨some 20, .mov (.t 145), none, true, []⟩])
 (.region [⟨some 146, .mov (.t 2), none, true, []⟩,
  ⟨some 21, .mov (.t 146), none, true, []⟩]))))
 (.seq (.region [⟨some 147, .mov (.t 19), none, true, []⟩,
  ⟨some 148, .arith .sub (.t 147) (.c (.int .i64 1)), none, true, []⟩,
  ⟨some 22, .mov (.t 148), none, true, []⟩])
 (.seq (.block 8 (.loop (.seq (.seq (.region [⟨some 149, .mov (.t 20), none, true, []⟩,
  ⟨some 150, .mov (.t 21), none, true, []⟩,
  ⟨some 151, .arith .lss (.t 149) (.t 150), none, true, []⟩])
 (.cond (.t 151) .skip
 (.exit 8)))
 (.block 9 (.seq (.region [⟨some 152, .mov (.t 20), none, true, []⟩,
  ⟨some 153, .mov (.t 21), none, true, []⟩,
  ⟨some 154, .arith .add (.t 152) (.t 153), none, true, []⟩,
  ⟨some 155, .convInt .u64 (.t 154), none, true, []⟩,
  ⟨some 156, .arith .shr (.t 155) (.c (.int .u64 1)), none, true, []⟩,
  ⟨some 157, .convInt .i64 (.t 156), none, true, []⟩,
  ⟨some 23, .mov (.t 157), none, true, []⟩])
 (.seq (.draw [⟨some 158, .mov (.t 4), none, false, []⟩,
  ⟨some 159, .mov (.t 0), none, false, []⟩,
  ⟨some 160, .mov (.t 22), none, false, []⟩,
  ⟨some 161, .mov (.t 23), none, false, []⟩,
  ⟨some 162, .arith .sub (.t 160) (.t 161), none, false, []⟩,
  ⟨some 163, .iaddr 3 (.t 159) (.t 162), none, false, []⟩,
  ⟨some 164, .load true 3 (.t 163), none, false, []⟩,
  ⟨some 165, .mov (.t 0), none, false, [6]⟩,
  ⟨some 166, .mov (.t 23), none, false, [6]⟩,
  ⟨some 167, .iaddr 3 (.t 165) (.t 166), none, false, [6]⟩,
  ⟨some 168, .load true 3 (.t 167), none, false, [6]⟩,
  ⟨some 169, .callv (.t 158) [(.t 164), (.t 168)], none, true, []⟩,
  ⟨some 170, .arith .lss (.t 169) (.c (.int .i64 0)), none, true, []⟩,
  ⟨some 171, .un .not (.t 170), none, true, []⟩])
 (.cond (.t 171) (.region [⟨some 172, .mov (.t 23), none, true, []⟩,
  ⟨some 173, .arith .add (.t 172) (.c (.int .i64 1)), none, true, []⟩,
  ⟨some 20, .mov (.t 173), none, true, []⟩])
 (.region [⟨some 174, .mov (.t 23), none, true, []⟩,
  ⟨some 21, .mov (.t 174), none, true, []⟩]))))))))
 (.seq (.region [⟨some 175, .mov (.t 19), none, true, []⟩,
  ⟨some 176, .mov (.t 20), none, true, []⟩,
  ⟨some 177, .arith .sub (.t 175) (.t 176), none, true, []⟩,
  ⟨some 24, .mov (.t 177), none, true, []⟩])
 (.seq (.seq (.region [⟨some 178, .mov (.t 20), none, true, []⟩,
  ⟨some 179, .mov (.t 2), none, true, []⟩,
  ⟨some 180, .arith .lss (.t 178) (.t 179), none, true, []⟩,
  ⟨some 181, .mov (.t 180), none, true, []⟩,
  ⟨some 182, .mov (.t 2), some (181, true), true, []⟩,
  ⟨some 183, .mov (.t 24), some (181, true), true, []⟩,
  ⟨some 184, .arith .lss (.t 182) (.t 183), some (181, true), true, []⟩,
  ⟨some 185, .pick (.t 181) (.t 184) (.c (.bool false)), none, true, []⟩])
 (.cond (.t 185) (.region [⟨some 186, .mov (.t 0), none, true, []⟩,
  ⟨some 187, .mov (.t 20), none, true, []⟩,
  ⟨some 188, .mov (.t 2), none, true, []⟩,
  ⟨some 189, .mov (.t 24), none, true, []⟩,
  ⟨some 190, .mov (.t 4), none, true, []⟩,
  ⟨some 191, .call 57 [(.t 186), (.t 187), (.t 188), (.t 189), (.t 190)], none, true, []⟩])
 .skip))
 (.seq (.seq (.region [⟨some 192, .mov (.t 1), none, true, []⟩,
  ⟨some 193, .mov (.t 20), none, true, []⟩,
  ⟨some 194, .arith .lss (.t 192) (.t 193), none, true, []⟩,
  ⟨some 195, .mov (.t 194), none, true, []⟩,
  ⟨some 196, .mov (.t 20), some (195, true), true, []⟩,
  ⟨some 197, .mov (.t 18), some (195, true), true, []⟩,
  ⟨some 198, .arith .lss (.t 196) (.t 197), some (195, true), true, []⟩,
  ⟨some 199, .pick (.t 195) (.t 198) (.c (.bool false)), none, true, []⟩])
 (.cond (.t 199) (.region [⟨some 200, .mov (.t 0), none, true, []⟩,
  ⟨some 201, .mov (.t 1), none, true, []⟩,
  ⟨some 202, .mov (.t 20), none, true, []⟩,
  ⟨some 203, .mov (.t 18), none, true, []⟩,
  ⟨some 204, .mov (.t 4), none, true, []⟩,
  ⟨some 205, .call 54 [(.t 200), (.t 201), (.t 202), (.t 203), (.t 204)], none, true, []⟩])
 .skip))
 (.seq (.region [⟨some 206, .mov (.t 18), none, true, []⟩,
  ⟨some 207, .mov (.t 24), none, true, []⟩,
  ⟨some 208, .arith .lss (.t 206) (.t 207), none, true, []⟩,
  ⟨some 209, .mov (.t 208), none, true, []⟩,
  ⟨some 210, .mov (.t 24), some (209, true), true, []⟩,
  ⟨some 211, .mov (.t 3), some (209, true), true, []⟩,
  ⟨some 212, .arith .lss (.t 210) (.t 211), some (209, true), true, []⟩,
  ⟨some 213, .pick (.t 209) (.t 212) (.c (.bool false)), none, true, []⟩])
 (.cond (.t 213) (.region [⟨some 214, .mov (.t 0), none, true, []⟩,
  ⟨some 215, .mov (.t 18), none, true, []⟩,
  ⟨some 216, .mov (.t 24), none, true, []⟩,
  ⟨some 217, .mov (.t 3), none, true, []⟩,
  ⟨some 218, .mov (.t 4), none, true, []⟩,
  ⟨some 219, .call 54 [(.t 214), (.t 215), (.t 216), (.t 217), (.t 218)], none, true, []⟩])
 .skip)))))))))))))⟩

def v55 : VFn := ⟨6, [(2, none)],
 (.seq (.region [⟨some 2, .mov (.c (.bool false)), none, true, []⟩])
 (.seq (.region [⟨some 3, .mov (.t 0), none, true, []⟩,
  ⟨some 4, .mov (.t 0), none, true, []⟩,
  ⟨some 5, .eql true ⟨false, [(0, .i)]⟩ (.t 3) (.t 4), none, true, []⟩,
  ⟨some 2, .mov (.t 5), none, true, []⟩])
 .ret))⟩

def v56 : VFn := ⟨27, [(4, none)],
 (.seq (.region [⟨some 4, .mov (.c .nils), none, true, []⟩])
 (.seq (.seq (.region [⟨some 5, .mov (.t 1), none, true, []⟩,
  ⟨some 6, .arith .lss (.t 5) (.c (.int .i64 0)), none, true, []⟩])
 (.cond (.t 6) (.region [⟨some 7, .mkiface 9 (.c (.str [99, 97, 110, 110, 111, 116, 32, 98, 101, 32, 110, 101, 103, 97, 116, 105, 118, 101])), none, true, []⟩,
  ⟨none, .bad, none, true, []⟩])
 .skip))
 (.seq (.seq (.region [⟨some 8, .mov (.t 1), none, true, []⟩,
  ⟨some 9, .mov (.t 0), none, true, []⟩,
  ⟨some 10, .capOf (.t 9), none, true, []⟩,
  ⟨some 11, .mov (.t 0), none, true, []⟩,
  ⟨some 12, .lenOf (.t 11), none, true, []⟩,
  ⟨some 13, .arith .sub (.t 10) (.t 12), none, true, []⟩,
  ⟨some 14, .arith .sub (.t 8) (.t 13), none, true, []⟩,
  ⟨some 1, .mov (.t 14), none, true, []⟩])
 (.seq (.region [⟨some 15, .mov (.t 1), none, true, []⟩,
  ⟨some 16, .arith .gtr (.t 15) (.c (.int .i64 0)), none, true, []⟩])
 (.cond (.t 16) (.region [⟨some 17, .mov (.t 0), none, true, []⟩,
  ⟨some 18, .mov (.t 0), none, true, []⟩,
  ⟨some 19, .capOf (.t 18), none, true, []⟩,
  ⟨some 20, .slice 1 (.t 17) none (some (.t 19)) none, none, true, []⟩,
  ⟨some 21, .mov (.t 1), none, true, []⟩,
  ⟨some 22, .appendZ 1 8 [(.int .i64 0)] (.t 20) (.t 21), none, true, []⟩,
  ⟨some 23, .mov (.t 0), none, true, []⟩,
  ⟨some 24, .lenOf (.t 23), none, true, []⟩,
  ⟨some 25, .slice 1 (.t 22) none (some (.t 24)) none, none, true, []⟩,
  ⟨some 0, .mov (.t 25), none, true, []⟩])
 .skip)))
 (.seq (.region [⟨some 26, .mov (.t 0), none, true, []⟩,
  ⟨some 4, .mov (.t 26), none, true, []⟩])
 .ret))))⟩

def v57 : VFn := ⟨58, [],
 (.seq (.region [⟨some 12, .mov (.t 2), none, true, []⟩,
  ⟨some 13, .mov (.t 1), none, true, []⟩,
  ⟨some 14, .arith .sub (.t 12) (.t 13), none, true, []⟩,
  ⟨some 10, .mov (.t 14), none, true, []⟩])
 (.seq (.region [⟨some 15, .mov (.t 3), none, true, []⟩,
  ⟨some 16, .mov (.t 2), none, true, []⟩,
  ⟨some 17, .arith .sub (.t 15) (.t 16), none, true, []⟩,
  ⟨some 11, .mov (.t 17), none, true, []⟩])
 (.seq (.block 0 (.loop (.seq (.seq (.region [⟨some 18, .mov (.t 10), none, true, []⟩,
  ⟨some 19, .mov (.t 11), none, true, []⟩,
  ⟨some 20, .eql true ⟨false, [(0, .i)]⟩ (.t 18) (.t 19), none, true, []⟩])
 (.cond (.t 20) .skip
 (.exit 0)))
 (.block 1 (.seq (.region [⟨some 21, .mov (.t 10), none, true, []⟩,
  ⟨some 22, .mov (.t 11), none, true, []⟩,
  ⟨some 23, .arith .gtr (.t 21) (.t 22), none, true, []⟩])
 (.cond (.t 23) (.seq (.region [⟨some 24, .mov (.t 0), none, true, []⟩,
  ⟨some 25, .mov (.t 2), none, true, []⟩,
  ⟨some 26, .mov (.t 10), none, true, []⟩,
  ⟨some 27, .arith .sub (.t 25) (.t 26), none, true, []⟩,
  ⟨some 28, .mov (.t 2), none, true, []⟩,
  ⟨some 29, .mov (.t 11), none, true, []⟩,
  ⟨some 30, .mov (.t 4), none, true, []⟩,
  ⟨some 31, .call 58 [(.t 24), (.t 27), (.t 28), (.t 29), (.t 30)], none, true, []⟩])
 (.region [⟨some 32, .mov (.t 10), none, true, []⟩,
  ⟨some 33, .mov (.t 11), none, true, []⟩,
  ⟨some 34, .arith .sub (.t 32) (.t 33), none, true, []⟩,
  ⟨some 10, .mov (.t 34), none, true, []⟩]))
 (.seq (.region [⟨some 35, .mov (.t 0), none, true, []⟩,
  ⟨some 36, .mov (.t 2), none, true, []⟩,
  ⟨some 37, .mov (.t 10), none, true, []⟩,
  ⟨some 38, .arith .sub (.t 36) (.t 37), none, true, []⟩,
  ⟨some 39, .mov (.t 2), none, true, []⟩,
  ⟨some 40, .mov (.t 11), none, true, []⟩,
  ⟨some 41, .arith .add (.t 39) (.t 40), none, true, []⟩,
  ⟨some 42, .mov (.t 10), none, true, []⟩,
  ⟨some 43, .arith .sub (.t 41) (.t 42), none, true, []⟩,
  ⟨some 44, .mov (.t 10), none, true, []⟩,
  ⟨some 45, .mov (.t 4), none, true, []⟩,
  ⟨some 46, .call 58 [(.t 35), (.t 38), (.t 43), (.t 44), (.t 45)], none, true, []⟩])
 (.region [⟨some 47, .mov (.t 11), none, true, []⟩,
  ⟨some 48, .mov (.t 10), none, true, []⟩,
  ⟨some 49, .arith .sub (.t 47) (.t 48), none, true, []⟩,
  ⟨some 11, .mov (.t 49), none, true, []⟩]))))))))
 (.region [⟨some 50, .mov (.t 0), none, true, []⟩,
  ⟨some 51, .mov (.t 2), none, true, []⟩,
  ⟨some 52, .mov (.t 10), none, true, []⟩,
  ⟨some 53, .arith .sub (.t 51) (.t 52), none, true, []⟩,
  ⟨some 54, .mov (.t 2), none, true, []⟩,
  ⟨some 55, .mov (.t 10), none, true, []⟩,
  ⟨some 56, .mov (.t 4), none, true, []⟩,
  ⟨some 57, .call 58 [(.t 50), (.t 53), (.t 54), (.t 55), (.t 56)], none, true, []⟩]))))⟩

def v58 : VFn := ⟨38, [],
 (.seq (.region [⟨some 10, .mov (.c (.int .i64 0)), none, true, []⟩])
 (.block 0 (.loop (.seq (.seq (.region [⟨some 11, .mov (.t 10), none, true, []⟩,
  ⟨some 12, .mov (.t 3), none, true, []⟩,
  ⟨some 13, .arith .lss (.t 11) (.t 12), none, true, []⟩])
 (.cond (.t 13) .skip
 (.exit 0)))
 (.seq (.block 1 (.draw [⟨some 16, .mov (.t 0), none, false, []⟩,
  ⟨some 17, .mov (.t 1), none, false, []⟩,
  ⟨some 18, .mov (.t 10), none, false, []⟩,
  ⟨some 19, .arith .add (.t 17) (.t 18), none, false, []⟩,
  ⟨some 20, .mov (.t 0), none, false, []⟩,
  ⟨some 21, .mov (.t 2), none, false, []⟩,
  ⟨some 22, .mov (.t 10), none, false, []⟩,
  ⟨some 23, .arith .add (.t 21) (.t 22), none, false, []⟩,
  ⟨some 24, .mov (.t 0), none, false, []⟩,
  ⟨some 25, .mov (.t 2), none, false, []⟩,
  ⟨some 26, .mov (.t 10), none, false, []⟩,
  ⟨some 27, .arith .add (.t 25) (.t 26), none, false, []⟩,
  ⟨some 28, .iaddr 3 (.t 24) (.t 27), none, false, []⟩,
  ⟨some 29, .load true 3 (.t 28), none, false, []⟩,
  ⟨some 30, .mov (.t 0), none, false, [13]⟩,
  ⟨some 31, .mov (.t 1), none, false, [13]⟩,
  ⟨some 32, .mov (.t 10), none, false, [13]⟩,
  ⟨some 33, .arith .add (.t 31) (.t 32), none, false, [13]⟩,
  ⟨some 34, .iaddr 3 (.t 30) (.t 33), none, false, [13]⟩,
  ⟨some 35, .load true 3 (.t 34), none, false, [13]⟩,
  ⟨some 36, .iaddr 3 (.t 16) (.t 19), none, true, []⟩,
  ⟨none, .store 3 (.t 36) (.t 29), none, true, []⟩,
  ⟨some 37, .iaddr 3 (.t 20) (.t 23), none, true, []⟩,
  ⟨none, .store 3 (.t 37) (.t 35), none, true, []⟩]))
 (.region [⟨some 14, .mov (.t 10), none, true, []⟩,
  ⟨some 15, .arith .add (.t 14) (.c (.int .i64 1)), none, true, []⟩,
  ⟨some 10, .mov (.t 15), none, true, []⟩]))))))⟩

def fns : FuncId → Option VFn
  | 4 => some v4
  | 7 => some v7
  | 8 => some v8
  | 9 => some v9
  | 10 => some v10
  | 11 => some v11
  | 12 => some v12
  | 13 => some v13
  | 14 => some v14
  | 15 => some v15
  | 16 => some v16
  | 17 => some v17
  | 18 => some v18
  | 19 => some v19
  | 20 => some v20
  | 21 => some v21
  | 22 => some v22
  | 23 => some v23
  | 24 => some v24
  | 25 => some v25
  | 26 => some v26
  | 27 => some v27
  | 28 => some v28
  | 29 => some v29
  | 30 => some v30
  | 31 => some v31
  | 32 => some v32
  | 33 => some v33
  | 34 => some v34
  | 35 => some v35
  | 36 => some v36
  | 37 => some v37
  | 38 => some v38
  | 39 => some v39
  | 40 => some v40
  | 41 => some v41
  | 42 => some v42
  | 43 => some v43
  | 44 => some v44
  | 45 => some v45
  | 46 => some v46
  | 47 => some v47
  | 48 => some v48
  | 49 => some v49
  | 50 => some v50
  | 51 => some v51
  | 52 => some v52
  | 53 => some v53
  | 54 => some v54
  | 55 => some v55
  | 56 => some v56
  | 57 => some v57
  | 58 => some v58
  | _ => none

end Go.V
