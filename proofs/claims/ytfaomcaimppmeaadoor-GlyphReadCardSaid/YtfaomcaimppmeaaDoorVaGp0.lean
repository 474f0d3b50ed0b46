/-
  The compact code of the functions, and that it is what was loaded.
-/
import Derived.Test.YtfaomcaimppmeaaDoorProg
import Derived.Test.YtfaomcaimppmeaaDoorVa4
set_option linter.unusedVariables false
set_option maxRecDepth 100000
namespace Go.Vai
open Go.Proofs
def L12 : LFunc := ⟨71, 2, [.t 4], false, [], [],
 (.seq (.ops [⟨some 4, .mov (.cn (.bool false)), none⟩])
 (.seq (.ops [⟨some 16, .call (.fu 14) [], none⟩,
 ⟨some 5, .mov (.tm 16), none⟩])
 (.seq (.seq (.ops [⟨some 17, .mov (.tm 0), none⟩,
 ⟨some 18, .slen (.tm 17), none⟩,
 ⟨some 19, .bin .gtr (.tm 18) (.cn (.int .i64 4000)), none⟩])
 (.cond (.tm 19)
 (.seq (.ops [⟨some 20, .mov (.tm 5), none⟩,
 ⟨some 4, .mov (.tm 20), none⟩])
 .ret)
 .skip))
 (.seq (.ops [⟨some 22, .mov (.tm 0), none⟩,
 ⟨some 23, .mov (.tm 1), none⟩,
 ⟨some 24, .call (.fu 48) [(.tm 22), (.tm 23)], none⟩,
 ⟨some 21, .mov (.tm 24), none⟩,
 ⟨some 25, .ext (.tm 21) 0, none⟩,
 ⟨some 26, .ext (.tm 21) 1, none⟩,
 ⟨some 27, .ext (.tm 21) 2, none⟩,
 ⟨some 6, .alloc [.slice none 0 0, .slice none 0 0], none⟩,
 ⟨none, .store 2 (.tm 6) (.tm 25), none⟩,
 ⟨some 7, .mov (.tm 26), none⟩,
 ⟨some 8, .mov (.tm 27), none⟩])
 (.seq (.ops [⟨some 29, .mov (.tm 0), none⟩,
 ⟨some 30, .mov (.tm 1), none⟩,
 ⟨some 31, .call (.fu 50) [(.tm 29), (.tm 30)], none⟩,
 ⟨some 28, .mov (.tm 31), none⟩,
 ⟨some 32, .ext (.tm 28) 0, none⟩,
 ⟨some 33, .ext (.tm 28) 1, none⟩,
 ⟨some 34, .ext (.tm 28) 2, none⟩,
 ⟨some 9, .alloc [.slice none 0 0, .slice none 0 0], none⟩,
 ⟨none, .store 2 (.tm 9) (.tm 32), none⟩,
 ⟨some 10, .mov (.tm 33), none⟩,
 ⟨some 11, .mov (.tm 34), none⟩])
 (.seq (.ops [⟨some 36, .mov (.tm 0), none⟩,
 ⟨some 37, .call (.fu 51) [(.tm 36)], none⟩,
 ⟨some 35, .mov (.tm 37), none⟩,
 ⟨some 38, .ext (.tm 35) 0, none⟩,
 ⟨some 39, .ext (.tm 35) 1, none⟩,
 ⟨some 12, .alloc [.slice none 0 0, .slice none 0 0], none⟩,
 ⟨none, .store 2 (.tm 12) (.tm 38), none⟩,
 ⟨some 13, .mov (.tm 39), none⟩])
 (.seq (.ops [⟨some 41, .mov (.tm 0), none⟩,
 ⟨some 42, .call (.fu 52) [(.tm 41)], none⟩,
 ⟨some 40, .mov (.tm 42), none⟩,
 ⟨some 43, .ext (.tm 40) 0, none⟩,
 ⟨some 44, .ext (.tm 40) 1, none⟩,
 ⟨some 14, .alloc [.slice none 0 0, .slice none 0 0], none⟩,
 ⟨none, .store 2 (.tm 14) (.tm 43), none⟩,
 ⟨some 15, .mov (.tm 44), none⟩])
 (.seq (.ops [⟨some 45, .mov (.tm 5), none⟩,
 ⟨some 46, .mov (.tm 45), none⟩,
 ⟨some 47, .mov (.tm 8), (some (46, true))⟩,
 ⟨some 48, .mov (.tm 11), (some (46, true))⟩,
 ⟨some 49, .bin .eql (.tm 47) (.tm 48), (some (46, true))⟩,
 ⟨some 50, .pick (.tm 46) (.tm 49) (.cn (.bool false)), none⟩,
 ⟨some 51, .mov (.tm 50), none⟩,
 ⟨some 52, .mov (.tm 7), (some (51, true))⟩,
 ⟨some 53, .mov (.tm 10), (some (51, true))⟩,
 ⟨some 54, .bin .eql (.tm 52) (.tm 53), (some (51, true))⟩,
 ⟨some 55, .pick (.tm 51) (.tm 54) (.cn (.bool false)), none⟩,
 ⟨some 56, .mov (.tm 55), none⟩,
 ⟨some 57, .load (some 2) (.tm 6), (some (56, true))⟩,
 ⟨some 58, .load (some 2) (.tm 9), (some (56, true))⟩,
 ⟨some 59, .call (.fu 27) [(.tm 57), (.tm 58)], (some (56, true))⟩,
 ⟨some 60, .pick (.tm 56) (.tm 59) (.cn (.bool false)), none⟩,
 ⟨some 61, .mov (.tm 60), none⟩,
 ⟨some 62, .mov (.tm 13), (some (61, true))⟩,
 ⟨some 63, .mov (.tm 15), (some (61, true))⟩,
 ⟨some 64, .beq false (.tm 62) (.tm 63), (some (61, true))⟩,
 ⟨some 65, .pick (.tm 61) (.tm 64) (.cn (.bool false)), none⟩,
 ⟨some 66, .mov (.tm 65), none⟩,
 ⟨some 67, .load (some 2) (.tm 12), (some (66, true))⟩,
 ⟨some 68, .load (some 2) (.tm 14), (some (66, true))⟩,
 ⟨some 69, .call (.fu 27) [(.tm 67), (.tm 68)], (some (66, true))⟩,
 ⟨some 70, .pick (.tm 66) (.tm 69) (.cn (.bool false)), none⟩,
 ⟨some 4, .mov (.tm 70), none⟩])
 .ret))))))))⟩
theorem comp12 : compF Tryd.prog Tryd.f12 ⟨false, [], [], [], []⟩ = some L12 := by kernel_rfl

def L13 : LFunc := ⟨106, 1, [.t 2], false, [], [],
 (.seq (.ops [⟨some 2, .mov (.cn (.bool false)), none⟩])
 (.seq (.ops [⟨some 15, .call (.fu 14) [], none⟩,
 ⟨some 3, .mov (.tm 15), none⟩])
 (.seq (.ops [⟨some 17, .mov (.tm 0), none⟩,
 ⟨some 18, .mov (.tm 0), none⟩,
 ⟨some 19, .slen (.tm 18), none⟩,
 ⟨some 20, .bin .add (.tm 19) (.cn (.int .i64 3)), none⟩,
 ⟨some 21, .call (.fu 48) [(.tm 17), (.tm 20)], none⟩,
 ⟨some 16, .mov (.tm 21), none⟩,
 ⟨some 22, .ext (.tm 16) 0, none⟩,
 ⟨some 23, .ext (.tm 16) 1, none⟩,
 ⟨some 24, .ext (.tm 16) 2, none⟩,
 ⟨some 4, .alloc [.slice none 0 0, .slice none 0 0], none⟩,
 ⟨none, .store 2 (.tm 4) (.tm 22), none⟩,
 ⟨some 5, .mov (.tm 23), none⟩,
 ⟨some 6, .mov (.tm 24), none⟩])
 (.seq (.seq (.ops [⟨some 25, .mov (.tm 6), none⟩,
 ⟨some 26, .bin .neq (.tm 25) (.cn (.int .i64 0)), none⟩])
 (.cond (.tm 26)
 (.seq (.ops [⟨some 27, .mov (.tm 3), none⟩,
 ⟨some 28, .mov (.tm 27), none⟩,
 ⟨some 29, .mov (.tm 6), (some (28, true))⟩,
 ⟨some 30, .bin .eql (.tm 29) (.cn (.int .i64 50)), (some (28, true))⟩,
 ⟨some 31, .pick (.tm 28) (.tm 30) (.cn (.bool false)), none⟩,
 ⟨some 32, .mov (.tm 31), none⟩,
 ⟨some 33, .mov (.tm 5), (some (32, true))⟩,
 ⟨some 34, .mov (.tm 0), (some (32, true))⟩,
 ⟨some 35, .slen (.tm 34), (some (32, true))⟩,
 ⟨some 36, .bin .add (.tm 35) (.cn (.int .i64 3)), (some (32, true))⟩,
 ⟨some 37, .bin .eql (.tm 33) (.tm 36), (some (32, true))⟩,
 ⟨some 38, .pick (.tm 32) (.tm 37) (.cn (.bool false)), none⟩,
 ⟨some 39, .mov (.tm 38), none⟩,
 ⟨some 40, .fld (.tm 4) 0, (some (39, true))⟩,
 ⟨some 41, .load none (.tm 40), (some (39, true))⟩,
 ⟨some 42, .len (.tm 41), (some (39, true))⟩,
 ⟨some 43, .fld (.tm 4) 1, (some (39, true))⟩,
 ⟨some 44, .load none (.tm 43), (some (39, true))⟩,
 ⟨some 45, .len (.tm 44), (some (39, true))⟩,
 ⟨some 46, .bin .add (.tm 42) (.tm 45), (some (39, true))⟩,
 ⟨some 47, .bin .eql (.tm 46) (.cn (.int .i64 0)), (some (39, true))⟩,
 ⟨some 48, .pick (.tm 39) (.tm 47) (.cn (.bool false)), none⟩,
 ⟨some 2, .mov (.tm 48), none⟩])
 .ret)
 .skip))
 (.seq (.ops [⟨some 49, .load (some 2) (.tm 4), none⟩,
 ⟨some 50, .call (.fu 44) [(.tm 49)], none⟩,
 ⟨some 7, .mov (.tm 50), none⟩])
 (.seq (.ops [⟨some 52, .mov (.tm 7), none⟩,
 ⟨some 53, .mov (.tm 7), none⟩,
 ⟨some 54, .slen (.tm 53), none⟩,
 ⟨some 55, .call (.fu 48) [(.tm 52), (.tm 54)], none⟩,
 ⟨some 51, .mov (.tm 55), none⟩,
 ⟨some 56, .ext (.tm 51) 0, none⟩,
 ⟨some 57, .ext (.tm 51) 1, none⟩,
 ⟨some 58, .ext (.tm 51) 2, none⟩,
 ⟨some 8, .alloc [.slice none 0 0, .slice none 0 0], none⟩,
 ⟨none, .store 2 (.tm 8) (.tm 56), none⟩,
 ⟨some 9, .mov (.tm 57), none⟩,
 ⟨some 10, .mov (.tm 58), none⟩])
 (.seq (.ops [⟨some 60, .mov (.tm 7), none⟩,
 ⟨some 61, .call (.fu 51) [(.tm 60)], none⟩,
 ⟨some 59, .mov (.tm 61), none⟩,
 ⟨some 62, .ext (.tm 59) 0, none⟩,
 ⟨some 63, .ext (.tm 59) 1, none⟩,
 ⟨some 11, .alloc [.slice none 0 0, .slice none 0 0], none⟩,
 ⟨none, .store 2 (.tm 11) (.tm 62), none⟩,
 ⟨some 12, .mov (.tm 63), none⟩])
 (.seq (.ops [⟨some 65, .mov (.tm 0), none⟩,
 ⟨some 66, .call (.fu 51) [(.tm 65)], none⟩,
 ⟨some 64, .mov (.tm 66), none⟩,
 ⟨some 67, .ext (.tm 64) 0, none⟩,
 ⟨some 68, .ext (.tm 64) 1, none⟩,
 ⟨some 13, .alloc [.slice none 0 0, .slice none 0 0], none⟩,
 ⟨none, .store 2 (.tm 13) (.tm 67), none⟩,
 ⟨some 14, .mov (.tm 68), none⟩])
 (.seq (.ops [⟨some 69, .mov (.tm 3), none⟩,
 ⟨some 70, .mov (.tm 69), none⟩,
 ⟨some 71, .mov (.tm 5), (some (70, true))⟩,
 ⟨some 72, .bin .eql (.tm 71) (.cn (.int .i64 3)), (some (70, true))⟩,
 ⟨some 73, .pick (.tm 70) (.tm 72) (.cn (.bool false)), none⟩,
 ⟨some 74, .mov (.tm 73), none⟩,
 ⟨some 75, .load (some 2) (.tm 4), (some (74, true))⟩,
 ⟨some 76, .call (.fu 42) [(.tm 75)], (some (74, true))⟩,
 ⟨some 77, .pick (.tm 74) (.tm 76) (.cn (.bool false)), none⟩,
 ⟨some 78, .mov (.tm 77), none⟩,
 ⟨some 79, .mov (.tm 10), (some (78, true))⟩,
 ⟨some 80, .bin .eql (.tm 79) (.cn (.int .i64 0)), (some (78, true))⟩,
 ⟨some 81, .pick (.tm 78) (.tm 80) (.cn (.bool false)), none⟩,
 ⟨some 82, .mov (.tm 81), none⟩,
 ⟨some 83, .mov (.tm 9), (some (82, true))⟩,
 ⟨some 84, .bin .eql (.tm 83) (.cn (.int .i64 0)), (some (82, true))⟩,
 ⟨some 85, .pick (.tm 82) (.tm 84) (.cn (.bool false)), none⟩,
 ⟨some 86, .mov (.tm 85), none⟩,
 ⟨some 87, .load (some 2) (.tm 4), (some (86, true))⟩,
 ⟨some 88, .load (some 2) (.tm 8), (some (86, true))⟩,
 ⟨some 89, .call (.fu 27) [(.tm 87), (.tm 88)], (some (86, true))⟩,
 ⟨some 90, .pick (.tm 86) (.tm 89) (.cn (.bool false)), none⟩,
 ⟨some 91, .mov (.tm 90), none⟩,
 ⟨some 92, .mov (.tm 12), (some (91, true))⟩,
 ⟨some 93, .pick (.tm 91) (.tm 92) (.cn (.bool false)), none⟩,
 ⟨some 94, .mov (.tm 93), none⟩,
 ⟨some 95, .load (some 2) (.tm 4), (some (94, true))⟩,
 ⟨some 96, .load (some 2) (.tm 11), (some (94, true))⟩,
 ⟨some 97, .call (.fu 27) [(.tm 95), (.tm 96)], (some (94, true))⟩,
 ⟨some 98, .pick (.tm 94) (.tm 97) (.cn (.bool false)), none⟩,
 ⟨some 99, .mov (.tm 98), none⟩,
 ⟨some 100, .mov (.tm 14), (some (99, true))⟩,
 ⟨some 101, .mov (.tm 7), (some (99, true))⟩,
 ⟨some 102, .mov (.tm 0), (some (99, true))⟩,
 ⟨some 103, .bin .eql (.tm 101) (.tm 102), (some (99, true))⟩,
 ⟨some 104, .beq false (.tm 100) (.tm 103), (some (99, true))⟩,
 ⟨some 105, .pick (.tm 99) (.tm 104) (.cn (.bool false)), none⟩,
 ⟨some 2, .mov (.tm 105), none⟩])
 .ret)))))))))⟩
theorem comp13 : compF Tryd.prog Tryd.f13 ⟨false, [], [], [], []⟩ = some L13 := by kernel_rfl

def L14 : LFunc := ⟨114, 0, [.t 0], false, [], [],
 (.seq (.ops [⟨some 0, .mov (.cn (.bool false)), none⟩])
 (.seq (.ops [⟨some 12, .call (.fu 15) [(.cn (.string ⟨#[97, 226, 128, 139, 255, 10]⟩))], none⟩,
 ⟨some 1, .mov (.tm 12), none⟩])
 (.seq (.ops [⟨some 13, .build [.int .i64 0, .int .i64 0, .int .i64 0] [], none⟩,
 ⟨some 14, .bsl 3 [.int .i64 0, .int .i64 0, .int .i64 0] 1 [(0, (.tm 13))], none⟩,
 ⟨some 15, .build [.int .i64 0, .slice none 0 0, .slice none 0 0] [(0, 1, (.cn (.int .i64 5))), (2, 1, (.tm 14))], none⟩,
 ⟨some 16, .bsl 3 [.int .i64 0, .slice none 0 0, .slice none 0 0] 1 [(0, (.tm 15))], none⟩,
 ⟨some 17, .build [.slice none 0 0, .slice none 0 0] [(0, 1, (.tm 16))], none⟩,
 ⟨some 2, .alloc [.slice none 0 0, .slice none 0 0], none⟩,
 ⟨none, .store 2 (.tm 2) (.tm 17), none⟩])
 (.seq (.ops [⟨some 19, .load (some 2) (.tm 2), none⟩,
 ⟨some 20, .call (.fu 20) [(.tm 19), (.cn (.int .i64 0)), (.cn (.int .i64 10))], none⟩,
 ⟨some 18, .mov (.tm 20), none⟩,
 ⟨some 21, .ext (.tm 18) 0, none⟩,
 ⟨some 22, .ext (.tm 18) 1, none⟩,
 ⟨some 23, .ext (.tm 18) 2, none⟩,
 ⟨some 3, .mov (.tm 21), none⟩,
 ⟨some 4, .mov (.tm 22), none⟩,
 ⟨some 5, .mov (.tm 23), none⟩])
 (.seq (.ops [⟨some 25, .call (.fu 40) [], none⟩,
 ⟨some 26, .call (.fu 35) [(.tm 25), (.cn (.string ⟨#[97, 98]⟩))], none⟩,
 ⟨some 24, .mov (.tm 26), none⟩,
 ⟨some 27, .ext (.tm 24) 0, none⟩,
 ⟨some 28, .ext (.tm 24) 1, none⟩,
 ⟨some 6, .mov (.tm 27), none⟩,
 ⟨some 7, .mov (.tm 28), none⟩])
 (.seq (.ops [⟨some 29, .build [.int .i64 0, .int .i64 0] [(0, 1, (.cn (.int .i64 3))), (1, 1, (.cn (.int .i64 (-3))))], none⟩,
 ⟨some 30, .bsl 2 [.int .i64 0, .int .i64 0] 1 [(0, (.tm 29))], none⟩,
 ⟨some 31, .bsl 1 [.slice none 0 0] 1 [(0, (.tm 30))], none⟩,
 ⟨some 32, .call (.fu 32) [(.tm 31), (.cn (.int .i64 1)), (.cn (.int .i64 2))], none⟩,
 ⟨some 8, .mov (.tm 32), none⟩])
 (.seq (.ops [⟨some 33, .mov (.tm 1), none⟩,
 ⟨some 34, .len (.tm 33), none⟩,
 ⟨some 35, .bin .eql (.tm 34) (.cn (.int .i64 3)), none⟩,
 ⟨some 36, .mov (.tm 35), none⟩,
 ⟨some 37, .mov (.tm 1), (some (36, true))⟩,
 ⟨some 38, .ixa 1 (.tm 37) (.cn (.int .i64 0)), (some (36, true))⟩,
 ⟨some 39, .load none (.tm 38), (some (36, true))⟩,
 ⟨some 40, .bin .eql (.tm 39) (.cn (.int .i64 97)), (some (36, true))⟩,
 ⟨some 41, .pick (.tm 36) (.tm 40) (.cn (.bool false)), none⟩,
 ⟨some 42, .mov (.tm 41), none⟩,
 ⟨some 43, .mov (.tm 1), (some (42, true))⟩,
 ⟨some 44, .ixa 1 (.tm 43) (.cn (.int .i64 1)), (some (42, true))⟩,
 ⟨some 45, .load none (.tm 44), (some (42, true))⟩,
 ⟨some 46, .bin .eql (.tm 45) (.cn (.int .i64 65533)), (some (42, true))⟩,
 ⟨some 47, .pick (.tm 42) (.tm 46) (.cn (.bool false)), none⟩,
 ⟨some 48, .mov (.tm 47), none⟩,
 ⟨some 49, .mov (.tm 1), (some (48, true))⟩,
 ⟨some 50, .ixa 1 (.tm 49) (.cn (.int .i64 2)), (some (48, true))⟩,
 ⟨some 51, .load none (.tm 50), (some (48, true))⟩,
 ⟨some 52, .bin .eql (.tm 51) (.cn (.int .i64 32)), (some (48, true))⟩,
 ⟨some 53, .pick (.tm 48) (.tm 52) (.cn (.bool false)), none⟩,
 ⟨some 9, .mov (.tm 53), none⟩])
 (.seq (.ops [⟨some 54, .mov (.tm 3), none⟩,
 ⟨some 55, .len (.tm 54), none⟩,
 ⟨some 56, .bin .eql (.tm 55) (.cn (.int .i64 0)), none⟩,
 ⟨some 57, .mov (.tm 56), none⟩,
 ⟨some 58, .mov (.tm 4), (some (57, true))⟩,
 ⟨some 59, .bin .eql (.tm 58) (.cn (.int .i64 9)), (some (57, true))⟩,
 ⟨some 60, .pick (.tm 57) (.tm 59) (.cn (.bool false)), none⟩,
 ⟨some 61, .mov (.tm 60), none⟩,
 ⟨some 62, .mov (.tm 5), (some (61, true))⟩,
 ⟨some 63, .bin .eql (.tm 62) (.cn (.int .i64 0)), (some (61, true))⟩,
 ⟨some 64, .pick (.tm 61) (.tm 63) (.cn (.bool false)), none⟩,
 ⟨some 10, .mov (.tm 64), none⟩])
 (.seq (.ops [⟨some 65, .mov (.tm 6), none⟩,
 ⟨some 66, .len (.tm 65), none⟩,
 ⟨some 67, .bin .eql (.tm 66) (.cn (.int .i64 2)), none⟩,
 ⟨some 68, .mov (.tm 67), none⟩,
 ⟨some 69, .mov (.tm 6), (some (68, true))⟩,
 ⟨some 70, .ixa 3 (.tm 69) (.cn (.int .i64 0)), (some (68, true))⟩,
 ⟨some 71, .fld (.tm 70) 0, (some (68, true))⟩,
 ⟨some 72, .load none (.tm 71), (some (68, true))⟩,
 ⟨some 73, .bin .eql (.tm 72) (.cn (.int .i64 66)), (some (68, true))⟩,
 ⟨some 74, .pick (.tm 68) (.tm 73) (.cn (.bool false)), none⟩,
 ⟨some 75, .mov (.tm 74), none⟩,
 ⟨some 76, .mov (.tm 6), (some (75, true))⟩,
 ⟨some 77, .ixa 3 (.tm 76) (.cn (.int .i64 1)), (some (75, true))⟩,
 ⟨some 78, .load (some 3) (.tm 77), (some (75, true))⟩,
 ⟨some 79, .build [.int .i64 0, .int .i64 0, .int .i64 0] [(0, 1, (.cn (.int .i64 67))), (1, 1, (.cn (.int .i64 16)))], (some (75, true))⟩,
 ⟨some 80, .eqs [0, 0, 0] false (.tm 78) (.tm 79), (some (75, true))⟩,
 ⟨some 81, .pick (.tm 75) (.tm 80) (.cn (.bool false)), none⟩,
 ⟨some 82, .mov (.tm 81), none⟩,
 ⟨some 83, .mov (.tm 7), (some (82, true))⟩,
 ⟨some 84, .bin .eql (.tm 83) (.cn (.int .i64 32)), (some (82, true))⟩,
 ⟨some 85, .pick (.tm 82) (.tm 84) (.cn (.bool false)), none⟩,
 ⟨some 11, .mov (.tm 85), none⟩])
 (.seq (.ops [⟨some 86, .mov (.tm 9), none⟩,
 ⟨some 87, .mov (.tm 86), none⟩,
 ⟨some 88, .mov (.tm 10), (some (87, true))⟩,
 ⟨some 89, .pick (.tm 87) (.tm 88) (.cn (.bool false)), none⟩,
 ⟨some 90, .mov (.tm 89), none⟩,
 ⟨some 91, .mov (.tm 11), (some (90, true))⟩,
 ⟨some 92, .pick (.tm 90) (.tm 91) (.cn (.bool false)), none⟩,
 ⟨some 93, .mov (.tm 92), none⟩,
 ⟨some 94, .mov (.tm 8), (some (93, true))⟩,
 ⟨some 95, .len (.tm 94), (some (93, true))⟩,
 ⟨some 96, .bin .eql (.tm 95) (.cn (.int .i64 1)), (some (93, true))⟩,
 ⟨some 97, .pick (.tm 93) (.tm 96) (.cn (.bool false)), none⟩,
 ⟨some 98, .mov (.tm 97), none⟩,
 ⟨some 99, .mov (.tm 8), (some (98, true))⟩,
 ⟨some 100, .ixa 1 (.tm 99) (.cn (.int .i64 0)), (some (98, true))⟩,
 ⟨some 101, .load none (.tm 100), (some (98, true))⟩,
 ⟨some 102, .len (.tm 101), (some (98, true))⟩,
 ⟨some 103, .bin .eql (.tm 102) (.cn (.int .i64 1)), (some (98, true))⟩,
 ⟨some 104, .pick (.tm 98) (.tm 103) (.cn (.bool false)), none⟩,
 ⟨some 105, .mov (.tm 104), none⟩,
 ⟨some 106, .mov (.tm 8), (some (105, true))⟩,
 ⟨some 107, .ixa 1 (.tm 106) (.cn (.int .i64 0)), (some (105, true))⟩,
 ⟨some 108, .load none (.tm 107), (some (105, true))⟩,
 ⟨some 109, .ixa 2 (.tm 108) (.cn (.int .i64 0)), (some (105, true))⟩,
 ⟨some 110, .load (some 2) (.tm 109), (some (105, true))⟩,
 ⟨some 111, .build [.int .i64 0, .int .i64 0] [(0, 1, (.cn (.int .i64 1))), (1, 1, (.cn (.int .i64 (-2))))], (some (105, true))⟩,
 ⟨some 112, .eqs [0, 0] false (.tm 110) (.tm 111), (some (105, true))⟩,
 ⟨some 113, .pick (.tm 105) (.tm 112) (.cn (.bool false)), none⟩,
 ⟨some 0, .mov (.tm 113), none⟩])
 .ret))))))))))⟩
theorem comp14 : compF Tryd.prog Tryd.f14 ⟨false, [], [], [], []⟩ = some L14 := by kernel_rfl

def L15 : LFunc := ⟨32, 1, [.t 2], false, [], [],
 (.seq (.ops [⟨some 2, .mov (.cn (.slice none 0 0)), none⟩])
 (.seq (.ops [⟨some 3, .mov (.cn (.slice none 0 0)), none⟩])
 (.seq (.block 0
 (.pre [.tmp 3 (some 1)] (.loop [0, 3]
 (.seq (.seq (.ops [⟨some 6, .mov (.tm 0), none⟩,
 ⟨some 7, .slen (.tm 6), none⟩,
 ⟨some 8, .bin .gtr (.tm 7) (.cn (.int .i64 0)), none⟩])
 (.cond (.tm 8)
 .skip
 (.exit 0)))
 (.block 1
 (.seq (.ops [⟨some 10, .mov (.tm 0), none⟩,
 ⟨some 11, .call (.fu 53) [(.tm 10)], none⟩,
 ⟨some 9, .mov (.tm 11), none⟩,
 ⟨some 12, .ext (.tm 9) 0, none⟩,
 ⟨some 13, .ext (.tm 9) 1, none⟩,
 ⟨some 4, .mov (.tm 12), none⟩,
 ⟨some 5, .mov (.tm 13), none⟩])
 (.seq (.ops [⟨some 14, .mov (.tm 0), none⟩,
 ⟨some 15, .mov (.tm 5), none⟩,
 ⟨some 16, .slcs (.tm 14) (some (.tm 15)) none, none⟩,
 ⟨some 0, .mov (.tm 16), none⟩])
 (.seq (.seq (.ops [⟨some 17, .mov (.tm 4), none⟩])
 (.block 2
 (.seq (.seq (.ops [⟨some 19, .bin .eql (.tm 17) (.cn (.int .i32 9)), none⟩,
 ⟨some 18, .mov (.tm 19), none⟩])
 (.cond (.tm 18)
 .skip
 (.seq (.ops [⟨some 20, .bin .eql (.tm 17) (.cn (.int .i32 10)), none⟩,
 ⟨some 18, .mov (.tm 20), none⟩])
 (.cond (.tm 18)
 .skip
 (.seq (.ops [⟨some 21, .bin .eql (.tm 17) (.cn (.int .i32 13)), none⟩,
 ⟨some 18, .mov (.tm 21), none⟩])
 (.cond (.tm 18)
 .skip
 (.ops [⟨some 22, .bin .eql (.tm 17) (.cn (.int .i32 160)), none⟩,
 ⟨some 18, .mov (.tm 22), none⟩])))))))
 (.cond (.tm 18)
 (.ops [⟨some 4, .mov (.cn (.int .i32 32)), none⟩])
 .skip))))
 (.seq (.ops [⟨some 23, .mov (.tm 4), none⟩,
 ⟨some 24, .call (.fu 54) [(.tm 23)], none⟩,
 ⟨some 25, .un .not (.tm 24), none⟩])
 (.cond (.tm 25)
 (.ops [⟨some 26, .mov (.tm 3), none⟩,
 ⟨some 27, .mov (.tm 4), none⟩,
 ⟨some 28, .conv .i64 (.tm 27), none⟩,
 ⟨some 29, .bsl 1 [.int .i64 0] 1 [(0, (.tm 28))], none⟩,
 ⟨some 30, .app 1 8 false (.tm 26) (.tm 29), none⟩,
 ⟨some 3, .mov (.tm 30), none⟩])
 .skip))))))))))
 (.seq (.ops [⟨some 31, .mov (.tm 3), none⟩,
 ⟨some 2, .mov (.tm 31), none⟩])
 .ret))))⟩
theorem comp15 : compF Tryd.prog Tryd.f15 ⟨false, [], [([.tmp 3 (some 1)], [0, 3])], [], []⟩ = some L15 := by kernel_rfl

def L18 : LFunc := ⟨75, 2, [.t 4], false, [], [],
 (.seq (.ops [⟨some 2, .box (.tm 0), none⟩,
 ⟨some 4, .mov (.cn (.bool false)), none⟩])
 (.seq (.ops [⟨some 8, .fld (.tm 2) 0, none⟩,
 ⟨some 9, .load none (.tm 8), none⟩,
 ⟨some 10, .len (.tm 9), none⟩,
 ⟨some 11, .fld (.tm 2) 1, none⟩,
 ⟨some 12, .load none (.tm 11), none⟩,
 ⟨some 13, .len (.tm 12), none⟩,
 ⟨some 14, .bin .add (.tm 10) (.tm 13), none⟩,
 ⟨some 5, .mov (.tm 14), none⟩])
 (.seq (.seq (.ops [⟨some 6, .mov (.cn (.int .i64 0)), none⟩])
 (.block 0
 (.loop [1, 2, 5, 6]
 (.seq (.seq (.ops [⟨some 15, .mov (.tm 6), none⟩,
 ⟨some 16, .fld (.tm 2) 0, none⟩,
 ⟨some 17, .load none (.tm 16), none⟩,
 ⟨some 18, .len (.tm 17), none⟩,
 ⟨some 19, .bin .lss (.tm 15) (.tm 18), none⟩,
 ⟨some 20, .mov (.tm 19), none⟩,
 ⟨some 21, .mov (.tm 5), (some (20, true))⟩,
 ⟨some 22, .mov (.tm 1), (some (20, true))⟩,
 ⟨some 23, .bin .leq (.tm 21) (.tm 22), (some (20, true))⟩,
 ⟨some 24, .pick (.tm 20) (.tm 23) (.cn (.bool false)), none⟩])
 (.cond (.tm 24)
 .skip
 (.exit 0)))
 (.seq (.block 1
 (.seq (.draw [⟨some 27, .mov (.tm 5), none⟩,
 ⟨some 28, .fld (.tm 2) 0, none⟩,
 ⟨some 29, .load none (.tm 28), none⟩,
 ⟨some 30, .mov (.tm 6), none⟩,
 ⟨some 31, .ixa 3 (.tm 29) (.tm 30), none⟩,
 ⟨some 32, .fld (.tm 31) 2, none⟩,
 ⟨some 33, .load none (.tm 32), none⟩,
 ⟨some 34, .len (.tm 33), none⟩,
 ⟨some 35, .fld (.tm 2) 0, none⟩,
 ⟨some 36, .load none (.tm 35), none⟩,
 ⟨some 37, .mov (.tm 6), none⟩,
 ⟨some 38, .ixa 3 (.tm 36) (.tm 37), none⟩,
 ⟨some 39, .fld (.tm 38) 1, none⟩,
 ⟨some 40, .load none (.tm 39), none⟩,
 ⟨some 41, .len (.tm 40), none⟩,
 ⟨some 42, .bin .add (.tm 34) (.tm 41), none⟩,
 ⟨some 43, .bin .add (.tm 27) (.tm 42), none⟩,
 ⟨some 5, .mov (.tm 43), none⟩]
 [])
 (.seq (.ops [⟨some 7, .mov (.cn (.int .i64 0)), none⟩])
 (.block 2
 (.loop [1, 2, 5, 6, 7]
 (.seq (.seq (.ops [⟨some 44, .mov (.tm 7), none⟩,
 ⟨some 45, .fld (.tm 2) 0, none⟩,
 ⟨some 46, .load none (.tm 45), none⟩,
 ⟨some 47, .mov (.tm 6), none⟩,
 ⟨some 48, .ixa 3 (.tm 46) (.tm 47), none⟩,
 ⟨some 49, .fld (.tm 48) 1, none⟩,
 ⟨some 50, .load none (.tm 49), none⟩,
 ⟨some 51, .len (.tm 50), none⟩,
 ⟨some 52, .bin .lss (.tm 44) (.tm 51), none⟩,
 ⟨some 53, .mov (.tm 52), none⟩,
 ⟨some 54, .mov (.tm 5), (some (53, true))⟩,
 ⟨some 55, .mov (.tm 1), (some (53, true))⟩,
 ⟨some 56, .bin .leq (.tm 54) (.tm 55), (some (53, true))⟩,
 ⟨some 57, .pick (.tm 53) (.tm 56) (.cn (.bool false)), none⟩])
 (.cond (.tm 57)
 .skip
 (.exit 2)))
 (.seq (.block 3
 (.ops [⟨some 60, .mov (.tm 5), none⟩,
 ⟨some 61, .fld (.tm 2) 0, none⟩,
 ⟨some 62, .load none (.tm 61), none⟩,
 ⟨some 63, .mov (.tm 6), none⟩,
 ⟨some 64, .ixa 3 (.tm 62) (.tm 63), none⟩,
 ⟨some 65, .fld (.tm 64) 1, none⟩,
 ⟨some 66, .load none (.tm 65), none⟩,
 ⟨some 67, .mov (.tm 7), none⟩,
 ⟨some 68, .ixa 1 (.tm 66) (.tm 67), none⟩,
 ⟨some 69, .load none (.tm 68), none⟩,
 ⟨some 70, .len (.tm 69), none⟩,
 ⟨some 71, .bin .add (.tm 60) (.tm 70), none⟩,
 ⟨some 5, .mov (.tm 71), none⟩]))
 (.ops [⟨some 58, .mov (.tm 7), none⟩,
 ⟨some 59, .bin .add (.tm 58) (.cn (.int .i64 1)), none⟩,
 ⟨some 7, .mov (.tm 59), none⟩]))))))))
 (.ops [⟨some 25, .mov (.tm 6), none⟩,
 ⟨some 26, .bin .add (.tm 25) (.cn (.int .i64 1)), none⟩,
 ⟨some 6, .mov (.tm 26), none⟩]))))))
 (.seq (.ops [⟨some 72, .mov (.tm 5), none⟩,
 ⟨some 73, .mov (.tm 1), none⟩,
 ⟨some 74, .bin .leq (.tm 72) (.tm 73), none⟩,
 ⟨some 4, .mov (.tm 74), none⟩])
 .ret))))⟩
theorem comp18 : compF Tryd.prog Tryd.f18 ⟨false, [], [([], [1, 2, 5, 6]), ([], [1, 2, 5, 6, 7])], [], []⟩ = some L18 := by kernel_rfl

def L19 : LFunc := ⟨39, 1, [.cell 2 (some 2)], false, [], [],
 (.seq (.ops [⟨some 1, .box (.tm 0), none⟩,
 ⟨some 2, .alloc [.slice none 0 0, .slice none 0 0], none⟩])
 (.seq (.ops [⟨some 6, .bsl 2 [.int .i64 0, .int .i64 0] 0 [], none⟩,
 ⟨some 7, .fld (.tm 1) 1, none⟩,
 ⟨some 8, .load none (.tm 7), none⟩,
 ⟨some 9, .app 2 16 false (.tm 6) (.tm 8), none⟩,
 ⟨some 10, .build [.slice none 0 0, .slice none 0 0] [(1, 1, (.tm 9))], none⟩,
 ⟨some 3, .alloc [.slice none 0 0, .slice none 0 0], none⟩,
 ⟨none, .store 2 (.tm 3) (.tm 10), none⟩])
 (.seq (.seq (.ops [⟨some 4, .mov (.cn (.int .i64 0)), none⟩])
 (.block 0
 (.pre [.bx 3 0 (some 3)] (.loop [1, 2, 3, 4]
 (.seq (.seq (.ops [⟨some 11, .mov (.tm 4), none⟩,
 ⟨some 12, .fld (.tm 1) 0, none⟩,
 ⟨some 13, .load none (.tm 12), none⟩,
 ⟨some 14, .len (.tm 13), none⟩,
 ⟨some 15, .bin .lss (.tm 11) (.tm 14), none⟩])
 (.cond (.tm 15)
 .skip
 (.exit 0)))
 (.seq (.block 1
 (.seq (.ops [⟨some 18, .fld (.tm 1) 0, none⟩,
 ⟨some 19, .load none (.tm 18), none⟩,
 ⟨some 20, .mov (.tm 4), none⟩,
 ⟨some 21, .ixa 3 (.tm 19) (.tm 20), none⟩,
 ⟨some 22, .load (some 3) (.tm 21), none⟩,
 ⟨some 5, .alloc [.int .i64 0, .slice none 0 0, .slice none 0 0], none⟩,
 ⟨none, .store 3 (.tm 5) (.tm 22), none⟩])
 (.draw [⟨some 23, .fld (.tm 3) 0, none⟩,
 ⟨some 24, .load none (.tm 23), none⟩,
 ⟨some 25, .fld (.tm 5) 0, none⟩,
 ⟨some 26, .load none (.tm 25), none⟩,
 ⟨some 27, .fld (.tm 5) 1, none⟩,
 ⟨some 28, .load none (.tm 27), none⟩,
 ⟨some 29, .call (.fu 28) [(.tm 28)], none⟩,
 ⟨some 30, .bsl 3 [.int .i64 0, .int .i64 0, .int .i64 0] 0 [], none⟩,
 ⟨some 31, .fld (.tm 5) 2, none⟩,
 ⟨some 32, .load none (.tm 31), none⟩,
 ⟨some 33, .app 3 24 false (.tm 30) (.tm 32), none⟩,
 ⟨some 34, .build [.int .i64 0, .slice none 0 0, .slice none 0 0] [(0, 1, (.tm 26)), (1, 1, (.tm 29)), (2, 1, (.tm 33))], none⟩,
 ⟨some 35, .bsl 3 [.int .i64 0, .slice none 0 0, .slice none 0 0] 1 [(0, (.tm 34))], none⟩,
 ⟨some 36, .app 3 56 false (.tm 24) (.tm 35), none⟩,
 ⟨some 37, .fld (.tm 3) 0, none⟩,
 ⟨none, .store 1 (.tm 37) (.tm 36), none⟩]
 [(1, 6), (3, 6), (1, 7), (3, 7), (5, 7), (6, 7), (6, 9), (7, 9), (1, 10), (3, 10), (1, 12)])))
 (.ops [⟨some 16, .mov (.tm 4), none⟩,
 ⟨some 17, .bin .add (.tm 16) (.cn (.int .i64 1)), none⟩,
 ⟨some 4, .mov (.tm 17), none⟩])))))))
 (.seq (.ops [⟨some 38, .load (some 2) (.tm 3), none⟩,
 ⟨none, .store 2 (.tm 2) (.tm 38), none⟩])
 .ret))))⟩
theorem comp19 : compF Tryd.prog Tryd.f19 ⟨false, [], [([.bx 3 0 (some 3)], [1, 2, 3, 4])], [], []⟩ = some L19 := by kernel_rfl

def L20 : LFunc := ⟨31, 3, [.t 6, .t 7, .t 8], false, [], [],
 (.seq (.ops [⟨some 3, .box (.tm 0), none⟩,
 ⟨some 5, .box (.tm 2), none⟩,
 ⟨some 6, .mov (.cn (.slice none 0 0)), none⟩,
 ⟨some 7, .mov (.cn (.int .i64 0)), none⟩,
 ⟨some 8, .mov (.cn (.int .i64 0)), none⟩])
 (.seq (.ops [⟨some 12, .load none (.tm 5), none⟩,
 ⟨some 13, .mx [(.tm 12), (.cn (.int .i64 0))], none⟩,
 ⟨none, .store 1 (.tm 5) (.tm 13), none⟩])
 (.seq (.seq (.ops [⟨some 14, .mov (.tm 1), none⟩,
 ⟨some 15, .bin .lss (.tm 14) (.cn (.int .i64 0)), none⟩,
 ⟨some 16, .mov (.tm 15), none⟩,
 ⟨some 17, .mov (.tm 1), (some (16, false))⟩,
 ⟨some 18, .fld (.tm 3) 0, (some (16, false))⟩,
 ⟨some 19, .load none (.tm 18), (some (16, false))⟩,
 ⟨some 20, .len (.tm 19), (some (16, false))⟩,
 ⟨some 21, .bin .geq (.tm 17) (.tm 20), (some (16, false))⟩,
 ⟨some 22, .pick (.tm 16) (.cn (.bool true)) (.tm 21), none⟩])
 (.cond (.tm 22)
 (.seq (.draw [⟨some 23, .load none (.tm 5), none⟩,
 ⟨some 6, .mov (.cn (.slice none 0 0)), none⟩,
 ⟨some 7, .mov (.tm 23), none⟩,
 ⟨some 8, .mov (.cn (.int .i64 51)), none⟩]
 [])
 .ret)
 .skip))
 (.seq (.ops [⟨some 9, .alloc [.slice none 0 0], none⟩])
 (.seq (.ops [⟨some 10, .alloc [.slice none 0 0], none⟩])
 (.seq (.ops [⟨some 11, .alloc [.nilFunc], none⟩])
 (.seq (.ops [⟨some 24, .mkf 57 [(.tm 3), (.tm 5), (.tm 9), (.tm 10), (.tm 11)], none⟩,
 ⟨none, .store 1 (.tm 11) (.tm 24), none⟩])
 (.seq (.seq (.pre [.bx 9 0 (some 1), .bx 10 0 (some 1)] (.ops [⟨some 25, .load none (.tm 11), none⟩,
 ⟨some 26, .mov (.tm 1), none⟩,
 ⟨some 27, .call (.tm 25) [(.tm 26), (.cn (.int .i64 0)), (.cn (.int .i64 0))], none⟩,
 ⟨some 28, .un .not (.tm 27), none⟩]))
 (.cond (.tm 28)
 (.seq (.ops [⟨some 6, .mov (.cn (.slice none 0 0)), none⟩,
 ⟨some 7, .mov (.cn (.int .i64 0)), none⟩,
 ⟨some 8, .mov (.cn (.int .i64 1)), none⟩])
 .ret)
 .skip))
 (.seq (.draw [⟨some 29, .load none (.tm 9), none⟩,
 ⟨some 30, .load none (.tm 5), none⟩,
 ⟨some 6, .mov (.tm 29), none⟩,
 ⟨some 7, .mov (.tm 30), none⟩,
 ⟨some 8, .mov (.cn (.int .i64 0)), none⟩]
 [])
 .ret)))))))))⟩
theorem comp20 : compF Tryd.prog Tryd.f20 ⟨false, [(8, [.bx 9 0 (some 1), .bx 10 0 (some 1)])], [], [], []⟩ = some L20 := by kernel_rfl

def L22 : LFunc := ⟨36, 2, [.t 4], false, [], [],
 (.seq (.ops [⟨some 2, .box (.tm 0), none⟩,
 ⟨some 4, .mov (.cn (.int .i64 0)), none⟩])
 (.seq (.seq (.ops [⟨some 7, .fld (.tm 2) 1, none⟩,
 ⟨some 8, .load none (.tm 7), none⟩,
 ⟨some 9, .len (.tm 8), none⟩,
 ⟨some 10, .mov (.cn (.int .i64 0)), none⟩])
 (.block 0
 (.loop [1, 2, 8, 9, 10]
 (.seq (.ops [⟨some 11, .bin .lss (.tm 10) (.tm 9), none⟩])
 (.seq (.cond (.tm 11)
 .skip
 (.exit 0))
 (.seq (.block 1
 (.seq (.ops [⟨some 12, .ixa 2 (.tm 8) (.tm 10), none⟩,
 ⟨some 13, .load (some 2) (.tm 12), none⟩,
 ⟨some 6, .alloc [.int .i64 0, .int .i64 0], none⟩,
 ⟨none, .store 2 (.tm 6) (.tm 13), none⟩])
 (.seq (.ops [⟨some 14, .fld (.tm 6) 0, none⟩,
 ⟨some 15, .load none (.tm 14), none⟩,
 ⟨some 16, .mov (.tm 1), none⟩,
 ⟨some 17, .bin .eql (.tm 15) (.tm 16), none⟩])
 (.cond (.tm 17)
 (.seq (.seq (.ops [⟨some 18, .fld (.tm 6) 1, none⟩,
 ⟨some 19, .load none (.tm 18), none⟩,
 ⟨some 20, .bin .geq (.tm 19) (.cn (.int .i64 0)), none⟩,
 ⟨some 21, .mov (.tm 20), none⟩,
 ⟨some 22, .fld (.tm 6) 1, (some (21, true))⟩,
 ⟨some 23, .load none (.tm 22), (some (21, true))⟩,
 ⟨some 24, .fld (.tm 2) 0, (some (21, true))⟩,
 ⟨some 25, .load none (.tm 24), (some (21, true))⟩,
 ⟨some 26, .len (.tm 25), (some (21, true))⟩,
 ⟨some 27, .bin .lss (.tm 23) (.tm 26), (some (21, true))⟩,
 ⟨some 28, .pick (.tm 21) (.tm 27) (.cn (.bool false)), none⟩])
 (.cond (.tm 28)
 (.seq (.ops [⟨some 29, .fld (.tm 6) 1, none⟩,
 ⟨some 30, .load none (.tm 29), none⟩,
 ⟨some 4, .mov (.tm 30), none⟩])
 .ret)
 .skip))
 (.exit 0))
 .skip))))
 (.ops [⟨some 31, .bin .add (.tm 10) (.cn (.int .i64 1)), none⟩,
 ⟨some 10, .mov (.tm 31), none⟩])))))))
 (.seq (.seq (.ops [⟨some 32, .fld (.tm 2) 0, none⟩,
 ⟨some 33, .load none (.tm 32), none⟩,
 ⟨some 34, .len (.tm 33), none⟩,
 ⟨some 35, .bin .gtr (.tm 34) (.cn (.int .i64 0)), none⟩])
 (.cond (.tm 35)
 (.seq (.ops [⟨some 4, .mov (.cn (.int .i64 0)), none⟩])
 .ret)
 .skip))
 (.seq (.ops [⟨some 4, .mov (.cn (.int .i64 (-1))), none⟩])
 .ret))))⟩
theorem comp22 : compF Tryd.prog Tryd.f22 ⟨false, [], [([], [1, 2, 8, 9, 10])], [], []⟩ = some L22 := by kernel_rfl

def L23 : LFunc := ⟨42, 2, [.t 4], false, [], [],
 (.seq (.ops [⟨some 2, .box (.tm 0), none⟩,
 ⟨some 4, .mov (.cn (.int .i64 0)), none⟩])
 (.seq (.seq (.ops [⟨some 5, .mov (.cn (.int .i64 0)), none⟩])
 (.block 0
 (.loop [1, 2, 5]
 (.seq (.seq (.ops [⟨some 7, .mov (.tm 5), none⟩,
 ⟨some 8, .fld (.tm 2) 1, none⟩,
 ⟨some 9, .load none (.tm 8), none⟩,
 ⟨some 10, .len (.tm 9), none⟩,
 ⟨some 11, .bin .lss (.tm 7) (.tm 10), none⟩])
 (.cond (.tm 11)
 .skip
 (.exit 0)))
 (.seq (.block 1
 (.seq (.ops [⟨some 14, .fld (.tm 2) 1, none⟩,
 ⟨some 15, .load none (.tm 14), none⟩,
 ⟨some 16, .mov (.tm 5), none⟩,
 ⟨some 17, .ixa 2 (.tm 15) (.tm 16), none⟩,
 ⟨some 18, .fld (.tm 17) 0, none⟩,
 ⟨some 19, .load none (.tm 18), none⟩,
 ⟨some 20, .mov (.tm 1), none⟩,
 ⟨some 21, .bin .eql (.tm 19) (.tm 20), none⟩])
 (.cond (.tm 21)
 (.seq (.ops [⟨some 22, .fld (.tm 2) 1, none⟩,
 ⟨some 23, .load none (.tm 22), none⟩,
 ⟨some 24, .mov (.tm 5), none⟩,
 ⟨some 25, .ixa 2 (.tm 23) (.tm 24), none⟩,
 ⟨some 26, .fld (.tm 25) 1, none⟩,
 ⟨some 27, .load none (.tm 26), none⟩,
 ⟨some 6, .mov (.tm 27), none⟩])
 (.seq (.seq (.ops [⟨some 28, .mov (.tm 6), none⟩,
 ⟨some 29, .bin .geq (.tm 28) (.cn (.int .i64 0)), none⟩,
 ⟨some 30, .mov (.tm 29), none⟩,
 ⟨some 31, .mov (.tm 6), (some (30, true))⟩,
 ⟨some 32, .fld (.tm 2) 0, (some (30, true))⟩,
 ⟨some 33, .load none (.tm 32), (some (30, true))⟩,
 ⟨some 34, .len (.tm 33), (some (30, true))⟩,
 ⟨some 35, .bin .lss (.tm 31) (.tm 34), (some (30, true))⟩,
 ⟨some 36, .pick (.tm 30) (.tm 35) (.cn (.bool false)), none⟩])
 (.cond (.tm 36)
 (.seq (.ops [⟨some 37, .mov (.tm 6), none⟩,
 ⟨some 4, .mov (.tm 37), none⟩])
 .ret)
 .skip))
 (.exit 0)))
 .skip)))
 (.ops [⟨some 12, .mov (.tm 5), none⟩,
 ⟨some 13, .bin .add (.tm 12) (.cn (.int .i64 1)), none⟩,
 ⟨some 5, .mov (.tm 13), none⟩]))))))
 (.seq (.seq (.ops [⟨some 38, .fld (.tm 2) 0, none⟩,
 ⟨some 39, .load none (.tm 38), none⟩,
 ⟨some 40, .len (.tm 39), none⟩,
 ⟨some 41, .bin .eql (.tm 40) (.cn (.int .i64 0)), none⟩])
 (.cond (.tm 41)
 (.seq (.ops [⟨some 4, .mov (.cn (.int .i64 (-1))), none⟩])
 .ret)
 .skip))
 (.seq (.ops [⟨some 4, .mov (.cn (.int .i64 0)), none⟩])
 .ret))))⟩
theorem comp23 : compF Tryd.prog Tryd.f23 ⟨false, [], [([], [1, 2, 5])], [], []⟩ = some L23 := by kernel_rfl

def L24 : LFunc := ⟨21, 2, [.t 4], false, [], [],
 (.seq (.ops [⟨some 2, .box (.tm 0), none⟩,
 ⟨some 4, .mov (.cn (.int .i64 0)), none⟩])
 (.seq (.seq (.ops [⟨some 5, .mov (.tm 1), none⟩,
 ⟨some 6, .bin .lss (.tm 5) (.cn (.int .i64 0)), none⟩,
 ⟨some 7, .mov (.tm 6), none⟩,
 ⟨some 8, .mov (.tm 1), (some (7, false))⟩,
 ⟨some 9, .fld (.tm 2) 0, (some (7, false))⟩,
 ⟨some 10, .load none (.tm 9), (some (7, false))⟩,
 ⟨some 11, .len (.tm 10), (some (7, false))⟩,
 ⟨some 12, .bin .geq (.tm 8) (.tm 11), (some (7, false))⟩,
 ⟨some 13, .pick (.tm 7) (.cn (.bool true)) (.tm 12), none⟩])
 (.cond (.tm 13)
 (.seq (.ops [⟨some 4, .mov (.cn (.int .i64 0)), none⟩])
 .ret)
 .skip))
 (.seq (.ops [⟨some 14, .fld (.tm 2) 0, none⟩,
 ⟨some 15, .load none (.tm 14), none⟩,
 ⟨some 16, .mov (.tm 1), none⟩,
 ⟨some 17, .ixa 3 (.tm 15) (.tm 16), none⟩,
 ⟨some 18, .fld (.tm 17) 0, none⟩,
 ⟨some 19, .load none (.tm 18), none⟩,
 ⟨some 20, .call (.fu 60) [(.tm 19)], none⟩,
 ⟨some 4, .mov (.tm 20), none⟩])
 .ret)))⟩
theorem comp24 : compF Tryd.prog Tryd.f24 ⟨false, [], [], [], []⟩ = some L24 := by kernel_rfl

def L25 : LFunc := ⟨21, 2, [.t 4], false, [], [],
 (.seq (.ops [⟨some 2, .box (.tm 0), none⟩,
 ⟨some 4, .mov (.cn (.int .i64 0)), none⟩])
 (.seq (.seq (.ops [⟨some 5, .mov (.tm 1), none⟩,
 ⟨some 6, .bin .lss (.tm 5) (.cn (.int .i64 0)), none⟩,
 ⟨some 7, .mov (.tm 6), none⟩,
 ⟨some 8, .mov (.tm 1), (some (7, false))⟩,
 ⟨some 9, .fld (.tm 2) 0, (some (7, false))⟩,
 ⟨some 10, .load none (.tm 9), (some (7, false))⟩,
 ⟨some 11, .len (.tm 10), (some (7, false))⟩,
 ⟨some 12, .bin .geq (.tm 8) (.tm 11), (some (7, false))⟩,
 ⟨some 13, .pick (.tm 7) (.cn (.bool true)) (.tm 12), none⟩])
 (.cond (.tm 13)
 (.seq (.ops [⟨some 4, .mov (.cn (.int .i64 0)), none⟩])
 .ret)
 .skip))
 (.seq (.ops [⟨some 14, .fld (.tm 2) 0, none⟩,
 ⟨some 15, .load none (.tm 14), none⟩,
 ⟨some 16, .mov (.tm 1), none⟩,
 ⟨some 17, .ixa 3 (.tm 15) (.tm 16), none⟩,
 ⟨some 18, .fld (.tm 17) 0, none⟩,
 ⟨some 19, .load none (.tm 18), none⟩,
 ⟨some 20, .call (.fu 62) [(.tm 19)], none⟩,
 ⟨some 4, .mov (.tm 20), none⟩])
 .ret)))⟩
theorem comp25 : compF Tryd.prog Tryd.f25 ⟨false, [], [], [], []⟩ = some L25 := by kernel_rfl

def L26 : LFunc := ⟨27, 2, [.t 4], false, [], [],
 (.seq (.ops [⟨some 4, .mov (.cn (.bool false)), none⟩])
 (.seq (.seq (.ops [⟨some 6, .mov (.tm 0), none⟩,
 ⟨some 7, .len (.tm 6), none⟩,
 ⟨some 8, .mov (.tm 1), none⟩,
 ⟨some 9, .len (.tm 8), none⟩,
 ⟨some 10, .bin .neq (.tm 7) (.tm 9), none⟩])
 (.cond (.tm 10)
 (.seq (.ops [⟨some 4, .mov (.cn (.bool false)), none⟩])
 .ret)
 .skip))
 (.seq (.seq (.ops [⟨some 5, .mov (.cn (.int .i64 0)), none⟩])
 (.block 0
 (.loop [0, 1, 5]
 (.seq (.seq (.ops [⟨some 11, .mov (.tm 5), none⟩,
 ⟨some 12, .mov (.tm 0), none⟩,
 ⟨some 13, .len (.tm 12), none⟩,
 ⟨some 14, .bin .lss (.tm 11) (.tm 13), none⟩])
 (.cond (.tm 14)
 .skip
 (.exit 0)))
 (.seq (.block 1
 (.seq (.draw [⟨some 17, .mov (.tm 0), none⟩,
 ⟨some 18, .mov (.tm 5), none⟩,
 ⟨some 19, .ixa 1 (.tm 17) (.tm 18), none⟩,
 ⟨some 20, .load none (.tm 19), none⟩,
 ⟨some 21, .mov (.tm 1), none⟩,
 ⟨some 22, .mov (.tm 5), none⟩,
 ⟨some 23, .ixa 1 (.tm 21) (.tm 22), none⟩,
 ⟨some 24, .load none (.tm 23), none⟩,
 ⟨some 25, .call (.fu 63) [(.tm 20), (.tm 24)], none⟩,
 ⟨some 26, .un .not (.tm 25), none⟩]
 [])
 (.cond (.tm 26)
 (.seq (.ops [⟨some 4, .mov (.cn (.bool false)), none⟩])
 .ret)
 .skip)))
 (.ops [⟨some 15, .mov (.tm 5), none⟩,
 ⟨some 16, .bin .add (.tm 15) (.cn (.int .i64 1)), none⟩,
 ⟨some 5, .mov (.tm 16), none⟩]))))))
 (.seq (.ops [⟨some 4, .mov (.cn (.bool true)), none⟩])
 .ret))))⟩
theorem comp26 : compF Tryd.prog Tryd.f26 ⟨false, [], [([], [0, 1, 5])], [], []⟩ = some L26 := by kernel_rfl

def L27 : LFunc := ⟨81, 2, [.t 4], false, [], [],
 (.seq (.ops [⟨some 2, .box (.tm 0), none⟩,
 ⟨some 3, .box (.tm 1), none⟩,
 ⟨some 4, .mov (.cn (.bool false)), none⟩])
 (.seq (.seq (.ops [⟨some 9, .fld (.tm 2) 0, none⟩,
 ⟨some 10, .load none (.tm 9), none⟩,
 ⟨some 11, .len (.tm 10), none⟩,
 ⟨some 12, .fld (.tm 3) 0, none⟩,
 ⟨some 13, .load none (.tm 12), none⟩,
 ⟨some 14, .len (.tm 13), none⟩,
 ⟨some 15, .bin .neq (.tm 11) (.tm 14), none⟩,
 ⟨some 16, .mov (.tm 15), none⟩,
 ⟨some 17, .fld (.tm 2) 1, (some (16, false))⟩,
 ⟨some 18, .load none (.tm 17), (some (16, false))⟩,
 ⟨some 19, .len (.tm 18), (some (16, false))⟩,
 ⟨some 20, .fld (.tm 3) 1, (some (16, false))⟩,
 ⟨some 21, .load none (.tm 20), (some (16, false))⟩,
 ⟨some 22, .len (.tm 21), (some (16, false))⟩,
 ⟨some 23, .bin .neq (.tm 19) (.tm 22), (some (16, false))⟩,
 ⟨some 24, .pick (.tm 16) (.cn (.bool true)) (.tm 23), none⟩])
 (.cond (.tm 24)
 (.seq (.ops [⟨some 4, .mov (.cn (.bool false)), none⟩])
 .ret)
 .skip))
 (.seq (.seq (.ops [⟨some 5, .mov (.cn (.int .i64 0)), none⟩])
 (.block 0
 (.loop [2, 3, 5]
 (.seq (.seq (.ops [⟨some 25, .mov (.tm 5), none⟩,
 ⟨some 26, .fld (.tm 2) 0, none⟩,
 ⟨some 27, .load none (.tm 26), none⟩,
 ⟨some 28, .len (.tm 27), none⟩,
 ⟨some 29, .bin .lss (.tm 25) (.tm 28), none⟩])
 (.cond (.tm 29)
 .skip
 (.exit 0)))
 (.seq (.block 1
 (.seq (.draw [⟨some 32, .fld (.tm 2) 0, none⟩,
 ⟨some 33, .load none (.tm 32), none⟩,
 ⟨some 34, .mov (.tm 5), none⟩,
 ⟨some 35, .ixa 3 (.tm 33) (.tm 34), none⟩,
 ⟨some 36, .load (some 3) (.tm 35), none⟩,
 ⟨some 37, .fld (.tm 3) 0, none⟩,
 ⟨some 38, .load none (.tm 37), none⟩,
 ⟨some 39, .mov (.tm 5), none⟩,
 ⟨some 40, .ixa 3 (.tm 38) (.tm 39), none⟩,
 ⟨some 41, .load (some 3) (.tm 40), none⟩,
 ⟨some 6, .alloc [.int .i64 0, .slice none 0 0, .slice none 0 0], none⟩,
 ⟨some 7, .alloc [.int .i64 0, .slice none 0 0, .slice none 0 0], none⟩,
 ⟨none, .store 3 (.tm 6) (.tm 36), none⟩,
 ⟨none, .store 3 (.tm 7) (.tm 41), none⟩]
 [(1, 10), (4, 10), (6, 10), (9, 10), (1, 11), (4, 11), (6, 11), (9, 11), (6, 12), (9, 12)])
 (.seq (.ops [⟨some 42, .fld (.tm 6) 0, none⟩,
 ⟨some 43, .load none (.tm 42), none⟩,
 ⟨some 44, .fld (.tm 7) 0, none⟩,
 ⟨some 45, .load none (.tm 44), none⟩,
 ⟨some 46, .bin .neq (.tm 43) (.tm 45), none⟩,
 ⟨some 47, .mov (.tm 46), none⟩,
 ⟨some 48, .fld (.tm 6) 1, (some (47, false))⟩,
 ⟨some 49, .load none (.tm 48), (some (47, false))⟩,
 ⟨some 50, .fld (.tm 7) 1, (some (47, false))⟩,
 ⟨some 51, .load none (.tm 50), (some (47, false))⟩,
 ⟨some 52, .call (.fu 26) [(.tm 49), (.tm 51)], (some (47, false))⟩,
 ⟨some 53, .un .not (.tm 52), (some (47, false))⟩,
 ⟨some 54, .pick (.tm 47) (.cn (.bool true)) (.tm 53), none⟩,
 ⟨some 55, .mov (.tm 54), none⟩,
 ⟨some 56, .fld (.tm 6) 2, (some (55, false))⟩,
 ⟨some 57, .load none (.tm 56), (some (55, false))⟩,
 ⟨some 58, .fld (.tm 7) 2, (some (55, false))⟩,
 ⟨some 59, .load none (.tm 58), (some (55, false))⟩,
 ⟨some 60, .call (.fu 39) [(.tm 57), (.tm 59)], (some (55, false))⟩,
 ⟨some 61, .un .not (.tm 60), (some (55, false))⟩,
 ⟨some 62, .pick (.tm 55) (.cn (.bool true)) (.tm 61), none⟩])
 (.cond (.tm 62)
 (.seq (.ops [⟨some 4, .mov (.cn (.bool false)), none⟩])
 .ret)
 .skip))))
 (.ops [⟨some 30, .mov (.tm 5), none⟩,
 ⟨some 31, .bin .add (.tm 30) (.cn (.int .i64 1)), none⟩,
 ⟨some 5, .mov (.tm 31), none⟩]))))))
 (.seq (.seq (.ops [⟨some 8, .mov (.cn (.int .i64 0)), none⟩])
 (.block 2
 (.loop [2, 3, 8]
 (.seq (.seq (.ops [⟨some 63, .mov (.tm 8), none⟩,
 ⟨some 64, .fld (.tm 2) 1, none⟩,
 ⟨some 65, .load none (.tm 64), none⟩,
 ⟨some 66, .len (.tm 65), none⟩,
 ⟨some 67, .bin .lss (.tm 63) (.tm 66), none⟩])
 (.cond (.tm 67)
 .skip
 (.exit 2)))
 (.seq (.block 3
 (.seq (.draw [⟨some 70, .fld (.tm 2) 1, none⟩,
 ⟨some 71, .load none (.tm 70), none⟩,
 ⟨some 72, .mov (.tm 8), none⟩,
 ⟨some 73, .ixa 2 (.tm 71) (.tm 72), none⟩,
 ⟨some 74, .load (some 2) (.tm 73), none⟩,
 ⟨some 75, .fld (.tm 3) 1, none⟩,
 ⟨some 76, .load none (.tm 75), none⟩,
 ⟨some 77, .mov (.tm 8), none⟩,
 ⟨some 78, .ixa 2 (.tm 76) (.tm 77), none⟩,
 ⟨some 79, .load (some 2) (.tm 78), none⟩,
 ⟨some 80, .eqs [0, 0] true (.tm 74) (.tm 79), none⟩]
 [])
 (.cond (.tm 80)
 (.seq (.ops [⟨some 4, .mov (.cn (.bool false)), none⟩])
 .ret)
 .skip)))
 (.ops [⟨some 68, .mov (.tm 8), none⟩,
 ⟨some 69, .bin .add (.tm 68) (.cn (.int .i64 1)), none⟩,
 ⟨some 8, .mov (.tm 69), none⟩]))))))
 (.seq (.ops [⟨some 4, .mov (.cn (.bool true)), none⟩])
 .ret)))))⟩
theorem comp27 : compF Tryd.prog Tryd.f27 ⟨false, [], [([], [2, 3, 5]), ([], [2, 3, 8])], [], []⟩ = some L27 := by kernel_rfl

def L28 : LFunc := ⟨22, 1, [.t 2], false, [], [],
 (.seq (.ops [⟨some 2, .mov (.cn (.slice none 0 0)), none⟩])
 (.seq (.ops [⟨some 5, .bsl 1 [.slice none 0 0] 0 [], none⟩,
 ⟨some 3, .mov (.tm 5), none⟩])
 (.seq (.seq (.ops [⟨some 4, .mov (.cn (.int .i64 0)), none⟩])
 (.block 0
 (.pre [.tmp 3 (some 1)] (.loop [0, 3, 4]
 (.seq (.seq (.ops [⟨some 6, .mov (.tm 4), none⟩,
 ⟨some 7, .mov (.tm 0), none⟩,
 ⟨some 8, .len (.tm 7), none⟩,
 ⟨some 9, .bin .lss (.tm 6) (.tm 8), none⟩])
 (.cond (.tm 9)
 .skip
 (.exit 0)))
 (.seq (.block 1
 (.ops [⟨some 12, .mov (.tm 3), none⟩,
 ⟨some 13, .bsl 2 [.int .i64 0, .int .i64 0] 0 [], none⟩,
 ⟨some 14, .mov (.tm 0), none⟩,
 ⟨some 15, .mov (.tm 4), none⟩,
 ⟨some 16, .ixa 1 (.tm 14) (.tm 15), none⟩,
 ⟨some 17, .load none (.tm 16), none⟩,
 ⟨some 18, .app 2 16 false (.tm 13) (.tm 17), none⟩,
 ⟨some 19, .bsl 1 [.slice none 0 0] 1 [(0, (.tm 18))], none⟩,
 ⟨some 20, .app 1 24 false (.tm 12) (.tm 19), none⟩,
 ⟨some 3, .mov (.tm 20), none⟩]))
 (.ops [⟨some 10, .mov (.tm 4), none⟩,
 ⟨some 11, .bin .add (.tm 10) (.cn (.int .i64 1)), none⟩,
 ⟨some 4, .mov (.tm 11), none⟩])))))))
 (.seq (.ops [⟨some 21, .mov (.tm 3), none⟩,
 ⟨some 2, .mov (.tm 21), none⟩])
 .ret))))⟩
theorem comp28 : compF Tryd.prog Tryd.f28 ⟨false, [], [([.tmp 3 (some 1)], [0, 3, 4])], [], []⟩ = some L28 := by kernel_rfl

def L29 : LFunc := ⟨58, 1, [.cell 2 (some 4), .t 3], false, [], [],
 (.seq (.ops [⟨some 2, .alloc [.int .i64 0, .int .i64 0, .int .i64 0, .int .i64 0], none⟩,
 ⟨some 3, .mov (.cn (.bool false)), none⟩])
 (.seq (.ops [⟨some 4, .alloc [.int .i64 0, .int .i64 0, .int .i64 0, .int .i64 0], none⟩])
 (.seq (.ops [⟨some 5, .mov (.cn (.bool false)), none⟩])
 (.seq (.seq (.ops [⟨some 10, .mov (.tm 0), none⟩,
 ⟨some 11, .len (.tm 10), none⟩,
 ⟨some 12, .mov (.cn (.int .i64 0)), none⟩])
 (.block 0
 (.loop [2, 4, 5, 10, 11, 12]
 (.seq (.ops [⟨some 13, .bin .lss (.tm 12) (.tm 11), none⟩])
 (.seq (.cond (.tm 13)
 .skip
 (.exit 0))
 (.seq (.block 1
 (.seq (.ops [⟨some 14, .ixa 1 (.tm 10) (.tm 12), none⟩,
 ⟨some 15, .load none (.tm 14), none⟩,
 ⟨some 7, .mov (.tm 15), none⟩])
 (.seq (.ops [⟨some 16, .mov (.tm 7), none⟩,
 ⟨some 17, .len (.tm 16), none⟩,
 ⟨some 18, .mov (.cn (.int .i64 0)), none⟩])
 (.block 2
 (.loop [2, 4, 5, 10, 11, 12, 16, 17, 18]
 (.seq (.ops [⟨some 19, .bin .lss (.tm 18) (.tm 17), none⟩])
 (.seq (.cond (.tm 19)
 .skip
 (.exit 2))
 (.seq (.block 3
 (.seq (.ops [⟨some 20, .ixa 2 (.tm 16) (.tm 18), none⟩,
 ⟨some 21, .load (some 2) (.tm 20), none⟩,
 ⟨some 9, .alloc [.int .i64 0, .int .i64 0], none⟩,
 ⟨none, .store 2 (.tm 9) (.tm 21), none⟩])
 (.seq (.seq (.ops [⟨some 22, .mov (.tm 5), none⟩,
 ⟨some 23, .un .not (.tm 22), none⟩])
 (.cond (.tm 23)
 (.ops [⟨some 24, .fld (.tm 9) 0, none⟩,
 ⟨some 25, .load none (.tm 24), none⟩,
 ⟨some 26, .fld (.tm 9) 1, none⟩,
 ⟨some 27, .load none (.tm 26), none⟩,
 ⟨some 28, .fld (.tm 9) 0, none⟩,
 ⟨some 29, .load none (.tm 28), none⟩,
 ⟨some 30, .fld (.tm 9) 1, none⟩,
 ⟨some 31, .load none (.tm 30), none⟩,
 ⟨some 32, .build [.int .i64 0, .int .i64 0, .int .i64 0, .int .i64 0] [(0, 1, (.tm 25)), (1, 1, (.tm 27)), (2, 1, (.tm 29)), (3, 1, (.tm 31))], none⟩,
 ⟨none, .store 4 (.tm 4) (.tm 32), none⟩,
 ⟨some 5, .mov (.cn (.bool true)), none⟩])
 .skip))
 (.ops [⟨some 33, .fld (.tm 4) 0, none⟩,
 ⟨some 34, .load none (.tm 33), none⟩,
 ⟨some 35, .fld (.tm 9) 0, none⟩,
 ⟨some 36, .load none (.tm 35), none⟩,
 ⟨some 37, .mn [(.tm 34), (.tm 36)], none⟩,
 ⟨some 38, .fld (.tm 4) 1, none⟩,
 ⟨some 39, .load none (.tm 38), none⟩,
 ⟨some 40, .fld (.tm 9) 1, none⟩,
 ⟨some 41, .load none (.tm 40), none⟩,
 ⟨some 42, .mn [(.tm 39), (.tm 41)], none⟩,
 ⟨some 43, .fld (.tm 4) 2, none⟩,
 ⟨some 44, .load none (.tm 43), none⟩,
 ⟨some 45, .fld (.tm 9) 0, none⟩,
 ⟨some 46, .load none (.tm 45), none⟩,
 ⟨some 47, .mx [(.tm 44), (.tm 46)], none⟩,
 ⟨some 48, .fld (.tm 4) 3, none⟩,
 ⟨some 49, .load none (.tm 48), none⟩,
 ⟨some 50, .fld (.tm 9) 1, none⟩,
 ⟨some 51, .load none (.tm 50), none⟩,
 ⟨some 52, .mx [(.tm 49), (.tm 51)], none⟩,
 ⟨some 53, .build [.int .i64 0, .int .i64 0, .int .i64 0, .int .i64 0] [(0, 1, (.tm 37)), (1, 1, (.tm 42)), (2, 1, (.tm 47)), (3, 1, (.tm 52))], none⟩,
 ⟨none, .store 4 (.tm 4) (.tm 53), none⟩]))))
 (.ops [⟨some 54, .bin .add (.tm 18) (.cn (.int .i64 1)), none⟩,
 ⟨some 18, .mov (.tm 54), none⟩])))))))))
 (.ops [⟨some 55, .bin .add (.tm 12) (.cn (.int .i64 1)), none⟩,
 ⟨some 12, .mov (.tm 55), none⟩])))))))
 (.seq (.ops [⟨some 56, .load (some 4) (.tm 4), none⟩,
 ⟨some 57, .mov (.tm 5), none⟩,
 ⟨none, .store 4 (.tm 2) (.tm 56), none⟩,
 ⟨some 3, .mov (.tm 57), none⟩])
 .ret)))))⟩
theorem comp29 : compF Tryd.prog Tryd.f29 ⟨false, [], [([], [2, 4, 5, 10, 11, 12]), ([], [2, 4, 5, 10, 11, 12, 16, 17, 18])], [], []⟩ = some L29 := by kernel_rfl

def L30 : LFunc := ⟨66, 1, [.cell 2 (some 4), .t 3], false, [], [],
 (.seq (.ops [⟨some 2, .alloc [.int .i64 0, .int .i64 0, .int .i64 0, .int .i64 0], none⟩,
 ⟨some 3, .mov (.cn (.bool false)), none⟩])
 (.seq (.ops [⟨some 9, .build [.int .i64 0, .int .i64 0, .int .i64 0, .int .i64 0] [], none⟩,
 ⟨some 4, .alloc [.int .i64 0, .int .i64 0, .int .i64 0, .int .i64 0], none⟩,
 ⟨none, .store 4 (.tm 4) (.tm 9), none⟩])
 (.seq (.ops [⟨some 5, .mov (.cn (.bool false)), none⟩])
 (.seq (.seq (.ops [⟨some 6, .mov (.cn (.int .i64 0)), none⟩])
 (.block 0
 (.loop [0, 2, 4, 5, 6]
 (.seq (.seq (.ops [⟨some 10, .mov (.tm 6), none⟩,
 ⟨some 11, .mov (.tm 0), none⟩,
 ⟨some 12, .len (.tm 11), none⟩,
 ⟨some 13, .bin .lss (.tm 10) (.tm 12), none⟩])
 (.cond (.tm 13)
 .skip
 (.exit 0)))
 (.seq (.block 1
 (.seq (.ops [⟨some 7, .mov (.cn (.int .i64 0)), none⟩])
 (.block 2
 (.loop [0, 2, 4, 5, 6, 7]
 (.seq (.seq (.ops [⟨some 16, .mov (.tm 7), none⟩,
 ⟨some 17, .mov (.tm 0), none⟩,
 ⟨some 18, .mov (.tm 6), none⟩,
 ⟨some 19, .ixa 1 (.tm 17) (.tm 18), none⟩,
 ⟨some 20, .load none (.tm 19), none⟩,
 ⟨some 21, .len (.tm 20), none⟩,
 ⟨some 22, .bin .lss (.tm 16) (.tm 21), none⟩])
 (.cond (.tm 22)
 .skip
 (.exit 2)))
 (.seq (.block 3
 (.seq (.ops [⟨some 25, .mov (.tm 0), none⟩,
 ⟨some 26, .mov (.tm 6), none⟩,
 ⟨some 27, .ixa 1 (.tm 25) (.tm 26), none⟩,
 ⟨some 28, .load none (.tm 27), none⟩,
 ⟨some 29, .mov (.tm 7), none⟩,
 ⟨some 30, .ixa 2 (.tm 28) (.tm 29), none⟩,
 ⟨some 31, .load (some 2) (.tm 30), none⟩,
 ⟨some 8, .alloc [.int .i64 0, .int .i64 0], none⟩,
 ⟨none, .store 2 (.tm 8) (.tm 31), none⟩])
 (.seq (.seq (.ops [⟨some 32, .mov (.tm 5), none⟩,
 ⟨some 33, .un .not (.tm 32), none⟩])
 (.cond (.tm 33)
 (.seq (.ops [⟨some 34, .fld (.tm 8) 0, none⟩,
 ⟨some 35, .load none (.tm 34), none⟩,
 ⟨some 36, .fld (.tm 8) 1, none⟩,
 ⟨some 37, .load none (.tm 36), none⟩,
 ⟨some 38, .fld (.tm 8) 0, none⟩,
 ⟨some 39, .load none (.tm 38), none⟩,
 ⟨some 40, .fld (.tm 8) 1, none⟩,
 ⟨some 41, .load none (.tm 40), none⟩,
 ⟨some 42, .build [.int .i64 0, .int .i64 0, .int .i64 0, .int .i64 0] [(0, 1, (.tm 35)), (1, 1, (.tm 37)), (2, 1, (.tm 39)), (3, 1, (.tm 41))], none⟩,
 ⟨none, .store 4 (.tm 4) (.tm 42), none⟩])
 (.ops [⟨some 5, .mov (.cn (.bool true)), none⟩]))
 .skip))
 (.ops [⟨some 43, .fld (.tm 4) 0, none⟩,
 ⟨some 44, .load none (.tm 43), none⟩,
 ⟨some 45, .fld (.tm 8) 0, none⟩,
 ⟨some 46, .load none (.tm 45), none⟩,
 ⟨some 47, .mn [(.tm 44), (.tm 46)], none⟩,
 ⟨some 48, .fld (.tm 4) 1, none⟩,
 ⟨some 49, .load none (.tm 48), none⟩,
 ⟨some 50, .fld (.tm 8) 1, none⟩,
 ⟨some 51, .load none (.tm 50), none⟩,
 ⟨some 52, .mn [(.tm 49), (.tm 51)], none⟩,
 ⟨some 53, .fld (.tm 4) 2, none⟩,
 ⟨some 54, .load none (.tm 53), none⟩,
 ⟨some 55, .fld (.tm 8) 0, none⟩,
 ⟨some 56, .load none (.tm 55), none⟩,
 ⟨some 57, .mx [(.tm 54), (.tm 56)], none⟩,
 ⟨some 58, .fld (.tm 4) 3, none⟩,
 ⟨some 59, .load none (.tm 58), none⟩,
 ⟨some 60, .fld (.tm 8) 1, none⟩,
 ⟨some 61, .load none (.tm 60), none⟩,
 ⟨some 62, .mx [(.tm 59), (.tm 61)], none⟩,
 ⟨some 63, .build [.int .i64 0, .int .i64 0, .int .i64 0, .int .i64 0] [(0, 1, (.tm 47)), (1, 1, (.tm 52)), (2, 1, (.tm 57)), (3, 1, (.tm 62))], none⟩,
 ⟨none, .store 4 (.tm 4) (.tm 63), none⟩]))))
 (.ops [⟨some 23, .mov (.tm 7), none⟩,
 ⟨some 24, .bin .add (.tm 23) (.cn (.int .i64 1)), none⟩,
 ⟨some 7, .mov (.tm 24), none⟩])))))))
 (.ops [⟨some 14, .mov (.tm 6), none⟩,
 ⟨some 15, .bin .add (.tm 14) (.cn (.int .i64 1)), none⟩,
 ⟨some 6, .mov (.tm 15), none⟩]))))))
 (.seq (.ops [⟨some 64, .load (some 4) (.tm 4), none⟩,
 ⟨some 65, .mov (.tm 5), none⟩,
 ⟨none, .store 4 (.tm 2) (.tm 64), none⟩,
 ⟨some 3, .mov (.tm 65), none⟩])
 .ret)))))⟩
theorem comp30 : compF Tryd.prog Tryd.f30 ⟨false, [], [([], [0, 2, 4, 5, 6]), ([], [0, 2, 4, 5, 6, 7])], [], []⟩ = some L30 := by kernel_rfl

def L31 : LFunc := ⟨27, 3, [.t 6], false, [], [],
 (.seq (.ops [⟨some 6, .mov (.cn (.slice none 0 0)), none⟩])
 (.seq (.ops [⟨some 7, .mov (.cn (.slice none 0 0)), none⟩])
 (.seq (.seq (.ops [⟨some 10, .mov (.tm 0), none⟩,
 ⟨some 11, .len (.tm 10), none⟩,
 ⟨some 12, .mov (.cn (.int .i64 0)), none⟩])
 (.block 0
 (.pre [.tmp 7 (some 1)] (.loop [1, 2, 7, 10, 11, 12]
 (.seq (.ops [⟨some 13, .bin .lss (.tm 12) (.tm 11), none⟩])
 (.seq (.cond (.tm 13)
 .skip
 (.exit 0))
 (.seq (.block 1
 (.seq (.ops [⟨some 14, .ixa 1 (.tm 10) (.tm 12), none⟩,
 ⟨some 15, .load none (.tm 14), none⟩,
 ⟨some 9, .mov (.tm 15), none⟩])
 (.ops [⟨some 16, .mov (.tm 7), none⟩,
 ⟨some 17, .mov (.tm 9), none⟩,
 ⟨some 18, .mov (.tm 1), none⟩,
 ⟨some 19, .call (.fu 60) [(.tm 18)], none⟩,
 ⟨some 20, .mov (.tm 2), none⟩,
 ⟨some 21, .call (.fu 60) [(.tm 20)], none⟩,
 ⟨some 22, .call (.fu 58) [(.tm 17), (.tm 19), (.tm 21)], none⟩,
 ⟨some 23, .bsl 1 [.slice none 0 0] 1 [(0, (.tm 22))], none⟩,
 ⟨some 24, .app 1 24 false (.tm 16) (.tm 23), none⟩,
 ⟨some 7, .mov (.tm 24), none⟩])))
 (.ops [⟨some 25, .bin .add (.tm 12) (.cn (.int .i64 1)), none⟩,
 ⟨some 12, .mov (.tm 25), none⟩]))))))))
 (.seq (.ops [⟨some 26, .mov (.tm 7), none⟩,
 ⟨some 6, .mov (.tm 26), none⟩])
 .ret))))⟩
theorem comp31 : compF Tryd.prog Tryd.f31 ⟨false, [], [([.tmp 7 (some 1)], [1, 2, 7, 10, 11, 12])], [], []⟩ = some L31 := by kernel_rfl

def L32 : LFunc := ⟨54, 3, [.t 6], false, [], [],
 (.seq (.ops [⟨some 4, .box (.tm 1), none⟩,
 ⟨some 5, .box (.tm 2), none⟩,
 ⟨some 6, .mov (.cn (.slice none 0 0)), none⟩])
 (.seq (.draw [⟨some 14, .load none (.tm 4), none⟩,
 ⟨some 15, .call (.fu 60) [(.tm 14)], none⟩,
 ⟨some 16, .load none (.tm 5), none⟩,
 ⟨some 17, .mn [(.tm 16), (.cn (.int .i64 1048576))], none⟩,
 ⟨some 18, .mx [(.cn (.int .i64 1)), (.tm 17)], none⟩,
 ⟨none, .store 1 (.tm 4) (.tm 15), none⟩,
 ⟨none, .store 1 (.tm 5) (.tm 18), none⟩]
 [(1, 2), (2, 5)])
 (.seq (.ops [⟨some 19, .mkf 64 [(.tm 4), (.tm 5)], none⟩,
 ⟨some 7, .mov (.tm 19), none⟩])
 (.seq (.ops [⟨some 8, .mov (.cn (.slice none 0 0)), none⟩])
 (.seq (.seq (.ops [⟨some 20, .mov (.tm 0), none⟩,
 ⟨some 21, .len (.tm 20), none⟩,
 ⟨some 22, .mov (.cn (.int .i64 0)), none⟩])
 (.block 0
 (.pre [.tmp 8 (some 1)] (.loop [7, 8, 20, 21, 22]
 (.seq (.ops [⟨some 23, .bin .lss (.tm 22) (.tm 21), none⟩])
 (.seq (.cond (.tm 23)
 .skip
 (.exit 0))
 (.seq (.block 1
 (.seq (.ops [⟨some 24, .ixa 1 (.tm 20) (.tm 22), none⟩,
 ⟨some 25, .load none (.tm 24), none⟩,
 ⟨some 10, .mov (.tm 25), none⟩])
 (.seq (.ops [⟨some 26, .mov (.tm 10), none⟩,
 ⟨some 27, .len (.tm 26), none⟩,
 ⟨some 28, .mks 2 16 [.int .i64 0, .int .i64 0] (.cn (.int .i64 0)) (.tm 27), none⟩,
 ⟨some 11, .mov (.tm 28), none⟩])
 (.seq (.seq (.ops [⟨some 29, .mov (.tm 10), none⟩,
 ⟨some 30, .len (.tm 29), none⟩,
 ⟨some 31, .mov (.cn (.int .i64 0)), none⟩])
 (.block 2
 (.pre [.tmp 8 (some 1), .tmp 11 (some 2)] (.loop [7, 8, 11, 20, 21, 22, 29, 30, 31]
 (.seq (.ops [⟨some 32, .bin .lss (.tm 31) (.tm 30), none⟩])
 (.seq (.cond (.tm 32)
 .skip
 (.exit 2))
 (.seq (.block 3
 (.seq (.ops [⟨some 33, .ixa 2 (.tm 29) (.tm 31), none⟩,
 ⟨some 34, .load (some 2) (.tm 33), none⟩,
 ⟨some 13, .alloc [.int .i64 0, .int .i64 0], none⟩,
 ⟨none, .store 2 (.tm 13) (.tm 34), none⟩])
 (.draw [⟨some 35, .mov (.tm 11), none⟩,
 ⟨some 36, .mov (.tm 7), none⟩,
 ⟨some 37, .fld (.tm 13) 0, none⟩,
 ⟨some 38, .load none (.tm 37), none⟩,
 ⟨some 39, .call (.tm 36) [(.tm 38)], none⟩,
 ⟨some 40, .mov (.tm 7), none⟩,
 ⟨some 41, .fld (.tm 13) 1, none⟩,
 ⟨some 42, .load none (.tm 41), none⟩,
 ⟨some 43, .call (.tm 40) [(.tm 42)], none⟩,
 ⟨some 44, .build [.int .i64 0, .int .i64 0] [(0, 1, (.tm 39)), (1, 1, (.tm 43))], none⟩,
 ⟨some 45, .bsl 2 [.int .i64 0, .int .i64 0] 1 [(0, (.tm 44))], none⟩,
 ⟨some 46, .app 2 16 false (.tm 35) (.tm 45), none⟩,
 ⟨some 11, .mov (.tm 46), none⟩]
 [(4, 7)])))
 (.ops [⟨some 47, .bin .add (.tm 31) (.cn (.int .i64 1)), none⟩,
 ⟨some 31, .mov (.tm 47), none⟩]))))))))
 (.ops [⟨some 48, .mov (.tm 8), none⟩,
 ⟨some 49, .mov (.tm 11), none⟩,
 ⟨some 50, .bsl 1 [.slice none 0 0] 1 [(0, (.tm 49))], none⟩,
 ⟨some 51, .app 1 24 false (.tm 48) (.tm 50), none⟩,
 ⟨some 8, .mov (.tm 51), none⟩])))))
 (.ops [⟨some 52, .bin .add (.tm 22) (.cn (.int .i64 1)), none⟩,
 ⟨some 22, .mov (.tm 52), none⟩]))))))))
 (.seq (.ops [⟨some 53, .mov (.tm 8), none⟩,
 ⟨some 6, .mov (.tm 53), none⟩])
 .ret))))))⟩
theorem comp32 : compF Tryd.prog Tryd.f32 ⟨false, [], [([.tmp 8 (some 1)], [7, 8, 20, 21, 22]), ([.tmp 8 (some 1), .tmp 11 (some 2)], [7, 8, 11, 20, 21, 22, 29, 30, 31])], [], []⟩ = some L32 := by kernel_rfl

def L33 : LFunc := ⟨59, 3, [.t 6], false, [], [],
 (.seq (.ops [⟨some 6, .mov (.cn (.slice none 0 0)), none⟩])
 (.seq (.ops [⟨some 12, .bsl 1 [.slice none 0 0] 0 [], none⟩,
 ⟨some 7, .mov (.tm 12), none⟩])
 (.seq (.seq (.ops [⟨some 8, .mov (.cn (.int .i64 0)), none⟩])
 (.block 0
 (.pre [.tmp 7 (some 1)] (.loop [0, 1, 2, 7, 8]
 (.seq (.seq (.ops [⟨some 13, .mov (.tm 8), none⟩,
 ⟨some 14, .mov (.tm 0), none⟩,
 ⟨some 15, .len (.tm 14), none⟩,
 ⟨some 16, .bin .lss (.tm 13) (.tm 15), none⟩])
 (.cond (.tm 16)
 .skip
 (.exit 0)))
 (.seq (.block 1
 (.seq (.ops [⟨some 19, .bsl 2 [.int .i64 0, .int .i64 0] 0 [], none⟩,
 ⟨some 9, .mov (.tm 19), none⟩])
 (.seq (.seq (.ops [⟨some 10, .mov (.cn (.int .i64 0)), none⟩])
 (.block 2
 (.pre [.tmp 7 (some 1), .tmp 9 (some 2)] (.loop [0, 1, 2, 7, 8, 9, 10]
 (.seq (.seq (.ops [⟨some 20, .mov (.tm 10), none⟩,
 ⟨some 21, .mov (.tm 0), none⟩,
 ⟨some 22, .mov (.tm 8), none⟩,
 ⟨some 23, .ixa 1 (.tm 21) (.tm 22), none⟩,
 ⟨some 24, .load none (.tm 23), none⟩,
 ⟨some 25, .len (.tm 24), none⟩,
 ⟨some 26, .bin .lss (.tm 20) (.tm 25), none⟩])
 (.cond (.tm 26)
 .skip
 (.exit 2)))
 (.seq (.block 3
 (.seq (.ops [⟨some 29, .mov (.tm 0), none⟩,
 ⟨some 30, .mov (.tm 8), none⟩,
 ⟨some 31, .ixa 1 (.tm 29) (.tm 30), none⟩,
 ⟨some 32, .load none (.tm 31), none⟩,
 ⟨some 33, .mov (.tm 10), none⟩,
 ⟨some 34, .ixa 2 (.tm 32) (.tm 33), none⟩,
 ⟨some 35, .load (some 2) (.tm 34), none⟩,
 ⟨some 11, .alloc [.int .i64 0, .int .i64 0], none⟩,
 ⟨none, .store 2 (.tm 11) (.tm 35), none⟩])
 (.draw [⟨some 36, .mov (.tm 9), none⟩,
 ⟨some 37, .fld (.tm 11) 0, none⟩,
 ⟨some 38, .load none (.tm 37), none⟩,
 ⟨some 39, .call (.fu 62) [(.tm 38)], none⟩,
 ⟨some 40, .mov (.tm 1), none⟩,
 ⟨some 41, .call (.fu 62) [(.tm 40)], none⟩,
 ⟨some 42, .bin .add (.tm 39) (.tm 41), none⟩,
 ⟨some 43, .call (.fu 62) [(.tm 42)], none⟩,
 ⟨some 44, .fld (.tm 11) 1, none⟩,
 ⟨some 45, .load none (.tm 44), none⟩,
 ⟨some 46, .call (.fu 62) [(.tm 45)], none⟩,
 ⟨some 47, .mov (.tm 2), none⟩,
 ⟨some 48, .call (.fu 62) [(.tm 47)], none⟩,
 ⟨some 49, .bin .add (.tm 46) (.tm 48), none⟩,
 ⟨some 50, .call (.fu 62) [(.tm 49)], none⟩,
 ⟨some 51, .build [.int .i64 0, .int .i64 0] [(0, 1, (.tm 43)), (1, 1, (.tm 50))], none⟩,
 ⟨some 52, .bsl 2 [.int .i64 0, .int .i64 0] 1 [(0, (.tm 51))], none⟩,
 ⟨some 53, .app 2 16 false (.tm 36) (.tm 52), none⟩,
 ⟨some 9, .mov (.tm 53), none⟩]
 [(3, 9), (5, 9), (7, 9)])))
 (.ops [⟨some 27, .mov (.tm 10), none⟩,
 ⟨some 28, .bin .add (.tm 27) (.cn (.int .i64 1)), none⟩,
 ⟨some 10, .mov (.tm 28), none⟩])))))))
 (.ops [⟨some 54, .mov (.tm 7), none⟩,
 ⟨some 55, .mov (.tm 9), none⟩,
 ⟨some 56, .bsl 1 [.slice none 0 0] 1 [(0, (.tm 55))], none⟩,
 ⟨some 57, .app 1 24 false (.tm 54) (.tm 56), none⟩,
 ⟨some 7, .mov (.tm 57), none⟩]))))
 (.ops [⟨some 17, .mov (.tm 8), none⟩,
 ⟨some 18, .bin .add (.tm 17) (.cn (.int .i64 1)), none⟩,
 ⟨some 8, .mov (.tm 18), none⟩])))))))
 (.seq (.ops [⟨some 58, .mov (.tm 7), none⟩,
 ⟨some 6, .mov (.tm 58), none⟩])
 .ret))))⟩
theorem comp33 : compF Tryd.prog Tryd.f33 ⟨false, [], [([.tmp 7 (some 1)], [0, 1, 2, 7, 8]), ([.tmp 7 (some 1), .tmp 9 (some 2)], [0, 1, 2, 7, 8, 9, 10])], [], []⟩ = some L33 := by kernel_rfl

def L34 : LFunc := ⟨68, 3, [.t 6], false, [], [],
 (.seq (.ops [⟨some 6, .mov (.cn (.slice none 0 0)), none⟩])
 (.seq (.ops [⟨some 14, .mov (.tm 1), none⟩,
 ⟨some 15, .call (.fu 62) [(.tm 14)], none⟩,
 ⟨some 16, .mov (.tm 2), none⟩,
 ⟨some 17, .mn [(.tm 16), (.cn (.int .i64 1048576))], none⟩,
 ⟨some 18, .mx [(.cn (.int .i64 1)), (.tm 17)], none⟩,
 ⟨some 7, .mov (.tm 15), none⟩,
 ⟨some 8, .mov (.tm 18), none⟩])
 (.seq (.ops [⟨some 19, .bsl 1 [.slice none 0 0] 0 [], none⟩,
 ⟨some 9, .mov (.tm 19), none⟩])
 (.seq (.seq (.ops [⟨some 10, .mov (.cn (.int .i64 0)), none⟩])
 (.block 0
 (.pre [.tmp 9 (some 1)] (.loop [0, 7, 8, 9, 10]
 (.seq (.seq (.ops [⟨some 20, .mov (.tm 10), none⟩,
 ⟨some 21, .mov (.tm 0), none⟩,
 ⟨some 22, .len (.tm 21), none⟩,
 ⟨some 23, .bin .lss (.tm 20) (.tm 22), none⟩])
 (.cond (.tm 23)
 .skip
 (.exit 0)))
 (.seq (.block 1
 (.seq (.ops [⟨some 26, .bsl 2 [.int .i64 0, .int .i64 0] 0 [], none⟩,
 ⟨some 11, .mov (.tm 26), none⟩])
 (.seq (.seq (.ops [⟨some 12, .mov (.cn (.int .i64 0)), none⟩])
 (.block 2
 (.pre [.tmp 9 (some 1), .tmp 11 (some 2)] (.loop [0, 7, 8, 9, 10, 11, 12]
 (.seq (.seq (.ops [⟨some 27, .mov (.tm 12), none⟩,
 ⟨some 28, .mov (.tm 0), none⟩,
 ⟨some 29, .mov (.tm 10), none⟩,
 ⟨some 30, .ixa 1 (.tm 28) (.tm 29), none⟩,
 ⟨some 31, .load none (.tm 30), none⟩,
 ⟨some 32, .len (.tm 31), none⟩,
 ⟨some 33, .bin .lss (.tm 27) (.tm 32), none⟩])
 (.cond (.tm 33)
 .skip
 (.exit 2)))
 (.seq (.block 3
 (.seq (.ops [⟨some 36, .mov (.tm 0), none⟩,
 ⟨some 37, .mov (.tm 10), none⟩,
 ⟨some 38, .ixa 1 (.tm 36) (.tm 37), none⟩,
 ⟨some 39, .load none (.tm 38), none⟩,
 ⟨some 40, .mov (.tm 12), none⟩,
 ⟨some 41, .ixa 2 (.tm 39) (.tm 40), none⟩,
 ⟨some 42, .load (some 2) (.tm 41), none⟩,
 ⟨some 13, .alloc [.int .i64 0, .int .i64 0], none⟩,
 ⟨none, .store 2 (.tm 13) (.tm 42), none⟩])
 (.draw [⟨some 43, .mov (.tm 11), none⟩,
 ⟨some 44, .fld (.tm 13) 0, none⟩,
 ⟨some 45, .load none (.tm 44), none⟩,
 ⟨some 46, .call (.fu 62) [(.tm 45)], none⟩,
 ⟨some 47, .mov (.tm 7), none⟩,
 ⟨some 48, .bin .mul (.tm 46) (.tm 47), none⟩,
 ⟨some 49, .mov (.tm 8), none⟩,
 ⟨some 50, .call (.fu 65) [(.tm 48), (.tm 49)], none⟩,
 ⟨some 51, .call (.fu 62) [(.tm 50)], none⟩,
 ⟨some 52, .fld (.tm 13) 1, none⟩,
 ⟨some 53, .load none (.tm 52), none⟩,
 ⟨some 54, .call (.fu 62) [(.tm 53)], none⟩,
 ⟨some 55, .mov (.tm 7), none⟩,
 ⟨some 56, .bin .mul (.tm 54) (.tm 55), none⟩,
 ⟨some 57, .mov (.tm 8), none⟩,
 ⟨some 58, .call (.fu 65) [(.tm 56), (.tm 57)], none⟩,
 ⟨some 59, .call (.fu 62) [(.tm 58)], none⟩,
 ⟨some 60, .build [.int .i64 0, .int .i64 0] [(0, 1, (.tm 51)), (1, 1, (.tm 59))], none⟩,
 ⟨some 61, .bsl 2 [.int .i64 0, .int .i64 0] 1 [(0, (.tm 60))], none⟩,
 ⟨some 62, .app 2 16 false (.tm 43) (.tm 61), none⟩,
 ⟨some 11, .mov (.tm 62), none⟩]
 [(3, 10), (7, 10), (8, 10)])))
 (.ops [⟨some 34, .mov (.tm 12), none⟩,
 ⟨some 35, .bin .add (.tm 34) (.cn (.int .i64 1)), none⟩,
 ⟨some 12, .mov (.tm 35), none⟩])))))))
 (.ops [⟨some 63, .mov (.tm 9), none⟩,
 ⟨some 64, .mov (.tm 11), none⟩,
 ⟨some 65, .bsl 1 [.slice none 0 0] 1 [(0, (.tm 64))], none⟩,
 ⟨some 66, .app 1 24 false (.tm 63) (.tm 65), none⟩,
 ⟨some 9, .mov (.tm 66), none⟩]))))
 (.ops [⟨some 24, .mov (.tm 10), none⟩,
 ⟨some 25, .bin .add (.tm 24) (.cn (.int .i64 1)), none⟩,
 ⟨some 10, .mov (.tm 25), none⟩])))))))
 (.seq (.ops [⟨some 67, .mov (.tm 9), none⟩,
 ⟨some 6, .mov (.tm 67), none⟩])
 .ret)))))⟩
theorem comp34 : compF Tryd.prog Tryd.f34 ⟨false, [], [([.tmp 9 (some 1)], [0, 7, 8, 9, 10]), ([.tmp 9 (some 1), .tmp 11 (some 2)], [0, 7, 8, 9, 10, 11, 12])], [], []⟩ = some L34 := by kernel_rfl

def L35 : LFunc := ⟨40, 2, [.t 4, .t 5], false, [], [],
 (.seq (.ops [⟨some 2, .box (.tm 0), none⟩,
 ⟨some 4, .mov (.cn (.slice none 0 0)), none⟩,
 ⟨some 5, .mov (.cn (.int .i64 0)), none⟩])
 (.seq (.seq (.ops [⟨some 11, .fld (.tm 2) 0, none⟩,
 ⟨some 12, .load none (.tm 11), none⟩,
 ⟨some 13, .len (.tm 12), none⟩,
 ⟨some 14, .bin .eql (.tm 13) (.cn (.int .i64 0)), none⟩])
 (.cond (.tm 14)
 (.seq (.ops [⟨some 4, .mov (.cn (.slice none 0 0)), none⟩,
 ⟨some 5, .mov (.cn (.int .i64 0)), none⟩])
 .ret)
 .skip))
 (.seq (.ops [⟨some 6, .mov (.cn (.slice none 0 0)), none⟩])
 (.seq (.ops [⟨some 7, .mov (.cn (.int .i64 0)), none⟩])
 (.seq (.seq (.ops [⟨some 15, .mov (.tm 1), none⟩,
 ⟨some 16, .call (.fu 15) [(.tm 15)], none⟩,
 ⟨some 17, .len (.tm 16), none⟩,
 ⟨some 18, .mov (.cn (.int .i64 0)), none⟩])
 (.block 0
 (.pre [.tmp 6 (some 3)] (.loop [2, 6, 7, 16, 17, 18]
 (.seq (.ops [⟨some 19, .bin .lss (.tm 18) (.tm 17), none⟩])
 (.seq (.cond (.tm 19)
 .skip
 (.exit 0))
 (.seq (.block 1
 (.seq (.ops [⟨some 20, .ixa 1 (.tm 16) (.tm 18), none⟩,
 ⟨some 21, .load none (.tm 20), none⟩,
 ⟨some 9, .mov (.tm 21), none⟩])
 (.seq (.ops [⟨some 22, .load (some 2) (.tm 2), none⟩,
 ⟨some 23, .mov (.tm 9), none⟩,
 ⟨some 24, .call (.fu 22) [(.tm 22), (.tm 23)], none⟩,
 ⟨some 10, .mov (.tm 24), none⟩])
 (.seq (.ops [⟨some 25, .mov (.tm 6), none⟩,
 ⟨some 26, .mov (.tm 10), none⟩,
 ⟨some 27, .mov (.tm 7), none⟩,
 ⟨some 28, .build [.int .i64 0, .int .i64 0, .int .i64 0] [(0, 1, (.tm 26)), (1, 1, (.tm 27))], none⟩,
 ⟨some 29, .bsl 3 [.int .i64 0, .int .i64 0, .int .i64 0] 1 [(0, (.tm 28))], none⟩,
 ⟨some 30, .app 3 24 false (.tm 25) (.tm 29), none⟩,
 ⟨some 6, .mov (.tm 30), none⟩])
 (.ops [⟨some 31, .mov (.tm 7), none⟩,
 ⟨some 32, .load (some 2) (.tm 2), none⟩,
 ⟨some 33, .mov (.tm 10), none⟩,
 ⟨some 34, .call (.fu 24) [(.tm 32), (.tm 33)], none⟩,
 ⟨some 35, .bin .add (.tm 31) (.tm 34), none⟩,
 ⟨some 36, .call (.fu 60) [(.tm 35)], none⟩,
 ⟨some 7, .mov (.tm 36), none⟩])))))
 (.ops [⟨some 37, .bin .add (.tm 18) (.cn (.int .i64 1)), none⟩,
 ⟨some 18, .mov (.tm 37), none⟩]))))))))
 (.seq (.ops [⟨some 38, .mov (.tm 6), none⟩,
 ⟨some 39, .mov (.tm 7), none⟩,
 ⟨some 4, .mov (.tm 38), none⟩,
 ⟨some 5, .mov (.tm 39), none⟩])
 .ret))))))⟩
theorem comp35 : compF Tryd.prog Tryd.f35 ⟨false, [], [([.tmp 6 (some 3)], [2, 6, 7, 16, 17, 18])], [], []⟩ = some L35 := by kernel_rfl

def L39 : LFunc := ⟨26, 2, [.t 4], false, [], [],
 (.seq (.ops [⟨some 4, .mov (.cn (.bool false)), none⟩])
 (.seq (.seq (.ops [⟨some 6, .mov (.tm 0), none⟩,
 ⟨some 7, .len (.tm 6), none⟩,
 ⟨some 8, .mov (.tm 1), none⟩,
 ⟨some 9, .len (.tm 8), none⟩,
 ⟨some 10, .bin .neq (.tm 7) (.tm 9), none⟩])
 (.cond (.tm 10)
 (.seq (.ops [⟨some 4, .mov (.cn (.bool false)), none⟩])
 .ret)
 .skip))
 (.seq (.seq (.ops [⟨some 5, .mov (.cn (.int .i64 0)), none⟩])
 (.block 0
 (.loop [0, 1, 5]
 (.seq (.seq (.ops [⟨some 11, .mov (.tm 5), none⟩,
 ⟨some 12, .mov (.tm 0), none⟩,
 ⟨some 13, .len (.tm 12), none⟩,
 ⟨some 14, .bin .lss (.tm 11) (.tm 13), none⟩])
 (.cond (.tm 14)
 .skip
 (.exit 0)))
 (.seq (.block 1
 (.seq (.draw [⟨some 17, .mov (.tm 0), none⟩,
 ⟨some 18, .mov (.tm 5), none⟩,
 ⟨some 19, .ixa 3 (.tm 17) (.tm 18), none⟩,
 ⟨some 20, .load (some 3) (.tm 19), none⟩,
 ⟨some 21, .mov (.tm 1), none⟩,
 ⟨some 22, .mov (.tm 5), none⟩,
 ⟨some 23, .ixa 3 (.tm 21) (.tm 22), none⟩,
 ⟨some 24, .load (some 3) (.tm 23), none⟩,
 ⟨some 25, .eqs [0, 0, 0] true (.tm 20) (.tm 24), none⟩]
 [])
 (.cond (.tm 25)
 (.seq (.ops [⟨some 4, .mov (.cn (.bool false)), none⟩])
 .ret)
 .skip)))
 (.ops [⟨some 15, .mov (.tm 5), none⟩,
 ⟨some 16, .bin .add (.tm 15) (.cn (.int .i64 1)), none⟩,
 ⟨some 5, .mov (.tm 16), none⟩]))))))
 (.seq (.ops [⟨some 4, .mov (.cn (.bool true)), none⟩])
 .ret))))⟩
theorem comp39 : compF Tryd.prog Tryd.f39 ⟨false, [], [([], [0, 1, 5])], [], []⟩ = some L39 := by kernel_rfl

def L40 : LFunc := ⟨72, 0, [.cell 0 (some 2)], false, [], [],
 (.seq (.ops [⟨some 0, .alloc [.slice none 0 0, .slice none 0 0], none⟩])
 (.seq (.ops [⟨some 7, .build [.int .i64 0, .int .i64 0] [(0, 1, (.cn (.int .i64 32))), (1, 1, (.cn (.int .i64 1)))], none⟩,
 ⟨some 8, .bsl 2 [.int .i64 0, .int .i64 0] 1 [(0, (.tm 7))], none⟩,
 ⟨some 9, .build [.slice none 0 0, .slice none 0 0] [(1, 1, (.tm 8))], none⟩,
 ⟨some 1, .alloc [.slice none 0 0, .slice none 0 0], none⟩,
 ⟨none, .store 2 (.tm 1) (.tm 9), none⟩])
 (.seq (.draw [⟨some 10, .fld (.tm 1) 0, none⟩,
 ⟨some 11, .load none (.tm 10), none⟩,
 ⟨some 12, .call (.fu 67) [(.cn (.int .i64 0)), (.cn (.int .i64 0)), (.cn (.int .i64 12)), (.cn (.int .i64 20))], none⟩,
 ⟨some 13, .call (.fu 67) [(.cn (.int .i64 4)), (.cn (.int .i64 4)), (.cn (.int .i64 4)), (.cn (.int .i64 12))], none⟩,
 ⟨some 14, .bsl 1 [.slice none 0 0] 2 [(0, (.tm 12)), (1, (.tm 13))], none⟩,
 ⟨some 15, .build [.int .i64 0, .slice none 0 0, .slice none 0 0] [(0, 1, (.cn (.int .i64 16))), (1, 1, (.tm 14))], none⟩,
 ⟨some 16, .build [.int .i64 0, .slice none 0 0, .slice none 0 0] [(0, 1, (.cn (.int .i64 16)))], none⟩,
 ⟨some 17, .bsl 3 [.int .i64 0, .slice none 0 0, .slice none 0 0] 2 [(0, (.tm 15)), (1, (.tm 16))], none⟩,
 ⟨some 18, .app 3 56 false (.tm 11) (.tm 17), none⟩,
 ⟨some 19, .fld (.tm 1) 0, none⟩,
 ⟨none, .store 1 (.tm 19) (.tm 18), none⟩]
 [(1, 2), (1, 3), (1, 4), (1, 7)])
 (.seq (.seq (.ops [⟨some 2, .mov (.cn (.int .i64 33)), none⟩])
 (.block 0
 (.pre [.bx 1 0 (some 3), .bx 1 1 (some 2)] (.loop [0, 1, 2]
 (.seq (.seq (.ops [⟨some 20, .mov (.tm 2), none⟩,
 ⟨some 21, .bin .leq (.tm 20) (.cn (.int .i64 126)), none⟩])
 (.cond (.tm 21)
 .skip
 (.exit 0)))
 (.seq (.block 1
 (.seq (.ops [⟨some 24, .build [.int .i64 0, .slice none 0 0, .slice none 0 0] [(0, 1, (.cn (.int .i64 16)))], none⟩,
 ⟨some 3, .alloc [.int .i64 0, .slice none 0 0, .slice none 0 0], none⟩,
 ⟨none, .store 3 (.tm 3) (.tm 24), none⟩])
 (.seq (.seq (.ops [⟨some 25, .mov (.tm 2), none⟩,
 ⟨some 26, .call (.fu 68) [(.tm 25)], none⟩,
 ⟨some 27, .s2b (.tm 26), none⟩,
 ⟨some 28, .len (.tm 27), none⟩,
 ⟨some 29, .mov (.cn (.int .i64 0)), none⟩])
 (.block 2
 (.pre [.bx 1 0 (some 3), .bx 1 1 (some 2), .bx 3 1 (some 1)] (.loop [0, 1, 2, 3, 27, 28, 29]
 (.seq (.ops [⟨some 30, .bin .lss (.tm 29) (.tm 28), none⟩])
 (.seq (.cond (.tm 30)
 .skip
 (.exit 2))
 (.seq (.block 3
 (.seq (.ops [⟨some 31, .mov (.tm 29), none⟩,
 ⟨some 32, .ixa 1 (.tm 27) (.tm 29), none⟩,
 ⟨some 33, .load none (.tm 32), none⟩,
 ⟨some 4, .mov (.tm 31), none⟩,
 ⟨some 5, .mov (.tm 33), none⟩])
 (.seq (.ops [⟨some 34, .mov (.cn (.int .i64 0)), none⟩])
 (.block 4
 (.pre [.bx 1 0 (some 3), .bx 1 1 (some 2), .bx 3 1 (some 1)] (.loop [0, 1, 2, 3, 4, 5, 27, 28, 29, 34]
 (.seq (.ops [⟨some 35, .bin .lss (.tm 34) (.cn (.int .i64 3)), none⟩])
 (.seq (.cond (.tm 35)
 .skip
 (.exit 4))
 (.seq (.block 5
 (.seq (.ops [⟨some 36, .mov (.tm 34), none⟩,
 ⟨some 6, .mov (.tm 36), none⟩])
 (.seq (.ops [⟨some 37, .mov (.tm 5), none⟩,
 ⟨some 38, .bin .sub (.tm 37) (.cn (.int .u8 48)), none⟩,
 ⟨some 39, .mov (.tm 6), none⟩,
 ⟨some 40, .bin .shr (.cn (.int .u8 4)) (.tm 39), none⟩,
 ⟨some 41, .bin .and (.tm 38) (.tm 40), none⟩,
 ⟨some 42, .bin .neq (.tm 41) (.cn (.int .u8 0)), none⟩])
 (.cond (.tm 42)
 (.draw [⟨some 43, .fld (.tm 3) 1, none⟩,
 ⟨some 44, .load none (.tm 43), none⟩,
 ⟨some 45, .mov (.tm 6), none⟩,
 ⟨some 46, .bin .mul (.cn (.int .i64 4)) (.tm 45), none⟩,
 ⟨some 47, .mov (.tm 4), none⟩,
 ⟨some 48, .bin .mul (.cn (.int .i64 4)) (.tm 47), none⟩,
 ⟨some 49, .call (.fu 67) [(.tm 46), (.tm 48), (.cn (.int .i64 4)), (.cn (.int .i64 4))], none⟩,
 ⟨some 50, .bsl 1 [.slice none 0 0] 1 [(0, (.tm 49))], none⟩,
 ⟨some 51, .app 1 24 false (.tm 44) (.tm 50), none⟩,
 ⟨some 52, .fld (.tm 3) 1, none⟩,
 ⟨none, .store 1 (.tm 52) (.tm 51), none⟩]
 [(1, 6), (1, 7)])
 .skip))))
 (.ops [⟨some 53, .bin .add (.tm 34) (.cn (.int .i64 1)), none⟩,
 ⟨some 34, .mov (.tm 53), none⟩]))))))))))
 (.ops [⟨some 54, .bin .add (.tm 29) (.cn (.int .i64 1)), none⟩,
 ⟨some 29, .mov (.tm 54), none⟩]))))))))
 (.seq (.ops [⟨some 55, .fld (.tm 1) 1, none⟩,
 ⟨some 56, .load none (.tm 55), none⟩,
 ⟨some 57, .mov (.tm 2), none⟩,
 ⟨some 58, .fld (.tm 1) 0, none⟩,
 ⟨some 59, .load none (.tm 58), none⟩,
 ⟨some 60, .len (.tm 59), none⟩,
 ⟨some 61, .build [.int .i64 0, .int .i64 0] [(0, 1, (.tm 57)), (1, 1, (.tm 60))], none⟩,
 ⟨some 62, .bsl 2 [.int .i64 0, .int .i64 0] 1 [(0, (.tm 61))], none⟩,
 ⟨some 63, .app 2 16 false (.tm 56) (.tm 62), none⟩,
 ⟨some 64, .fld (.tm 1) 1, none⟩,
 ⟨none, .store 1 (.tm 64) (.tm 63), none⟩])
 (.ops [⟨some 65, .fld (.tm 1) 0, none⟩,
 ⟨some 66, .load none (.tm 65), none⟩,
 ⟨some 67, .load (some 3) (.tm 3), none⟩,
 ⟨some 68, .bsl 3 [.int .i64 0, .slice none 0 0, .slice none 0 0] 1 [(0, (.tm 67))], none⟩,
 ⟨some 69, .app 3 56 false (.tm 66) (.tm 68), none⟩,
 ⟨some 70, .fld (.tm 1) 0, none⟩,
 ⟨none, .store 1 (.tm 70) (.tm 69), none⟩])))))
 (.ops [⟨some 22, .mov (.tm 2), none⟩,
 ⟨some 23, .bin .add (.tm 22) (.cn (.int .i64 1)), none⟩,
 ⟨some 2, .mov (.tm 23), none⟩])))))))
 (.seq (.ops [⟨some 71, .load (some 2) (.tm 1), none⟩,
 ⟨none, .store 2 (.tm 0) (.tm 71), none⟩])
 .ret)))))⟩
theorem comp40 : compF Tryd.prog Tryd.f40 ⟨false, [], [([.bx 1 0 (some 3), .bx 1 1 (some 2)], [0, 1, 2]), ([.bx 1 0 (some 3), .bx 1 1 (some 2), .bx 3 1 (some 1)], [0, 1, 2, 3, 27, 28, 29]), ([.bx 1 0 (some 3), .bx 1 1 (some 2), .bx 3 1 (some 1)], [0, 1, 2, 3, 4, 5, 27, 28, 29, 34])], [], []⟩ = some L40 := by kernel_rfl

def L42 : LFunc := ⟨69, 1, [.t 2], false, [], [],
 (.seq (.ops [⟨some 1, .box (.tm 0), none⟩,
 ⟨some 2, .mov (.cn (.bool false)), none⟩])
 (.seq (.ops [⟨some 8, .fld (.tm 1) 0, none⟩,
 ⟨some 9, .load none (.tm 8), none⟩,
 ⟨some 10, .len (.tm 9), none⟩,
 ⟨some 3, .mov (.tm 10), none⟩])
 (.seq (.seq (.ops [⟨some 11, .mov (.tm 3), none⟩,
 ⟨some 12, .bin .gtr (.tm 11) (.cn (.int .i64 1000)), none⟩])
 (.cond (.tm 12)
 (.seq (.ops [⟨some 2, .mov (.cn (.bool false)), none⟩])
 .ret)
 .skip))
 (.seq (.seq (.ops [⟨some 13, .fld (.tm 1) 0, none⟩,
 ⟨some 14, .load none (.tm 13), none⟩,
 ⟨some 15, .len (.tm 14), none⟩,
 ⟨some 16, .mov (.cn (.int .i64 0)), none⟩])
 (.block 0
 (.loop [1, 3, 14, 15, 16]
 (.seq (.ops [⟨some 17, .bin .lss (.tm 16) (.tm 15), none⟩])
 (.seq (.cond (.tm 17)
 .skip
 (.exit 0))
 (.seq (.block 1
 (.seq (.ops [⟨some 18, .ixa 3 (.tm 14) (.tm 16), none⟩,
 ⟨some 19, .load (some 3) (.tm 18), none⟩,
 ⟨some 5, .alloc [.int .i64 0, .slice none 0 0, .slice none 0 0], none⟩,
 ⟨none, .store 3 (.tm 5) (.tm 19), none⟩])
 (.seq (.ops [⟨some 20, .load (some 3) (.tm 5), none⟩,
 ⟨some 21, .mov (.tm 3), none⟩,
 ⟨some 22, .call (.fu 69) [(.tm 20), (.tm 21)], none⟩,
 ⟨some 23, .un .not (.tm 22), none⟩])
 (.cond (.tm 23)
 (.seq (.ops [⟨some 2, .mov (.cn (.bool false)), none⟩])
 .ret)
 .skip))))
 (.ops [⟨some 24, .bin .add (.tm 16) (.cn (.int .i64 1)), none⟩,
 ⟨some 16, .mov (.tm 24), none⟩])))))))
 (.seq (.seq (.ops [⟨some 25, .fld (.tm 1) 1, none⟩,
 ⟨some 26, .load none (.tm 25), none⟩,
 ⟨some 27, .len (.tm 26), none⟩,
 ⟨some 28, .mov (.cn (.int .i64 0)), none⟩])
 (.block 2
 (.loop [1, 3, 26, 27, 28]
 (.seq (.ops [⟨some 29, .bin .lss (.tm 28) (.tm 27), none⟩])
 (.seq (.cond (.tm 29)
 .skip
 (.exit 2))
 (.seq (.block 3
 (.seq (.ops [⟨some 30, .mov (.tm 28), none⟩,
 ⟨some 31, .ixa 2 (.tm 26) (.tm 28), none⟩,
 ⟨some 32, .load (some 2) (.tm 31), none⟩,
 ⟨some 7, .alloc [.int .i64 0, .int .i64 0], none⟩,
 ⟨some 6, .mov (.tm 30), none⟩,
 ⟨none, .store 2 (.tm 7) (.tm 32), none⟩])
 (.seq (.draw [⟨some 33, .fld (.tm 7) 0, none⟩,
 ⟨some 34, .load none (.tm 33), none⟩,
 ⟨some 35, .bin .lss (.tm 34) (.cn (.int .i64 0)), none⟩,
 ⟨some 36, .mov (.tm 35), none⟩,
 ⟨some 37, .fld (.tm 7) 0, (some (36, false))⟩,
 ⟨some 38, .load none (.tm 37), (some (36, false))⟩,
 ⟨some 39, .bin .gtr (.tm 38) (.cn (.int .i64 1114111)), (some (36, false))⟩,
 ⟨some 40, .pick (.tm 36) (.cn (.bool true)) (.tm 39), none⟩,
 ⟨some 41, .mov (.tm 40), none⟩,
 ⟨some 42, .fld (.tm 7) 1, (some (41, false))⟩,
 ⟨some 43, .load none (.tm 42), (some (41, false))⟩,
 ⟨some 44, .bin .lss (.tm 43) (.cn (.int .i64 0)), (some (41, false))⟩,
 ⟨some 45, .pick (.tm 41) (.cn (.bool true)) (.tm 44), none⟩,
 ⟨some 46, .mov (.tm 45), none⟩,
 ⟨some 47, .fld (.tm 7) 1, (some (46, false))⟩,
 ⟨some 48, .load none (.tm 47), (some (46, false))⟩,
 ⟨some 49, .mov (.tm 3), (some (46, false))⟩,
 ⟨some 50, .bin .geq (.tm 48) (.tm 49), (some (46, false))⟩,
 ⟨some 51, .pick (.tm 46) (.cn (.bool true)) (.tm 50), none⟩,
 ⟨some 52, .mov (.tm 51), none⟩,
 ⟨some 53, .mov (.tm 6), (some (52, false))⟩,
 ⟨some 54, .bin .gtr (.tm 53) (.cn (.int .i64 0)), (some (52, false))⟩,
 ⟨some 55, .mov (.tm 54), (some (52, false))⟩,
 ⟨some 56, .fld (.tm 7) 0, (some (55, true))⟩,
 ⟨some 57, .load none (.tm 56), (some (55, true))⟩,
 ⟨some 58, .fld (.tm 1) 1, (some (55, true))⟩,
 ⟨some 59, .load none (.tm 58), (some (55, true))⟩,
 ⟨some 60, .mov (.tm 6), (some (55, true))⟩,
 ⟨some 61, .bin .sub (.tm 60) (.cn (.int .i64 1)), (some (55, true))⟩,
 ⟨some 62, .ixa 2 (.tm 59) (.tm 61), (some (55, true))⟩,
 ⟨some 63, .fld (.tm 62) 0, (some (55, true))⟩,
 ⟨some 64, .load none (.tm 63), (some (55, true))⟩,
 ⟨some 65, .bin .leq (.tm 57) (.tm 64), (some (55, true))⟩,
 ⟨some 66, .pick (.tm 55) (.tm 65) (.cn (.bool false)), (some (52, false))⟩,
 ⟨some 67, .pick (.tm 52) (.cn (.bool true)) (.tm 66), none⟩]
 [])
 (.cond (.tm 67)
 (.seq (.ops [⟨some 2, .mov (.cn (.bool false)), none⟩])
 .ret)
 .skip))))
 (.ops [⟨some 68, .bin .add (.tm 28) (.cn (.int .i64 1)), none⟩,
 ⟨some 28, .mov (.tm 68), none⟩])))))))
 (.seq (.ops [⟨some 2, .mov (.cn (.bool true)), none⟩])
 .ret))))))⟩
theorem comp42 : compF Tryd.prog Tryd.f42 ⟨false, [], [([], [1, 3, 14, 15, 16]), ([], [1, 3, 26, 27, 28])], [], []⟩ = some L42 := by kernel_rfl

def L44 : LFunc := ⟨115, 1, [.t 2], false, [], [],
 (.seq (.ops [⟨some 1, .box (.tm 0), none⟩,
 ⟨some 2, .mov (.cn (.string ⟨#[]⟩)), none⟩])
 (.seq (.seq (.ops [⟨some 14, .load (some 2) (.tm 1), none⟩,
 ⟨some 15, .call (.fu 42) [(.tm 14)], none⟩,
 ⟨some 16, .un .not (.tm 15), none⟩])
 (.cond (.tm 16)
 (.seq (.ops [⟨some 2, .mov (.cn (.string ⟨#[]⟩)), none⟩])
 .ret)
 .skip))
 (.seq (.ops [⟨some 17, .bsl 1 [.int .u8 0] 7 [(0, (.cn (.int .u8 102))), (1, (.cn (.int .u8 111))), (2, (.cn (.int .u8 110))), (3, (.cn (.int .u8 116))), (4, (.cn (.int .u8 32))), (5, (.cn (.int .u8 49))), (6, (.cn (.int .u8 10)))], none⟩,
 ⟨some 18, .cv2 (.tm 17), none⟩,
 ⟨some 3, .mov (.tm 18), none⟩])
 (.seq (.seq (.ops [⟨some 19, .fld (.tm 1) 0, none⟩,
 ⟨some 20, .load none (.tm 19), none⟩,
 ⟨some 21, .len (.tm 20), none⟩,
 ⟨some 22, .mov (.cn (.int .i64 0)), none⟩])
 (.block 0
 (.pre [.tmp 3 (some 1)] (.loop [1, 3, 20, 21, 22]
 (.seq (.ops [⟨some 23, .bin .lss (.tm 22) (.tm 21), none⟩])
 (.seq (.cond (.tm 23)
 .skip
 (.exit 0))
 (.seq (.block 1
 (.seq (.ops [⟨some 24, .ixa 3 (.tm 20) (.tm 22), none⟩,
 ⟨some 25, .load (some 3) (.tm 24), none⟩,
 ⟨some 5, .alloc [.int .i64 0, .slice none 0 0, .slice none 0 0], none⟩,
 ⟨none, .store 3 (.tm 5) (.tm 25), none⟩])
 (.seq (.draw [⟨some 26, .mov (.tm 3), none⟩,
 ⟨some 27, .bsl 1 [.int .u8 0] 1 [(0, (.cn (.int .u8 103)))], none⟩,
 ⟨some 28, .app 1 1 false (.tm 26) (.tm 27), none⟩,
 ⟨some 29, .fld (.tm 5) 0, none⟩,
 ⟨some 30, .load none (.tm 29), none⟩,
 ⟨some 31, .bsl 1 [.int .i64 0] 1 [(0, (.tm 30))], none⟩,
 ⟨some 32, .call (.fu 71) [(.tm 28), (.tm 31)], none⟩,
 ⟨some 33, .fld (.tm 5) 1, none⟩,
 ⟨some 34, .load none (.tm 33), none⟩,
 ⟨some 35, .len (.tm 34), none⟩,
 ⟨some 36, .conv .u8 (.tm 35), none⟩,
 ⟨some 37, .bsl 1 [.int .u8 0] 1 [(0, (.tm 36))], none⟩,
 ⟨some 38, .app 1 1 false (.tm 32) (.tm 37), none⟩,
 ⟨some 3, .mov (.tm 38), none⟩]
 [(1, 4), (2, 4), (1, 5), (2, 5), (1, 8), (2, 8), (5, 8), (6, 8), (1, 11), (2, 11), (4, 11), (5, 11), (6, 11)])
 (.seq (.seq (.ops [⟨some 39, .fld (.tm 5) 1, none⟩,
 ⟨some 40, .load none (.tm 39), none⟩,
 ⟨some 41, .len (.tm 40), none⟩,
 ⟨some 42, .mov (.cn (.int .i64 0)), none⟩])
 (.block 2
 (.pre [.tmp 3 (some 1)] (.loop [1, 3, 5, 20, 21, 22, 40, 41, 42]
 (.seq (.ops [⟨some 43, .bin .lss (.tm 42) (.tm 41), none⟩])
 (.seq (.cond (.tm 43)
 .skip
 (.exit 2))
 (.seq (.block 3
 (.seq (.ops [⟨some 44, .ixa 1 (.tm 40) (.tm 42), none⟩,
 ⟨some 45, .load none (.tm 44), none⟩,
 ⟨some 7, .mov (.tm 45), none⟩])
 (.seq (.ops [⟨some 46, .mov (.tm 3), none⟩,
 ⟨some 47, .mov (.tm 7), none⟩,
 ⟨some 48, .len (.tm 47), none⟩,
 ⟨some 49, .conv .u8 (.tm 48), none⟩,
 ⟨some 50, .bsl 1 [.int .u8 0] 1 [(0, (.tm 49))], none⟩,
 ⟨some 51, .app 1 1 false (.tm 46) (.tm 50), none⟩,
 ⟨some 3, .mov (.tm 51), none⟩])
 (.seq (.ops [⟨some 52, .mov (.tm 7), none⟩,
 ⟨some 53, .len (.tm 52), none⟩,
 ⟨some 54, .mov (.cn (.int .i64 0)), none⟩])
 (.block 4
 (.pre [.tmp 3 (some 1)] (.loop [1, 3, 5, 20, 21, 22, 40, 41, 42, 52, 53, 54]
 (.seq (.ops [⟨some 55, .bin .lss (.tm 54) (.tm 53), none⟩])
 (.seq (.cond (.tm 55)
 .skip
 (.exit 4))
 (.seq (.block 5
 (.seq (.ops [⟨some 56, .ixa 2 (.tm 52) (.tm 54), none⟩,
 ⟨some 57, .load (some 2) (.tm 56), none⟩,
 ⟨some 9, .alloc [.int .i64 0, .int .i64 0], none⟩,
 ⟨none, .store 2 (.tm 9) (.tm 57), none⟩])
 (.ops [⟨some 58, .mov (.tm 3), none⟩,
 ⟨some 59, .fld (.tm 9) 0, none⟩,
 ⟨some 60, .load none (.tm 59), none⟩,
 ⟨some 61, .fld (.tm 9) 1, none⟩,
 ⟨some 62, .load none (.tm 61), none⟩,
 ⟨some 63, .bsl 1 [.int .i64 0] 2 [(0, (.tm 60)), (1, (.tm 62))], none⟩,
 ⟨some 64, .call (.fu 71) [(.tm 58), (.tm 63)], none⟩,
 ⟨some 3, .mov (.tm 64), none⟩])))
 (.ops [⟨some 65, .bin .add (.tm 54) (.cn (.int .i64 1)), none⟩,
 ⟨some 54, .mov (.tm 65), none⟩])))))))))))
 (.ops [⟨some 66, .bin .add (.tm 42) (.cn (.int .i64 1)), none⟩,
 ⟨some 42, .mov (.tm 66), none⟩]))))))))
 (.seq (.ops [⟨some 67, .mov (.tm 3), none⟩,
 ⟨some 68, .fld (.tm 5) 2, none⟩,
 ⟨some 69, .load none (.tm 68), none⟩,
 ⟨some 70, .len (.tm 69), none⟩,
 ⟨some 71, .conv .u8 (.tm 70), none⟩,
 ⟨some 72, .bsl 1 [.int .u8 0] 1 [(0, (.tm 71))], none⟩,
 ⟨some 73, .app 1 1 false (.tm 67) (.tm 72), none⟩,
 ⟨some 3, .mov (.tm 73), none⟩])
 (.seq (.ops [⟨some 74, .fld (.tm 5) 2, none⟩,
 ⟨some 75, .load none (.tm 74), none⟩,
 ⟨some 76, .len (.tm 75), none⟩,
 ⟨some 77, .mov (.cn (.int .i64 0)), none⟩])
 (.block 6
 (.pre [.tmp 3 (some 1)] (.loop [1, 3, 20, 21, 22, 75, 76, 77]
 (.seq (.ops [⟨some 78, .bin .lss (.tm 77) (.tm 76), none⟩])
 (.seq (.cond (.tm 78)
 .skip
 (.exit 6))
 (.seq (.block 7
 (.seq (.ops [⟨some 79, .ixa 3 (.tm 75) (.tm 77), none⟩,
 ⟨some 80, .load (some 3) (.tm 79), none⟩,
 ⟨some 11, .alloc [.int .i64 0, .int .i64 0, .int .i64 0], none⟩,
 ⟨none, .store 3 (.tm 11) (.tm 80), none⟩])
 (.ops [⟨some 81, .mov (.tm 3), none⟩,
 ⟨some 82, .fld (.tm 11) 0, none⟩,
 ⟨some 83, .load none (.tm 82), none⟩,
 ⟨some 84, .fld (.tm 11) 1, none⟩,
 ⟨some 85, .load none (.tm 84), none⟩,
 ⟨some 86, .fld (.tm 11) 2, none⟩,
 ⟨some 87, .load none (.tm 86), none⟩,
 ⟨some 88, .bsl 1 [.int .i64 0] 3 [(0, (.tm 83)), (1, (.tm 85)), (2, (.tm 87))], none⟩,
 ⟨some 89, .call (.fu 71) [(.tm 81), (.tm 88)], none⟩,
 ⟨some 3, .mov (.tm 89), none⟩])))
 (.ops [⟨some 90, .bin .add (.tm 77) (.cn (.int .i64 1)), none⟩,
 ⟨some 77, .mov (.tm 90), none⟩])))))))))))))
 (.ops [⟨some 91, .bin .add (.tm 22) (.cn (.int .i64 1)), none⟩,
 ⟨some 22, .mov (.tm 91), none⟩]))))))))
 (.seq (.seq (.ops [⟨some 92, .fld (.tm 1) 1, none⟩,
 ⟨some 93, .load none (.tm 92), none⟩,
 ⟨some 94, .len (.tm 93), none⟩,
 ⟨some 95, .mov (.cn (.int .i64 0)), none⟩])
 (.block 8
 (.pre [.tmp 3 (some 1)] (.loop [3, 93, 94, 95]
 (.seq (.ops [⟨some 96, .bin .lss (.tm 95) (.tm 94), none⟩])
 (.seq (.cond (.tm 96)
 .skip
 (.exit 8))
 (.seq (.block 9
 (.seq (.ops [⟨some 97, .ixa 2 (.tm 93) (.tm 95), none⟩,
 ⟨some 98, .load (some 2) (.tm 97), none⟩,
 ⟨some 13, .alloc [.int .i64 0, .int .i64 0], none⟩,
 ⟨none, .store 2 (.tm 13) (.tm 98), none⟩])
 (.draw [⟨some 99, .mov (.tm 3), none⟩,
 ⟨some 100, .fld (.tm 13) 0, none⟩,
 ⟨some 101, .load none (.tm 100), none⟩,
 ⟨some 102, .bin .shr (.tm 101) (.cn (.int .u64 16)), none⟩,
 ⟨some 103, .conv .u8 (.tm 102), none⟩,
 ⟨some 104, .bsl 1 [.int .u8 0] 2 [(0, (.cn (.int .u8 109))), (1, (.tm 103))], none⟩,
 ⟨some 105, .app 1 1 false (.tm 99) (.tm 104), none⟩,
 ⟨some 106, .fld (.tm 13) 0, none⟩,
 ⟨some 107, .load none (.tm 106), none⟩,
 ⟨some 108, .fld (.tm 13) 1, none⟩,
 ⟨some 109, .load none (.tm 108), none⟩,
 ⟨some 110, .bsl 1 [.int .i64 0] 2 [(0, (.tm 107)), (1, (.tm 109))], none⟩,
 ⟨some 111, .call (.fu 71) [(.tm 105), (.tm 110)], none⟩,
 ⟨some 3, .mov (.tm 111), none⟩]
 [(5, 8), (6, 8), (5, 10), (6, 10), (2, 11), (5, 11), (6, 11)])))
 (.ops [⟨some 112, .bin .add (.tm 95) (.cn (.int .i64 1)), none⟩,
 ⟨some 95, .mov (.tm 112), none⟩]))))))))
 (.seq (.ops [⟨some 113, .mov (.tm 3), none⟩,
 ⟨some 114, .b2s (.tm 113), none⟩,
 ⟨some 2, .mov (.tm 114), none⟩])
 .ret))))))⟩
theorem comp44 : compF Tryd.prog Tryd.f44 ⟨false, [], [([.tmp 3 (some 1)], [1, 3, 20, 21, 22]), ([.tmp 3 (some 1)], [1, 3, 5, 20, 21, 22, 40, 41, 42]), ([.tmp 3 (some 1)], [1, 3, 5, 20, 21, 22, 40, 41, 42, 52, 53, 54]), ([.tmp 3 (some 1)], [1, 3, 20, 21, 22, 75, 76, 77]), ([.tmp 3 (some 1)], [3, 93, 94, 95])], [], []⟩ = some L44 := by kernel_rfl

def L45 : LFunc := ⟨64, 1, [.t 2], false, [], [],
 (.seq (.ops [⟨some 1, .box (.tm 0), none⟩,
 ⟨some 2, .mov (.cn (.bool false)), none⟩])
 (.seq (.seq (.ops [⟨some 7, .fld (.tm 1) 0, none⟩,
 ⟨some 8, .load none (.tm 7), none⟩,
 ⟨some 9, .len (.tm 8), none⟩,
 ⟨some 10, .bin .gtr (.tm 9) (.cn (.int .i64 1000)), none⟩])
 (.cond (.tm 10)
 (.seq (.ops [⟨some 2, .mov (.cn (.bool false)), none⟩])
 .ret)
 .skip))
 (.seq (.seq (.ops [⟨some 3, .mov (.cn (.int .i64 0)), none⟩])
 (.block 0
 (.loop [1, 3]
 (.seq (.seq (.ops [⟨some 11, .mov (.tm 3), none⟩,
 ⟨some 12, .fld (.tm 1) 0, none⟩,
 ⟨some 13, .load none (.tm 12), none⟩,
 ⟨some 14, .len (.tm 13), none⟩,
 ⟨some 15, .bin .lss (.tm 11) (.tm 14), none⟩])
 (.cond (.tm 15)
 .skip
 (.exit 0)))
 (.seq (.block 1
 (.seq (.draw [⟨some 18, .fld (.tm 1) 0, none⟩,
 ⟨some 19, .load none (.tm 18), none⟩,
 ⟨some 20, .mov (.tm 3), none⟩,
 ⟨some 21, .ixa 3 (.tm 19) (.tm 20), none⟩,
 ⟨some 22, .load (some 3) (.tm 21), none⟩,
 ⟨some 23, .fld (.tm 1) 0, none⟩,
 ⟨some 24, .load none (.tm 23), none⟩,
 ⟨some 25, .len (.tm 24), none⟩,
 ⟨some 26, .call (.fu 72) [(.tm 22), (.tm 25)], none⟩,
 ⟨some 27, .un .not (.tm 26), none⟩]
 [])
 (.cond (.tm 27)
 (.seq (.ops [⟨some 2, .mov (.cn (.bool false)), none⟩])
 .ret)
 .skip)))
 (.ops [⟨some 16, .mov (.tm 3), none⟩,
 ⟨some 17, .bin .add (.tm 16) (.cn (.int .i64 1)), none⟩,
 ⟨some 3, .mov (.tm 17), none⟩]))))))
 (.seq (.ops [⟨some 4, .mov (.cn (.int .i64 (-1))), none⟩])
 (.seq (.seq (.ops [⟨some 5, .mov (.cn (.int .i64 0)), none⟩])
 (.block 2
 (.loop [1, 4, 5]
 (.seq (.seq (.ops [⟨some 28, .mov (.tm 5), none⟩,
 ⟨some 29, .fld (.tm 1) 1, none⟩,
 ⟨some 30, .load none (.tm 29), none⟩,
 ⟨some 31, .len (.tm 30), none⟩,
 ⟨some 32, .bin .lss (.tm 28) (.tm 31), none⟩])
 (.cond (.tm 32)
 .skip
 (.exit 2)))
 (.seq (.block 3
 (.seq (.ops [⟨some 35, .fld (.tm 1) 1, none⟩,
 ⟨some 36, .load none (.tm 35), none⟩,
 ⟨some 37, .mov (.tm 5), none⟩,
 ⟨some 38, .ixa 2 (.tm 36) (.tm 37), none⟩,
 ⟨some 39, .load (some 2) (.tm 38), none⟩,
 ⟨some 6, .alloc [.int .i64 0, .int .i64 0], none⟩,
 ⟨none, .store 2 (.tm 6) (.tm 39), none⟩])
 (.seq (.seq (.ops [⟨some 40, .fld (.tm 6) 0, none⟩,
 ⟨some 41, .load none (.tm 40), none⟩,
 ⟨some 42, .mov (.tm 4), none⟩,
 ⟨some 43, .bin .leq (.tm 41) (.tm 42), none⟩,
 ⟨some 44, .mov (.tm 43), none⟩,
 ⟨some 45, .fld (.tm 6) 0, (some (44, false))⟩,
 ⟨some 46, .load none (.tm 45), (some (44, false))⟩,
 ⟨some 47, .bin .gtr (.tm 46) (.cn (.int .i64 1114111)), (some (44, false))⟩,
 ⟨some 48, .pick (.tm 44) (.cn (.bool true)) (.tm 47), none⟩,
 ⟨some 49, .mov (.tm 48), none⟩,
 ⟨some 50, .fld (.tm 6) 1, (some (49, false))⟩,
 ⟨some 51, .load none (.tm 50), (some (49, false))⟩,
 ⟨some 52, .bin .lss (.tm 51) (.cn (.int .i64 0)), (some (49, false))⟩,
 ⟨some 53, .pick (.tm 49) (.cn (.bool true)) (.tm 52), none⟩,
 ⟨some 54, .mov (.tm 53), none⟩,
 ⟨some 55, .fld (.tm 6) 1, (some (54, false))⟩,
 ⟨some 56, .load none (.tm 55), (some (54, false))⟩,
 ⟨some 57, .fld (.tm 1) 0, (some (54, false))⟩,
 ⟨some 58, .load none (.tm 57), (some (54, false))⟩,
 ⟨some 59, .len (.tm 58), (some (54, false))⟩,
 ⟨some 60, .bin .geq (.tm 56) (.tm 59), (some (54, false))⟩,
 ⟨some 61, .pick (.tm 54) (.cn (.bool true)) (.tm 60), none⟩])
 (.cond (.tm 61)
 (.seq (.ops [⟨some 2, .mov (.cn (.bool false)), none⟩])
 .ret)
 .skip))
 (.ops [⟨some 62, .fld (.tm 6) 0, none⟩,
 ⟨some 63, .load none (.tm 62), none⟩,
 ⟨some 4, .mov (.tm 63), none⟩]))))
 (.ops [⟨some 33, .mov (.tm 5), none⟩,
 ⟨some 34, .bin .add (.tm 33) (.cn (.int .i64 1)), none⟩,
 ⟨some 5, .mov (.tm 34), none⟩]))))))
 (.seq (.ops [⟨some 2, .mov (.cn (.bool true)), none⟩])
 .ret))))))⟩
theorem comp45 : compF Tryd.prog Tryd.f45 ⟨false, [], [([], [1, 3]), ([], [1, 4, 5])], [], []⟩ = some L45 := by kernel_rfl

def L46 : LFunc := ⟨142, 1, [.t 2], false, [], [],
 (.seq (.ops [⟨some 1, .box (.tm 0), none⟩,
 ⟨some 2, .mov (.cn (.string ⟨#[]⟩)), none⟩])
 (.seq (.seq (.ops [⟨some 11, .load (some 2) (.tm 1), none⟩,
 ⟨some 12, .call (.fu 45) [(.tm 11)], none⟩,
 ⟨some 13, .un .not (.tm 12), none⟩])
 (.cond (.tm 13)
 (.seq (.ops [⟨some 2, .mov (.cn (.string ⟨#[]⟩)), none⟩])
 .ret)
 .skip))
 (.seq (.ops [⟨some 14, .bsl 1 [.int .u8 0] 7 [(0, (.cn (.int .u8 102))), (1, (.cn (.int .u8 111))), (2, (.cn (.int .u8 110))), (3, (.cn (.int .u8 116))), (4, (.cn (.int .u8 32))), (5, (.cn (.int .u8 49))), (6, (.cn (.int .u8 10)))], none⟩,
 ⟨some 15, .cv2 (.tm 14), none⟩,
 ⟨some 3, .mov (.tm 15), none⟩])
 (.seq (.seq (.ops [⟨some 4, .mov (.cn (.int .i64 0)), none⟩])
 (.block 0
 (.pre [.tmp 3 (some 1)] (.loop [1, 3, 4]
 (.seq (.seq (.ops [⟨some 16, .mov (.tm 4), none⟩,
 ⟨some 17, .fld (.tm 1) 0, none⟩,
 ⟨some 18, .load none (.tm 17), none⟩,
 ⟨some 19, .len (.tm 18), none⟩,
 ⟨some 20, .bin .lss (.tm 16) (.tm 19), none⟩])
 (.cond (.tm 20)
 .skip
 (.exit 0)))
 (.seq (.block 1
 (.seq (.ops [⟨some 23, .fld (.tm 1) 0, none⟩,
 ⟨some 24, .load none (.tm 23), none⟩,
 ⟨some 25, .mov (.tm 4), none⟩,
 ⟨some 26, .ixa 3 (.tm 24) (.tm 25), none⟩,
 ⟨some 27, .load (some 3) (.tm 26), none⟩,
 ⟨some 5, .alloc [.int .i64 0, .slice none 0 0, .slice none 0 0], none⟩,
 ⟨none, .store 3 (.tm 5) (.tm 27), none⟩])
 (.seq (.draw [⟨some 28, .mov (.tm 3), none⟩,
 ⟨some 29, .fld (.tm 5) 0, none⟩,
 ⟨some 30, .load none (.tm 29), none⟩,
 ⟨some 31, .call (.fu 73) [(.tm 30), (.cn (.int .i64 2))], none⟩,
 ⟨some 32, .bin .add (.cn (.string ⟨#[103]⟩)) (.tm 31), none⟩,
 ⟨some 33, .fld (.tm 5) 1, none⟩,
 ⟨some 34, .load none (.tm 33), none⟩,
 ⟨some 35, .len (.tm 34), none⟩,
 ⟨some 36, .call (.fu 73) [(.tm 35), (.cn (.int .i64 1))], none⟩,
 ⟨some 37, .bin .add (.tm 32) (.tm 36), none⟩,
 ⟨some 38, .app 1 1 true (.tm 28) (.tm 37), none⟩,
 ⟨some 3, .mov (.tm 38), none⟩]
 [(3, 6)])
 (.seq (.seq (.ops [⟨some 6, .mov (.cn (.int .i64 0)), none⟩])
 (.block 2
 (.pre [.tmp 3 (some 1)] (.loop [1, 3, 4, 5, 6]
 (.seq (.seq (.ops [⟨some 39, .mov (.tm 6), none⟩,
 ⟨some 40, .fld (.tm 5) 1, none⟩,
 ⟨some 41, .load none (.tm 40), none⟩,
 ⟨some 42, .len (.tm 41), none⟩,
 ⟨some 43, .bin .lss (.tm 39) (.tm 42), none⟩])
 (.cond (.tm 43)
 .skip
 (.exit 2)))
 (.seq (.block 3
 (.seq (.ops [⟨some 46, .fld (.tm 5) 1, none⟩,
 ⟨some 47, .load none (.tm 46), none⟩,
 ⟨some 48, .mov (.tm 6), none⟩,
 ⟨some 49, .ixa 1 (.tm 47) (.tm 48), none⟩,
 ⟨some 50, .load none (.tm 49), none⟩,
 ⟨some 7, .mov (.tm 50), none⟩])
 (.seq (.ops [⟨some 51, .mov (.tm 3), none⟩,
 ⟨some 52, .mov (.tm 7), none⟩,
 ⟨some 53, .len (.tm 52), none⟩,
 ⟨some 54, .call (.fu 73) [(.tm 53), (.cn (.int .i64 1))], none⟩,
 ⟨some 55, .app 1 1 true (.tm 51) (.tm 54), none⟩,
 ⟨some 3, .mov (.tm 55), none⟩])
 (.seq (.ops [⟨some 8, .mov (.cn (.int .i64 0)), none⟩])
 (.block 4
 (.pre [.tmp 3 (some 1)] (.loop [1, 3, 4, 5, 6, 7, 8]
 (.seq (.seq (.ops [⟨some 56, .mov (.tm 8), none⟩,
 ⟨some 57, .mov (.tm 7), none⟩,
 ⟨some 58, .len (.tm 57), none⟩,
 ⟨some 59, .bin .lss (.tm 56) (.tm 58), none⟩])
 (.cond (.tm 59)
 .skip
 (.exit 4)))
 (.seq (.block 5
 (.draw [⟨some 62, .mov (.tm 3), none⟩,
 ⟨some 63, .mov (.tm 7), none⟩,
 ⟨some 64, .mov (.tm 8), none⟩,
 ⟨some 65, .ixa 2 (.tm 63) (.tm 64), none⟩,
 ⟨some 66, .fld (.tm 65) 0, none⟩,
 ⟨some 67, .load none (.tm 66), none⟩,
 ⟨some 68, .call (.fu 73) [(.tm 67), (.cn (.int .i64 2))], none⟩,
 ⟨some 69, .mov (.tm 7), none⟩,
 ⟨some 70, .mov (.tm 8), none⟩,
 ⟨some 71, .ixa 2 (.tm 69) (.tm 70), none⟩,
 ⟨some 72, .fld (.tm 71) 1, none⟩,
 ⟨some 73, .load none (.tm 72), none⟩,
 ⟨some 74, .call (.fu 73) [(.tm 73), (.cn (.int .i64 2))], none⟩,
 ⟨some 75, .bin .add (.tm 68) (.tm 74), none⟩,
 ⟨some 76, .app 1 1 true (.tm 62) (.tm 75), none⟩,
 ⟨some 3, .mov (.tm 76), none⟩]
 [(6, 11)]))
 (.ops [⟨some 60, .mov (.tm 8), none⟩,
 ⟨some 61, .bin .add (.tm 60) (.cn (.int .i64 1)), none⟩,
 ⟨some 8, .mov (.tm 61), none⟩]))))))))))
 (.ops [⟨some 44, .mov (.tm 6), none⟩,
 ⟨some 45, .bin .add (.tm 44) (.cn (.int .i64 1)), none⟩,
 ⟨some 6, .mov (.tm 45), none⟩])))))))
 (.seq (.ops [⟨some 77, .mov (.tm 3), none⟩,
 ⟨some 78, .fld (.tm 5) 2, none⟩,
 ⟨some 79, .load none (.tm 78), none⟩,
 ⟨some 80, .len (.tm 79), none⟩,
 ⟨some 81, .call (.fu 73) [(.tm 80), (.cn (.int .i64 1))], none⟩,
 ⟨some 82, .app 1 1 true (.tm 77) (.tm 81), none⟩,
 ⟨some 3, .mov (.tm 82), none⟩])
 (.seq (.ops [⟨some 9, .mov (.cn (.int .i64 0)), none⟩])
 (.block 6
 (.pre [.tmp 3 (some 1)] (.loop [1, 3, 4, 5, 9]
 (.seq (.seq (.ops [⟨some 83, .mov (.tm 9), none⟩,
 ⟨some 84, .fld (.tm 5) 2, none⟩,
 ⟨some 85, .load none (.tm 84), none⟩,
 ⟨some 86, .len (.tm 85), none⟩,
 ⟨some 87, .bin .lss (.tm 83) (.tm 86), none⟩])
 (.cond (.tm 87)
 .skip
 (.exit 6)))
 (.seq (.block 7
 (.draw [⟨some 90, .mov (.tm 3), none⟩,
 ⟨some 91, .fld (.tm 5) 2, none⟩,
 ⟨some 92, .load none (.tm 91), none⟩,
 ⟨some 93, .mov (.tm 9), none⟩,
 ⟨some 94, .ixa 3 (.tm 92) (.tm 93), none⟩,
 ⟨some 95, .fld (.tm 94) 0, none⟩,
 ⟨some 96, .load none (.tm 95), none⟩,
 ⟨some 97, .call (.fu 73) [(.tm 96), (.cn (.int .i64 2))], none⟩,
 ⟨some 98, .fld (.tm 5) 2, none⟩,
 ⟨some 99, .load none (.tm 98), none⟩,
 ⟨some 100, .mov (.tm 9), none⟩,
 ⟨some 101, .ixa 3 (.tm 99) (.tm 100), none⟩,
 ⟨some 102, .fld (.tm 101) 1, none⟩,
 ⟨some 103, .load none (.tm 102), none⟩,
 ⟨some 104, .call (.fu 73) [(.tm 103), (.cn (.int .i64 2))], none⟩,
 ⟨some 105, .bin .add (.tm 97) (.tm 104), none⟩,
 ⟨some 106, .fld (.tm 5) 2, none⟩,
 ⟨some 107, .load none (.tm 106), none⟩,
 ⟨some 108, .mov (.tm 9), none⟩,
 ⟨some 109, .ixa 3 (.tm 107) (.tm 108), none⟩,
 ⟨some 110, .fld (.tm 109) 2, none⟩,
 ⟨some 111, .load none (.tm 110), none⟩,
 ⟨some 112, .call (.fu 73) [(.tm 111), (.cn (.int .i64 2))], none⟩,
 ⟨some 113, .bin .add (.tm 105) (.tm 112), none⟩,
 ⟨some 114, .app 1 1 true (.tm 90) (.tm 113), none⟩,
 ⟨some 3, .mov (.tm 114), none⟩]
 [(7, 9), (7, 13), (7, 17), (14, 17), (7, 21), (14, 21)]))
 (.ops [⟨some 88, .mov (.tm 9), none⟩,
 ⟨some 89, .bin .add (.tm 88) (.cn (.int .i64 1)), none⟩,
 ⟨some 9, .mov (.tm 89), none⟩]))))))))))))
 (.ops [⟨some 21, .mov (.tm 4), none⟩,
 ⟨some 22, .bin .add (.tm 21) (.cn (.int .i64 1)), none⟩,
 ⟨some 4, .mov (.tm 22), none⟩])))))))
 (.seq (.seq (.ops [⟨some 10, .mov (.cn (.int .i64 0)), none⟩])
 (.block 8
 (.pre [.tmp 3 (some 1)] (.loop [1, 3, 10]
 (.seq (.seq (.ops [⟨some 115, .mov (.tm 10), none⟩,
 ⟨some 116, .fld (.tm 1) 1, none⟩,
 ⟨some 117, .load none (.tm 116), none⟩,
 ⟨some 118, .len (.tm 117), none⟩,
 ⟨some 119, .bin .lss (.tm 115) (.tm 118), none⟩])
 (.cond (.tm 119)
 .skip
 (.exit 8)))
 (.seq (.block 9
 (.draw [⟨some 122, .mov (.tm 3), none⟩,
 ⟨some 123, .fld (.tm 1) 1, none⟩,
 ⟨some 124, .load none (.tm 123), none⟩,
 ⟨some 125, .mov (.tm 10), none⟩,
 ⟨some 126, .ixa 2 (.tm 124) (.tm 125), none⟩,
 ⟨some 127, .fld (.tm 126) 0, none⟩,
 ⟨some 128, .load none (.tm 127), none⟩,
 ⟨some 129, .call (.fu 73) [(.tm 128), (.cn (.int .i64 3))], none⟩,
 ⟨some 130, .bin .add (.cn (.string ⟨#[109]⟩)) (.tm 129), none⟩,
 ⟨some 131, .fld (.tm 1) 1, none⟩,
 ⟨some 132, .load none (.tm 131), none⟩,
 ⟨some 133, .mov (.tm 10), none⟩,
 ⟨some 134, .ixa 2 (.tm 132) (.tm 133), none⟩,
 ⟨some 135, .fld (.tm 134) 1, none⟩,
 ⟨some 136, .load none (.tm 135), none⟩,
 ⟨some 137, .call (.fu 73) [(.tm 136), (.cn (.int .i64 2))], none⟩,
 ⟨some 138, .bin .add (.tm 130) (.tm 137), none⟩,
 ⟨some 139, .app 1 1 true (.tm 122) (.tm 138), none⟩,
 ⟨some 3, .mov (.tm 139), none⟩]
 [(7, 10), (7, 14)]))
 (.ops [⟨some 120, .mov (.tm 10), none⟩,
 ⟨some 121, .bin .add (.tm 120) (.cn (.int .i64 1)), none⟩,
 ⟨some 10, .mov (.tm 121), none⟩])))))))
 (.seq (.ops [⟨some 140, .mov (.tm 3), none⟩,
 ⟨some 141, .b2s (.tm 140), none⟩,
 ⟨some 2, .mov (.tm 141), none⟩])
 .ret))))))⟩
theorem comp46 : compF Tryd.prog Tryd.f46 ⟨false, [], [([.tmp 3 (some 1)], [1, 3, 4]), ([.tmp 3 (some 1)], [1, 3, 4, 5, 6]), ([.tmp 3 (some 1)], [1, 3, 4, 5, 6, 7, 8]), ([.tmp 3 (some 1)], [1, 3, 4, 5, 9]), ([.tmp 3 (some 1)], [1, 3, 10])], [], []⟩ = some L46 := by kernel_rfl

def L47 : LFunc := ⟨35, 1, [.t 2], false, [], [],
 (.seq (.ops [⟨some 1, .box (.tm 0), none⟩,
 ⟨some 2, .mov (.cn (.bool false)), none⟩])
 (.seq (.seq (.ops [⟨some 3, .mov (.cn (.int .i64 0)), none⟩])
 (.block 0
 (.loop [1, 3]
 (.seq (.seq (.ops [⟨some 5, .mov (.tm 3), none⟩,
 ⟨some 6, .fld (.tm 1) 0, none⟩,
 ⟨some 7, .load none (.tm 6), none⟩,
 ⟨some 8, .len (.tm 7), none⟩,
 ⟨some 9, .bin .lss (.tm 5) (.tm 8), none⟩])
 (.cond (.tm 9)
 .skip
 (.exit 0)))
 (.seq (.block 1
 (.seq (.ops [⟨some 4, .mov (.cn (.int .i64 0)), none⟩])
 (.block 2
 (.loop [1, 3, 4]
 (.seq (.seq (.ops [⟨some 12, .mov (.tm 4), none⟩,
 ⟨some 13, .fld (.tm 1) 0, none⟩,
 ⟨some 14, .load none (.tm 13), none⟩,
 ⟨some 15, .mov (.tm 3), none⟩,
 ⟨some 16, .ixa 3 (.tm 14) (.tm 15), none⟩,
 ⟨some 17, .fld (.tm 16) 2, none⟩,
 ⟨some 18, .load none (.tm 17), none⟩,
 ⟨some 19, .len (.tm 18), none⟩,
 ⟨some 20, .bin .lss (.tm 12) (.tm 19), none⟩])
 (.cond (.tm 20)
 .skip
 (.exit 2)))
 (.seq (.block 3
 (.seq (.ops [⟨some 23, .fld (.tm 1) 0, none⟩,
 ⟨some 24, .load none (.tm 23), none⟩,
 ⟨some 25, .mov (.tm 3), none⟩,
 ⟨some 26, .ixa 3 (.tm 24) (.tm 25), none⟩,
 ⟨some 27, .fld (.tm 26) 2, none⟩,
 ⟨some 28, .load none (.tm 27), none⟩,
 ⟨some 29, .mov (.tm 4), none⟩,
 ⟨some 30, .ixa 3 (.tm 28) (.tm 29), none⟩,
 ⟨some 31, .fld (.tm 30) 0, none⟩,
 ⟨some 32, .load none (.tm 31), none⟩,
 ⟨some 33, .mov (.tm 3), none⟩,
 ⟨some 34, .bin .geq (.tm 32) (.tm 33), none⟩])
 (.cond (.tm 34)
 (.seq (.ops [⟨some 2, .mov (.cn (.bool false)), none⟩])
 .ret)
 .skip)))
 (.ops [⟨some 21, .mov (.tm 4), none⟩,
 ⟨some 22, .bin .add (.tm 21) (.cn (.int .i64 1)), none⟩,
 ⟨some 4, .mov (.tm 22), none⟩])))))))
 (.ops [⟨some 10, .mov (.tm 3), none⟩,
 ⟨some 11, .bin .add (.tm 10) (.cn (.int .i64 1)), none⟩,
 ⟨some 3, .mov (.tm 11), none⟩]))))))
 (.seq (.ops [⟨some 2, .mov (.cn (.bool true)), none⟩])
 .ret)))⟩
theorem comp47 : compF Tryd.prog Tryd.f47 ⟨false, [], [([], [1, 3]), ([], [1, 3, 4])], [], []⟩ = some L47 := by kernel_rfl

def L48 : LFunc := ⟨79, 2, [.cell 4 (some 2), .t 5, .t 6], false, [], [.arz (.bx 4 0)],
 (.seq (.ops [⟨some 4, .alloc [.slice none 0 0, .slice none 0 0], none⟩,
 ⟨some 5, .mov (.cn (.int .i64 0)), none⟩,
 ⟨some 6, .mov (.cn (.int .i64 0)), none⟩])
 (.seq (.ops [⟨some 12, .mov (.tm 1), none⟩,
 ⟨some 13, .mx [(.tm 12), (.cn (.int .i64 0))], none⟩,
 ⟨some 1, .mov (.tm 13), none⟩])
 (.seq (.seq (.ops [⟨some 14, .mov (.tm 0), none⟩,
 ⟨some 15, .slen (.tm 14), none⟩,
 ⟨some 16, .bin .lss (.tm 15) (.cn (.int .i64 7)), none⟩,
 ⟨some 17, .mov (.tm 16), none⟩,
 ⟨some 18, .mov (.tm 0), (some (17, false))⟩,
 ⟨some 19, .slcs (.tm 18) none (some (.cn (.int .i64 7))), (some (17, false))⟩,
 ⟨some 20, .bin .neq (.tm 19) (.cn (.string ⟨#[102, 111, 110, 116, 32, 49, 10]⟩)), (some (17, false))⟩,
 ⟨some 21, .pick (.tm 17) (.cn (.bool true)) (.tm 20), none⟩])
 (.cond (.tm 21)
 (.seq (.ops [⟨some 22, .build [.slice none 0 0, .slice none 0 0] [], none⟩,
 ⟨some 23, .mov (.tm 1), none⟩,
 ⟨none, .store 2 (.tm 4) (.tm 22), none⟩,
 ⟨some 5, .mov (.tm 23), none⟩,
 ⟨some 6, .mov (.cn (.int .i64 50)), none⟩])
 .ret)
 .skip))
 (.seq (.seq (.ops [⟨some 24, .mov (.tm 0), none⟩,
 ⟨some 25, .slen (.tm 24), none⟩,
 ⟨some 26, .mov (.tm 1), none⟩,
 ⟨some 27, .bin .gtr (.tm 25) (.tm 26), none⟩])
 (.cond (.tm 27)
 (.seq (.ops [⟨some 28, .build [.slice none 0 0, .slice none 0 0] [], none⟩,
 ⟨none, .store 2 (.tm 4) (.tm 28), none⟩,
 ⟨some 5, .mov (.cn (.int .i64 0)), none⟩,
 ⟨some 6, .mov (.cn (.int .i64 1)), none⟩])
 .ret)
 .skip))
 (.seq (.ops [⟨some 29, .mkm, none⟩,
 ⟨none, .mset 0 (.tm 29) (.cn (.int .u8 103)) (.fu 74), none⟩,
 ⟨none, .mset 0 (.tm 29) (.cn (.int .u8 109)) (.fu 75), none⟩,
 ⟨some 30, .mov (.tm 29), none⟩,
 ⟨some 7, .mov (.tm 30), none⟩])
 (.seq (.ops [⟨some 31, .mov (.tm 0), none⟩,
 ⟨some 32, .build [.string ⟨#[]⟩, .int .i64 0, .bool false] [(0, 1, (.tm 31)), (1, 1, (.cn (.int .i64 7)))], none⟩,
 ⟨some 33, .build [.string ⟨#[]⟩, .int .i64 0, .bool false, .slice none 0 0, .slice none 0 0, .slice none 0 0] [(0, 3, (.tm 32))], none⟩,
 ⟨some 34, .box (.tm 33), none⟩,
 ⟨some 8, .mov (.tm 34), none⟩])
 (.seq (.block 0
 (.pre [.bx 8 3 (some 3), .rz (.bx 8 3), .bx 8 5 (some 2)] (.loop [0, 1, 4, 7, 8]
 (.seq (.seq (.ops [⟨some 35, .mov (.tm 8), none⟩,
 ⟨some 36, .nilchk (.tm 35), none⟩,
 ⟨some 37, .fld (.tm 36) 0, none⟩,
 ⟨some 38, .fld (.tm 37) 1, none⟩,
 ⟨some 39, .load none (.tm 38), none⟩,
 ⟨some 40, .mov (.tm 0), none⟩,
 ⟨some 41, .slen (.tm 40), none⟩,
 ⟨some 42, .bin .lss (.tm 39) (.tm 41), none⟩])
 (.cond (.tm 42)
 .skip
 (.exit 0)))
 (.block 1
 (.seq (.ops [⟨some 43, .mov (.tm 0), none⟩,
 ⟨some 44, .mov (.tm 8), none⟩,
 ⟨some 45, .nilchk (.tm 44), none⟩,
 ⟨some 46, .fld (.tm 45) 0, none⟩,
 ⟨some 47, .fld (.tm 46) 1, none⟩,
 ⟨some 48, .load none (.tm 47), none⟩,
 ⟨some 49, .ixs (.tm 43) (.tm 48), none⟩,
 ⟨some 9, .mov (.tm 49), none⟩])
 (.seq (.ops [⟨some 50, .mov (.tm 8), none⟩,
 ⟨some 51, .nilchk (.tm 50), none⟩,
 ⟨some 52, .fld (.tm 51) 0, none⟩,
 ⟨some 53, .fld (.tm 52) 1, none⟩,
 ⟨some 54, .load none (.tm 53), none⟩,
 ⟨some 55, .bin .add (.tm 54) (.cn (.int .i64 1)), none⟩,
 ⟨some 56, .nilchk (.tm 50), none⟩,
 ⟨some 57, .fld (.tm 56) 0, none⟩,
 ⟨some 58, .fld (.tm 57) 1, none⟩,
 ⟨none, .store 1 (.tm 58) (.tm 55), none⟩])
 (.seq (.ops [⟨some 60, .mov (.tm 7), none⟩,
 ⟨some 61, .mov (.tm 9), none⟩,
 ⟨some 62, .mget 0 [.nilFunc] true (.tm 60) (.tm 61), none⟩,
 ⟨some 59, .mov (.tm 62), none⟩,
 ⟨some 63, .ext (.tm 59) 0, none⟩,
 ⟨some 64, .ext (.tm 59) 1, none⟩,
 ⟨some 10, .mov (.tm 63), none⟩,
 ⟨some 11, .mov (.tm 64), none⟩])
 (.seq (.ops [⟨some 65, .mov (.tm 11), none⟩])
 (.cond (.tm 65)
 (.ops [⟨some 66, .mov (.tm 10), none⟩,
 ⟨some 67, .mov (.tm 8), none⟩,
 ⟨some 68, .call (.tm 66) [(.tm 67)], none⟩])
 .skip))))))))))
 (.seq (.ops [⟨some 69, .mov (.tm 8), none⟩,
 ⟨some 70, .call (.fu 76) [(.tm 69)], none⟩])
 (.seq (.ops [⟨some 71, .mov (.tm 8), none⟩,
 ⟨some 72, .nilchk (.tm 71), none⟩,
 ⟨some 73, .fld (.tm 72) 3, none⟩,
 ⟨some 74, .load (some 2) (.tm 73), none⟩,
 ⟨some 75, .mov (.tm 1), none⟩,
 ⟨some 76, .mov (.tm 0), none⟩,
 ⟨some 77, .slen (.tm 76), none⟩,
 ⟨some 78, .bin .sub (.tm 75) (.tm 77), none⟩,
 ⟨none, .store 2 (.tm 4) (.tm 74), none⟩,
 ⟨some 5, .mov (.tm 78), none⟩,
 ⟨some 6, .mov (.cn (.int .i64 0)), none⟩])
 .ret)))))))))⟩
theorem comp48 : compF Tryd.prog Tryd.f48 ⟨false, [], [([.bx 8 3 (some 3), .rz (.bx 8 3), .bx 8 5 (some 2)], [0, 1, 4, 7, 8])], [], [.arz (.bx 4 0)]⟩ = some L48 := by kernel_rfl

def L49 : LFunc := ⟨24, 2, [.t 4], false, [], [],
 (.seq (.ops [⟨some 2, .box (.tm 0), none⟩,
 ⟨some 3, .box (.tm 1), none⟩,
 ⟨some 4, .mov (.cn (.bool false)), none⟩])
 (.seq (.ops [⟨some 5, .fld (.tm 2) 0, none⟩,
 ⟨some 6, .load none (.tm 5), none⟩,
 ⟨some 7, .fld (.tm 3) 0, none⟩,
 ⟨some 8, .load none (.tm 7), none⟩,
 ⟨some 9, .bin .eql (.tm 6) (.tm 8), none⟩,
 ⟨some 10, .mov (.tm 9), none⟩,
 ⟨some 11, .fld (.tm 2) 1, (some (10, true))⟩,
 ⟨some 12, .load none (.tm 11), (some (10, true))⟩,
 ⟨some 13, .fld (.tm 3) 1, (some (10, true))⟩,
 ⟨some 14, .load none (.tm 13), (some (10, true))⟩,
 ⟨some 15, .call (.fu 26) [(.tm 12), (.tm 14)], (some (10, true))⟩,
 ⟨some 16, .pick (.tm 10) (.tm 15) (.cn (.bool false)), none⟩,
 ⟨some 17, .mov (.tm 16), none⟩,
 ⟨some 18, .fld (.tm 2) 2, (some (17, true))⟩,
 ⟨some 19, .load none (.tm 18), (some (17, true))⟩,
 ⟨some 20, .fld (.tm 3) 2, (some (17, true))⟩,
 ⟨some 21, .load none (.tm 20), (some (17, true))⟩,
 ⟨some 22, .call (.fu 39) [(.tm 19), (.tm 21)], (some (17, true))⟩,
 ⟨some 23, .pick (.tm 17) (.tm 22) (.cn (.bool false)), none⟩,
 ⟨some 4, .mov (.tm 23), none⟩])
 .ret))⟩
theorem comp49 : compF Tryd.prog Tryd.f49 ⟨false, [], [], [], []⟩ = some L49 := by kernel_rfl

def L50 : LFunc := ⟨99, 2, [.cell 4 (some 2), .t 5, .t 6], false, [], [],
 (.seq (.ops [⟨some 4, .alloc [.slice none 0 0, .slice none 0 0], none⟩,
 ⟨some 5, .mov (.cn (.int .i64 0)), none⟩,
 ⟨some 6, .mov (.cn (.int .i64 0)), none⟩])
 (.seq (.seq (.ops [⟨some 19, .mov (.tm 0), none⟩,
 ⟨some 20, .slen (.tm 19), none⟩,
 ⟨some 21, .bin .lss (.tm 20) (.cn (.int .i64 7)), none⟩,
 ⟨some 22, .mov (.tm 21), none⟩,
 ⟨some 23, .mov (.tm 0), (some (22, false))⟩,
 ⟨some 24, .slcs (.tm 23) none (some (.cn (.int .i64 7))), (some (22, false))⟩,
 ⟨some 25, .bin .neq (.tm 24) (.cn (.string ⟨#[102, 111, 110, 116, 32, 49, 10]⟩)), (some (22, false))⟩,
 ⟨some 26, .pick (.tm 22) (.cn (.bool true)) (.tm 25), none⟩])
 (.cond (.tm 26)
 (.seq (.ops [⟨some 27, .build [.slice none 0 0, .slice none 0 0] [], none⟩,
 ⟨some 28, .mov (.tm 1), none⟩,
 ⟨some 29, .mx [(.tm 28), (.cn (.int .i64 0))], none⟩,
 ⟨none, .store 2 (.tm 4) (.tm 27), none⟩,
 ⟨some 5, .mov (.tm 29), none⟩,
 ⟨some 6, .mov (.cn (.int .i64 50)), none⟩])
 .ret)
 .skip))
 (.seq (.ops [⟨some 31, .mov (.tm 1), none⟩,
 ⟨some 32, .mov (.tm 0), none⟩,
 ⟨some 33, .slen (.tm 32), none⟩,
 ⟨some 34, .call (.fu 77) [(.tm 31), (.tm 33)], none⟩,
 ⟨some 30, .mov (.tm 34), none⟩,
 ⟨some 35, .ext (.tm 30) 0, none⟩,
 ⟨some 36, .ext (.tm 30) 1, none⟩,
 ⟨some 7, .mov (.tm 35), none⟩,
 ⟨some 8, .mov (.tm 36), none⟩])
 (.seq (.seq (.ops [⟨some 37, .mov (.tm 8), none⟩,
 ⟨some 38, .un .not (.tm 37), none⟩])
 (.cond (.tm 38)
 (.seq (.ops [⟨some 39, .build [.slice none 0 0, .slice none 0 0] [], none⟩,
 ⟨none, .store 2 (.tm 4) (.tm 39), none⟩,
 ⟨some 5, .mov (.cn (.int .i64 0)), none⟩,
 ⟨some 6, .mov (.cn (.int .i64 1)), none⟩])
 .ret)
 .skip))
 (.seq (.ops [⟨some 40, .bsl 3 [.int .i64 0, .slice none 0 0, .slice none 0 0] 0 [], none⟩,
 ⟨some 9, .mov (.tm 40), none⟩])
 (.seq (.ops [⟨some 41, .bsl 2 [.int .i64 0, .int .i64 0] 0 [], none⟩,
 ⟨some 10, .mov (.tm 41), none⟩])
 (.seq (.ops [⟨some 11, .mov (.cn (.int .i64 7)), none⟩])
 (.seq (.block 0
 (.pre [.tmp 9 (some 3), .tmp 10 (some 2)] (.loop [0, 4, 7, 9, 10, 11]
 (.seq (.seq (.ops [⟨some 42, .mov (.tm 11), none⟩,
 ⟨some 43, .mov (.tm 0), none⟩,
 ⟨some 44, .slen (.tm 43), none⟩,
 ⟨some 45, .bin .lss (.tm 42) (.tm 44), none⟩])
 (.cond (.tm 45)
 .skip
 (.exit 0)))
 (.block 1
 (.seq (.ops [⟨some 46, .mov (.tm 0), none⟩,
 ⟨some 47, .mov (.tm 11), none⟩,
 ⟨some 48, .ixs (.tm 46) (.tm 47), none⟩,
 ⟨some 12, .mov (.tm 48), none⟩])
 (.seq (.ops [⟨some 49, .mov (.tm 11), none⟩,
 ⟨some 50, .bin .add (.tm 49) (.cn (.int .i64 1)), none⟩,
 ⟨some 11, .mov (.tm 50), none⟩])
 (.seq (.ops [⟨some 51, .mov (.tm 12), none⟩])
 (.block 2
 (.seq (.ops [⟨some 53, .bin .eql (.tm 51) (.cn (.int .u8 103)), none⟩,
 ⟨some 52, .mov (.tm 53), none⟩])
 (.cond (.tm 52)
 (.seq (.ops [⟨some 55, .mov (.tm 0), none⟩,
 ⟨some 56, .mov (.tm 11), none⟩,
 ⟨some 57, .build [.int .i64 0, .bool false] [(0, 1, (.tm 56)), (1, 1, (.cn (.bool true)))], none⟩,
 ⟨some 58, .call (.fu 78) [(.tm 55), (.tm 57)], none⟩,
 ⟨some 54, .mov (.tm 58), none⟩,
 ⟨some 59, .ext (.tm 54) 0, none⟩,
 ⟨some 60, .ext (.tm 54) 1, none⟩,
 ⟨some 13, .alloc [.int .i64 0, .slice none 0 0, .slice none 0 0], none⟩,
 ⟨some 14, .alloc [.int .i64 0, .bool false], none⟩,
 ⟨none, .store 3 (.tm 13) (.tm 59), none⟩,
 ⟨none, .store 2 (.tm 14) (.tm 60), none⟩])
 (.seq (.ops [⟨some 61, .fld (.tm 14) 0, none⟩,
 ⟨some 62, .load none (.tm 61), none⟩,
 ⟨some 11, .mov (.tm 62), none⟩])
 (.seq (.ops [⟨some 63, .mov (.tm 9), none⟩,
 ⟨some 64, .len (.tm 63), none⟩,
 ⟨some 65, .bin .lss (.tm 64) (.cn (.int .i64 1000)), none⟩])
 (.cond (.tm 65)
 (.ops [⟨some 66, .mov (.tm 9), none⟩,
 ⟨some 67, .load (some 3) (.tm 13), none⟩,
 ⟨some 68, .bsl 3 [.int .i64 0, .slice none 0 0, .slice none 0 0] 1 [(0, (.tm 67))], none⟩,
 ⟨some 69, .app 3 56 false (.tm 66) (.tm 68), none⟩,
 ⟨some 9, .mov (.tm 69), none⟩])
 .skip))))
 (.seq (.ops [⟨some 71, .bin .eql (.tm 51) (.cn (.int .u8 109)), none⟩,
 ⟨some 70, .mov (.tm 71), none⟩])
 (.cond (.tm 70)
 (.seq (.ops [⟨some 73, .mov (.tm 0), none⟩,
 ⟨some 74, .mov (.tm 11), none⟩,
 ⟨some 75, .build [.int .i64 0, .bool false] [(0, 1, (.tm 74)), (1, 1, (.cn (.bool true)))], none⟩,
 ⟨some 76, .call (.fu 79) [(.tm 73), (.tm 75), (.cn (.int .i64 3))], none⟩,
 ⟨some 72, .mov (.tm 76), none⟩,
 ⟨some 77, .ext (.tm 72) 0, none⟩,
 ⟨some 78, .ext (.tm 72) 1, none⟩,
 ⟨some 16, .alloc [.int .i64 0, .bool false], none⟩,
 ⟨some 15, .mov (.tm 77), none⟩,
 ⟨none, .store 2 (.tm 16) (.tm 78), none⟩])
 (.seq (.ops [⟨some 80, .mov (.tm 0), none⟩,
 ⟨some 81, .load (some 2) (.tm 16), none⟩,
 ⟨some 82, .call (.fu 79) [(.tm 80), (.tm 81), (.cn (.int .i64 2))], none⟩,
 ⟨some 79, .mov (.tm 82), none⟩,
 ⟨some 83, .ext (.tm 79) 0, none⟩,
 ⟨some 84, .ext (.tm 79) 1, none⟩,
 ⟨some 18, .alloc [.int .i64 0, .bool false], none⟩,
 ⟨some 17, .mov (.tm 83), none⟩,
 ⟨none, .store 2 (.tm 18) (.tm 84), none⟩])
 (.seq (.ops [⟨some 85, .fld (.tm 18) 0, none⟩,
 ⟨some 86, .load none (.tm 85), none⟩,
 ⟨some 11, .mov (.tm 86), none⟩])
 (.seq (.ops [⟨some 87, .fld (.tm 18) 1, none⟩,
 ⟨some 88, .load none (.tm 87), none⟩])
 (.cond (.tm 88)
 (.ops [⟨some 89, .mov (.tm 10), none⟩,
 ⟨some 90, .mov (.tm 15), none⟩,
 ⟨some 91, .mov (.tm 17), none⟩,
 ⟨some 92, .build [.int .i64 0, .int .i64 0] [(0, 1, (.tm 90)), (1, 1, (.tm 91))], none⟩,
 ⟨some 93, .bsl 2 [.int .i64 0, .int .i64 0] 1 [(0, (.tm 92))], none⟩,
 ⟨some 94, .app 2 16 false (.tm 89) (.tm 93), none⟩,
 ⟨some 10, .mov (.tm 94), none⟩])
 .skip)))))
 .skip)))))))))))))
 (.seq (.pre [.tmp 9 none, .tmp 10 none] (.ops [⟨some 95, .mov (.tm 9), none⟩,
 ⟨some 96, .mov (.tm 10), none⟩,
 ⟨some 97, .call (.fu 80) [(.tm 95), (.tm 96)], none⟩,
 ⟨some 98, .mov (.tm 7), none⟩,
 ⟨none, .store 2 (.tm 4) (.tm 97), none⟩,
 ⟨some 5, .mov (.tm 98), none⟩,
 ⟨some 6, .mov (.cn (.int .i64 0)), none⟩]))
 .ret)))))))))⟩
theorem comp50 : compF Tryd.prog Tryd.f50 ⟨false, [(24, [.tmp 9 none, .tmp 10 none])], [([.tmp 9 (some 3), .tmp 10 (some 2)], [0, 4, 7, 9, 10, 11])], [], []⟩ = some L50 := by kernel_rfl

def L51 : LFunc := ⟨25, 1, [.cell 2 (some 2), .t 3], false, [], [],
 (.seq (.ops [⟨some 2, .alloc [.slice none 0 0, .slice none 0 0], none⟩,
 ⟨some 3, .mov (.cn (.bool false)), none⟩])
 (.seq (.ops [⟨some 8, .mov (.tm 0), none⟩,
 ⟨some 9, .mov (.tm 0), none⟩,
 ⟨some 10, .slen (.tm 9), none⟩,
 ⟨some 11, .call (.fu 48) [(.tm 8), (.tm 10)], none⟩,
 ⟨some 7, .mov (.tm 11), none⟩,
 ⟨some 12, .ext (.tm 7) 0, none⟩,
 ⟨some 13, .ext (.tm 7) 1, none⟩,
 ⟨some 14, .ext (.tm 7) 2, none⟩,
 ⟨some 4, .alloc [.slice none 0 0, .slice none 0 0], none⟩,
 ⟨none, .store 2 (.tm 4) (.tm 12), none⟩,
 ⟨some 5, .mov (.tm 13), none⟩,
 ⟨some 6, .mov (.tm 14), none⟩])
 (.seq (.seq (.ops [⟨some 15, .mov (.tm 6), none⟩,
 ⟨some 16, .bin .neq (.tm 15) (.cn (.int .i64 0)), none⟩,
 ⟨some 17, .mov (.tm 16), none⟩,
 ⟨some 18, .load (some 2) (.tm 4), (some (17, false))⟩,
 ⟨some 19, .call (.fu 44) [(.tm 18)], (some (17, false))⟩,
 ⟨some 20, .mov (.tm 0), (some (17, false))⟩,
 ⟨some 21, .bin .neq (.tm 19) (.tm 20), (some (17, false))⟩,
 ⟨some 22, .pick (.tm 17) (.cn (.bool true)) (.tm 21), none⟩])
 (.cond (.tm 22)
 (.seq (.ops [⟨some 23, .build [.slice none 0 0, .slice none 0 0] [], none⟩,
 ⟨none, .store 2 (.tm 2) (.tm 23), none⟩,
 ⟨some 3, .mov (.cn (.bool false)), none⟩])
 .ret)
 .skip))
 (.seq (.ops [⟨some 24, .load (some 2) (.tm 4), none⟩,
 ⟨none, .store 2 (.tm 2) (.tm 24), none⟩,
 ⟨some 3, .mov (.cn (.bool true)), none⟩])
 .ret))))⟩
theorem comp51 : compF Tryd.prog Tryd.f51 ⟨false, [], [], [], []⟩ = some L51 := by kernel_rfl

def L52 : LFunc := ⟨25, 1, [.cell 2 (some 2), .t 3], false, [], [],
 (.seq (.ops [⟨some 2, .alloc [.slice none 0 0, .slice none 0 0], none⟩,
 ⟨some 3, .mov (.cn (.bool false)), none⟩])
 (.seq (.ops [⟨some 8, .mov (.tm 0), none⟩,
 ⟨some 9, .mov (.tm 0), none⟩,
 ⟨some 10, .slen (.tm 9), none⟩,
 ⟨some 11, .call (.fu 50) [(.tm 8), (.tm 10)], none⟩,
 ⟨some 7, .mov (.tm 11), none⟩,
 ⟨some 12, .ext (.tm 7) 0, none⟩,
 ⟨some 13, .ext (.tm 7) 1, none⟩,
 ⟨some 14, .ext (.tm 7) 2, none⟩,
 ⟨some 4, .alloc [.slice none 0 0, .slice none 0 0], none⟩,
 ⟨none, .store 2 (.tm 4) (.tm 12), none⟩,
 ⟨some 5, .mov (.tm 13), none⟩,
 ⟨some 6, .mov (.tm 14), none⟩])
 (.seq (.seq (.ops [⟨some 15, .mov (.tm 6), none⟩,
 ⟨some 16, .bin .neq (.tm 15) (.cn (.int .i64 0)), none⟩,
 ⟨some 17, .mov (.tm 16), none⟩,
 ⟨some 18, .load (some 2) (.tm 4), (some (17, false))⟩,
 ⟨some 19, .call (.fu 46) [(.tm 18)], (some (17, false))⟩,
 ⟨some 20, .mov (.tm 0), (some (17, false))⟩,
 ⟨some 21, .bin .neq (.tm 19) (.tm 20), (some (17, false))⟩,
 ⟨some 22, .pick (.tm 17) (.cn (.bool true)) (.tm 21), none⟩])
 (.cond (.tm 22)
 (.seq (.ops [⟨some 23, .build [.slice none 0 0, .slice none 0 0] [], none⟩,
 ⟨none, .store 2 (.tm 2) (.tm 23), none⟩,
 ⟨some 3, .mov (.cn (.bool false)), none⟩])
 .ret)
 .skip))
 (.seq (.ops [⟨some 24, .load (some 2) (.tm 4), none⟩,
 ⟨none, .store 2 (.tm 2) (.tm 24), none⟩,
 ⟨some 3, .mov (.cn (.bool true)), none⟩])
 .ret))))⟩
theorem comp52 : compF Tryd.prog Tryd.f52 ⟨false, [], [], [], []⟩ = some L52 := by kernel_rfl

def L53 : LFunc := ⟨19, 1, [.t 2, .t 3], false, [], [],
 (.seq (.ops [⟨some 2, .mov (.cn (.int .i32 0)), none⟩,
 ⟨some 3, .mov (.cn (.int .i64 0)), none⟩])
 (.seq (.seq (.ops [⟨some 4, .mov (.tm 0), none⟩,
 ⟨some 5, .bin .neq (.tm 4) (.cn (.string ⟨#[]⟩)), none⟩,
 ⟨some 6, .mov (.tm 5), none⟩,
 ⟨some 7, .mov (.tm 0), (some (6, true))⟩,
 ⟨some 8, .ixs (.tm 7) (.cn (.int .i64 0)), (some (6, true))⟩,
 ⟨some 9, .bin .lss (.tm 8) (.cn (.int .u8 128)), (some (6, true))⟩,
 ⟨some 10, .pick (.tm 6) (.tm 9) (.cn (.bool false)), none⟩])
 (.cond (.tm 10)
 (.seq (.ops [⟨some 11, .mov (.tm 0), none⟩,
 ⟨some 12, .ixs (.tm 11) (.cn (.int .i64 0)), none⟩,
 ⟨some 13, .conv .i32 (.tm 12), none⟩,
 ⟨some 2, .mov (.tm 13), none⟩,
 ⟨some 3, .mov (.cn (.int .i64 1)), none⟩])
 .ret)
 (.ops [⟨some 15, .mov (.tm 0), none⟩,
 ⟨some 16, .call (.fu 81) [(.tm 15)], none⟩,
 ⟨some 14, .mov (.tm 16), none⟩,
 ⟨some 17, .ext (.tm 14) 0, none⟩,
 ⟨some 18, .ext (.tm 14) 1, none⟩,
 ⟨some 2, .mov (.tm 17), none⟩,
 ⟨some 3, .mov (.tm 18), none⟩])))
 .ret))⟩
theorem comp53 : compF Tryd.prog Tryd.f53 ⟨false, [], [], [], []⟩ = some L53 := by kernel_rfl

def L54 : LFunc := ⟨32, 1, [.t 2], false, [], [],
 (.seq (.ops [⟨some 2, .mov (.cn (.bool false)), none⟩])
 (.seq (.seq (.ops [⟨some 5, .build [.int .i32 0, .int .i32 0] [(0, 1, (.cn (.int .i32 0))), (1, 1, (.cn (.int .i32 31)))], none⟩,
 ⟨some 6, .build [.int .i32 0, .int .i32 0] [(0, 1, (.cn (.int .i32 127))), (1, 1, (.cn (.int .i32 159)))], none⟩,
 ⟨some 7, .build [.int .i32 0, .int .i32 0] [(0, 1, (.cn (.int .i32 173))), (1, 1, (.cn (.int .i32 173)))], none⟩,
 ⟨some 8, .build [.int .i32 0, .int .i32 0] [(0, 1, (.cn (.int .i32 847))), (1, 1, (.cn (.int .i32 847)))], none⟩,
 ⟨some 9, .build [.int .i32 0, .int .i32 0] [(0, 1, (.cn (.int .i32 1564))), (1, 1, (.cn (.int .i32 1564)))], none⟩,
 ⟨some 10, .build [.int .i32 0, .int .i32 0] [(0, 1, (.cn (.int .i32 6158))), (1, 1, (.cn (.int .i32 6158)))], none⟩,
 ⟨some 11, .build [.int .i32 0, .int .i32 0] [(0, 1, (.cn (.int .i32 8203))), (1, 1, (.cn (.int .i32 8207)))], none⟩,
 ⟨some 12, .build [.int .i32 0, .int .i32 0] [(0, 1, (.cn (.int .i32 8234))), (1, 1, (.cn (.int .i32 8238)))], none⟩,
 ⟨some 13, .build [.int .i32 0, .int .i32 0] [(0, 1, (.cn (.int .i32 8288))), (1, 1, (.cn (.int .i32 8303)))], none⟩,
 ⟨some 14, .build [.int .i32 0, .int .i32 0] [(0, 1, (.cn (.int .i32 65024))), (1, 1, (.cn (.int .i32 65039)))], none⟩,
 ⟨some 15, .build [.int .i32 0, .int .i32 0] [(0, 1, (.cn (.int .i32 65279))), (1, 1, (.cn (.int .i32 65279)))], none⟩,
 ⟨some 16, .build [.int .i32 0, .int .i32 0] [(0, 1, (.cn (.int .i32 917504))), (1, 1, (.cn (.int .i32 921599)))], none⟩,
 ⟨some 17, .build [.int .i32 0, .int .i32 0, .int .i32 0, .int .i32 0, .int .i32 0, .int .i32 0, .int .i32 0, .int .i32 0, .int .i32 0, .int .i32 0, .int .i32 0, .int .i32 0, .int .i32 0, .int .i32 0, .int .i32 0, .int .i32 0, .int .i32 0, .int .i32 0, .int .i32 0, .int .i32 0, .int .i32 0, .int .i32 0, .int .i32 0, .int .i32 0] [(0, 2, (.tm 5)), (2, 2, (.tm 6)), (4, 2, (.tm 7)), (6, 2, (.tm 8)), (8, 2, (.tm 9)), (10, 2, (.tm 10)), (12, 2, (.tm 11)), (14, 2, (.tm 12)), (16, 2, (.tm 13)), (18, 2, (.tm 14)), (20, 2, (.tm 15)), (22, 2, (.tm 16))], none⟩,
 ⟨some 18, .mov (.cn (.int .i64 0)), none⟩])
 (.block 0
 (.loop [0, 17, 18]
 (.seq (.ops [⟨some 19, .bin .lss (.tm 18) (.cn (.int .i64 12)), none⟩])
 (.seq (.cond (.tm 19)
 .skip
 (.exit 0))
 (.seq (.block 1
 (.seq (.ops [⟨some 20, .ixv 12 2 (some 2) (.tm 17) (.tm 18), none⟩,
 ⟨some 4, .alloc [.int .i32 0, .int .i32 0], none⟩,
 ⟨none, .store 2 (.tm 4) (.tm 20), none⟩])
 (.seq (.ops [⟨some 21, .mov (.tm 0), none⟩,
 ⟨some 22, .fld (.tm 4) 0, none⟩,
 ⟨some 23, .load none (.tm 22), none⟩,
 ⟨some 24, .bin .geq (.tm 21) (.tm 23), none⟩,
 ⟨some 25, .mov (.tm 24), none⟩,
 ⟨some 26, .mov (.tm 0), (some (25, true))⟩,
 ⟨some 27, .fld (.tm 4) 1, (some (25, true))⟩,
 ⟨some 28, .load none (.tm 27), (some (25, true))⟩,
 ⟨some 29, .bin .leq (.tm 26) (.tm 28), (some (25, true))⟩,
 ⟨some 30, .pick (.tm 25) (.tm 29) (.cn (.bool false)), none⟩])
 (.cond (.tm 30)
 (.seq (.ops [⟨some 2, .mov (.cn (.bool true)), none⟩])
 .ret)
 .skip))))
 (.ops [⟨some 31, .bin .add (.tm 18) (.cn (.int .i64 1)), none⟩,
 ⟨some 18, .mov (.tm 31), none⟩])))))))
 (.seq (.ops [⟨some 2, .mov (.cn (.bool false)), none⟩])
 .ret)))⟩
theorem comp54 : compF Tryd.prog Tryd.f54 ⟨false, [], [([], [0, 17, 18])], [], []⟩ = some L54 := by kernel_rfl

def L56 : LFunc := ⟨15, 3, [.t 6], false, [], [],
 (.seq (.ops [⟨some 6, .mov (.cn (.bool false)), none⟩])
 (.seq (.ops [⟨some 7, .mov (.tm 0), none⟩,
 ⟨some 8, .mov (.tm 1), none⟩,
 ⟨some 9, .bin .geq (.tm 7) (.tm 8), none⟩,
 ⟨some 10, .mov (.tm 9), none⟩,
 ⟨some 11, .mov (.tm 0), (some (10, true))⟩,
 ⟨some 12, .mov (.tm 2), (some (10, true))⟩,
 ⟨some 13, .bin .leq (.tm 11) (.tm 12), (some (10, true))⟩,
 ⟨some 14, .pick (.tm 10) (.tm 13) (.cn (.bool false)), none⟩,
 ⟨some 6, .mov (.tm 14), none⟩])
 .ret))⟩
theorem comp56 : compF Tryd.prog Tryd.f56 ⟨false, [], [], [], []⟩ = some L56 := by kernel_rfl

def L57 : LFunc := ⟨114, 3, [.t 11], false, [.bx 5 0 (some 1), .bx 6 0 (some 1)], [.bx 5 0 (some 1), .bx 6 0 (some 1)],
 (.seq (.ops [⟨some 11, .mov (.cn (.bool false)), none⟩])
 (.seq (.ops [⟨some 20, .fld (.tm 3) 0, none⟩,
 ⟨some 21, .load none (.tm 20), none⟩,
 ⟨some 22, .mov (.tm 0), none⟩,
 ⟨some 23, .ixa 3 (.tm 21) (.tm 22), none⟩,
 ⟨some 24, .load (some 3) (.tm 23), none⟩,
 ⟨some 12, .alloc [.int .i64 0, .slice none 0 0, .slice none 0 0], none⟩,
 ⟨none, .store 3 (.tm 12) (.tm 24), none⟩])
 (.seq (.ops [⟨some 13, .mov (.cn (.int .i64 1)), none⟩])
 (.seq (.seq (.ops [⟨some 25, .fld (.tm 12) 1, none⟩,
 ⟨some 26, .load none (.tm 25), none⟩,
 ⟨some 27, .len (.tm 26), none⟩,
 ⟨some 28, .mov (.cn (.int .i64 0)), none⟩])
 (.block 0
 (.pre [.bx 5 0 (some 1), .bx 6 0 (some 1)] (.loop [0, 1, 2, 3, 4, 5, 6, 7, 12, 13, 26, 27, 28]
 (.seq (.ops [⟨some 29, .bin .lss (.tm 28) (.tm 27), none⟩])
 (.seq (.cond (.tm 29)
 .skip
 (.exit 0))
 (.seq (.block 1
 (.seq (.ops [⟨some 30, .ixa 1 (.tm 26) (.tm 28), none⟩,
 ⟨some 31, .load none (.tm 30), none⟩,
 ⟨some 15, .mov (.tm 31), none⟩])
 (.ops [⟨some 32, .mov (.tm 13), none⟩,
 ⟨some 33, .mov (.tm 15), none⟩,
 ⟨some 34, .len (.tm 33), none⟩,
 ⟨some 35, .bin .add (.tm 32) (.tm 34), none⟩,
 ⟨some 13, .mov (.tm 35), none⟩])))
 (.ops [⟨some 36, .bin .add (.tm 28) (.cn (.int .i64 1)), none⟩,
 ⟨some 28, .mov (.tm 36), none⟩]))))))))
 (.seq (.seq (.ops [⟨some 37, .mov (.tm 13), none⟩,
 ⟨some 38, .load none (.tm 4), none⟩,
 ⟨some 39, .bin .gtr (.tm 37) (.tm 38), none⟩])
 (.cond (.tm 39)
 (.seq (.ops [⟨some 11, .mov (.cn (.bool false)), none⟩])
 .ret)
 .skip))
 (.seq (.ops [⟨some 40, .load none (.tm 4), none⟩,
 ⟨some 41, .mov (.tm 13), none⟩,
 ⟨some 42, .bin .sub (.tm 40) (.tm 41), none⟩,
 ⟨none, .store 1 (.tm 4) (.tm 42), none⟩])
 (.seq (.seq (.ops [⟨some 43, .fld (.tm 12) 1, none⟩,
 ⟨some 44, .load none (.tm 43), none⟩,
 ⟨some 45, .len (.tm 44), none⟩,
 ⟨some 46, .mov (.cn (.int .i64 0)), none⟩])
 (.block 2
 (.pre [.bx 5 0 (some 1), .bx 6 0 (some 1)] (.loop [0, 1, 2, 3, 5, 6, 7, 12, 44, 45, 46]
 (.seq (.ops [⟨some 47, .bin .lss (.tm 46) (.tm 45), none⟩])
 (.seq (.cond (.tm 47)
 .skip
 (.exit 2))
 (.seq (.block 3
 (.seq (.ops [⟨some 48, .ixa 1 (.tm 44) (.tm 46), none⟩,
 ⟨some 49, .load none (.tm 48), none⟩,
 ⟨some 17, .mov (.tm 49), none⟩])
 (.draw [⟨some 50, .load none (.tm 5), none⟩,
 ⟨some 51, .mov (.tm 17), none⟩,
 ⟨some 52, .mov (.tm 1), none⟩,
 ⟨some 53, .mov (.tm 2), none⟩,
 ⟨some 54, .call (.fu 58) [(.tm 51), (.tm 52), (.tm 53)], none⟩,
 ⟨some 55, .bsl 1 [.slice none 0 0] 1 [(0, (.tm 54))], none⟩,
 ⟨some 56, .app 1 24 false (.tm 50) (.tm 55), none⟩,
 ⟨none, .store 1 (.tm 5) (.tm 56), none⟩]
 [(0, 4), (0, 5)])))
 (.ops [⟨some 57, .bin .add (.tm 46) (.cn (.int .i64 1)), none⟩,
 ⟨some 46, .mov (.tm 57), none⟩]))))))))
 (.seq (.ops [⟨some 58, .load none (.tm 6), none⟩,
 ⟨some 59, .mov (.tm 0), none⟩,
 ⟨some 60, .bsl 1 [.int .i64 0] 1 [(0, (.tm 59))], none⟩,
 ⟨some 61, .app 1 8 false (.tm 58) (.tm 60), none⟩,
 ⟨none, .store 1 (.tm 6) (.tm 61), none⟩])
 (.seq (.seq (.ops [⟨some 62, .fld (.tm 12) 2, none⟩,
 ⟨some 63, .load none (.tm 62), none⟩,
 ⟨some 64, .len (.tm 63), none⟩,
 ⟨some 65, .mov (.cn (.int .i64 0)), none⟩])
 (.block 4
 (.pre [.bx 6 0 (some 1)] (.loop [1, 2, 3, 6, 7, 63, 64, 65]
 (.seq (.ops [⟨some 66, .bin .lss (.tm 65) (.tm 64), none⟩])
 (.seq (.cond (.tm 66)
 .skip
 (.exit 4))
 (.seq (.block 5
 (.seq (.ops [⟨some 67, .ixa 3 (.tm 63) (.tm 65), none⟩,
 ⟨some 68, .load (some 3) (.tm 67), none⟩,
 ⟨some 19, .alloc [.int .i64 0, .int .i64 0, .int .i64 0], none⟩,
 ⟨none, .store 3 (.tm 19) (.tm 68), none⟩])
 (.seq (.seq (.ops [⟨some 69, .fld (.tm 19) 0, none⟩,
 ⟨some 70, .load none (.tm 69), none⟩,
 ⟨some 71, .bin .lss (.tm 70) (.cn (.int .i64 0)), none⟩,
 ⟨some 72, .mov (.tm 71), none⟩,
 ⟨some 73, .fld (.tm 19) 0, (some (72, false))⟩,
 ⟨some 74, .load none (.tm 73), (some (72, false))⟩,
 ⟨some 75, .fld (.tm 3) 0, (some (72, false))⟩,
 ⟨some 76, .load none (.tm 75), (some (72, false))⟩,
 ⟨some 77, .len (.tm 76), (some (72, false))⟩,
 ⟨some 78, .bin .geq (.tm 74) (.tm 77), (some (72, false))⟩,
 ⟨some 79, .pick (.tm 72) (.cn (.bool true)) (.tm 78), none⟩,
 ⟨some 80, .mov (.tm 79), none⟩,
 ⟨some 81, .load none (.tm 6), (some (80, false))⟩,
 ⟨some 82, .fld (.tm 19) 0, (some (80, false))⟩,
 ⟨some 83, .load none (.tm 82), (some (80, false))⟩,
 ⟨some 84, .call (.fu 59) [(.tm 81), (.tm 83)], (some (80, false))⟩,
 ⟨some 85, .pick (.tm 80) (.cn (.bool true)) (.tm 84), none⟩,
 ⟨some 86, .mov (.tm 85), none⟩,
 ⟨some 87, .load none (.tm 6), (some (86, false))⟩,
 ⟨some 88, .len (.tm 87), (some (86, false))⟩,
 ⟨some 89, .bin .eql (.tm 88) (.cn (.int .i64 8)), (some (86, false))⟩,
 ⟨some 90, .pick (.tm 86) (.cn (.bool true)) (.tm 89), none⟩])
 (.cond (.tm 90)
 (.exit 5)
 .skip))
 (.seq (.draw [⟨some 91, .load none (.tm 7), none⟩,
 ⟨some 92, .fld (.tm 19) 0, none⟩,
 ⟨some 93, .load none (.tm 92), none⟩,
 ⟨some 94, .mov (.tm 1), none⟩,
 ⟨some 95, .fld (.tm 19) 1, none⟩,
 ⟨some 96, .load none (.tm 95), none⟩,
 ⟨some 97, .call (.fu 60) [(.tm 96)], none⟩,
 ⟨some 98, .bin .add (.tm 94) (.tm 97), none⟩,
 ⟨some 99, .call (.fu 60) [(.tm 98)], none⟩,
 ⟨some 100, .mov (.tm 2), none⟩,
 ⟨some 101, .fld (.tm 19) 2, none⟩,
 ⟨some 102, .load none (.tm 101), none⟩,
 ⟨some 103, .call (.fu 60) [(.tm 102)], none⟩,
 ⟨some 104, .bin .add (.tm 100) (.tm 103), none⟩,
 ⟨some 105, .call (.fu 60) [(.tm 104)], none⟩,
 ⟨some 106, .call (.tm 91) [(.tm 93), (.tm 99), (.tm 105)], none⟩,
 ⟨some 107, .un .not (.tm 106), none⟩]
 [(0, 6), (2, 6), (0, 8), (2, 8), (6, 11), (8, 11), (0, 12), (2, 12), (0, 14), (2, 14)])
 (.cond (.tm 107)
 (.seq (.ops [⟨some 11, .mov (.cn (.bool false)), none⟩])
 .ret)
 .skip)))))
 (.ops [⟨some 108, .bin .add (.tm 65) (.cn (.int .i64 1)), none⟩,
 ⟨some 65, .mov (.tm 108), none⟩]))))))))
 (.seq (.ops [⟨some 109, .load none (.tm 6), none⟩,
 ⟨some 110, .load none (.tm 6), none⟩,
 ⟨some 111, .len (.tm 110), none⟩,
 ⟨some 112, .bin .sub (.tm 111) (.cn (.int .i64 1)), none⟩,
 ⟨some 113, .slc 1 (.tm 109) none (some (.tm 112)) none, none⟩,
 ⟨none, .store 1 (.tm 6) (.tm 113), none⟩])
 (.seq (.ops [⟨some 11, .mov (.cn (.bool true)), none⟩])
 .ret)))))))))))⟩
theorem comp57 : compF Tryd.prog Tryd.f57 ⟨false, [], [([.bx 5 0 (some 1), .bx 6 0 (some 1)], [0, 1, 2, 3, 4, 5, 6, 7, 12, 13, 26, 27, 28]), ([.bx 5 0 (some 1), .bx 6 0 (some 1)], [0, 1, 2, 3, 5, 6, 7, 12, 44, 45, 46]), ([.bx 6 0 (some 1)], [1, 2, 3, 6, 7, 63, 64, 65])], [.bx 5 0 (some 1), .bx 6 0 (some 1)], [.bx 5 0 (some 1), .bx 6 0 (some 1)]⟩ = some L57 := by kernel_rfl

def L58 : LFunc := ⟨37, 3, [.t 6], false, [], [],
 (.seq (.ops [⟨some 6, .mov (.cn (.slice none 0 0)), none⟩])
 (.seq (.ops [⟨some 10, .mov (.tm 0), none⟩,
 ⟨some 11, .len (.tm 10), none⟩,
 ⟨some 12, .mks 2 16 [.int .i64 0, .int .i64 0] (.cn (.int .i64 0)) (.tm 11), none⟩,
 ⟨some 7, .mov (.tm 12), none⟩])
 (.seq (.seq (.ops [⟨some 13, .mov (.tm 0), none⟩,
 ⟨some 14, .len (.tm 13), none⟩,
 ⟨some 15, .mov (.cn (.int .i64 0)), none⟩])
 (.block 0
 (.pre [.tmp 7 (some 2)] (.loop [1, 2, 7, 13, 14, 15]
 (.seq (.ops [⟨some 16, .bin .lss (.tm 15) (.tm 14), none⟩])
 (.seq (.cond (.tm 16)
 .skip
 (.exit 0))
 (.seq (.block 1
 (.seq (.ops [⟨some 17, .ixa 2 (.tm 13) (.tm 15), none⟩,
 ⟨some 18, .load (some 2) (.tm 17), none⟩,
 ⟨some 9, .alloc [.int .i64 0, .int .i64 0], none⟩,
 ⟨none, .store 2 (.tm 9) (.tm 18), none⟩])
 (.draw [⟨some 19, .mov (.tm 7), none⟩,
 ⟨some 20, .fld (.tm 9) 0, none⟩,
 ⟨some 21, .load none (.tm 20), none⟩,
 ⟨some 22, .call (.fu 60) [(.tm 21)], none⟩,
 ⟨some 23, .mov (.tm 1), none⟩,
 ⟨some 24, .bin .add (.tm 22) (.tm 23), none⟩,
 ⟨some 25, .call (.fu 60) [(.tm 24)], none⟩,
 ⟨some 26, .fld (.tm 9) 1, none⟩,
 ⟨some 27, .load none (.tm 26), none⟩,
 ⟨some 28, .call (.fu 60) [(.tm 27)], none⟩,
 ⟨some 29, .mov (.tm 2), none⟩,
 ⟨some 30, .bin .add (.tm 28) (.tm 29), none⟩,
 ⟨some 31, .call (.fu 60) [(.tm 30)], none⟩,
 ⟨some 32, .build [.int .i64 0, .int .i64 0] [(0, 1, (.tm 25)), (1, 1, (.tm 31))], none⟩,
 ⟨some 33, .bsl 2 [.int .i64 0, .int .i64 0] 1 [(0, (.tm 32))], none⟩,
 ⟨some 34, .app 2 16 false (.tm 19) (.tm 33), none⟩,
 ⟨some 7, .mov (.tm 34), none⟩]
 [(3, 8), (6, 8)])))
 (.ops [⟨some 35, .bin .add (.tm 15) (.cn (.int .i64 1)), none⟩,
 ⟨some 15, .mov (.tm 35), none⟩]))))))))
 (.seq (.ops [⟨some 36, .mov (.tm 7), none⟩,
 ⟨some 6, .mov (.tm 36), none⟩])
 .ret))))⟩
theorem comp58 : compF Tryd.prog Tryd.f58 ⟨false, [], [([.tmp 7 (some 2)], [1, 2, 7, 13, 14, 15])], [], []⟩ = some L58 := by kernel_rfl

def L59 : LFunc := ⟨9, 2, [.t 4], false, [], [],
 (.seq (.ops [⟨some 4, .mov (.cn (.bool false)), none⟩])
 (.seq (.ops [⟨some 5, .mov (.tm 0), none⟩,
 ⟨some 6, .mov (.tm 1), none⟩,
 ⟨some 7, .call (.fu 83) [(.tm 5), (.tm 6)], none⟩,
 ⟨some 8, .bin .geq (.tm 7) (.cn (.int .i64 0)), none⟩,
 ⟨some 4, .mov (.tm 8), none⟩])
 .ret))⟩
theorem comp59 : compF Tryd.prog Tryd.f59 ⟨false, [], [], [], []⟩ = some L59 := by kernel_rfl

def L60 : LFunc := ⟨6, 1, [.t 2], false, [], [],
 (.seq (.ops [⟨some 2, .mov (.cn (.int .i64 0)), none⟩])
 (.seq (.ops [⟨some 3, .mov (.tm 0), none⟩,
 ⟨some 4, .mn [(.tm 3), (.cn (.int .i64 1048576))], none⟩,
 ⟨some 5, .mx [(.cn (.int .i64 (-1048576))), (.tm 4)], none⟩,
 ⟨some 2, .mov (.tm 5), none⟩])
 .ret))⟩
theorem comp60 : compF Tryd.prog Tryd.f60 ⟨false, [], [], [], []⟩ = some L60 := by kernel_rfl

end Go.Vai
