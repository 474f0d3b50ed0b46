/-
  The compact code of the functions, and that it is what was loaded.
-/
import Derived.Test.YthejhdkdfjinbaaDoorProg
import Derived.Test.YthejhdkdfjinbaaDoorVa4
set_option linter.unusedVariables false
set_option maxRecDepth 100000
namespace Go.Vai
open Go.Proofs
def L3 : LFunc := ⟨101, 5, [.t 10], false, [], [],
  (.seq (.ops [⟨some 10, .mov (.cn (.bool false)), none⟩])
  (.seq (.seq (.ops [⟨some 19, .call (.fu 12) [], none⟩,
      ⟨some 20, .un .not (.tm 19), none⟩])
  (.cond (.tm 20)
  (.seq (.ops [⟨some 10, .mov (.cn (.bool false)), none⟩])
    .ret)
  .skip))
  (.seq (.ops [⟨some 22, .mov (.tm 2), none⟩,
      ⟨some 23, .mov (.tm 3), none⟩,
      ⟨some 24, .call (.fu 13) [(.tm 22), (.tm 23)], none⟩,
      ⟨some 21, .mov (.tm 24), none⟩,
      ⟨some 25, .ext (.tm 21) 0, none⟩,
      ⟨some 26, .ext (.tm 21) 1, none⟩,
      ⟨some 11, .mov (.tm 25), none⟩,
      ⟨some 12, .mov (.tm 26), none⟩])
  (.seq (.ops [⟨some 28, .mov (.tm 2), none⟩,
      ⟨some 29, .mov (.tm 3), none⟩,
      ⟨some 30, .call (.fu 14) [(.tm 28), (.tm 29)], none⟩,
      ⟨some 27, .mov (.tm 30), none⟩,
      ⟨some 31, .ext (.tm 27) 0, none⟩,
      ⟨some 32, .ext (.tm 27) 1, none⟩,
      ⟨some 13, .mov (.tm 31), none⟩,
      ⟨some 14, .mov (.tm 32), none⟩])
  (.seq (.seq (.ops [⟨some 33, .mov (.tm 0), none⟩,
      ⟨some 34, .call (.fu 15) [(.tm 33)], none⟩,
      ⟨some 35, .mov (.tm 0), none⟩,
      ⟨some 36, .call (.fu 16) [(.tm 35)], none⟩,
      ⟨some 37, .bin .neq (.tm 34) (.tm 36), none⟩,
      ⟨some 38, .mov (.tm 37), none⟩,
      ⟨some 39, .mov (.tm 11), (some (38, false))⟩,
      ⟨some 40, .mov (.tm 13), (some (38, false))⟩,
      ⟨some 41, .bin .neq (.tm 39) (.tm 40), (some (38, false))⟩,
      ⟨some 42, .pick (.tm 38) (.cn (.bool true)) (.tm 41), none⟩,
      ⟨some 43, .mov (.tm 42), none⟩,
      ⟨some 44, .mov (.tm 12), (some (43, false))⟩,
      ⟨some 45, .mov (.tm 14), (some (43, false))⟩,
      ⟨some 46, .beq true (.tm 44) (.tm 45), (some (43, false))⟩,
      ⟨some 47, .pick (.tm 43) (.cn (.bool true)) (.tm 46), none⟩])
  (.cond (.tm 47)
  (.seq (.ops [⟨some 10, .mov (.cn (.bool false)), none⟩])
    .ret)
  .skip))
  (.seq (.seq (.ops [⟨some 48, .mov (.tm 1), none⟩,
      ⟨some 49, .mov (.tm 0), none⟩,
      ⟨some 50, .bin .geq (.tm 48) (.tm 49), none⟩,
      ⟨some 51, .mov (.tm 50), none⟩,
      ⟨some 52, .mov (.tm 1), (some (51, true))⟩,
      ⟨some 53, .call (.fu 15) [(.tm 52)], (some (51, true))⟩,
      ⟨some 54, .mov (.tm 0), (some (51, true))⟩,
      ⟨some 55, .call (.fu 15) [(.tm 54)], (some (51, true))⟩,
      ⟨some 56, .bin .lss (.tm 53) (.tm 55), (some (51, true))⟩,
      ⟨some 57, .pick (.tm 51) (.tm 56) (.cn (.bool false)), none⟩])
  (.cond (.tm 57)
  (.seq (.ops [⟨some 10, .mov (.cn (.bool false)), none⟩])
    .ret)
  .skip))
  (.seq (.seq (.ops [⟨some 58, .mov (.tm 3), none⟩,
      ⟨some 59, .bin .lss (.tm 58) (.cn (.int .i64 0)), none⟩,
      ⟨some 60, .mov (.tm 59), none⟩,
      ⟨some 61, .mov (.tm 4), (some (60, false))⟩,
      ⟨some 62, .bin .lss (.tm 61) (.cn (.int .i64 0)), (some (60, false))⟩,
      ⟨some 63, .pick (.tm 60) (.cn (.bool true)) (.tm 62), none⟩,
      ⟨some 64, .mov (.tm 63), none⟩,
      ⟨some 65, .mov (.tm 3), (some (64, false))⟩,
      ⟨some 66, .bin .gtr (.tm 65) (.cn (.int .i64 1152921504606846976)), (some (64, false))⟩,
      ⟨some 67, .pick (.tm 64) (.cn (.bool true)) (.tm 66), none⟩,
      ⟨some 68, .mov (.tm 67), none⟩,
      ⟨some 69, .mov (.tm 4), (some (68, false))⟩,
      ⟨some 70, .bin .gtr (.tm 69) (.cn (.int .i64 1152921504606846976)), (some (68, false))⟩,
      ⟨some 71, .pick (.tm 68) (.cn (.bool true)) (.tm 70), none⟩])
  (.cond (.tm 71)
  (.seq (.ops [⟨some 10, .mov (.cn (.bool true)), none⟩])
    .ret)
  .skip))
  (.seq (.ops [⟨some 73, .mov (.tm 11), none⟩,
      ⟨some 74, .mov (.tm 4), none⟩,
      ⟨some 75, .call (.fu 13) [(.tm 73), (.tm 74)], none⟩,
      ⟨some 72, .mov (.tm 75), none⟩,
      ⟨some 76, .ext (.tm 72) 0, none⟩,
      ⟨some 77, .ext (.tm 72) 1, none⟩,
      ⟨some 15, .mov (.tm 76), none⟩,
      ⟨some 16, .mov (.tm 77), none⟩])
  (.seq (.ops [⟨some 79, .mov (.tm 2), none⟩,
      ⟨some 80, .mov (.tm 3), none⟩,
      ⟨some 81, .mov (.tm 4), none⟩,
      ⟨some 82, .bin .add (.tm 80) (.tm 81), none⟩,
      ⟨some 83, .call (.fu 13) [(.tm 79), (.tm 82)], none⟩,
      ⟨some 78, .mov (.tm 83), none⟩,
      ⟨some 84, .ext (.tm 78) 0, none⟩,
      ⟨some 85, .ext (.tm 78) 1, none⟩,
      ⟨some 17, .mov (.tm 84), none⟩,
      ⟨some 18, .mov (.tm 85), none⟩])
  (.seq (.ops [⟨some 86, .mov (.tm 12), none⟩,
      ⟨some 87, .mov (.tm 86), none⟩,
      ⟨some 88, .mov (.tm 16), (some (87, true))⟩,
      ⟨some 89, .pick (.tm 87) (.tm 88) (.cn (.bool false)), none⟩,
      ⟨some 90, .mov (.tm 18), none⟩,
      ⟨some 91, .beq false (.tm 89) (.tm 90), none⟩,
      ⟨some 92, .mov (.tm 91), none⟩,
      ⟨some 93, .mov (.tm 18), (some (92, true))⟩,
      ⟨some 94, .un .not (.tm 93), (some (92, true))⟩,
      ⟨some 95, .mov (.tm 94), (some (92, true))⟩,
      ⟨some 96, .mov (.tm 15), (some (95, false))⟩,
      ⟨some 97, .mov (.tm 17), (some (95, false))⟩,
      ⟨some 98, .bin .eql (.tm 96) (.tm 97), (some (95, false))⟩,
      ⟨some 99, .pick (.tm 95) (.cn (.bool true)) (.tm 98), (some (92, true))⟩,
      ⟨some 100, .pick (.tm 92) (.tm 99) (.cn (.bool false)), none⟩,
      ⟨some 10, .mov (.tm 100), none⟩])
  .ret))))))))))⟩
theorem comp3 : compF Tryd.prog Tryd.f3 ⟨false, [], [], [], []⟩ = some L3 := by kernel_rfl

def L4 : LFunc := ⟨22, 1, [.t 2], false, [], [],
  (.seq (.ops [⟨some 2, .mov (.cn (.bool false)), none⟩])
  (.seq (.seq (.ops [⟨some 3, .call (.fu 12) [], none⟩,
      ⟨some 4, .un .not (.tm 3), none⟩])
  (.cond (.tm 4)
  (.seq (.ops [⟨some 2, .mov (.cn (.bool false)), none⟩])
    .ret)
  .skip))
  (.seq (.ops [⟨some 5, .mov (.tm 0), none⟩,
      ⟨some 6, .slen (.tm 5), none⟩,
      ⟨some 7, .bin .gtr (.tm 6) (.cn (.int .i64 5000)), none⟩,
      ⟨some 8, .mov (.tm 7), none⟩,
      ⟨some 9, .mov (.tm 0), (some (8, false))⟩,
      ⟨some 10, .call (.fu 17) [(.tm 9)], (some (8, false))⟩,
      ⟨some 11, .mov (.tm 0), (some (8, false))⟩,
      ⟨some 12, .call (.fu 18) [(.tm 11)], (some (8, false))⟩,
      ⟨some 13, .bin .eql (.tm 10) (.tm 12), (some (8, false))⟩,
      ⟨some 14, .mov (.tm 13), (some (8, false))⟩,
      ⟨some 15, .mov (.tm 0), (some (14, true))⟩,
      ⟨some 16, .call (.fu 19) [(.tm 15)], (some (14, true))⟩,
      ⟨some 17, .mov (.tm 0), (some (14, true))⟩,
      ⟨some 18, .call (.fu 20) [(.tm 17)], (some (14, true))⟩,
      ⟨some 19, .bin .eql (.tm 16) (.tm 18), (some (14, true))⟩,
      ⟨some 20, .pick (.tm 14) (.tm 19) (.cn (.bool false)), (some (8, false))⟩,
      ⟨some 21, .pick (.tm 8) (.cn (.bool true)) (.tm 20), none⟩,
      ⟨some 2, .mov (.tm 21), none⟩])
  .ret)))⟩
theorem comp4 : compF Tryd.prog Tryd.f4 ⟨false, [], [], [], []⟩ = some L4 := by kernel_rfl

def L5 : LFunc := ⟨38, 3, [.t 6], false, [], [],
  (.seq (.ops [⟨some 6, .mov (.cn (.bool false)), none⟩])
  (.seq (.seq (.ops [⟨some 8, .call (.fu 12) [], none⟩,
      ⟨some 9, .un .not (.tm 8), none⟩])
  (.cond (.tm 9)
  (.seq (.ops [⟨some 6, .mov (.cn (.bool false)), none⟩])
    .ret)
  .skip))
  (.seq (.seq (.ops [⟨some 10, .mov (.tm 0), none⟩,
      ⟨some 11, .slen (.tm 10), none⟩,
      ⟨some 12, .bin .gtr (.tm 11) (.cn (.int .i64 5000)), none⟩,
      ⟨some 13, .mov (.tm 12), none⟩,
      ⟨some 14, .mov (.tm 1), (some (13, false))⟩,
      ⟨some 15, .bin .lss (.tm 14) (.cn (.int .i64 0)), (some (13, false))⟩,
      ⟨some 16, .pick (.tm 13) (.cn (.bool true)) (.tm 15), none⟩,
      ⟨some 17, .mov (.tm 16), none⟩,
      ⟨some 18, .mov (.tm 1), (some (17, false))⟩,
      ⟨some 19, .mov (.tm 0), (some (17, false))⟩,
      ⟨some 20, .slen (.tm 19), (some (17, false))⟩,
      ⟨some 21, .bin .mul (.cn (.int .i64 8)) (.tm 20), (some (17, false))⟩,
      ⟨some 22, .bin .geq (.tm 18) (.tm 21), (some (17, false))⟩,
      ⟨some 23, .pick (.tm 17) (.cn (.bool true)) (.tm 22), none⟩])
  (.cond (.tm 23)
  (.seq (.ops [⟨some 6, .mov (.cn (.bool true)), none⟩])
    .ret)
  .skip))
  (.seq (.ops [⟨some 24, .mov (.tm 0), none⟩,
      ⟨some 25, .mov (.tm 1), none⟩,
      ⟨some 26, .mov (.tm 2), none⟩,
      ⟨some 27, .call (.fu 21) [(.tm 24), (.tm 25), (.tm 26)], none⟩,
      ⟨some 7, .mov (.tm 27), none⟩])
  (.seq (.ops [⟨some 28, .mov (.tm 0), none⟩,
      ⟨some 29, .mov (.tm 7), none⟩,
      ⟨some 30, .bin .eql (.tm 28) (.tm 29), none⟩,
      ⟨some 31, .mov (.tm 30), none⟩,
      ⟨some 32, .mov (.tm 0), (some (31, false))⟩,
      ⟨some 33, .call (.fu 17) [(.tm 32)], (some (31, false))⟩,
      ⟨some 34, .mov (.tm 7), (some (31, false))⟩,
      ⟨some 35, .call (.fu 17) [(.tm 34)], (some (31, false))⟩,
      ⟨some 36, .bin .neq (.tm 33) (.tm 35), (some (31, false))⟩,
      ⟨some 37, .pick (.tm 31) (.cn (.bool true)) (.tm 36), none⟩,
      ⟨some 6, .mov (.tm 37), none⟩])
  .ret)))))⟩
theorem comp5 : compF Tryd.prog Tryd.f5 ⟨false, [], [], [], []⟩ = some L5 := by kernel_rfl

def L6 : LFunc := ⟨63, 3, [.t 6], false, [], [],
  (.seq (.ops [⟨some 6, .mov (.cn (.bool false)), none⟩])
  (.seq (.seq (.ops [⟨some 10, .call (.fu 12) [], none⟩,
      ⟨some 11, .un .not (.tm 10), none⟩])
  (.cond (.tm 11)
  (.seq (.ops [⟨some 6, .mov (.cn (.bool false)), none⟩])
    .ret)
  .skip))
  (.seq (.ops [⟨some 12, .mov (.tm 0), none⟩,
      ⟨some 13, .slen (.tm 12), none⟩,
      ⟨some 14, .mov (.tm 1), none⟩,
      ⟨some 15, .slen (.tm 14), none⟩,
      ⟨some 16, .mov (.tm 2), none⟩,
      ⟨some 17, .slen (.tm 16), none⟩,
      ⟨some 18, .mn [(.tm 13), (.tm 15), (.tm 17)], none⟩,
      ⟨some 7, .mov (.tm 18), none⟩])
  (.seq (.seq (.ops [⟨some 19, .mov (.tm 7), none⟩,
      ⟨some 20, .bin .gtr (.tm 19) (.cn (.int .i64 5000)), none⟩])
  (.cond (.tm 20)
  (.seq (.ops [⟨some 6, .mov (.cn (.bool true)), none⟩])
    .ret)
  .skip))
  (.seq (.ops [⟨some 21, .mov (.tm 0), none⟩,
      ⟨some 22, .mov (.tm 7), none⟩,
      ⟨some 23, .slcs (.tm 21) none (some (.tm 22)), none⟩,
      ⟨some 24, .s2b (.tm 23), none⟩,
      ⟨some 8, .mov (.tm 24), none⟩])
  (.seq (.seq (.ops [⟨some 9, .mov (.cn (.int .i64 0)), none⟩])
  (.block 0
  (.loop [0, 1, 2, 7, 8, 9]
    (.seq (.seq (.ops [⟨some 25, .mov (.tm 9), none⟩,
      ⟨some 26, .mov (.tm 7), none⟩,
      ⟨some 27, .bin .lss (.tm 25) (.tm 26), none⟩])
      (.cond (.tm 27)
      .skip
      (.exit 0)))
      (.seq (.block 1
      (.draw [⟨some 30, .mov (.tm 8), none⟩,
      ⟨some 31, .mov (.tm 9), none⟩,
      ⟨some 32, .mov (.tm 8), none⟩,
      ⟨some 33, .mov (.tm 9), none⟩,
      ⟨some 34, .ixa 1 (.tm 32) (.tm 33), none⟩,
      ⟨some 35, .load none (.tm 34), none⟩,
      ⟨some 36, .mov (.tm 1), none⟩,
      ⟨some 37, .mov (.tm 9), none⟩,
      ⟨some 38, .ixs (.tm 36) (.tm 37), none⟩,
      ⟨some 39, .bin .xor (.tm 35) (.tm 38), none⟩,
      ⟨some 40, .mov (.tm 2), none⟩,
      ⟨some 41, .mov (.tm 9), none⟩,
      ⟨some 42, .ixs (.tm 40) (.tm 41), none⟩,
      ⟨some 43, .bin .xor (.tm 39) (.tm 42), none⟩,
      ⟨some 44, .ixa 1 (.tm 30) (.tm 31), none⟩,
      ⟨none, .store 1 (.tm 44) (.tm 43), none⟩]
      []))
      (.ops [⟨some 28, .mov (.tm 9), none⟩,
      ⟨some 29, .bin .add (.tm 28) (.cn (.int .i64 1)), none⟩,
      ⟨some 9, .mov (.tm 29), none⟩]))))))
  (.seq (.draw [⟨some 45, .mov (.tm 8), none⟩,
      ⟨some 46, .b2s (.tm 45), none⟩,
      ⟨some 47, .call (.fu 17) [(.tm 46)], none⟩,
      ⟨some 48, .mov (.tm 0), none⟩,
      ⟨some 49, .mov (.tm 7), none⟩,
      ⟨some 50, .slcs (.tm 48) none (some (.tm 49)), none⟩,
      ⟨some 51, .call (.fu 17) [(.tm 50)], none⟩,
      ⟨some 52, .mov (.tm 1), none⟩,
      ⟨some 53, .mov (.tm 7), none⟩,
      ⟨some 54, .slcs (.tm 52) none (some (.tm 53)), none⟩,
      ⟨some 55, .call (.fu 17) [(.tm 54)], none⟩,
      ⟨some 56, .bin .xor (.tm 51) (.tm 55), none⟩,
      ⟨some 57, .mov (.tm 2), none⟩,
      ⟨some 58, .mov (.tm 7), none⟩,
      ⟨some 59, .slcs (.tm 57) none (some (.tm 58)), none⟩,
      ⟨some 60, .call (.fu 17) [(.tm 59)], none⟩,
      ⟨some 61, .bin .xor (.tm 56) (.tm 60), none⟩,
      ⟨some 62, .bin .eql (.tm 47) (.tm 61), none⟩,
      ⟨some 6, .mov (.tm 62), none⟩]
      [])
  .ret)))))))⟩
theorem comp6 : compF Tryd.prog Tryd.f6 ⟨false, [], [([], [0, 1, 2, 7, 8, 9])], [], []⟩ = some L6 := by kernel_rfl

def L7 : LFunc := ⟨44, 3, [.t 6], false, [], [],
  (.seq (.ops [⟨some 6, .mov (.cn (.bool false)), none⟩])
  (.seq (.seq (.ops [⟨some 8, .call (.fu 12) [], none⟩,
      ⟨some 9, .un .not (.tm 8), none⟩])
  (.cond (.tm 9)
  (.seq (.ops [⟨some 6, .mov (.cn (.bool false)), none⟩])
    .ret)
  .skip))
  (.seq (.seq (.ops [⟨some 10, .mov (.tm 0), none⟩,
      ⟨some 11, .slen (.tm 10), none⟩,
      ⟨some 12, .bin .gtr (.tm 11) (.cn (.int .i64 5000)), none⟩,
      ⟨some 13, .mov (.tm 12), none⟩,
      ⟨some 14, .mov (.tm 1), (some (13, false))⟩,
      ⟨some 15, .bin .lss (.tm 14) (.cn (.int .i64 0)), (some (13, false))⟩,
      ⟨some 16, .pick (.tm 13) (.cn (.bool true)) (.tm 15), none⟩,
      ⟨some 17, .mov (.tm 16), none⟩,
      ⟨some 18, .mov (.tm 1), (some (17, false))⟩,
      ⟨some 19, .mov (.tm 0), (some (17, false))⟩,
      ⟨some 20, .slen (.tm 19), (some (17, false))⟩,
      ⟨some 21, .bin .geq (.tm 18) (.tm 20), (some (17, false))⟩,
      ⟨some 22, .pick (.tm 17) (.cn (.bool true)) (.tm 21), none⟩,
      ⟨some 23, .mov (.tm 22), none⟩,
      ⟨some 24, .mov (.tm 2), (some (23, false))⟩,
      ⟨some 25, .bin .eql (.tm 24) (.cn (.int .u8 0)), (some (23, false))⟩,
      ⟨some 26, .pick (.tm 23) (.cn (.bool true)) (.tm 25), none⟩])
  (.cond (.tm 26)
  (.seq (.ops [⟨some 6, .mov (.cn (.bool true)), none⟩])
    .ret)
  .skip))
  (.seq (.ops [⟨some 27, .mov (.tm 0), none⟩,
      ⟨some 28, .s2b (.tm 27), none⟩,
      ⟨some 7, .mov (.tm 28), none⟩])
  (.seq (.ops [⟨some 29, .mov (.tm 7), none⟩,
      ⟨some 30, .mov (.tm 1), none⟩,
      ⟨some 31, .mov (.tm 7), none⟩,
      ⟨some 32, .mov (.tm 1), none⟩,
      ⟨some 33, .ixa 1 (.tm 31) (.tm 32), none⟩,
      ⟨some 34, .load none (.tm 33), none⟩,
      ⟨some 35, .mov (.tm 2), none⟩,
      ⟨some 36, .bin .xor (.tm 34) (.tm 35), none⟩,
      ⟨some 37, .ixa 1 (.tm 29) (.tm 30), none⟩,
      ⟨none, .store 1 (.tm 37) (.tm 36), none⟩])
  (.seq (.draw [⟨some 38, .mov (.tm 0), none⟩,
      ⟨some 39, .call (.fu 19) [(.tm 38)], none⟩,
      ⟨some 40, .mov (.tm 7), none⟩,
      ⟨some 41, .b2s (.tm 40), none⟩,
      ⟨some 42, .call (.fu 19) [(.tm 41)], none⟩,
      ⟨some 43, .bin .neq (.tm 39) (.tm 42), none⟩,
      ⟨some 6, .mov (.tm 43), none⟩]
      [(1, 3)])
  .ret))))))⟩
theorem comp7 : compF Tryd.prog Tryd.f7 ⟨false, [], [], [], []⟩ = some L7 := by kernel_rfl

def L8 : LFunc := ⟨60, 2, [.t 4], false, [], [],
  (.seq (.ops [⟨some 4, .mov (.cn (.bool false)), none⟩])
  (.seq (.seq (.ops [⟨some 13, .call (.fu 12) [], none⟩,
      ⟨some 14, .un .not (.tm 13), none⟩])
  (.cond (.tm 14)
  (.seq (.ops [⟨some 4, .mov (.cn (.bool false)), none⟩])
    .ret)
  .skip))
  (.seq (.seq (.ops [⟨some 15, .mov (.tm 0), none⟩,
      ⟨some 16, .slen (.tm 15), none⟩,
      ⟨some 17, .bin .gtr (.tm 16) (.cn (.int .i64 5000)), none⟩])
  (.cond (.tm 17)
  (.seq (.ops [⟨some 4, .mov (.cn (.bool true)), none⟩])
    .ret)
  .skip))
  (.seq (.ops [⟨some 19, .mov (.tm 0), none⟩,
      ⟨some 20, .mov (.tm 1), none⟩,
      ⟨some 21, .call (.fu 22) [(.tm 19), (.tm 20)], none⟩,
      ⟨some 18, .mov (.tm 21), none⟩,
      ⟨some 22, .ext (.tm 18) 0, none⟩,
      ⟨some 23, .ext (.tm 18) 1, none⟩,
      ⟨some 5, .mov (.tm 22), none⟩,
      ⟨some 6, .mov (.tm 23), none⟩])
  (.seq (.ops [⟨some 25, .mov (.tm 0), none⟩,
      ⟨some 26, .mov (.tm 1), none⟩,
      ⟨some 27, .call (.fu 23) [(.tm 25), (.tm 26)], none⟩,
      ⟨some 24, .mov (.tm 27), none⟩,
      ⟨some 28, .ext (.tm 24) 0, none⟩,
      ⟨some 29, .ext (.tm 24) 1, none⟩,
      ⟨some 7, .mov (.tm 28), none⟩,
      ⟨some 8, .mov (.tm 29), none⟩])
  (.seq (.ops [⟨some 31, .mov (.tm 0), none⟩,
      ⟨some 32, .mov (.tm 1), none⟩,
      ⟨some 33, .call (.fu 24) [(.tm 31), (.tm 32)], none⟩,
      ⟨some 30, .mov (.tm 33), none⟩,
      ⟨some 34, .ext (.tm 30) 0, none⟩,
      ⟨some 35, .ext (.tm 30) 1, none⟩,
      ⟨some 9, .mov (.tm 34), none⟩,
      ⟨some 10, .mov (.tm 35), none⟩])
  (.seq (.ops [⟨some 37, .mov (.tm 0), none⟩,
      ⟨some 38, .mov (.tm 1), none⟩,
      ⟨some 39, .call (.fu 25) [(.tm 37), (.tm 38)], none⟩,
      ⟨some 36, .mov (.tm 39), none⟩,
      ⟨some 40, .ext (.tm 36) 0, none⟩,
      ⟨some 41, .ext (.tm 36) 1, none⟩,
      ⟨some 11, .mov (.tm 40), none⟩,
      ⟨some 12, .mov (.tm 41), none⟩])
  (.seq (.ops [⟨some 42, .mov (.tm 5), none⟩,
      ⟨some 43, .mov (.tm 7), none⟩,
      ⟨some 44, .bin .eql (.tm 42) (.tm 43), none⟩,
      ⟨some 45, .mov (.tm 44), none⟩,
      ⟨some 46, .mov (.tm 6), (some (45, true))⟩,
      ⟨some 47, .mov (.tm 8), (some (45, true))⟩,
      ⟨some 48, .bin .eql (.tm 46) (.tm 47), (some (45, true))⟩,
      ⟨some 49, .pick (.tm 45) (.tm 48) (.cn (.bool false)), none⟩,
      ⟨some 50, .mov (.tm 49), none⟩,
      ⟨some 51, .mov (.tm 9), (some (50, true))⟩,
      ⟨some 52, .mov (.tm 11), (some (50, true))⟩,
      ⟨some 53, .bin .eql (.tm 51) (.tm 52), (some (50, true))⟩,
      ⟨some 54, .pick (.tm 50) (.tm 53) (.cn (.bool false)), none⟩,
      ⟨some 55, .mov (.tm 54), none⟩,
      ⟨some 56, .mov (.tm 10), (some (55, true))⟩,
      ⟨some 57, .mov (.tm 12), (some (55, true))⟩,
      ⟨some 58, .bin .eql (.tm 56) (.tm 57), (some (55, true))⟩,
      ⟨some 59, .pick (.tm 55) (.tm 58) (.cn (.bool false)), none⟩,
      ⟨some 4, .mov (.tm 59), none⟩])
  .ret))))))))⟩
theorem comp8 : compF Tryd.prog Tryd.f8 ⟨false, [], [], [], []⟩ = some L8 := by kernel_rfl

def L9 : LFunc := ⟨69, 2, [.t 4], false, [], [],
  (.seq (.ops [⟨some 4, .mov (.cn (.bool false)), none⟩])
  (.seq (.seq (.ops [⟨some 9, .call (.fu 12) [], none⟩,
      ⟨some 10, .un .not (.tm 9), none⟩])
  (.cond (.tm 10)
  (.seq (.ops [⟨some 4, .mov (.cn (.bool false)), none⟩])
    .ret)
  .skip))
  (.seq (.seq (.ops [⟨some 11, .mov (.tm 0), none⟩,
      ⟨some 12, .slen (.tm 11), none⟩,
      ⟨some 13, .bin .gtr (.tm 12) (.cn (.int .i64 5000)), none⟩,
      ⟨some 14, .mov (.tm 13), none⟩,
      ⟨some 15, .mov (.tm 1), (some (14, false))⟩,
      ⟨some 16, .slen (.tm 15), (some (14, false))⟩,
      ⟨some 17, .bin .gtr (.tm 16) (.cn (.int .i64 5000)), (some (14, false))⟩,
      ⟨some 18, .pick (.tm 14) (.cn (.bool true)) (.tm 17), none⟩])
  (.cond (.tm 18)
  (.seq (.ops [⟨some 4, .mov (.cn (.bool true)), none⟩])
    .ret)
  .skip))
  (.seq (.ops [⟨some 20, .mov (.tm 0), none⟩,
      ⟨some 21, .call (.fu 27) [(.tm 20)], none⟩,
      ⟨some 22, .mov (.tm 1), none⟩,
      ⟨some 23, .call (.fu 26) [(.tm 21), (.tm 22), (.cn (.bool true))], none⟩,
      ⟨some 24, .call (.fu 22) [(.tm 23), (.cn (.int .i64 1073741824))], none⟩,
      ⟨some 19, .mov (.tm 24), none⟩,
      ⟨some 25, .ext (.tm 19) 0, none⟩,
      ⟨some 26, .ext (.tm 19) 1, none⟩,
      ⟨some 5, .mov (.tm 25), none⟩,
      ⟨some 6, .mov (.tm 26), none⟩])
  (.seq (.ops [⟨some 28, .mov (.tm 0), none⟩,
      ⟨some 29, .call (.fu 28) [(.tm 28)], none⟩,
      ⟨some 30, .mov (.tm 1), none⟩,
      ⟨some 31, .call (.fu 26) [(.tm 29), (.tm 30), (.cn (.bool false))], none⟩,
      ⟨some 32, .call (.fu 24) [(.tm 31), (.cn (.int .i64 1073741824))], none⟩,
      ⟨some 27, .mov (.tm 32), none⟩,
      ⟨some 33, .ext (.tm 27) 0, none⟩,
      ⟨some 34, .ext (.tm 27) 1, none⟩,
      ⟨some 7, .mov (.tm 33), none⟩,
      ⟨some 8, .mov (.tm 34), none⟩])
  (.seq (.seq (.ops [⟨some 35, .mov (.tm 5), none⟩,
      ⟨some 36, .mov (.tm 0), none⟩,
      ⟨some 37, .bin .neq (.tm 35) (.tm 36), none⟩,
      ⟨some 38, .mov (.tm 37), none⟩,
      ⟨some 39, .mov (.tm 6), (some (38, false))⟩,
      ⟨some 40, .bin .leq (.tm 39) (.cn (.int .i64 0)), (some (38, false))⟩,
      ⟨some 41, .pick (.tm 38) (.cn (.bool true)) (.tm 40), none⟩,
      ⟨some 42, .mov (.tm 41), none⟩,
      ⟨some 43, .mov (.tm 7), (some (42, false))⟩,
      ⟨some 44, .mov (.tm 0), (some (42, false))⟩,
      ⟨some 45, .bin .neq (.tm 43) (.tm 44), (some (42, false))⟩,
      ⟨some 46, .pick (.tm 42) (.cn (.bool true)) (.tm 45), none⟩,
      ⟨some 47, .mov (.tm 46), none⟩,
      ⟨some 48, .mov (.tm 8), (some (47, false))⟩,
      ⟨some 49, .bin .leq (.tm 48) (.cn (.int .i64 0)), (some (47, false))⟩,
      ⟨some 50, .pick (.tm 47) (.cn (.bool true)) (.tm 49), none⟩])
  (.cond (.tm 50)
  (.seq (.ops [⟨some 4, .mov (.cn (.bool false)), none⟩])
    .ret)
  .skip))
  (.seq (.ops [⟨some 51, .mov (.tm 0), none⟩,
      ⟨some 52, .call (.fu 27) [(.tm 51)], none⟩,
      ⟨some 53, .slen (.tm 52), none⟩,
      ⟨some 54, .mov (.tm 0), none⟩,
      ⟨some 55, .slen (.tm 54), none⟩,
      ⟨some 56, .bin .mul (.cn (.int .i64 2)) (.tm 55), none⟩,
      ⟨some 57, .bin .eql (.tm 53) (.tm 56), none⟩,
      ⟨some 58, .mov (.tm 57), none⟩,
      ⟨some 59, .mov (.tm 0), (some (58, true))⟩,
      ⟨some 60, .call (.fu 28) [(.tm 59)], (some (58, true))⟩,
      ⟨some 61, .slen (.tm 60), (some (58, true))⟩,
      ⟨some 62, .mov (.tm 0), (some (58, true))⟩,
      ⟨some 63, .slen (.tm 62), (some (58, true))⟩,
      ⟨some 64, .bin .add (.tm 63) (.cn (.int .i64 2)), (some (58, true))⟩,
      ⟨some 65, .bin .quo (.tm 64) (.cn (.int .i64 3)), (some (58, true))⟩,
      ⟨some 66, .bin .mul (.tm 65) (.cn (.int .i64 4)), (some (58, true))⟩,
      ⟨some 67, .bin .eql (.tm 61) (.tm 66), (some (58, true))⟩,
      ⟨some 68, .pick (.tm 58) (.tm 67) (.cn (.bool false)), none⟩,
      ⟨some 4, .mov (.tm 68), none⟩])
  .ret)))))))⟩
theorem comp9 : compF Tryd.prog Tryd.f9 ⟨false, [], [], [], []⟩ = some L9 := by kernel_rfl

def L10 : LFunc := ⟨89, 1, [.t 2], false, [], [],
  (.seq (.ops [⟨some 2, .mov (.cn (.bool false)), none⟩])
  (.seq (.seq (.ops [⟨some 9, .call (.fu 12) [], none⟩,
      ⟨some 10, .un .not (.tm 9), none⟩])
  (.cond (.tm 10)
  (.seq (.ops [⟨some 2, .mov (.cn (.bool false)), none⟩])
    .ret)
  .skip))
  (.seq (.seq (.ops [⟨some 11, .mov (.tm 0), none⟩,
      ⟨some 12, .slen (.tm 11), none⟩,
      ⟨some 13, .bin .gtr (.tm 12) (.cn (.int .i64 5000)), none⟩])
  (.cond (.tm 13)
  (.seq (.ops [⟨some 2, .mov (.cn (.bool true)), none⟩])
    .ret)
  .skip))
  (.seq (.ops [⟨some 14, .mov (.tm 0), none⟩,
      ⟨some 15, .call (.fu 29) [(.tm 14)], none⟩,
      ⟨some 3, .mov (.tm 15), none⟩])
  (.seq (.ops [⟨some 17, .mov (.tm 3), none⟩,
      ⟨some 18, .call (.fu 30) [(.tm 17)], none⟩,
      ⟨some 16, .mov (.tm 18), none⟩,
      ⟨some 19, .ext (.tm 16) 0, none⟩,
      ⟨some 20, .ext (.tm 16) 1, none⟩,
      ⟨some 4, .mov (.tm 19), none⟩,
      ⟨some 5, .mov (.tm 20), none⟩])
  (.seq (.seq (.ops [⟨some 21, .mov (.tm 5), none⟩,
      ⟨some 22, .un .not (.tm 21), none⟩,
      ⟨some 23, .mov (.tm 22), none⟩,
      ⟨some 24, .mov (.tm 4), (some (23, false))⟩,
      ⟨some 25, .mov (.tm 0), (some (23, false))⟩,
      ⟨some 26, .bin .neq (.tm 24) (.tm 25), (some (23, false))⟩,
      ⟨some 27, .pick (.tm 23) (.cn (.bool true)) (.tm 26), none⟩,
      ⟨some 28, .mov (.tm 27), none⟩,
      ⟨some 29, .mov (.tm 3), (some (28, false))⟩,
      ⟨some 30, .mov (.tm 0), (some (28, false))⟩,
      ⟨some 31, .call (.fu 31) [(.tm 30)], (some (28, false))⟩,
      ⟨some 32, .bin .neq (.tm 29) (.tm 31), (some (28, false))⟩,
      ⟨some 33, .pick (.tm 28) (.cn (.bool true)) (.tm 32), none⟩])
  (.cond (.tm 33)
  (.seq (.ops [⟨some 2, .mov (.cn (.bool false)), none⟩])
    .ret)
  .skip))
  (.seq (.seq (.ops [⟨some 6, .mov (.cn (.int .i64 0)), none⟩])
  (.block 0
  (.loop [0, 3, 6]
    (.seq (.seq (.ops [⟨some 34, .mov (.tm 6), none⟩,
      ⟨some 35, .mov (.tm 3), none⟩,
      ⟨some 36, .slen (.tm 35), none⟩,
      ⟨some 37, .bin .lss (.tm 34) (.tm 36), none⟩])
      (.cond (.tm 37)
      .skip
      (.exit 0)))
      (.seq (.block 1
      (.seq (.ops [⟨some 40, .mov (.tm 3), none⟩,
      ⟨some 41, .mov (.tm 6), none⟩,
      ⟨some 42, .ixs (.tm 40) (.tm 41), none⟩,
      ⟨some 43, .bin .lss (.tm 42) (.cn (.int .u8 33)), none⟩,
      ⟨some 44, .mov (.tm 43), none⟩,
      ⟨some 45, .mov (.tm 3), (some (44, false))⟩,
      ⟨some 46, .mov (.tm 6), (some (44, false))⟩,
      ⟨some 47, .ixs (.tm 45) (.tm 46), (some (44, false))⟩,
      ⟨some 48, .bin .gtr (.tm 47) (.cn (.int .u8 126)), (some (44, false))⟩,
      ⟨some 49, .pick (.tm 44) (.cn (.bool true)) (.tm 48), none⟩,
      ⟨some 50, .mov (.tm 49), none⟩,
      ⟨some 51, .mov (.tm 3), (some (50, false))⟩,
      ⟨some 52, .mov (.tm 6), (some (50, false))⟩,
      ⟨some 53, .ixs (.tm 51) (.tm 52), (some (50, false))⟩,
      ⟨some 54, .bin .eql (.tm 53) (.cn (.int .u8 34)), (some (50, false))⟩,
      ⟨some 55, .mov (.tm 6), (some (50, false))⟩,
      ⟨some 56, .bin .eql (.tm 55) (.cn (.int .i64 0)), (some (50, false))⟩,
      ⟨some 57, .mov (.tm 56), (some (50, false))⟩,
      ⟨some 58, .mov (.tm 6), (some (57, false))⟩,
      ⟨some 59, .mov (.tm 3), (some (57, false))⟩,
      ⟨some 60, .slen (.tm 59), (some (57, false))⟩,
      ⟨some 61, .bin .sub (.tm 60) (.cn (.int .i64 1)), (some (57, false))⟩,
      ⟨some 62, .bin .eql (.tm 58) (.tm 61), (some (57, false))⟩,
      ⟨some 63, .pick (.tm 57) (.cn (.bool true)) (.tm 62), (some (50, false))⟩,
      ⟨some 64, .beq true (.tm 54) (.tm 63), (some (50, false))⟩,
      ⟨some 65, .pick (.tm 50) (.cn (.bool true)) (.tm 64), none⟩])
        (.cond (.tm 65)
        (.seq (.ops [⟨some 2, .mov (.cn (.bool false)), none⟩])
          .ret)
        .skip)))
      (.ops [⟨some 38, .mov (.tm 6), none⟩,
      ⟨some 39, .bin .add (.tm 38) (.cn (.int .i64 1)), none⟩,
      ⟨some 6, .mov (.tm 39), none⟩]))))))
  (.seq (.ops [⟨some 67, .mov (.tm 0), none⟩,
      ⟨some 68, .call (.fu 30) [(.tm 67)], none⟩,
      ⟨some 66, .mov (.tm 68), none⟩,
      ⟨some 69, .ext (.tm 66) 0, none⟩,
      ⟨some 70, .ext (.tm 66) 1, none⟩,
      ⟨some 7, .mov (.tm 69), none⟩,
      ⟨some 8, .mov (.tm 70), none⟩])
  (.seq (.ops [⟨some 71, .mov (.tm 8), none⟩,
      ⟨some 72, .mov (.tm 0), none⟩,
      ⟨some 73, .slen (.tm 72), none⟩,
      ⟨some 74, .bin .gtr (.tm 73) (.cn (.int .i64 0)), none⟩,
      ⟨some 75, .mov (.tm 74), none⟩,
      ⟨some 76, .mov (.tm 7), (some (75, true))⟩,
      ⟨some 77, .call (.fu 29) [(.tm 76)], (some (75, true))⟩,
      ⟨some 78, .mov (.tm 0), (some (75, true))⟩,
      ⟨some 79, .bin .eql (.tm 77) (.tm 78), (some (75, true))⟩,
      ⟨some 80, .pick (.tm 75) (.tm 79) (.cn (.bool false)), none⟩,
      ⟨some 81, .beq false (.tm 71) (.tm 80), none⟩,
      ⟨some 82, .mov (.tm 81), none⟩,
      ⟨some 83, .mov (.tm 8), (some (82, true))⟩,
      ⟨some 84, .mov (.tm 83), (some (82, true))⟩,
      ⟨some 85, .mov (.tm 7), (some (84, false))⟩,
      ⟨some 86, .bin .eql (.tm 85) (.cn (.string ⟨#[]⟩)), (some (84, false))⟩,
      ⟨some 87, .pick (.tm 84) (.cn (.bool true)) (.tm 86), (some (82, true))⟩,
      ⟨some 88, .pick (.tm 82) (.tm 87) (.cn (.bool false)), none⟩,
      ⟨some 2, .mov (.tm 88), none⟩])
  .ret)))))))))⟩
theorem comp10 : compF Tryd.prog Tryd.f10 ⟨false, [], [([], [0, 3, 6])], [], []⟩ = some L10 := by kernel_rfl

def L11 : LFunc := ⟨54, 2, [.t 4], false, [], [],
  (.seq (.ops [⟨some 4, .mov (.cn (.bool false)), none⟩])
  (.seq (.seq (.ops [⟨some 10, .call (.fu 12) [], none⟩,
      ⟨some 11, .un .not (.tm 10), none⟩])
  (.cond (.tm 11)
  (.seq (.ops [⟨some 4, .mov (.cn (.bool false)), none⟩])
    .ret)
  .skip))
  (.seq (.seq (.ops [⟨some 12, .mov (.tm 1), none⟩,
      ⟨some 13, .slen (.tm 12), none⟩,
      ⟨some 14, .bin .gtr (.tm 13) (.cn (.int .i64 5000)), none⟩])
  (.cond (.tm 14)
  (.seq (.ops [⟨some 4, .mov (.cn (.bool true)), none⟩])
    .ret)
  .skip))
  (.seq (.ops [⟨some 15, .mov (.tm 0), none⟩,
      ⟨some 16, .call (.fu 32) [(.tm 15)], none⟩,
      ⟨some 5, .mov (.tm 16), none⟩])
  (.seq (.ops [⟨some 18, .mov (.tm 5), none⟩,
      ⟨some 19, .call (.fu 33) [(.tm 18)], none⟩,
      ⟨some 17, .mov (.tm 19), none⟩,
      ⟨some 20, .ext (.tm 17) 0, none⟩,
      ⟨some 21, .ext (.tm 17) 1, none⟩,
      ⟨some 6, .mov (.tm 20), none⟩,
      ⟨some 7, .mov (.tm 21), none⟩])
  (.seq (.ops [⟨some 23, .mov (.tm 1), none⟩,
      ⟨some 24, .call (.fu 33) [(.tm 23)], none⟩,
      ⟨some 22, .mov (.tm 24), none⟩,
      ⟨some 25, .ext (.tm 22) 0, none⟩,
      ⟨some 26, .ext (.tm 22) 1, none⟩,
      ⟨some 8, .mov (.tm 25), none⟩,
      ⟨some 9, .mov (.tm 26), none⟩])
  (.seq (.ops [⟨some 27, .mov (.tm 7), none⟩,
      ⟨some 28, .mov (.tm 27), none⟩,
      ⟨some 29, .mov (.tm 6), (some (28, true))⟩,
      ⟨some 30, .mov (.tm 0), (some (28, true))⟩,
      ⟨some 31, .bin .eql (.tm 29) (.tm 30), (some (28, true))⟩,
      ⟨some 32, .pick (.tm 28) (.tm 31) (.cn (.bool false)), none⟩,
      ⟨some 33, .mov (.tm 32), none⟩,
      ⟨some 34, .mov (.tm 5), (some (33, true))⟩,
      ⟨some 35, .mov (.tm 0), (some (33, true))⟩,
      ⟨some 36, .call (.fu 34) [(.tm 35)], (some (33, true))⟩,
      ⟨some 37, .bin .eql (.tm 34) (.tm 36), (some (33, true))⟩,
      ⟨some 38, .pick (.tm 33) (.tm 37) (.cn (.bool false)), none⟩,
      ⟨some 39, .mov (.tm 38), none⟩,
      ⟨some 40, .mov (.tm 9), (some (39, true))⟩,
      ⟨some 41, .mov (.tm 8), (some (39, true))⟩,
      ⟨some 42, .call (.fu 32) [(.tm 41)], (some (39, true))⟩,
      ⟨some 43, .mov (.tm 1), (some (39, true))⟩,
      ⟨some 44, .bin .eql (.tm 42) (.tm 43), (some (39, true))⟩,
      ⟨some 45, .beq false (.tm 40) (.tm 44), (some (39, true))⟩,
      ⟨some 46, .pick (.tm 39) (.tm 45) (.cn (.bool false)), none⟩,
      ⟨some 47, .mov (.tm 46), none⟩,
      ⟨some 48, .mov (.tm 9), (some (47, true))⟩,
      ⟨some 49, .mov (.tm 48), (some (47, true))⟩,
      ⟨some 50, .mov (.tm 8), (some (49, false))⟩,
      ⟨some 51, .bin .eql (.tm 50) (.cn (.int .i64 0)), (some (49, false))⟩,
      ⟨some 52, .pick (.tm 49) (.cn (.bool true)) (.tm 51), (some (47, true))⟩,
      ⟨some 53, .pick (.tm 47) (.tm 52) (.cn (.bool false)), none⟩,
      ⟨some 4, .mov (.tm 53), none⟩])
  .ret)))))))⟩
theorem comp11 : compF Tryd.prog Tryd.f11 ⟨false, [], [], [], []⟩ = some L11 := by kernel_rfl

def L12 : LFunc := ⟨106, 0, [.t 0], false, [], [],
  (.seq (.ops [⟨some 0, .mov (.cn (.bool false)), none⟩])
  (.seq (.ops [⟨some 14, .call (.fu 13) [(.cn (.int .i64 5)), (.cn (.int .i64 3))], none⟩,
      ⟨some 13, .mov (.tm 14), none⟩,
      ⟨some 15, .ext (.tm 13) 0, none⟩,
      ⟨some 16, .ext (.tm 13) 1, none⟩,
      ⟨some 1, .mov (.tm 15), none⟩,
      ⟨some 2, .mov (.tm 16), none⟩])
  (.seq (.ops [⟨some 18, .call (.fu 13) [(.cn (.int .i64 5)), (.cn (.int .i64 6))], none⟩,
      ⟨some 17, .mov (.tm 18), none⟩,
      ⟨some 19, .ext (.tm 17) 0, none⟩,
      ⟨some 20, .ext (.tm 17) 1, none⟩,
      ⟨some 3, .mov (.tm 19), none⟩,
      ⟨some 4, .mov (.tm 20), none⟩])
  (.seq (.seq (.ops [⟨some 21, .call (.fu 15) [(.cn (.int .i64 100))], none⟩,
      ⟨some 22, .bin .neq (.tm 21) (.cn (.int .i64 24000)), none⟩,
      ⟨some 23, .mov (.tm 22), none⟩,
      ⟨some 24, .mov (.tm 1), (some (23, false))⟩,
      ⟨some 25, .bin .neq (.tm 24) (.cn (.int .i64 2)), (some (23, false))⟩,
      ⟨some 26, .pick (.tm 23) (.cn (.bool true)) (.tm 25), none⟩,
      ⟨some 27, .mov (.tm 26), none⟩,
      ⟨some 28, .mov (.tm 2), (some (27, false))⟩,
      ⟨some 29, .un .not (.tm 28), (some (27, false))⟩,
      ⟨some 30, .pick (.tm 27) (.cn (.bool true)) (.tm 29), none⟩,
      ⟨some 31, .mov (.tm 30), none⟩,
      ⟨some 32, .mov (.tm 3), (some (31, false))⟩,
      ⟨some 33, .bin .neq (.tm 32) (.cn (.int .i64 0)), (some (31, false))⟩,
      ⟨some 34, .pick (.tm 31) (.cn (.bool true)) (.tm 33), none⟩,
      ⟨some 35, .mov (.tm 34), none⟩,
      ⟨some 36, .mov (.tm 4), (some (35, false))⟩,
      ⟨some 37, .pick (.tm 35) (.cn (.bool true)) (.tm 36), none⟩,
      ⟨some 38, .mov (.tm 37), none⟩,
      ⟨some 39, .call (.fu 17) [(.cn (.string ⟨#[49, 50, 51, 52, 53, 54, 55, 56, 57]⟩))], (some (38, false))⟩,
      ⟨some 40, .bin .neq (.tm 39) (.cn (.int .i64 3421780262)), (some (38, false))⟩,
      ⟨some 41, .pick (.tm 38) (.cn (.bool true)) (.tm 40), none⟩,
      ⟨some 42, .mov (.tm 41), none⟩,
      ⟨some 43, .call (.fu 19) [(.cn (.string ⟨#[97]⟩))], (some (42, false))⟩,
      ⟨some 44, .bin .neq (.tm 43) (.cn (.string ⟨#[97, 102, 54, 51, 100, 99, 52, 99, 56, 54, 48, 49, 101, 99, 56, 99]⟩)), (some (42, false))⟩,
      ⟨some 45, .pick (.tm 42) (.cn (.bool true)) (.tm 44), none⟩])
  (.cond (.tm 45)
  (.seq (.ops [⟨some 0, .mov (.cn (.bool false)), none⟩])
    .ret)
  .skip))
  (.seq (.ops [⟨some 47, .call (.fu 22) [(.cn (.string ⟨#[52, 32, 49, 45, 55, 65, 32, 102]⟩)), (.cn (.int .i64 100))], none⟩,
      ⟨some 46, .mov (.tm 47), none⟩,
      ⟨some 48, .ext (.tm 46) 0, none⟩,
      ⟨some 49, .ext (.tm 46) 1, none⟩,
      ⟨some 5, .mov (.tm 48), none⟩,
      ⟨some 6, .mov (.tm 49), none⟩])
  (.seq (.ops [⟨some 51, .call (.fu 24) [(.cn (.string ⟨#[89, 87, 74, 106, 90]⟩)), (.cn (.int .i64 9))], none⟩,
      ⟨some 50, .mov (.tm 51), none⟩,
      ⟨some 52, .ext (.tm 50) 0, none⟩,
      ⟨some 53, .ext (.tm 50) 1, none⟩,
      ⟨some 7, .mov (.tm 52), none⟩,
      ⟨some 8, .mov (.tm 53), none⟩])
  (.seq (.seq (.ops [⟨some 54, .mov (.tm 5), none⟩,
      ⟨some 55, .bin .neq (.tm 54) (.cn (.string ⟨#[65, 122]⟩)), none⟩,
      ⟨some 56, .mov (.tm 55), none⟩,
      ⟨some 57, .mov (.tm 6), (some (56, false))⟩,
      ⟨some 58, .bin .neq (.tm 57) (.cn (.int .i64 92)), (some (56, false))⟩,
      ⟨some 59, .pick (.tm 56) (.cn (.bool true)) (.tm 58), none⟩,
      ⟨some 60, .mov (.tm 59), none⟩,
      ⟨some 61, .mov (.tm 7), (some (60, false))⟩,
      ⟨some 62, .bin .neq (.tm 61) (.cn (.string ⟨#[97, 98, 99]⟩)), (some (60, false))⟩,
      ⟨some 63, .pick (.tm 60) (.cn (.bool true)) (.tm 62), none⟩,
      ⟨some 64, .mov (.tm 63), none⟩,
      ⟨some 65, .mov (.tm 8), (some (64, false))⟩,
      ⟨some 66, .bin .neq (.tm 65) (.cn (.int .i64 4)), (some (64, false))⟩,
      ⟨some 67, .pick (.tm 64) (.cn (.bool true)) (.tm 66), none⟩,
      ⟨some 68, .mov (.tm 67), none⟩,
      ⟨some 69, .call (.fu 27) [(.cn (.string ⟨#[65, 122]⟩))], (some (68, false))⟩,
      ⟨some 70, .bin .neq (.tm 69) (.cn (.string ⟨#[52, 49, 55, 97]⟩)), (some (68, false))⟩,
      ⟨some 71, .pick (.tm 68) (.cn (.bool true)) (.tm 70), none⟩,
      ⟨some 72, .mov (.tm 71), none⟩,
      ⟨some 73, .call (.fu 28) [(.cn (.string ⟨#[97, 98]⟩))], (some (72, false))⟩,
      ⟨some 74, .bin .neq (.tm 73) (.cn (.string ⟨#[89, 87, 73, 61]⟩)), (some (72, false))⟩,
      ⟨some 75, .pick (.tm 72) (.cn (.bool true)) (.tm 74), none⟩])
  (.cond (.tm 75)
  (.seq (.ops [⟨some 0, .mov (.cn (.bool false)), none⟩])
    .ret)
  .skip))
  (.seq (.ops [⟨some 77, .call (.fu 30) [(.cn (.string ⟨#[34, 97, 92, 50, 50, 34]⟩))], none⟩,
      ⟨some 76, .mov (.tm 77), none⟩,
      ⟨some 78, .ext (.tm 76) 0, none⟩,
      ⟨some 79, .ext (.tm 76) 1, none⟩,
      ⟨some 9, .mov (.tm 78), none⟩,
      ⟨some 10, .mov (.tm 79), none⟩])
  (.seq (.ops [⟨some 81, .call (.fu 33) [(.cn (.string ⟨#[45, 49, 50]⟩))], none⟩,
      ⟨some 80, .mov (.tm 81), none⟩,
      ⟨some 82, .ext (.tm 80) 0, none⟩,
      ⟨some 83, .ext (.tm 80) 1, none⟩,
      ⟨some 11, .mov (.tm 82), none⟩,
      ⟨some 12, .mov (.tm 83), none⟩])
  (.seq (.ops [⟨some 84, .mov (.tm 10), none⟩,
      ⟨some 85, .mov (.tm 84), none⟩,
      ⟨some 86, .mov (.tm 9), (some (85, true))⟩,
      ⟨some 87, .bin .eql (.tm 86) (.cn (.string ⟨#[97, 34]⟩)), (some (85, true))⟩,
      ⟨some 88, .pick (.tm 85) (.tm 87) (.cn (.bool false)), none⟩,
      ⟨some 89, .mov (.tm 88), none⟩,
      ⟨some 90, .mov (.tm 9), (some (89, true))⟩,
      ⟨some 91, .call (.fu 29) [(.tm 90)], (some (89, true))⟩,
      ⟨some 92, .bin .eql (.tm 91) (.cn (.string ⟨#[34, 97, 92, 50, 50, 34]⟩)), (some (89, true))⟩,
      ⟨some 93, .pick (.tm 89) (.tm 92) (.cn (.bool false)), none⟩,
      ⟨some 94, .mov (.tm 93), none⟩,
      ⟨some 95, .mov (.tm 12), (some (94, true))⟩,
      ⟨some 96, .pick (.tm 94) (.tm 95) (.cn (.bool false)), none⟩,
      ⟨some 97, .mov (.tm 96), none⟩,
      ⟨some 98, .mov (.tm 11), (some (97, true))⟩,
      ⟨some 99, .bin .eql (.tm 98) (.cn (.int .i64 (-12))), (some (97, true))⟩,
      ⟨some 100, .pick (.tm 97) (.tm 99) (.cn (.bool false)), none⟩,
      ⟨some 101, .mov (.tm 100), none⟩,
      ⟨some 102, .mov (.tm 11), (some (101, true))⟩,
      ⟨some 103, .call (.fu 32) [(.tm 102)], (some (101, true))⟩,
      ⟨some 104, .bin .eql (.tm 103) (.cn (.string ⟨#[45, 49, 50]⟩)), (some (101, true))⟩,
      ⟨some 105, .pick (.tm 101) (.tm 104) (.cn (.bool false)), none⟩,
      ⟨some 0, .mov (.tm 105), none⟩])
  .ret))))))))))⟩
theorem comp12 : compF Tryd.prog Tryd.f12 ⟨false, [], [], [], []⟩ = some L12 := by kernel_rfl

def L13 : LFunc := ⟨16, 2, [.t 4, .t 5], false, [], [],
  (.seq (.ops [⟨some 4, .mov (.cn (.int .i64 0)), none⟩,
      ⟨some 5, .mov (.cn (.bool false)), none⟩])
  (.seq (.ops [⟨some 6, .mov (.tm 0), none⟩,
      ⟨some 7, .mx [(.tm 6), (.cn (.int .i64 0))], none⟩,
      ⟨some 8, .mov (.tm 1), none⟩,
      ⟨some 9, .mx [(.tm 8), (.cn (.int .i64 0))], none⟩,
      ⟨some 0, .mov (.tm 7), none⟩,
      ⟨some 1, .mov (.tm 9), none⟩])
  (.seq (.seq (.ops [⟨some 10, .mov (.tm 1), none⟩,
      ⟨some 11, .mov (.tm 0), none⟩,
      ⟨some 12, .bin .gtr (.tm 10) (.tm 11), none⟩])
  (.cond (.tm 12)
  (.seq (.ops [⟨some 4, .mov (.cn (.int .i64 0)), none⟩,
      ⟨some 5, .mov (.cn (.bool false)), none⟩])
    .ret)
  .skip))
  (.seq (.ops [⟨some 13, .mov (.tm 0), none⟩,
      ⟨some 14, .mov (.tm 1), none⟩,
      ⟨some 15, .bin .sub (.tm 13) (.tm 14), none⟩,
      ⟨some 4, .mov (.tm 15), none⟩,
      ⟨some 5, .mov (.cn (.bool true)), none⟩])
  .ret))))⟩
theorem comp13 : compF Tryd.prog Tryd.f13 ⟨false, [], [], [], []⟩ = some L13 := by kernel_rfl

def L14 : LFunc := ⟨16, 2, [.t 4, .t 5], false, [], [],
  (.seq (.ops [⟨some 4, .mov (.cn (.int .i64 0)), none⟩,
      ⟨some 5, .mov (.cn (.bool false)), none⟩])
  (.seq (.ops [⟨some 6, .mov (.tm 0), none⟩,
      ⟨some 7, .mx [(.tm 6), (.cn (.int .i64 0))], none⟩,
      ⟨some 8, .mov (.tm 1), none⟩,
      ⟨some 9, .mx [(.tm 8), (.cn (.int .i64 0))], none⟩,
      ⟨some 0, .mov (.tm 7), none⟩,
      ⟨some 1, .mov (.tm 9), none⟩])
  (.seq (.seq (.ops [⟨some 10, .mov (.tm 1), none⟩,
      ⟨some 11, .mov (.tm 0), none⟩,
      ⟨some 12, .bin .gtr (.tm 10) (.tm 11), none⟩])
  (.cond (.tm 12)
  (.seq (.ops [⟨some 4, .mov (.cn (.int .i64 0)), none⟩,
      ⟨some 5, .mov (.cn (.bool false)), none⟩])
    .ret)
  .skip))
  (.seq (.ops [⟨some 13, .mov (.tm 0), none⟩,
      ⟨some 14, .mov (.tm 1), none⟩,
      ⟨some 15, .bin .sub (.tm 13) (.tm 14), none⟩,
      ⟨some 4, .mov (.tm 15), none⟩,
      ⟨some 5, .mov (.cn (.bool true)), none⟩])
  .ret))))⟩
theorem comp14 : compF Tryd.prog Tryd.f14 ⟨false, [], [], [], []⟩ = some L14 := by kernel_rfl

def L15 : LFunc := ⟨10, 1, [.t 2], false, [], [],
  (.seq (.ops [⟨some 2, .mov (.cn (.int .i64 0)), none⟩])
  (.seq (.seq (.ops [⟨some 3, .mov (.tm 0), none⟩,
      ⟨some 4, .bin .leq (.tm 3) (.cn (.int .i64 0)), none⟩])
  (.cond (.tm 4)
  (.seq (.ops [⟨some 2, .mov (.cn (.int .i64 20000)), none⟩])
    .ret)
  .skip))
  (.seq (.seq (.ops [⟨some 5, .mov (.tm 0), none⟩,
      ⟨some 6, .bin .gtr (.tm 5) (.cn (.int .i64 53686591)), none⟩])
  (.cond (.tm 6)
  (.seq (.ops [⟨some 2, .mov (.cn (.int .i64 2147483647)), none⟩])
    .ret)
  .skip))
  (.seq (.ops [⟨some 7, .mov (.tm 0), none⟩,
      ⟨some 8, .bin .mul (.cn (.int .i64 40)) (.tm 7), none⟩,
      ⟨some 9, .bin .add (.cn (.int .i64 20000)) (.tm 8), none⟩,
      ⟨some 2, .mov (.tm 9), none⟩])
  .ret))))⟩
theorem comp15 : compF Tryd.prog Tryd.f15 ⟨false, [], [], [], []⟩ = some L15 := by kernel_rfl

def L16 : LFunc := ⟨11, 1, [.t 2], false, [], [],
  (.seq (.ops [⟨some 2, .mov (.cn (.int .i64 0)), none⟩])
  (.seq (.seq (.ops [⟨some 3, .mov (.tm 0), none⟩,
      ⟨some 4, .bin .lss (.tm 3) (.cn (.int .i64 0)), none⟩])
  (.cond (.tm 4)
  (.seq (.ops [⟨some 2, .mov (.cn (.int .i64 20000)), none⟩])
    .ret)
  .skip))
  (.seq (.seq (.ops [⟨some 5, .mov (.tm 0), none⟩,
      ⟨some 6, .bin .gtr (.tm 5) (.cn (.int .i64 53686591)), none⟩])
  (.cond (.tm 6)
  (.seq (.ops [⟨some 2, .mov (.cn (.int .i64 2147483647)), none⟩])
    .ret)
  .skip))
  (.seq (.ops [⟨some 7, .mov (.tm 0), none⟩,
      ⟨some 8, .bin .mul (.cn (.int .i64 40)) (.tm 7), none⟩,
      ⟨some 9, .bin .add (.cn (.int .i64 20000)) (.tm 8), none⟩,
      ⟨some 10, .mn [(.tm 9), (.cn (.int .i64 2147483647))], none⟩,
      ⟨some 2, .mov (.tm 10), none⟩])
  .ret))))⟩
theorem comp16 : compF Tryd.prog Tryd.f16 ⟨false, [], [], [], []⟩ = some L16 := by kernel_rfl

def L17 : LFunc := ⟨34, 1, [.t 2], false, [], [],
  (.seq (.ops [⟨some 2, .mov (.cn (.int .i64 0)), none⟩])
  (.seq (.ops [⟨some 3, .mov (.cn (.int .u32 4294967295)), none⟩])
  (.seq (.seq (.ops [⟨some 5, .mov (.tm 0), none⟩,
      ⟨some 6, .slen (.tm 5), none⟩,
      ⟨some 7, .mov (.cn (.int .i64 0)), none⟩])
  (.block 0
  (.loop [0, 3, 6, 7]
    (.seq (.ops [⟨some 8, .bin .lss (.tm 7) (.tm 6), none⟩])
      (.seq (.cond (.tm 8)
      .skip
      (.exit 0))
      (.seq (.block 1
      (.seq (.ops [⟨some 9, .mov (.tm 7), none⟩,
      ⟨some 4, .mov (.tm 9), none⟩])
        (.seq (.ops [⟨some 10, .mov (.tm 3), none⟩,
      ⟨some 11, .mov (.tm 0), none⟩,
      ⟨some 12, .mov (.tm 4), none⟩,
      ⟨some 13, .ixs (.tm 11) (.tm 12), none⟩,
      ⟨some 14, .conv .u32 (.tm 13), none⟩,
      ⟨some 15, .bin .xor (.tm 10) (.tm 14), none⟩,
      ⟨some 3, .mov (.tm 15), none⟩])
        (.seq (.ops [⟨some 16, .mov (.tm 3), none⟩,
      ⟨some 17, .bin .shr (.tm 16) (.cn (.int .u64 4)), none⟩,
      ⟨some 18, .mov (.tm 3), none⟩,
      ⟨some 19, .bin .and (.tm 18) (.cn (.int .u32 15)), none⟩,
      ⟨some 20, .ixp 16 1 (.gl 0) (.tm 19), none⟩,
      ⟨some 21, .load none (.tm 20), none⟩,
      ⟨some 22, .bin .xor (.tm 17) (.tm 21), none⟩,
      ⟨some 3, .mov (.tm 22), none⟩])
        (.ops [⟨some 23, .mov (.tm 3), none⟩,
      ⟨some 24, .bin .shr (.tm 23) (.cn (.int .u64 4)), none⟩,
      ⟨some 25, .mov (.tm 3), none⟩,
      ⟨some 26, .bin .and (.tm 25) (.cn (.int .u32 15)), none⟩,
      ⟨some 27, .ixp 16 1 (.gl 0) (.tm 26), none⟩,
      ⟨some 28, .load none (.tm 27), none⟩,
      ⟨some 29, .bin .xor (.tm 24) (.tm 28), none⟩,
      ⟨some 3, .mov (.tm 29), none⟩])))))
      (.ops [⟨some 30, .bin .add (.tm 7) (.cn (.int .i64 1)), none⟩,
      ⟨some 7, .mov (.tm 30), none⟩])))))))
  (.seq (.ops [⟨some 31, .mov (.tm 3), none⟩,
      ⟨some 32, .un .xor (.tm 31), none⟩,
      ⟨some 33, .conv .i64 (.tm 32), none⟩,
      ⟨some 2, .mov (.tm 33), none⟩])
  .ret))))⟩
theorem comp17 : compF Tryd.prog Tryd.f17 ⟨false, [], [([], [0, 3, 6, 7])], [], []⟩ = some L17 := by kernel_rfl

def L18 : LFunc := ⟨33, 1, [.t 2], false, [], [],
  (.seq (.ops [⟨some 2, .mov (.cn (.int .i64 0)), none⟩])
  (.seq (.ops [⟨some 3, .mov (.cn (.int .u32 4294967295)), none⟩])
  (.seq (.seq (.ops [⟨some 4, .mov (.cn (.int .i64 0)), none⟩])
  (.block 0
  (.loop [0, 3, 4]
    (.seq (.seq (.ops [⟨some 6, .mov (.tm 4), none⟩,
      ⟨some 7, .mov (.tm 0), none⟩,
      ⟨some 8, .slen (.tm 7), none⟩,
      ⟨some 9, .bin .lss (.tm 6) (.tm 8), none⟩])
      (.cond (.tm 9)
      .skip
      (.exit 0)))
      (.seq (.block 1
      (.seq (.ops [⟨some 12, .mov (.tm 3), none⟩,
      ⟨some 13, .mov (.tm 0), none⟩,
      ⟨some 14, .mov (.tm 4), none⟩,
      ⟨some 15, .ixs (.tm 13) (.tm 14), none⟩,
      ⟨some 16, .conv .u32 (.tm 15), none⟩,
      ⟨some 17, .bin .xor (.tm 12) (.tm 16), none⟩,
      ⟨some 3, .mov (.tm 17), none⟩])
        (.seq (.ops [⟨some 5, .mov (.cn (.int .i64 0)), none⟩])
        (.block 2
        (.loop [0, 3, 4, 5]
          (.seq (.seq (.ops [⟨some 18, .mov (.tm 5), none⟩,
      ⟨some 19, .bin .lss (.tm 18) (.cn (.int .i64 8)), none⟩])
            (.cond (.tm 19)
            .skip
            (.exit 2)))
            (.seq (.block 3
            (.seq (.ops [⟨some 22, .mov (.tm 3), none⟩,
      ⟨some 23, .bin .and (.tm 22) (.cn (.int .u32 1)), none⟩,
      ⟨some 24, .bin .eql (.tm 23) (.cn (.int .u32 1)), none⟩])
              (.cond (.tm 24)
              (.ops [⟨some 25, .mov (.tm 3), none⟩,
      ⟨some 26, .bin .shr (.tm 25) (.cn (.int .u64 1)), none⟩,
      ⟨some 27, .bin .xor (.tm 26) (.cn (.int .u32 3988292384)), none⟩,
      ⟨some 3, .mov (.tm 27), none⟩])
              (.ops [⟨some 28, .mov (.tm 3), none⟩,
      ⟨some 29, .bin .shr (.tm 28) (.cn (.int .u64 1)), none⟩,
      ⟨some 3, .mov (.tm 29), none⟩]))))
            (.ops [⟨some 20, .mov (.tm 5), none⟩,
      ⟨some 21, .bin .add (.tm 20) (.cn (.int .i64 1)), none⟩,
      ⟨some 5, .mov (.tm 21), none⟩]))))))))
      (.ops [⟨some 10, .mov (.tm 4), none⟩,
      ⟨some 11, .bin .add (.tm 10) (.cn (.int .i64 1)), none⟩,
      ⟨some 4, .mov (.tm 11), none⟩]))))))
  (.seq (.ops [⟨some 30, .mov (.tm 3), none⟩,
      ⟨some 31, .bin .xor (.tm 30) (.cn (.int .u32 4294967295)), none⟩,
      ⟨some 32, .conv .i64 (.tm 31), none⟩,
      ⟨some 2, .mov (.tm 32), none⟩])
  .ret))))⟩
theorem comp18 : compF Tryd.prog Tryd.f18 ⟨false, [], [([], [0, 3, 4]), ([], [0, 3, 4, 5])], [], []⟩ = some L18 := by kernel_rfl

def L19 : LFunc := ⟨27, 1, [.t 2], false, [], [],
  (.seq (.ops [⟨some 2, .mov (.cn (.string ⟨#[]⟩)), none⟩])
  (.seq (.ops [⟨some 3, .mov (.cn (.int .u64 14695981039346656037)), none⟩])
  (.seq (.seq (.ops [⟨some 6, .mov (.tm 0), none⟩,
      ⟨some 7, .slen (.tm 6), none⟩,
      ⟨some 8, .mov (.cn (.int .i64 0)), none⟩])
  (.block 0
  (.loop [0, 3, 7, 8]
    (.seq (.ops [⟨some 9, .bin .lss (.tm 8) (.tm 7), none⟩])
      (.seq (.cond (.tm 9)
      .skip
      (.exit 0))
      (.seq (.block 1
      (.seq (.ops [⟨some 10, .mov (.tm 8), none⟩,
      ⟨some 4, .mov (.tm 10), none⟩])
        (.ops [⟨some 11, .mov (.tm 3), none⟩,
      ⟨some 12, .mov (.tm 0), none⟩,
      ⟨some 13, .mov (.tm 4), none⟩,
      ⟨some 14, .ixs (.tm 12) (.tm 13), none⟩,
      ⟨some 15, .conv .u64 (.tm 14), none⟩,
      ⟨some 16, .bin .xor (.tm 11) (.tm 15), none⟩,
      ⟨some 17, .bin .mul (.tm 16) (.cn (.int .u64 1099511628211)), none⟩,
      ⟨some 3, .mov (.tm 17), none⟩])))
      (.ops [⟨some 18, .bin .add (.tm 8) (.cn (.int .i64 1)), none⟩,
      ⟨some 8, .mov (.tm 18), none⟩])))))))
  (.seq (.ops [⟨some 19, .mov (.tm 3), none⟩,
      ⟨some 20, .call (.fu 35) [(.tm 19), (.cn (.int .i64 16))], none⟩,
      ⟨some 5, .mov (.tm 20), none⟩])
  (.seq (.ops [⟨some 21, .mov (.tm 5), none⟩,
      ⟨some 22, .slen (.tm 21), none⟩,
      ⟨some 23, .bin .sub (.cn (.int .i64 16)) (.tm 22), none⟩,
      ⟨some 24, .call (.fu 36) [(.cn (.string ⟨#[48]⟩)), (.tm 23)], none⟩,
      ⟨some 25, .mov (.tm 5), none⟩,
      ⟨some 26, .bin .add (.tm 24) (.tm 25), none⟩,
      ⟨some 2, .mov (.tm 26), none⟩])
  .ret)))))⟩
theorem comp19 : compF Tryd.prog Tryd.f19 ⟨false, [], [([], [0, 3, 7, 8])], [], []⟩ = some L19 := by kernel_rfl

def L20 : LFunc := ⟨22, 1, [.t 2], false, [], [],
  (.seq (.ops [⟨some 2, .mov (.cn (.string ⟨#[]⟩)), none⟩])
  (.seq (.ops [⟨some 6, .mov (.tm 0), none⟩,
      ⟨some 7, .call (.fu 37) [(.tm 6)], none⟩,
      ⟨some 3, .mov (.tm 7), none⟩])
  (.seq (.ops [⟨some 4, .mov (.cn (.string ⟨#[]⟩)), none⟩])
  (.seq (.seq (.ops [⟨some 5, .mov (.cn (.int .i64 0)), none⟩])
  (.block 0
  (.loop [3, 4, 5]
    (.seq (.seq (.ops [⟨some 8, .mov (.tm 5), none⟩,
      ⟨some 9, .bin .lss (.tm 8) (.cn (.int .i64 16)), none⟩])
      (.cond (.tm 9)
      .skip
      (.exit 0)))
      (.seq (.block 1
      (.seq (.ops [⟨some 12, .mov (.tm 3), none⟩,
      ⟨some 13, .bin .and (.tm 12) (.cn (.int .u64 15)), none⟩,
      ⟨some 14, .conv .i64 (.tm 13), none⟩,
      ⟨some 15, .call (.fu 38) [(.tm 14)], none⟩,
      ⟨some 16, .b2s (.tm 15), none⟩,
      ⟨some 17, .mov (.tm 4), none⟩,
      ⟨some 18, .bin .add (.tm 16) (.tm 17), none⟩,
      ⟨some 4, .mov (.tm 18), none⟩])
        (.ops [⟨some 19, .mov (.tm 3), none⟩,
      ⟨some 20, .bin .shr (.tm 19) (.cn (.int .u64 4)), none⟩,
      ⟨some 3, .mov (.tm 20), none⟩])))
      (.ops [⟨some 10, .mov (.tm 5), none⟩,
      ⟨some 11, .bin .add (.tm 10) (.cn (.int .i64 1)), none⟩,
      ⟨some 5, .mov (.tm 11), none⟩]))))))
  (.seq (.ops [⟨some 21, .mov (.tm 4), none⟩,
      ⟨some 2, .mov (.tm 21), none⟩])
  .ret)))))⟩
theorem comp20 : compF Tryd.prog Tryd.f20 ⟨false, [], [([], [3, 4, 5])], [], []⟩ = some L20 := by kernel_rfl

def L21 : LFunc := ⟨46, 3, [.t 6], false, [], [],
  (.seq (.ops [⟨some 6, .mov (.cn (.string ⟨#[]⟩)), none⟩])
  (.seq (.ops [⟨some 10, .mov (.tm 0), none⟩,
      ⟨some 11, .s2b (.tm 10), none⟩,
      ⟨some 7, .mov (.tm 11), none⟩])
  (.seq (.seq (.ops [⟨some 8, .mov (.cn (.int .i64 0)), none⟩])
  (.block 0
  (.loop [1, 2, 7, 8]
    (.seq (.seq (.ops [⟨some 12, .mov (.tm 8), none⟩,
      ⟨some 13, .bin .lss (.tm 12) (.cn (.int .i64 32)), none⟩])
      (.cond (.tm 13)
      .skip
      (.exit 0)))
      (.seq (.block 1
      (.seq (.ops [⟨some 16, .mov (.tm 1), none⟩,
      ⟨some 17, .mov (.tm 8), none⟩,
      ⟨some 18, .bin .add (.tm 16) (.tm 17), none⟩,
      ⟨some 9, .mov (.tm 18), none⟩])
        (.seq (.ops [⟨some 19, .mov (.tm 2), none⟩,
      ⟨some 20, .mov (.tm 8), none⟩,
      ⟨some 21, .bin .shr (.tm 19) (.tm 20), none⟩,
      ⟨some 22, .bin .and (.tm 21) (.cn (.int .u32 1)), none⟩,
      ⟨some 23, .bin .eql (.tm 22) (.cn (.int .u32 1)), none⟩,
      ⟨some 24, .mov (.tm 23), none⟩,
      ⟨some 25, .mov (.tm 9), (some (24, true))⟩,
      ⟨some 26, .mov (.tm 7), (some (24, true))⟩,
      ⟨some 27, .len (.tm 26), (some (24, true))⟩,
      ⟨some 28, .bin .mul (.cn (.int .i64 8)) (.tm 27), (some (24, true))⟩,
      ⟨some 29, .bin .lss (.tm 25) (.tm 28), (some (24, true))⟩,
      ⟨some 30, .pick (.tm 24) (.tm 29) (.cn (.bool false)), none⟩])
        (.cond (.tm 30)
        (.draw [⟨some 31, .mov (.tm 7), none⟩,
      ⟨some 32, .mov (.tm 9), none⟩,
      ⟨some 33, .bin .quo (.tm 32) (.cn (.int .i64 8)), none⟩,
      ⟨some 34, .mov (.tm 7), none⟩,
      ⟨some 35, .mov (.tm 9), none⟩,
      ⟨some 36, .bin .quo (.tm 35) (.cn (.int .i64 8)), none⟩,
      ⟨some 37, .ixa 1 (.tm 34) (.tm 36), none⟩,
      ⟨some 38, .load none (.tm 37), none⟩,
      ⟨some 39, .mov (.tm 9), none⟩,
      ⟨some 40, .bin .rem (.tm 39) (.cn (.int .i64 8)), none⟩,
      ⟨some 41, .bin .shl (.cn (.int .u8 1)) (.tm 40), none⟩,
      ⟨some 42, .bin .xor (.tm 38) (.tm 41), none⟩,
      ⟨some 43, .ixa 1 (.tm 31) (.tm 33), none⟩,
      ⟨none, .store 1 (.tm 43) (.tm 42), none⟩]
      [])
        .skip))))
      (.ops [⟨some 14, .mov (.tm 8), none⟩,
      ⟨some 15, .bin .add (.tm 14) (.cn (.int .i64 1)), none⟩,
      ⟨some 8, .mov (.tm 15), none⟩]))))))
  (.seq (.ops [⟨some 44, .mov (.tm 7), none⟩,
      ⟨some 45, .b2s (.tm 44), none⟩,
      ⟨some 6, .mov (.tm 45), none⟩])
  .ret))))⟩
theorem comp21 : compF Tryd.prog Tryd.f21 ⟨false, [], [([], [1, 2, 7, 8])], [], []⟩ = some L21 := by kernel_rfl

def L22 : LFunc := ⟨11, 2, [.t 4, .t 5], false, [], [],
  (.seq (.ops [⟨some 4, .mov (.cn (.string ⟨#[]⟩)), none⟩,
      ⟨some 5, .mov (.cn (.int .i64 0)), none⟩])
  (.seq (.ops [⟨some 6, .mov (.tm 0), none⟩,
      ⟨some 7, .mov (.tm 1), none⟩,
      ⟨some 8, .call (.fu 39) [(.tm 6), (.tm 7), (.fu 40)], none⟩,
      ⟨some 9, .ext (.tm 8) 0, none⟩,
      ⟨some 10, .ext (.tm 8) 1, none⟩,
      ⟨some 4, .mov (.tm 9), none⟩,
      ⟨some 5, .mov (.tm 10), none⟩])
  .ret))⟩
theorem comp22 : compF Tryd.prog Tryd.f22 ⟨false, [], [], [], []⟩ = some L22 := by kernel_rfl

def L23 : LFunc := ⟨47, 2, [.t 4, .t 5], false, [], [],
  (.seq (.ops [⟨some 4, .mov (.cn (.string ⟨#[]⟩)), none⟩,
      ⟨some 5, .mov (.cn (.int .i64 0)), none⟩])
  (.seq (.ops [⟨some 13, .mov (.tm 1), none⟩,
      ⟨some 14, .mov (.tm 0), none⟩,
      ⟨some 15, .slen (.tm 14), none⟩,
      ⟨some 16, .call (.fu 14) [(.tm 13), (.tm 15)], none⟩,
      ⟨some 12, .mov (.tm 16), none⟩,
      ⟨some 17, .ext (.tm 12) 0, none⟩,
      ⟨some 18, .ext (.tm 12) 1, none⟩,
      ⟨some 6, .mov (.tm 17), none⟩,
      ⟨some 7, .mov (.tm 18), none⟩])
  (.seq (.seq (.ops [⟨some 19, .mov (.tm 7), none⟩,
      ⟨some 20, .un .not (.tm 19), none⟩])
  (.cond (.tm 20)
  (.seq (.ops [⟨some 4, .mov (.cn (.string ⟨#[]⟩)), none⟩,
      ⟨some 5, .mov (.cn (.int .i64 0)), none⟩])
    .ret)
  .skip))
  (.seq (.ops [⟨some 8, .mov (.cn (.slice none 0 0)), none⟩])
  (.seq (.ops [⟨some 9, .mov (.cn (.int .i64 (-1))), none⟩])
  (.seq (.seq (.ops [⟨some 10, .mov (.cn (.int .i64 0)), none⟩])
  (.block 0
  (.pre [.tmp 8 (some 1)] (.loop [0, 6, 8, 9, 10]
    (.seq (.seq (.ops [⟨some 21, .mov (.tm 10), none⟩,
      ⟨some 22, .mov (.tm 0), none⟩,
      ⟨some 23, .slen (.tm 22), none⟩,
      ⟨some 24, .bin .lss (.tm 21) (.tm 23), none⟩])
      (.cond (.tm 24)
      .skip
      (.exit 0)))
      (.seq (.block 1
      (.seq (.ops [⟨some 27, .mov (.tm 0), none⟩,
      ⟨some 28, .mov (.tm 10), none⟩,
      ⟨some 29, .ixs (.tm 27) (.tm 28), none⟩,
      ⟨some 30, .call (.fu 43) [(.tm 29)], none⟩,
      ⟨some 11, .mov (.tm 30), none⟩])
        (.seq (.seq (.ops [⟨some 31, .mov (.tm 11), none⟩,
      ⟨some 32, .bin .lss (.tm 31) (.cn (.int .i64 0)), none⟩])
        (.cond (.tm 32)
        (.exit 1)
        .skip))
        (.seq (.seq (.ops [⟨some 33, .mov (.tm 9), none⟩,
      ⟨some 34, .bin .lss (.tm 33) (.cn (.int .i64 0)), none⟩])
        (.cond (.tm 34)
        (.seq (.ops [⟨some 35, .mov (.tm 11), none⟩,
      ⟨some 9, .mov (.tm 35), none⟩])
          (.exit 1))
        .skip))
        (.seq (.ops [⟨some 36, .mov (.tm 8), none⟩,
      ⟨some 37, .mov (.tm 9), none⟩,
      ⟨some 38, .bin .mul (.cn (.int .i64 16)) (.tm 37), none⟩,
      ⟨some 39, .mov (.tm 11), none⟩,
      ⟨some 40, .bin .add (.tm 38) (.tm 39), none⟩,
      ⟨some 41, .conv .u8 (.tm 40), none⟩,
      ⟨some 42, .bsl 1 [.int .u8 0] 1 [(0, (.tm 41))], none⟩,
      ⟨some 43, .app 1 1 false (.tm 36) (.tm 42), none⟩,
      ⟨some 8, .mov (.tm 43), none⟩])
        (.ops [⟨some 9, .mov (.cn (.int .i64 (-1))), none⟩]))))))
      (.ops [⟨some 25, .mov (.tm 10), none⟩,
      ⟨some 26, .bin .add (.tm 25) (.cn (.int .i64 1)), none⟩,
      ⟨some 10, .mov (.tm 26), none⟩])))))))
  (.seq (.ops [⟨some 44, .mov (.tm 8), none⟩,
      ⟨some 45, .b2s (.tm 44), none⟩,
      ⟨some 46, .mov (.tm 6), none⟩,
      ⟨some 4, .mov (.tm 45), none⟩,
      ⟨some 5, .mov (.tm 46), none⟩])
  .ret)))))))⟩
theorem comp23 : compF Tryd.prog Tryd.f23 ⟨false, [], [([.tmp 8 (some 1)], [0, 6, 8, 9, 10])], [], []⟩ = some L23 := by kernel_rfl

def L24 : LFunc := ⟨11, 2, [.t 4, .t 5], false, [], [],
  (.seq (.ops [⟨some 4, .mov (.cn (.string ⟨#[]⟩)), none⟩,
      ⟨some 5, .mov (.cn (.int .i64 0)), none⟩])
  (.seq (.ops [⟨some 6, .mov (.tm 0), none⟩,
      ⟨some 7, .mov (.tm 1), none⟩,
      ⟨some 8, .call (.fu 39) [(.tm 6), (.tm 7), (.fu 44)], none⟩,
      ⟨some 9, .ext (.tm 8) 0, none⟩,
      ⟨some 10, .ext (.tm 8) 1, none⟩,
      ⟨some 4, .mov (.tm 9), none⟩,
      ⟨some 5, .mov (.tm 10), none⟩])
  .ret))⟩
theorem comp24 : compF Tryd.prog Tryd.f24 ⟨false, [], [], [], []⟩ = some L24 := by kernel_rfl

def L25 : LFunc := ⟨81, 2, [.t 4, .t 5], false, [], [],
  (.seq (.ops [⟨some 4, .mov (.cn (.string ⟨#[]⟩)), none⟩,
      ⟨some 5, .mov (.cn (.int .i64 0)), none⟩])
  (.seq (.ops [⟨some 14, .mov (.tm 1), none⟩,
      ⟨some 15, .mov (.tm 0), none⟩,
      ⟨some 16, .slen (.tm 15), none⟩,
      ⟨some 17, .call (.fu 14) [(.tm 14), (.tm 16)], none⟩,
      ⟨some 13, .mov (.tm 17), none⟩,
      ⟨some 18, .ext (.tm 13) 0, none⟩,
      ⟨some 19, .ext (.tm 13) 1, none⟩,
      ⟨some 6, .mov (.tm 18), none⟩,
      ⟨some 7, .mov (.tm 19), none⟩])
  (.seq (.seq (.ops [⟨some 20, .mov (.tm 7), none⟩,
      ⟨some 21, .un .not (.tm 20), none⟩])
  (.cond (.tm 21)
  (.seq (.ops [⟨some 4, .mov (.cn (.string ⟨#[]⟩)), none⟩,
      ⟨some 5, .mov (.cn (.int .i64 0)), none⟩])
    .ret)
  .skip))
  (.seq (.ops [⟨some 8, .mov (.cn (.slice none 0 0)), none⟩])
  (.seq (.ops [⟨some 9, .mov (.cn (.int .i64 0)), none⟩])
  (.seq (.ops [⟨some 10, .mov (.cn (.int .i64 0)), none⟩])
  (.seq (.seq (.ops [⟨some 11, .mov (.cn (.int .i64 0)), none⟩])
  (.block 0
  (.pre [.tmp 8 (some 1)] (.loop [0, 6, 8, 9, 10, 11]
    (.seq (.seq (.ops [⟨some 22, .mov (.tm 11), none⟩,
      ⟨some 23, .mov (.tm 0), none⟩,
      ⟨some 24, .slen (.tm 23), none⟩,
      ⟨some 25, .bin .lss (.tm 22) (.tm 24), none⟩,
      ⟨some 26, .mov (.tm 25), none⟩,
      ⟨some 27, .mov (.tm 0), (some (26, true))⟩,
      ⟨some 28, .mov (.tm 11), (some (26, true))⟩,
      ⟨some 29, .ixs (.tm 27) (.tm 28), (some (26, true))⟩,
      ⟨some 30, .bin .neq (.tm 29) (.cn (.int .u8 61)), (some (26, true))⟩,
      ⟨some 31, .pick (.tm 26) (.tm 30) (.cn (.bool false)), none⟩])
      (.cond (.tm 31)
      .skip
      (.exit 0)))
      (.seq (.block 1
      (.seq (.ops [⟨some 34, .mov (.tm 0), none⟩,
      ⟨some 35, .mov (.tm 11), none⟩,
      ⟨some 36, .ixs (.tm 34) (.tm 35), none⟩,
      ⟨some 37, .call (.fu 48) [(.tm 36)], none⟩,
      ⟨some 12, .mov (.tm 37), none⟩])
        (.seq (.seq (.ops [⟨some 38, .mov (.tm 12), none⟩,
      ⟨some 39, .bin .lss (.tm 38) (.cn (.int .i64 0)), none⟩])
        (.cond (.tm 39)
        (.exit 1)
        .skip))
        (.seq (.ops [⟨some 40, .mov (.tm 9), none⟩,
      ⟨some 41, .bin .shl (.tm 40) (.cn (.int .u64 6)), none⟩,
      ⟨some 42, .mov (.tm 12), none⟩,
      ⟨some 43, .bin .or (.tm 41) (.tm 42), none⟩,
      ⟨some 9, .mov (.tm 43), none⟩])
        (.seq (.ops [⟨some 44, .mov (.tm 10), none⟩,
      ⟨some 45, .bin .add (.tm 44) (.cn (.int .i64 1)), none⟩,
      ⟨some 10, .mov (.tm 45), none⟩])
        (.seq (.ops [⟨some 46, .mov (.tm 10), none⟩,
      ⟨some 47, .bin .eql (.tm 46) (.cn (.int .i64 4)), none⟩])
        (.cond (.tm 47)
        (.seq (.ops [⟨some 48, .mov (.tm 8), none⟩,
      ⟨some 49, .mov (.tm 9), none⟩,
      ⟨some 50, .bin .shr (.tm 49) (.cn (.int .u64 16)), none⟩,
      ⟨some 51, .conv .u8 (.tm 50), none⟩,
      ⟨some 52, .mov (.tm 9), none⟩,
      ⟨some 53, .bin .shr (.tm 52) (.cn (.int .u64 8)), none⟩,
      ⟨some 54, .conv .u8 (.tm 53), none⟩,
      ⟨some 55, .mov (.tm 9), none⟩,
      ⟨some 56, .conv .u8 (.tm 55), none⟩,
      ⟨some 57, .bsl 1 [.int .u8 0] 3 [(0, (.tm 51)), (1, (.tm 54)), (2, (.tm 56))], none⟩,
      ⟨some 58, .app 1 1 false (.tm 48) (.tm 57), none⟩,
      ⟨some 8, .mov (.tm 58), none⟩])
          (.seq (.ops [⟨some 9, .mov (.cn (.int .i64 0)), none⟩])
          (.ops [⟨some 10, .mov (.cn (.int .i64 0)), none⟩])))
        .skip)))))))
      (.ops [⟨some 32, .mov (.tm 11), none⟩,
      ⟨some 33, .bin .add (.tm 32) (.cn (.int .i64 1)), none⟩,
      ⟨some 11, .mov (.tm 33), none⟩])))))))
  (.seq (.seq (.ops [⟨some 59, .mov (.tm 10), none⟩,
      ⟨some 60, .bin .eql (.tm 59) (.cn (.int .i64 2)), none⟩])
  (.cond (.tm 60)
  (.ops [⟨some 61, .mov (.tm 8), none⟩,
      ⟨some 62, .mov (.tm 9), none⟩,
      ⟨some 63, .bin .shr (.tm 62) (.cn (.int .u64 4)), none⟩,
      ⟨some 64, .conv .u8 (.tm 63), none⟩,
      ⟨some 65, .bsl 1 [.int .u8 0] 1 [(0, (.tm 64))], none⟩,
      ⟨some 66, .app 1 1 false (.tm 61) (.tm 65), none⟩,
      ⟨some 8, .mov (.tm 66), none⟩])
  .skip))
  (.seq (.seq (.ops [⟨some 67, .mov (.tm 10), none⟩,
      ⟨some 68, .bin .eql (.tm 67) (.cn (.int .i64 3)), none⟩])
  (.cond (.tm 68)
  (.ops [⟨some 69, .mov (.tm 8), none⟩,
      ⟨some 70, .mov (.tm 9), none⟩,
      ⟨some 71, .bin .shr (.tm 70) (.cn (.int .u64 10)), none⟩,
      ⟨some 72, .conv .u8 (.tm 71), none⟩,
      ⟨some 73, .mov (.tm 9), none⟩,
      ⟨some 74, .bin .shr (.tm 73) (.cn (.int .u64 2)), none⟩,
      ⟨some 75, .conv .u8 (.tm 74), none⟩,
      ⟨some 76, .bsl 1 [.int .u8 0] 2 [(0, (.tm 72)), (1, (.tm 75))], none⟩,
      ⟨some 77, .app 1 1 false (.tm 69) (.tm 76), none⟩,
      ⟨some 8, .mov (.tm 77), none⟩])
  .skip))
  (.seq (.ops [⟨some 78, .mov (.tm 8), none⟩,
      ⟨some 79, .b2s (.tm 78), none⟩,
      ⟨some 80, .mov (.tm 6), none⟩,
      ⟨some 4, .mov (.tm 79), none⟩,
      ⟨some 5, .mov (.tm 80), none⟩])
  .ret))))))))))⟩
theorem comp25 : compF Tryd.prog Tryd.f25 ⟨false, [], [([.tmp 8 (some 1)], [0, 6, 8, 9, 10, 11])], [], []⟩ = some L25 := by kernel_rfl

def L26 : LFunc := ⟨67, 3, [.t 6], false, [], [],
  (.seq (.ops [⟨some 6, .mov (.cn (.string ⟨#[]⟩)), none⟩])
  (.seq (.ops [⟨some 7, .mov (.cn (.slice none 0 0)), none⟩])
  (.seq (.seq (.ops [⟨some 8, .mov (.cn (.int .i64 0)), none⟩])
  (.block 0
  (.pre [.tmp 7 (some 1)] (.loop [0, 1, 2, 7, 8]
    (.seq (.seq (.ops [⟨some 9, .mov (.tm 8), none⟩,
      ⟨some 10, .mov (.tm 0), none⟩,
      ⟨some 11, .slen (.tm 10), none⟩,
      ⟨some 12, .mov (.tm 1), none⟩,
      ⟨some 13, .slen (.tm 12), none⟩,
      ⟨some 14, .mx [(.tm 11), (.tm 13)], none⟩,
      ⟨some 15, .bin .lss (.tm 9) (.tm 14), none⟩])
      (.cond (.tm 15)
      .skip
      (.exit 0)))
      (.seq (.block 1
      (.seq (.seq (.ops [⟨some 18, .mov (.tm 8), none⟩,
      ⟨some 19, .mov (.tm 1), none⟩,
      ⟨some 20, .slen (.tm 19), none⟩,
      ⟨some 21, .bin .lss (.tm 18) (.tm 20), none⟩,
      ⟨some 22, .mov (.tm 21), none⟩,
      ⟨some 23, .mov (.tm 2), (some (22, true))⟩,
      ⟨some 24, .mov (.tm 23), (some (22, true))⟩,
      ⟨some 25, .mov (.tm 1), (some (24, true))⟩,
      ⟨some 26, .mov (.tm 8), (some (24, true))⟩,
      ⟨some 27, .ixs (.tm 25) (.tm 26), (some (24, true))⟩,
      ⟨some 28, .call (.fu 43) [(.tm 27)], (some (24, true))⟩,
      ⟨some 29, .bin .lss (.tm 28) (.cn (.int .i64 0)), (some (24, true))⟩,
      ⟨some 30, .pick (.tm 24) (.tm 29) (.cn (.bool false)), (some (22, true))⟩,
      ⟨some 31, .mov (.tm 30), (some (22, true))⟩,
      ⟨some 32, .mov (.tm 2), (some (31, false))⟩,
      ⟨some 33, .un .not (.tm 32), (some (31, false))⟩,
      ⟨some 34, .mov (.tm 33), (some (31, false))⟩,
      ⟨some 35, .mov (.tm 1), (some (34, true))⟩,
      ⟨some 36, .mov (.tm 8), (some (34, true))⟩,
      ⟨some 37, .ixs (.tm 35) (.tm 36), (some (34, true))⟩,
      ⟨some 38, .call (.fu 48) [(.tm 37)], (some (34, true))⟩,
      ⟨some 39, .bin .lss (.tm 38) (.cn (.int .i64 0)), (some (34, true))⟩,
      ⟨some 40, .pick (.tm 34) (.tm 39) (.cn (.bool false)), (some (31, false))⟩,
      ⟨some 41, .mov (.tm 40), (some (31, false))⟩,
      ⟨some 42, .mov (.tm 1), (some (41, true))⟩,
      ⟨some 43, .mov (.tm 8), (some (41, true))⟩,
      ⟨some 44, .ixs (.tm 42) (.tm 43), (some (41, true))⟩,
      ⟨some 45, .bin .neq (.tm 44) (.cn (.int .u8 61)), (some (41, true))⟩,
      ⟨some 46, .pick (.tm 41) (.tm 45) (.cn (.bool false)), (some (31, false))⟩,
      ⟨some 47, .pick (.tm 31) (.cn (.bool true)) (.tm 46), (some (22, true))⟩,
      ⟨some 48, .pick (.tm 22) (.tm 47) (.cn (.bool false)), none⟩])
        (.cond (.tm 48)
        (.ops [⟨some 49, .mov (.tm 7), none⟩,
      ⟨some 50, .mov (.tm 1), none⟩,
      ⟨some 51, .mov (.tm 8), none⟩,
      ⟨some 52, .ixs (.tm 50) (.tm 51), none⟩,
      ⟨some 53, .bsl 1 [.int .u8 0] 1 [(0, (.tm 52))], none⟩,
      ⟨some 54, .app 1 1 false (.tm 49) (.tm 53), none⟩,
      ⟨some 7, .mov (.tm 54), none⟩])
        .skip))
        (.seq (.ops [⟨some 55, .mov (.tm 8), none⟩,
      ⟨some 56, .mov (.tm 0), none⟩,
      ⟨some 57, .slen (.tm 56), none⟩,
      ⟨some 58, .bin .lss (.tm 55) (.tm 57), none⟩])
        (.cond (.tm 58)
        (.ops [⟨some 59, .mov (.tm 7), none⟩,
      ⟨some 60, .mov (.tm 0), none⟩,
      ⟨some 61, .mov (.tm 8), none⟩,
      ⟨some 62, .ixs (.tm 60) (.tm 61), none⟩,
      ⟨some 63, .bsl 1 [.int .u8 0] 1 [(0, (.tm 62))], none⟩,
      ⟨some 64, .app 1 1 false (.tm 59) (.tm 63), none⟩,
      ⟨some 7, .mov (.tm 64), none⟩])
        .skip))))
      (.ops [⟨some 16, .mov (.tm 8), none⟩,
      ⟨some 17, .bin .add (.tm 16) (.cn (.int .i64 1)), none⟩,
      ⟨some 8, .mov (.tm 17), none⟩])))))))
  (.seq (.ops [⟨some 65, .mov (.tm 7), none⟩,
      ⟨some 66, .b2s (.tm 65), none⟩,
      ⟨some 6, .mov (.tm 66), none⟩])
  .ret))))⟩
theorem comp26 : compF Tryd.prog Tryd.f26 ⟨false, [], [([.tmp 7 (some 1)], [0, 1, 2, 7, 8])], [], []⟩ = some L26 := by kernel_rfl

def L27 : LFunc := ⟨30, 1, [.t 2], false, [], [],
  (.seq (.ops [⟨some 2, .mov (.cn (.string ⟨#[]⟩)), none⟩])
  (.seq (.ops [⟨some 5, .mov (.tm 0), none⟩,
      ⟨some 6, .slen (.tm 5), none⟩,
      ⟨some 7, .bin .mul (.cn (.int .i64 2)) (.tm 6), none⟩,
      ⟨some 8, .mks 1 1 [.int .u8 0] (.cn (.int .i64 0)) (.tm 7), none⟩,
      ⟨some 3, .mov (.tm 8), none⟩])
  (.seq (.seq (.ops [⟨some 9, .mov (.tm 0), none⟩,
      ⟨some 10, .slen (.tm 9), none⟩,
      ⟨some 11, .mov (.cn (.int .i64 0)), none⟩])
  (.block 0
  (.pre [.tmp 3 (some 1)] (.loop [0, 3, 10, 11]
    (.seq (.ops [⟨some 12, .bin .lss (.tm 11) (.tm 10), none⟩])
      (.seq (.cond (.tm 12)
      .skip
      (.exit 0))
      (.seq (.block 1
      (.seq (.ops [⟨some 13, .mov (.tm 11), none⟩,
      ⟨some 4, .mov (.tm 13), none⟩])
        (.draw [⟨some 14, .mov (.tm 3), none⟩,
      ⟨some 15, .mov (.tm 0), none⟩,
      ⟨some 16, .mov (.tm 4), none⟩,
      ⟨some 17, .ixs (.tm 15) (.tm 16), none⟩,
      ⟨some 18, .bin .shr (.tm 17) (.cn (.int .u64 4)), none⟩,
      ⟨some 19, .ixs (.cn (.string ⟨#[48, 49, 50, 51, 52, 53, 54, 55, 56, 57, 97, 98, 99, 100, 101, 102]⟩)) (.tm 18), none⟩,
      ⟨some 20, .mov (.tm 0), none⟩,
      ⟨some 21, .mov (.tm 4), none⟩,
      ⟨some 22, .ixs (.tm 20) (.tm 21), none⟩,
      ⟨some 23, .bin .and (.tm 22) (.cn (.int .u8 15)), none⟩,
      ⟨some 24, .ixs (.cn (.string ⟨#[48, 49, 50, 51, 52, 53, 54, 55, 56, 57, 97, 98, 99, 100, 101, 102]⟩)) (.tm 23), none⟩,
      ⟨some 25, .bsl 1 [.int .u8 0] 2 [(0, (.tm 19)), (1, (.tm 24))], none⟩,
      ⟨some 26, .app 1 1 false (.tm 14) (.tm 25), none⟩,
      ⟨some 3, .mov (.tm 26), none⟩]
      [])))
      (.ops [⟨some 27, .bin .add (.tm 11) (.cn (.int .i64 1)), none⟩,
      ⟨some 11, .mov (.tm 27), none⟩]))))))))
  (.seq (.ops [⟨some 28, .mov (.tm 3), none⟩,
      ⟨some 29, .b2s (.tm 28), none⟩,
      ⟨some 2, .mov (.tm 29), none⟩])
  .ret))))⟩
theorem comp27 : compF Tryd.prog Tryd.f27 ⟨false, [], [([.tmp 3 (some 1)], [0, 3, 10, 11])], [], []⟩ = some L27 := by kernel_rfl

def L28 : LFunc := ⟨59, 1, [.t 2], false, [], [],
  (.seq (.ops [⟨some 2, .mov (.cn (.string ⟨#[]⟩)), none⟩])
  (.seq (.ops [⟨some 3, .mov (.cn (.slice none 0 0)), none⟩])
  (.seq (.seq (.ops [⟨some 4, .mov (.cn (.int .i64 0)), none⟩])
  (.block 0
  (.pre [.tmp 3 (some 1)] (.loop [0, 3, 4]
    (.seq (.seq (.ops [⟨some 9, .mov (.tm 4), none⟩,
      ⟨some 10, .mov (.tm 0), none⟩,
      ⟨some 11, .slen (.tm 10), none⟩,
      ⟨some 12, .bin .lss (.tm 9) (.tm 11), none⟩])
      (.cond (.tm 12)
      .skip
      (.exit 0)))
      (.seq (.block 1
      (.seq (.ops [⟨some 15, .mov (.tm 0), none⟩,
      ⟨some 16, .slen (.tm 15), none⟩,
      ⟨some 17, .mov (.tm 4), none⟩,
      ⟨some 18, .bin .sub (.tm 16) (.tm 17), none⟩,
      ⟨some 19, .mn [(.cn (.int .i64 3)), (.tm 18)], none⟩,
      ⟨some 5, .mov (.tm 19), none⟩,
      ⟨some 6, .mov (.cn (.int .i64 0)), none⟩])
        (.seq (.seq (.ops [⟨some 20, .mov (.cn (.int .i64 0)), none⟩])
        (.block 2
        (.pre [.tmp 3 (some 1)] (.loop [0, 3, 4, 5, 6, 20]
          (.seq (.ops [⟨some 21, .bin .lss (.tm 20) (.cn (.int .i64 3)), none⟩])
            (.seq (.cond (.tm 21)
            .skip
            (.exit 2))
            (.seq (.block 3
            (.seq (.ops [⟨some 22, .mov (.tm 20), none⟩,
      ⟨some 7, .mov (.tm 22), none⟩])
              (.seq (.ops [⟨some 23, .mov (.tm 6), none⟩,
      ⟨some 24, .bin .shl (.tm 23) (.cn (.int .u64 8)), none⟩,
      ⟨some 6, .mov (.tm 24), none⟩])
              (.seq (.ops [⟨some 25, .mov (.tm 7), none⟩,
      ⟨some 26, .mov (.tm 5), none⟩,
      ⟨some 27, .bin .lss (.tm 25) (.tm 26), none⟩])
              (.cond (.tm 27)
              (.ops [⟨some 28, .mov (.tm 6), none⟩,
      ⟨some 29, .mov (.tm 0), none⟩,
      ⟨some 30, .mov (.tm 4), none⟩,
      ⟨some 31, .mov (.tm 7), none⟩,
      ⟨some 32, .bin .add (.tm 30) (.tm 31), none⟩,
      ⟨some 33, .ixs (.tm 29) (.tm 32), none⟩,
      ⟨some 34, .conv .i64 (.tm 33), none⟩,
      ⟨some 35, .bin .or (.tm 28) (.tm 34), none⟩,
      ⟨some 6, .mov (.tm 35), none⟩])
              .skip)))))
            (.ops [⟨some 36, .bin .add (.tm 20) (.cn (.int .i64 1)), none⟩,
      ⟨some 20, .mov (.tm 36), none⟩]))))))))
        (.seq (.ops [⟨some 37, .mov (.cn (.int .i64 0)), none⟩])
        (.block 4
        (.pre [.tmp 3 (some 1)] (.loop [0, 3, 4, 5, 6, 37]
          (.seq (.ops [⟨some 38, .bin .lss (.tm 37) (.cn (.int .i64 4)), none⟩])
            (.seq (.cond (.tm 38)
            .skip
            (.exit 4))
            (.seq (.block 5
            (.seq (.ops [⟨some 39, .mov (.tm 37), none⟩,
      ⟨some 8, .mov (.tm 39), none⟩])
              (.seq (.seq (.ops [⟨some 40, .mov (.tm 8), none⟩,
      ⟨some 41, .mov (.tm 5), none⟩,
      ⟨some 42, .bin .gtr (.tm 40) (.tm 41), none⟩])
              (.cond (.tm 42)
              (.seq (.ops [⟨some 43, .mov (.tm 3), none⟩,
      ⟨some 44, .bsl 1 [.int .u8 0] 1 [(0, (.cn (.int .u8 61)))], none⟩,
      ⟨some 45, .app 1 1 false (.tm 43) (.tm 44), none⟩,
      ⟨some 3, .mov (.tm 45), none⟩])
                (.exit 5))
              .skip))
              (.ops [⟨some 46, .mov (.tm 3), none⟩,
      ⟨some 47, .mov (.tm 6), none⟩,
      ⟨some 48, .mov (.tm 8), none⟩,
      ⟨some 49, .bin .mul (.cn (.int .i64 6)) (.tm 48), none⟩,
      ⟨some 50, .bin .sub (.cn (.int .i64 18)) (.tm 49), none⟩,
      ⟨some 51, .bin .shr (.tm 47) (.tm 50), none⟩,
      ⟨some 52, .bin .and (.tm 51) (.cn (.int .i64 63)), none⟩,
      ⟨some 53, .ixs (.cn (.string ⟨#[65, 66, 67, 68, 69, 70, 71, 72, 73, 74, 75, 76, 77, 78, 79, 80, 81, 82, 83, 84, 85, 86, 87, 88, 89, 90, 97, 98, 99, 100, 101, 102, 103, 104, 105, 106, 107, 108, 109, 110, 111, 112, 113, 114, 115, 116, 117, 118, 119, 120, 121, 122, 48, 49, 50, 51, 52, 53, 54, 55, 56, 57, 43, 47]⟩)) (.tm 52), none⟩,
      ⟨some 54, .bsl 1 [.int .u8 0] 1 [(0, (.tm 53))], none⟩,
      ⟨some 55, .app 1 1 false (.tm 46) (.tm 54), none⟩,
      ⟨some 3, .mov (.tm 55), none⟩]))))
            (.ops [⟨some 56, .bin .add (.tm 37) (.cn (.int .i64 1)), none⟩,
      ⟨some 37, .mov (.tm 56), none⟩])))))))))))
      (.ops [⟨some 13, .mov (.tm 4), none⟩,
      ⟨some 14, .bin .add (.tm 13) (.cn (.int .i64 3)), none⟩,
      ⟨some 4, .mov (.tm 14), none⟩])))))))
  (.seq (.ops [⟨some 57, .mov (.tm 3), none⟩,
      ⟨some 58, .b2s (.tm 57), none⟩,
      ⟨some 2, .mov (.tm 58), none⟩])
  .ret))))⟩
theorem comp28 : compF Tryd.prog Tryd.f28 ⟨false, [], [([.tmp 3 (some 1)], [0, 3, 4]), ([.tmp 3 (some 1)], [0, 3, 4, 5, 6, 20]), ([.tmp 3 (some 1)], [0, 3, 4, 5, 6, 37])], [], []⟩ = some L28 := by kernel_rfl

def L29 : LFunc := ⟨47, 1, [.t 2], false, [], [],
  (.seq (.ops [⟨some 2, .mov (.cn (.string ⟨#[]⟩)), none⟩])
  (.seq (.ops [⟨some 6, .bsl 1 [.int .u8 0] 1 [(0, (.cn (.int .u8 34)))], none⟩,
      ⟨some 3, .mov (.tm 6), none⟩])
  (.seq (.seq (.ops [⟨some 7, .mov (.tm 0), none⟩,
      ⟨some 8, .slen (.tm 7), none⟩,
      ⟨some 9, .mov (.cn (.int .i64 0)), none⟩])
  (.block 0
  (.pre [.tmp 3 (some 1)] (.loop [0, 3, 8, 9]
    (.seq (.ops [⟨some 10, .bin .lss (.tm 9) (.tm 8), none⟩])
      (.seq (.cond (.tm 10)
      .skip
      (.exit 0))
      (.seq (.block 1
      (.seq (.ops [⟨some 11, .mov (.tm 9), none⟩,
      ⟨some 4, .mov (.tm 11), none⟩])
        (.seq (.ops [⟨some 12, .mov (.tm 0), none⟩,
      ⟨some 13, .mov (.tm 4), none⟩,
      ⟨some 14, .ixs (.tm 12) (.tm 13), none⟩,
      ⟨some 5, .mov (.tm 14), none⟩])
        (.seq (.seq (.ops [⟨some 15, .mov (.tm 5), none⟩,
      ⟨some 16, .bin .leq (.tm 15) (.cn (.int .u8 32)), none⟩,
      ⟨some 17, .mov (.tm 16), none⟩,
      ⟨some 18, .mov (.tm 5), (some (17, false))⟩,
      ⟨some 19, .bin .gtr (.tm 18) (.cn (.int .u8 126)), (some (17, false))⟩,
      ⟨some 20, .pick (.tm 17) (.cn (.bool true)) (.tm 19), none⟩,
      ⟨some 21, .mov (.tm 20), none⟩,
      ⟨some 22, .mov (.tm 5), (some (21, false))⟩,
      ⟨some 23, .bin .eql (.tm 22) (.cn (.int .u8 34)), (some (21, false))⟩,
      ⟨some 24, .pick (.tm 21) (.cn (.bool true)) (.tm 23), none⟩,
      ⟨some 25, .mov (.tm 24), none⟩,
      ⟨some 26, .mov (.tm 5), (some (25, false))⟩,
      ⟨some 27, .bin .eql (.tm 26) (.cn (.int .u8 92)), (some (25, false))⟩,
      ⟨some 28, .pick (.tm 25) (.cn (.bool true)) (.tm 27), none⟩])
        (.cond (.tm 28)
        (.seq (.draw [⟨some 29, .mov (.tm 3), none⟩,
      ⟨some 30, .mov (.tm 5), none⟩,
      ⟨some 31, .bin .shr (.tm 30) (.cn (.int .u64 4)), none⟩,
      ⟨some 32, .ixs (.cn (.string ⟨#[48, 49, 50, 51, 52, 53, 54, 55, 56, 57, 97, 98, 99, 100, 101, 102]⟩)) (.tm 31), none⟩,
      ⟨some 33, .mov (.tm 5), none⟩,
      ⟨some 34, .bin .and (.tm 33) (.cn (.int .u8 15)), none⟩,
      ⟨some 35, .ixs (.cn (.string ⟨#[48, 49, 50, 51, 52, 53, 54, 55, 56, 57, 97, 98, 99, 100, 101, 102]⟩)) (.tm 34), none⟩,
      ⟨some 36, .bsl 1 [.int .u8 0] 3 [(0, (.cn (.int .u8 92))), (1, (.tm 32)), (2, (.tm 35))], none⟩,
      ⟨some 37, .app 1 1 false (.tm 29) (.tm 36), none⟩,
      ⟨some 3, .mov (.tm 37), none⟩]
      [])
          (.exit 1))
        .skip))
        (.ops [⟨some 38, .mov (.tm 3), none⟩,
      ⟨some 39, .mov (.tm 5), none⟩,
      ⟨some 40, .bsl 1 [.int .u8 0] 1 [(0, (.tm 39))], none⟩,
      ⟨some 41, .app 1 1 false (.tm 38) (.tm 40), none⟩,
      ⟨some 3, .mov (.tm 41), none⟩])))))
      (.ops [⟨some 42, .bin .add (.tm 9) (.cn (.int .i64 1)), none⟩,
      ⟨some 9, .mov (.tm 42), none⟩]))))))))
  (.seq (.ops [⟨some 43, .mov (.tm 3), none⟩,
      ⟨some 44, .bsl 1 [.int .u8 0] 1 [(0, (.cn (.int .u8 34)))], none⟩,
      ⟨some 45, .app 1 1 false (.tm 43) (.tm 44), none⟩,
      ⟨some 46, .b2s (.tm 45), none⟩,
      ⟨some 2, .mov (.tm 46), none⟩])
  .ret))))⟩
theorem comp29 : compF Tryd.prog Tryd.f29 ⟨false, [], [([.tmp 3 (some 1)], [0, 3, 8, 9])], [], []⟩ = some L29 := by kernel_rfl

def L30 : LFunc := ⟨56, 1, [.t 2, .t 3], false, [], [],
  (.seq (.ops [⟨some 2, .mov (.cn (.string ⟨#[]⟩)), none⟩,
      ⟨some 3, .mov (.cn (.bool false)), none⟩])
  (.seq (.ops [⟨some 4, .mov (.cn (.slice none 0 0)), none⟩])
  (.seq (.seq (.ops [⟨some 5, .mov (.cn (.int .i64 1)), none⟩])
  (.block 0
  (.pre [.tmp 4 (some 1)] (.loop [0, 4, 5]
    (.seq (.seq (.ops [⟨some 8, .mov (.tm 5), none⟩,
      ⟨some 9, .mov (.tm 0), none⟩,
      ⟨some 10, .slen (.tm 9), none⟩,
      ⟨some 11, .bin .sub (.tm 10) (.cn (.int .i64 1)), none⟩,
      ⟨some 12, .bin .lss (.tm 8) (.tm 11), none⟩])
      (.cond (.tm 12)
      .skip
      (.exit 0)))
      (.seq (.block 1
      (.seq (.ops [⟨some 15, .mov (.tm 0), none⟩,
      ⟨some 16, .mov (.tm 5), none⟩,
      ⟨some 17, .ixs (.tm 15) (.tm 16), none⟩,
      ⟨some 6, .mov (.tm 17), none⟩])
        (.seq (.seq (.ops [⟨some 18, .mov (.tm 6), none⟩,
      ⟨some 19, .bin .eql (.tm 18) (.cn (.int .u8 92)), none⟩,
      ⟨some 20, .mov (.tm 19), none⟩,
      ⟨some 21, .mov (.tm 5), (some (20, true))⟩,
      ⟨some 22, .bin .add (.tm 21) (.cn (.int .i64 2)), (some (20, true))⟩,
      ⟨some 23, .mov (.tm 0), (some (20, true))⟩,
      ⟨some 24, .slen (.tm 23), (some (20, true))⟩,
      ⟨some 25, .bin .sub (.tm 24) (.cn (.int .i64 1)), (some (20, true))⟩,
      ⟨some 26, .bin .lss (.tm 22) (.tm 25), (some (20, true))⟩,
      ⟨some 27, .pick (.tm 20) (.tm 26) (.cn (.bool false)), none⟩])
        (.cond (.tm 27)
        (.seq (.draw [⟨some 28, .mov (.tm 0), none⟩,
      ⟨some 29, .mov (.tm 5), none⟩,
      ⟨some 30, .bin .add (.tm 29) (.cn (.int .i64 1)), none⟩,
      ⟨some 31, .ixs (.tm 28) (.tm 30), none⟩,
      ⟨some 32, .call (.fu 42) [(.tm 31)], none⟩,
      ⟨some 33, .mx [(.cn (.int .i64 0)), (.tm 32)], none⟩,
      ⟨some 34, .bin .shl (.tm 33) (.cn (.int .u64 4)), none⟩,
      ⟨some 35, .mov (.tm 0), none⟩,
      ⟨some 36, .mov (.tm 5), none⟩,
      ⟨some 37, .bin .add (.tm 36) (.cn (.int .i64 2)), none⟩,
      ⟨some 38, .ixs (.tm 35) (.tm 37), none⟩,
      ⟨some 39, .call (.fu 42) [(.tm 38)], none⟩,
      ⟨some 40, .mx [(.cn (.int .i64 0)), (.tm 39)], none⟩,
      ⟨some 41, .bin .or (.tm 34) (.tm 40), none⟩,
      ⟨some 42, .conv .u8 (.tm 41), none⟩,
      ⟨some 6, .mov (.tm 42), none⟩]
      [])
          (.ops [⟨some 43, .mov (.tm 5), none⟩,
      ⟨some 44, .bin .add (.tm 43) (.cn (.int .i64 2)), none⟩,
      ⟨some 5, .mov (.tm 44), none⟩]))
        .skip))
        (.ops [⟨some 45, .mov (.tm 4), none⟩,
      ⟨some 46, .mov (.tm 6), none⟩,
      ⟨some 47, .bsl 1 [.int .u8 0] 1 [(0, (.tm 46))], none⟩,
      ⟨some 48, .app 1 1 false (.tm 45) (.tm 47), none⟩,
      ⟨some 4, .mov (.tm 48), none⟩]))))
      (.ops [⟨some 13, .mov (.tm 5), none⟩,
      ⟨some 14, .bin .add (.tm 13) (.cn (.int .i64 1)), none⟩,
      ⟨some 5, .mov (.tm 14), none⟩])))))))
  (.seq (.seq (.ops [⟨some 49, .mov (.tm 4), none⟩,
      ⟨some 50, .b2s (.tm 49), none⟩,
      ⟨some 7, .mov (.tm 50), none⟩])
  (.seq (.ops [⟨some 51, .mov (.tm 7), none⟩,
      ⟨some 52, .call (.fu 29) [(.tm 51)], none⟩,
      ⟨some 53, .mov (.tm 0), none⟩,
      ⟨some 54, .bin .eql (.tm 52) (.tm 53), none⟩])
  (.cond (.tm 54)
  (.seq (.ops [⟨some 55, .mov (.tm 7), none⟩,
      ⟨some 2, .mov (.tm 55), none⟩,
      ⟨some 3, .mov (.cn (.bool true)), none⟩])
    .ret)
  .skip)))
  (.seq (.ops [⟨some 2, .mov (.cn (.string ⟨#[]⟩)), none⟩,
      ⟨some 3, .mov (.cn (.bool false)), none⟩])
  .ret)))))⟩
theorem comp30 : compF Tryd.prog Tryd.f30 ⟨false, [], [([.tmp 4 (some 1)], [0, 4, 5])], [], []⟩ = some L30 := by kernel_rfl

def L31 : LFunc := ⟨45, 1, [.t 2], false, [], [],
  (.seq (.ops [⟨some 2, .mov (.cn (.string ⟨#[]⟩)), none⟩])
  (.seq (.ops [⟨some 5, .bsl 1 [.int .u8 0] 1 [(0, (.cn (.int .u8 34)))], none⟩,
      ⟨some 3, .mov (.tm 5), none⟩])
  (.seq (.seq (.ops [⟨some 4, .mov (.cn (.int .i64 0)), none⟩])
  (.block 0
  (.pre [.tmp 3 (some 1)] (.loop [0, 3, 4]
    (.seq (.seq (.ops [⟨some 6, .mov (.tm 4), none⟩,
      ⟨some 7, .mov (.tm 0), none⟩,
      ⟨some 8, .slen (.tm 7), none⟩,
      ⟨some 9, .bin .lss (.tm 6) (.tm 8), none⟩])
      (.cond (.tm 9)
      .skip
      (.exit 0)))
      (.seq (.block 1
      (.seq (.ops [⟨some 12, .mov (.tm 0), none⟩,
      ⟨some 13, .mov (.tm 4), none⟩,
      ⟨some 14, .ixs (.tm 12) (.tm 13), none⟩,
      ⟨some 15, .call (.fu 49) [(.tm 14)], none⟩])
        (.cond (.tm 15)
        (.ops [⟨some 16, .mov (.tm 3), none⟩,
      ⟨some 17, .mov (.tm 0), none⟩,
      ⟨some 18, .mov (.tm 4), none⟩,
      ⟨some 19, .ixs (.tm 17) (.tm 18), none⟩,
      ⟨some 20, .bsl 1 [.int .u8 0] 1 [(0, (.tm 19))], none⟩,
      ⟨some 21, .app 1 1 false (.tm 16) (.tm 20), none⟩,
      ⟨some 3, .mov (.tm 21), none⟩])
        (.seq (.ops [⟨some 22, .mov (.tm 3), none⟩,
      ⟨some 23, .bsl 1 [.int .u8 0] 1 [(0, (.cn (.int .u8 92)))], none⟩,
      ⟨some 24, .app 1 1 false (.tm 22) (.tm 23), none⟩,
      ⟨some 3, .mov (.tm 24), none⟩])
          (.seq (.ops [⟨some 25, .mov (.tm 3), none⟩,
      ⟨some 26, .mov (.tm 0), none⟩,
      ⟨some 27, .mov (.tm 4), none⟩,
      ⟨some 28, .ixs (.tm 26) (.tm 27), none⟩,
      ⟨some 29, .conv .i64 (.tm 28), none⟩,
      ⟨some 30, .bin .quo (.tm 29) (.cn (.int .i64 16)), none⟩,
      ⟨some 31, .call (.fu 38) [(.tm 30)], none⟩,
      ⟨some 32, .app 1 1 false (.tm 25) (.tm 31), none⟩,
      ⟨some 3, .mov (.tm 32), none⟩])
          (.ops [⟨some 33, .mov (.tm 3), none⟩,
      ⟨some 34, .mov (.tm 0), none⟩,
      ⟨some 35, .mov (.tm 4), none⟩,
      ⟨some 36, .ixs (.tm 34) (.tm 35), none⟩,
      ⟨some 37, .conv .i64 (.tm 36), none⟩,
      ⟨some 38, .bin .rem (.tm 37) (.cn (.int .i64 16)), none⟩,
      ⟨some 39, .call (.fu 38) [(.tm 38)], none⟩,
      ⟨some 40, .app 1 1 false (.tm 33) (.tm 39), none⟩,
      ⟨some 3, .mov (.tm 40), none⟩]))))))
      (.ops [⟨some 10, .mov (.tm 4), none⟩,
      ⟨some 11, .bin .add (.tm 10) (.cn (.int .i64 1)), none⟩,
      ⟨some 4, .mov (.tm 11), none⟩])))))))
  (.seq (.ops [⟨some 41, .mov (.tm 3), none⟩,
      ⟨some 42, .bsl 1 [.int .u8 0] 1 [(0, (.cn (.int .u8 34)))], none⟩,
      ⟨some 43, .app 1 1 false (.tm 41) (.tm 42), none⟩,
      ⟨some 44, .b2s (.tm 43), none⟩,
      ⟨some 2, .mov (.tm 44), none⟩])
  .ret))))⟩
theorem comp31 : compF Tryd.prog Tryd.f31 ⟨false, [], [([.tmp 3 (some 1)], [0, 3, 4])], [], []⟩ = some L31 := by kernel_rfl

def L32 : LFunc := ⟨5, 1, [.t 2], false, [], [],
  (.seq (.ops [⟨some 2, .mov (.cn (.string ⟨#[]⟩)), none⟩])
  (.seq (.ops [⟨some 3, .mov (.tm 0), none⟩,
      ⟨some 4, .call (.fu 50) [(.tm 3)], none⟩,
      ⟨some 2, .mov (.tm 4), none⟩])
  .ret))⟩
theorem comp32 : compF Tryd.prog Tryd.f32 ⟨false, [], [], [], []⟩ = some L32 := by kernel_rfl

def L33 : LFunc := ⟨20, 1, [.t 2, .t 3], false, [], [],
  (.seq (.ops [⟨some 2, .mov (.cn (.int .i64 0)), none⟩,
      ⟨some 3, .mov (.cn (.bool false)), none⟩])
  (.seq (.ops [⟨some 7, .mov (.tm 0), none⟩,
      ⟨some 8, .call (.fu 51) [(.tm 7)], none⟩,
      ⟨some 6, .mov (.tm 8), none⟩,
      ⟨some 9, .ext (.tm 6) 0, none⟩,
      ⟨some 10, .ext (.tm 6) 1, none⟩,
      ⟨some 4, .mov (.tm 9), none⟩,
      ⟨some 5, .mov (.tm 10), none⟩])
  (.seq (.seq (.ops [⟨some 11, .mov (.tm 5), none⟩,
      ⟨some 12, .isnil 3 true (.tm 11), none⟩,
      ⟨some 13, .mov (.tm 12), none⟩,
      ⟨some 14, .mov (.tm 4), (some (13, false))⟩,
      ⟨some 15, .call (.fu 50) [(.tm 14)], (some (13, false))⟩,
      ⟨some 16, .mov (.tm 0), (some (13, false))⟩,
      ⟨some 17, .bin .neq (.tm 15) (.tm 16), (some (13, false))⟩,
      ⟨some 18, .pick (.tm 13) (.cn (.bool true)) (.tm 17), none⟩])
  (.cond (.tm 18)
  (.seq (.ops [⟨some 2, .mov (.cn (.int .i64 0)), none⟩,
      ⟨some 3, .mov (.cn (.bool false)), none⟩])
    .ret)
  .skip))
  (.seq (.ops [⟨some 19, .mov (.tm 4), none⟩,
      ⟨some 2, .mov (.tm 19), none⟩,
      ⟨some 3, .mov (.cn (.bool true)), none⟩])
  .ret))))⟩
theorem comp33 : compF Tryd.prog Tryd.f33 ⟨false, [], [], [], []⟩ = some L33 := by kernel_rfl

def L34 : LFunc := ⟨31, 1, [.t 2], false, [], [],
  (.seq (.ops [⟨some 2, .mov (.cn (.string ⟨#[]⟩)), none⟩])
  (.seq (.seq (.ops [⟨some 5, .mov (.tm 0), none⟩,
      ⟨some 6, .bin .eql (.tm 5) (.cn (.int .i64 0)), none⟩])
  (.cond (.tm 6)
  (.seq (.ops [⟨some 2, .mov (.cn (.string ⟨#[48]⟩)), none⟩])
    .ret)
  .skip))
  (.seq (.ops [⟨some 7, .mov (.tm 0), none⟩,
      ⟨some 8, .conv .u64 (.tm 7), none⟩,
      ⟨some 3, .mov (.tm 8), none⟩])
  (.seq (.seq (.ops [⟨some 9, .mov (.tm 0), none⟩,
      ⟨some 10, .bin .lss (.tm 9) (.cn (.int .i64 0)), none⟩])
  (.cond (.tm 10)
  (.ops [⟨some 11, .mov (.tm 3), none⟩,
      ⟨some 12, .un .neg (.tm 11), none⟩,
      ⟨some 3, .mov (.tm 12), none⟩])
  .skip))
  (.seq (.ops [⟨some 4, .mov (.cn (.slice none 0 0)), none⟩])
  (.seq (.block 0
  (.loop [0, 3, 4]
    (.seq (.seq (.ops [⟨some 13, .mov (.tm 3), none⟩,
      ⟨some 14, .bin .gtr (.tm 13) (.cn (.int .u64 0)), none⟩])
      (.cond (.tm 14)
      .skip
      (.exit 0)))
      (.block 1
      (.seq (.ops [⟨some 15, .mov (.tm 3), none⟩,
      ⟨some 16, .bin .rem (.tm 15) (.cn (.int .u64 10)), none⟩,
      ⟨some 17, .bin .add (.cn (.int .u64 48)) (.tm 16), none⟩,
      ⟨some 18, .conv .u8 (.tm 17), none⟩,
      ⟨some 19, .bsl 1 [.int .u8 0] 1 [(0, (.tm 18))], none⟩,
      ⟨some 20, .mov (.tm 4), none⟩,
      ⟨some 21, .app 1 1 false (.tm 19) (.tm 20), none⟩,
      ⟨some 4, .mov (.tm 21), none⟩])
        (.ops [⟨some 22, .mov (.tm 3), none⟩,
      ⟨some 23, .bin .quo (.tm 22) (.cn (.int .u64 10)), none⟩,
      ⟨some 3, .mov (.tm 23), none⟩]))))))
  (.seq (.seq (.ops [⟨some 24, .mov (.tm 0), none⟩,
      ⟨some 25, .bin .lss (.tm 24) (.cn (.int .i64 0)), none⟩])
  (.cond (.tm 25)
  (.seq (.ops [⟨some 26, .mov (.tm 4), none⟩,
      ⟨some 27, .b2s (.tm 26), none⟩,
      ⟨some 28, .bin .add (.cn (.string ⟨#[45]⟩)) (.tm 27), none⟩,
      ⟨some 2, .mov (.tm 28), none⟩])
    .ret)
  .skip))
  (.seq (.ops [⟨some 29, .mov (.tm 4), none⟩,
      ⟨some 30, .b2s (.tm 29), none⟩,
      ⟨some 2, .mov (.tm 30), none⟩])
  .ret))))))))⟩
theorem comp34 : compF Tryd.prog Tryd.f34 ⟨false, [], [([], [0, 3, 4])], [], []⟩ = some L34 := by kernel_rfl

def L35 : LFunc := ⟨8, 2, [.t 4], false, [], [],
  (.seq (.ops [⟨some 4, .mov (.cn (.string ⟨#[]⟩)), none⟩])
  (.seq (.ops [⟨some 5, .mov (.tm 0), none⟩,
      ⟨some 6, .mov (.tm 1), none⟩,
      ⟨some 7, .call (.fu 52) [(.tm 5), (.tm 6)], none⟩,
      ⟨some 4, .mov (.tm 7), none⟩])
  .ret))⟩
theorem comp35 : compF Tryd.prog Tryd.f35 ⟨false, [], [], [], []⟩ = some L35 := by kernel_rfl

def L36 : LFunc := ⟨125, 2, [.t 4], false, [], [],
  (.seq (.ops [⟨some 4, .mov (.cn (.string ⟨#[]⟩)), none⟩])
  (.seq (.seq (.ops [⟨some 11, .mov (.tm 1), none⟩])
  (.block 0
  (.seq (.ops [⟨some 13, .bin .eql (.tm 11) (.cn (.int .i64 0)), none⟩,
      ⟨some 12, .mov (.tm 13), none⟩])
    (.cond (.tm 12)
    (.seq (.ops [⟨some 4, .mov (.cn (.string ⟨#[]⟩)), none⟩])
      .ret)
    (.seq (.ops [⟨some 15, .bin .eql (.tm 11) (.cn (.int .i64 1)), none⟩,
      ⟨some 14, .mov (.tm 15), none⟩])
      (.cond (.tm 14)
      (.seq (.ops [⟨some 16, .mov (.tm 0), none⟩,
      ⟨some 4, .mov (.tm 16), none⟩])
        .ret)
      .skip))))))
  (.seq (.seq (.ops [⟨some 17, .mov (.tm 1), none⟩,
      ⟨some 18, .bin .lss (.tm 17) (.cn (.int .i64 0)), none⟩])
  (.cond (.tm 18)
  (.ops [⟨some 19, .bad, none⟩,
      ⟨none, .bad, none⟩])
  .skip))
  (.seq (.ops [⟨some 21, .mov (.tm 0), none⟩,
      ⟨some 22, .slen (.tm 21), none⟩,
      ⟨some 23, .conv .u64 (.tm 22), none⟩,
      ⟨some 24, .mov (.tm 1), none⟩,
      ⟨some 25, .conv .u64 (.tm 24), none⟩,
      ⟨some 26, .call (.fu 53) [(.tm 23), (.tm 25)], none⟩,
      ⟨some 20, .mov (.tm 26), none⟩,
      ⟨some 27, .ext (.tm 20) 0, none⟩,
      ⟨some 28, .ext (.tm 20) 1, none⟩,
      ⟨some 5, .mov (.tm 27), none⟩,
      ⟨some 6, .mov (.tm 28), none⟩])
  (.seq (.seq (.ops [⟨some 29, .mov (.tm 5), none⟩,
      ⟨some 30, .bin .gtr (.tm 29) (.cn (.int .u64 0)), none⟩,
      ⟨some 31, .mov (.tm 30), none⟩,
      ⟨some 32, .mov (.tm 6), (some (31, false))⟩,
      ⟨some 33, .bin .gtr (.tm 32) (.cn (.int .u64 9223372036854775807)), (some (31, false))⟩,
      ⟨some 34, .pick (.tm 31) (.cn (.bool true)) (.tm 33), none⟩])
  (.cond (.tm 34)
  (.ops [⟨some 35, .bad, none⟩,
      ⟨none, .bad, none⟩])
  .skip))
  (.seq (.ops [⟨some 36, .mov (.tm 6), none⟩,
      ⟨some 37, .conv .i64 (.tm 36), none⟩,
      ⟨some 7, .mov (.tm 37), none⟩])
  (.seq (.seq (.ops [⟨some 38, .mov (.tm 0), none⟩,
      ⟨some 39, .slen (.tm 38), none⟩,
      ⟨some 40, .bin .eql (.tm 39) (.cn (.int .i64 0)), none⟩])
  (.cond (.tm 40)
  (.seq (.ops [⟨some 4, .mov (.cn (.string ⟨#[]⟩)), none⟩])
    .ret)
  .skip))
  (.seq (.seq (.ops [⟨some 41, .mov (.tm 0), none⟩,
      ⟨some 42, .ixs (.tm 41) (.cn (.int .i64 0)), none⟩])
  (.block 1
  (.seq (.seq (.ops [⟨some 44, .bin .eql (.tm 42) (.cn (.int .u8 32)), none⟩,
      ⟨some 43, .mov (.tm 44), none⟩])
    (.cond (.tm 43)
    .skip
    (.seq (.ops [⟨some 45, .bin .eql (.tm 42) (.cn (.int .u8 45)), none⟩,
      ⟨some 43, .mov (.tm 45), none⟩])
      (.cond (.tm 43)
      .skip
      (.seq (.ops [⟨some 46, .bin .eql (.tm 42) (.cn (.int .u8 48)), none⟩,
      ⟨some 43, .mov (.tm 46), none⟩])
        (.cond (.tm 43)
        .skip
        (.seq (.ops [⟨some 47, .bin .eql (.tm 42) (.cn (.int .u8 61)), none⟩,
      ⟨some 43, .mov (.tm 47), none⟩])
          (.cond (.tm 43)
          .skip
          (.ops [⟨some 48, .bin .eql (.tm 42) (.cn (.int .u8 9)), none⟩,
      ⟨some 43, .mov (.tm 48), none⟩])))))))))
    (.cond (.tm 43)
    (.block 2
      (.seq (.ops [⟨some 50, .mov (.tm 7), none⟩,
      ⟨some 51, .bin .leq (.tm 50) (.cn (.int .i64 128)), none⟩,
      ⟨some 52, .mov (.tm 51), none⟩,
      ⟨some 53, .mov (.tm 0), (some (52, true))⟩,
      ⟨some 54, .call (.fu 54) [(.cn (.string ⟨#[32, 32, 32, 32, 32, 32, 32, 32, 32, 32, 32, 32, 32, 32, 32, 32, 32, 32, 32, 32, 32, 32, 32, 32, 32, 32, 32, 32, 32, 32, 32, 32, 32, 32, 32, 32, 32, 32, 32, 32, 32, 32, 32, 32, 32, 32, 32, 32, 32, 32, 32, 32, 32, 32, 32, 32, 32, 32, 32, 32, 32, 32, 32, 32, 32, 32, 32, 32, 32, 32, 32, 32, 32, 32, 32, 32, 32, 32, 32, 32, 32, 32, 32, 32, 32, 32, 32, 32, 32, 32, 32, 32, 32, 32, 32, 32, 32, 32, 32, 32, 32, 32, 32, 32, 32, 32, 32, 32, 32, 32, 32, 32, 32, 32, 32, 32, 32, 32, 32, 32, 32, 32, 32, 32, 32, 32, 32, 32]⟩)), (.tm 53)], (some (52, true))⟩,
      ⟨some 55, .pick (.tm 52) (.tm 54) (.cn (.bool false)), none⟩,
      ⟨some 49, .mov (.tm 55), none⟩])
        (.cond (.tm 49)
        (.seq (.ops [⟨some 56, .mov (.tm 7), none⟩,
      ⟨some 57, .slcs (.cn (.string ⟨#[32, 32, 32, 32, 32, 32, 32, 32, 32, 32, 32, 32, 32, 32, 32, 32, 32, 32, 32, 32, 32, 32, 32, 32, 32, 32, 32, 32, 32, 32, 32, 32, 32, 32, 32, 32, 32, 32, 32, 32, 32, 32, 32, 32, 32, 32, 32, 32, 32, 32, 32, 32, 32, 32, 32, 32, 32, 32, 32, 32, 32, 32, 32, 32, 32, 32, 32, 32, 32, 32, 32, 32, 32, 32, 32, 32, 32, 32, 32, 32, 32, 32, 32, 32, 32, 32, 32, 32, 32, 32, 32, 32, 32, 32, 32, 32, 32, 32, 32, 32, 32, 32, 32, 32, 32, 32, 32, 32, 32, 32, 32, 32, 32, 32, 32, 32, 32, 32, 32, 32, 32, 32, 32, 32, 32, 32, 32, 32]⟩)) none (some (.tm 56)), none⟩,
      ⟨some 4, .mov (.tm 57), none⟩])
          .ret)
        (.seq (.ops [⟨some 59, .mov (.tm 7), none⟩,
      ⟨some 60, .bin .leq (.tm 59) (.cn (.int .i64 128)), none⟩,
      ⟨some 61, .mov (.tm 60), none⟩,
      ⟨some 62, .mov (.tm 0), (some (61, true))⟩,
      ⟨some 63, .call (.fu 54) [(.cn (.string ⟨#[45, 45, 45, 45, 45, 45, 45, 45, 45, 45, 45, 45, 45, 45, 45, 45, 45, 45, 45, 45, 45, 45, 45, 45, 45, 45, 45, 45, 45, 45, 45, 45, 45, 45, 45, 45, 45, 45, 45, 45, 45, 45, 45, 45, 45, 45, 45, 45, 45, 45, 45, 45, 45, 45, 45, 45, 45, 45, 45, 45, 45, 45, 45, 45, 45, 45, 45, 45, 45, 45, 45, 45, 45, 45, 45, 45, 45, 45, 45, 45, 45, 45, 45, 45, 45, 45, 45, 45, 45, 45, 45, 45, 45, 45, 45, 45, 45, 45, 45, 45, 45, 45, 45, 45, 45, 45, 45, 45, 45, 45, 45, 45, 45, 45, 45, 45, 45, 45, 45, 45, 45, 45, 45, 45, 45, 45, 45, 45]⟩)), (.tm 62)], (some (61, true))⟩,
      ⟨some 64, .pick (.tm 61) (.tm 63) (.cn (.bool false)), none⟩,
      ⟨some 58, .mov (.tm 64), none⟩])
          (.cond (.tm 58)
          (.seq (.ops [⟨some 65, .mov (.tm 7), none⟩,
      ⟨some 66, .slcs (.cn (.string ⟨#[45, 45, 45, 45, 45, 45, 45, 45, 45, 45, 45, 45, 45, 45, 45, 45, 45, 45, 45, 45, 45, 45, 45, 45, 45, 45, 45, 45, 45, 45, 45, 45, 45, 45, 45, 45, 45, 45, 45, 45, 45, 45, 45, 45, 45, 45, 45, 45, 45, 45, 45, 45, 45, 45, 45, 45, 45, 45, 45, 45, 45, 45, 45, 45, 45, 45, 45, 45, 45, 45, 45, 45, 45, 45, 45, 45, 45, 45, 45, 45, 45, 45, 45, 45, 45, 45, 45, 45, 45, 45, 45, 45, 45, 45, 45, 45, 45, 45, 45, 45, 45, 45, 45, 45, 45, 45, 45, 45, 45, 45, 45, 45, 45, 45, 45, 45, 45, 45, 45, 45, 45, 45, 45, 45, 45, 45, 45, 45]⟩)) none (some (.tm 65)), none⟩,
      ⟨some 4, .mov (.tm 66), none⟩])
            .ret)
          (.seq (.ops [⟨some 68, .mov (.tm 7), none⟩,
      ⟨some 69, .bin .leq (.tm 68) (.cn (.int .i64 64)), none⟩,
      ⟨some 70, .mov (.tm 69), none⟩,
      ⟨some 71, .mov (.tm 0), (some (70, true))⟩,
      ⟨some 72, .call (.fu 54) [(.cn (.string ⟨#[48, 48, 48, 48, 48, 48, 48, 48, 48, 48, 48, 48, 48, 48, 48, 48, 48, 48, 48, 48, 48, 48, 48, 48, 48, 48, 48, 48, 48, 48, 48, 48, 48, 48, 48, 48, 48, 48, 48, 48, 48, 48, 48, 48, 48, 48, 48, 48, 48, 48, 48, 48, 48, 48, 48, 48, 48, 48, 48, 48, 48, 48, 48, 48]⟩)), (.tm 71)], (some (70, true))⟩,
      ⟨some 73, .pick (.tm 70) (.tm 72) (.cn (.bool false)), none⟩,
      ⟨some 67, .mov (.tm 73), none⟩])
            (.cond (.tm 67)
            (.seq (.ops [⟨some 74, .mov (.tm 7), none⟩,
      ⟨some 75, .slcs (.cn (.string ⟨#[48, 48, 48, 48, 48, 48, 48, 48, 48, 48, 48, 48, 48, 48, 48, 48, 48, 48, 48, 48, 48, 48, 48, 48, 48, 48, 48, 48, 48, 48, 48, 48, 48, 48, 48, 48, 48, 48, 48, 48, 48, 48, 48, 48, 48, 48, 48, 48, 48, 48, 48, 48, 48, 48, 48, 48, 48, 48, 48, 48, 48, 48, 48, 48]⟩)) none (some (.tm 74)), none⟩,
      ⟨some 4, .mov (.tm 75), none⟩])
              .ret)
            (.seq (.ops [⟨some 77, .mov (.tm 7), none⟩,
      ⟨some 78, .bin .leq (.tm 77) (.cn (.int .i64 128)), none⟩,
      ⟨some 79, .mov (.tm 78), none⟩,
      ⟨some 80, .mov (.tm 0), (some (79, true))⟩,
      ⟨some 81, .call (.fu 54) [(.cn (.string ⟨#[61, 61, 61, 61, 61, 61, 61, 61, 61, 61, 61, 61, 61, 61, 61, 61, 61, 61, 61, 61, 61, 61, 61, 61, 61, 61, 61, 61, 61, 61, 61, 61, 61, 61, 61, 61, 61, 61, 61, 61, 61, 61, 61, 61, 61, 61, 61, 61, 61, 61, 61, 61, 61, 61, 61, 61, 61, 61, 61, 61, 61, 61, 61, 61, 61, 61, 61, 61, 61, 61, 61, 61, 61, 61, 61, 61, 61, 61, 61, 61, 61, 61, 61, 61, 61, 61, 61, 61, 61, 61, 61, 61, 61, 61, 61, 61, 61, 61, 61, 61, 61, 61, 61, 61, 61, 61, 61, 61, 61, 61, 61, 61, 61, 61, 61, 61, 61, 61, 61, 61, 61, 61, 61, 61, 61, 61, 61, 61]⟩)), (.tm 80)], (some (79, true))⟩,
      ⟨some 82, .pick (.tm 79) (.tm 81) (.cn (.bool false)), none⟩,
      ⟨some 76, .mov (.tm 82), none⟩])
              (.cond (.tm 76)
              (.seq (.ops [⟨some 83, .mov (.tm 7), none⟩,
      ⟨some 84, .slcs (.cn (.string ⟨#[61, 61, 61, 61, 61, 61, 61, 61, 61, 61, 61, 61, 61, 61, 61, 61, 61, 61, 61, 61, 61, 61, 61, 61, 61, 61, 61, 61, 61, 61, 61, 61, 61, 61, 61, 61, 61, 61, 61, 61, 61, 61, 61, 61, 61, 61, 61, 61, 61, 61, 61, 61, 61, 61, 61, 61, 61, 61, 61, 61, 61, 61, 61, 61, 61, 61, 61, 61, 61, 61, 61, 61, 61, 61, 61, 61, 61, 61, 61, 61, 61, 61, 61, 61, 61, 61, 61, 61, 61, 61, 61, 61, 61, 61, 61, 61, 61, 61, 61, 61, 61, 61, 61, 61, 61, 61, 61, 61, 61, 61, 61, 61, 61, 61, 61, 61, 61, 61, 61, 61, 61, 61, 61, 61, 61, 61, 61, 61]⟩)) none (some (.tm 83)), none⟩,
      ⟨some 4, .mov (.tm 84), none⟩])
                .ret)
              (.seq (.ops [⟨some 86, .mov (.tm 7), none⟩,
      ⟨some 87, .bin .leq (.tm 86) (.cn (.int .i64 64)), none⟩,
      ⟨some 88, .mov (.tm 87), none⟩,
      ⟨some 89, .mov (.tm 0), (some (88, true))⟩,
      ⟨some 90, .call (.fu 54) [(.cn (.string ⟨#[9, 9, 9, 9, 9, 9, 9, 9, 9, 9, 9, 9, 9, 9, 9, 9, 9, 9, 9, 9, 9, 9, 9, 9, 9, 9, 9, 9, 9, 9, 9, 9, 9, 9, 9, 9, 9, 9, 9, 9, 9, 9, 9, 9, 9, 9, 9, 9, 9, 9, 9, 9, 9, 9, 9, 9, 9, 9, 9, 9, 9, 9, 9, 9]⟩)), (.tm 89)], (some (88, true))⟩,
      ⟨some 91, .pick (.tm 88) (.tm 90) (.cn (.bool false)), none⟩,
      ⟨some 85, .mov (.tm 91), none⟩])
                (.cond (.tm 85)
                (.seq (.ops [⟨some 92, .mov (.tm 7), none⟩,
      ⟨some 93, .slcs (.cn (.string ⟨#[9, 9, 9, 9, 9, 9, 9, 9, 9, 9, 9, 9, 9, 9, 9, 9, 9, 9, 9, 9, 9, 9, 9, 9, 9, 9, 9, 9, 9, 9, 9, 9, 9, 9, 9, 9, 9, 9, 9, 9, 9, 9, 9, 9, 9, 9, 9, 9, 9, 9, 9, 9, 9, 9, 9, 9, 9, 9, 9, 9, 9, 9, 9, 9]⟩)) none (some (.tm 92)), none⟩,
      ⟨some 4, .mov (.tm 93), none⟩])
                  .ret)
                .skip)))))))))))
    .skip))))
  (.seq (.ops [⟨some 94, .mov (.tm 7), none⟩,
      ⟨some 8, .mov (.tm 94), none⟩])
  (.seq (.seq (.ops [⟨some 95, .mov (.tm 7), none⟩,
      ⟨some 96, .bin .gtr (.tm 95) (.cn (.int .i64 8192)), none⟩])
  (.cond (.tm 96)
  (.seq (.ops [⟨some 97, .mov (.tm 0), none⟩,
      ⟨some 98, .slen (.tm 97), none⟩,
      ⟨some 99, .bin .quo (.cn (.int .i64 8192)) (.tm 98), none⟩,
      ⟨some 100, .mov (.tm 0), none⟩,
      ⟨some 101, .slen (.tm 100), none⟩,
      ⟨some 102, .bin .mul (.tm 99) (.tm 101), none⟩,
      ⟨some 8, .mov (.tm 102), none⟩])
    (.seq (.ops [⟨some 103, .mov (.tm 8), none⟩,
      ⟨some 104, .bin .eql (.tm 103) (.cn (.int .i64 0)), none⟩])
    (.cond (.tm 104)
    (.ops [⟨some 105, .mov (.tm 0), none⟩,
      ⟨some 106, .slen (.tm 105), none⟩,
      ⟨some 8, .mov (.tm 106), none⟩])
    .skip)))
  .skip))
  (.seq (.ops [⟨some 9, .alloc [.pointer none, .slice none 0 0], none⟩])
  (.seq (.ops [⟨some 107, .mov (.tm 7), none⟩,
      ⟨some 108, .call (.fu 55) [(.tm 9), (.tm 107)], none⟩])
  (.seq (.ops [⟨some 109, .mov (.tm 0), none⟩,
      ⟨some 110, .call (.fu 56) [(.tm 9), (.tm 109)], none⟩])
  (.seq (.block 3
  (.loop [7, 8, 9]
    (.seq (.seq (.ops [⟨some 111, .call (.fu 57) [(.tm 9)], none⟩,
      ⟨some 112, .mov (.tm 7), none⟩,
      ⟨some 113, .bin .lss (.tm 111) (.tm 112), none⟩])
      (.cond (.tm 113)
      .skip
      (.exit 3)))
      (.block 4
      (.seq (.ops [⟨some 114, .mov (.tm 7), none⟩,
      ⟨some 115, .call (.fu 57) [(.tm 9)], none⟩,
      ⟨some 116, .bin .sub (.tm 114) (.tm 115), none⟩,
      ⟨some 117, .call (.fu 57) [(.tm 9)], none⟩,
      ⟨some 118, .mov (.tm 8), none⟩,
      ⟨some 119, .mn [(.tm 116), (.tm 117), (.tm 118)], none⟩,
      ⟨some 10, .mov (.tm 119), none⟩])
        (.ops [⟨some 120, .call (.fu 58) [(.tm 9)], none⟩,
      ⟨some 121, .mov (.tm 10), none⟩,
      ⟨some 122, .slcs (.tm 120) none (some (.tm 121)), none⟩,
      ⟨some 123, .call (.fu 56) [(.tm 9), (.tm 122)], none⟩]))))))
  (.seq (.ops [⟨some 124, .call (.fu 58) [(.tm 9)], none⟩,
      ⟨some 4, .mov (.tm 124), none⟩])
  .ret)))))))))))))))⟩
theorem comp36 : compF Tryd.prog Tryd.f36 ⟨false, [], [([], [7, 8, 9])], [], []⟩ = some L36 := by kernel_rfl

def L37 : LFunc := ⟨19, 1, [.t 2], false, [], [],
  (.seq (.ops [⟨some 2, .mov (.cn (.int .u64 0)), none⟩])
  (.seq (.ops [⟨some 3, .mov (.cn (.int .u64 14695981039346656037)), none⟩])
  (.seq (.seq (.ops [⟨some 4, .mov (.cn (.int .i64 0)), none⟩])
  (.block 0
  (.loop [0, 3, 4]
    (.seq (.seq (.ops [⟨some 5, .mov (.tm 4), none⟩,
      ⟨some 6, .mov (.tm 0), none⟩,
      ⟨some 7, .slen (.tm 6), none⟩,
      ⟨some 8, .bin .lss (.tm 5) (.tm 7), none⟩])
      (.cond (.tm 8)
      .skip
      (.exit 0)))
      (.seq (.block 1
      (.ops [⟨some 11, .mov (.tm 3), none⟩,
      ⟨some 12, .mov (.tm 0), none⟩,
      ⟨some 13, .mov (.tm 4), none⟩,
      ⟨some 14, .ixs (.tm 12) (.tm 13), none⟩,
      ⟨some 15, .conv .u64 (.tm 14), none⟩,
      ⟨some 16, .bin .xor (.tm 11) (.tm 15), none⟩,
      ⟨some 17, .bin .mul (.tm 16) (.cn (.int .u64 1099511628211)), none⟩,
      ⟨some 3, .mov (.tm 17), none⟩]))
      (.ops [⟨some 9, .mov (.tm 4), none⟩,
      ⟨some 10, .bin .add (.tm 9) (.cn (.int .i64 1)), none⟩,
      ⟨some 4, .mov (.tm 10), none⟩]))))))
  (.seq (.ops [⟨some 18, .mov (.tm 3), none⟩,
      ⟨some 2, .mov (.tm 18), none⟩])
  .ret))))⟩
theorem comp37 : compF Tryd.prog Tryd.f37 ⟨false, [], [([], [0, 3, 4])], [], []⟩ = some L37 := by kernel_rfl

def L38 : LFunc := ⟨14, 1, [.t 2], false, [], [],
  (.seq (.ops [⟨some 2, .mov (.cn (.slice none 0 0)), none⟩])
  (.seq (.seq (.ops [⟨some 3, .mov (.tm 0), none⟩,
      ⟨some 4, .bin .lss (.tm 3) (.cn (.int .i64 10)), none⟩])
  (.cond (.tm 4)
  (.seq (.ops [⟨some 5, .mov (.tm 0), none⟩,
      ⟨some 6, .bin .add (.cn (.int .i64 48)) (.tm 5), none⟩,
      ⟨some 7, .conv .u8 (.tm 6), none⟩,
      ⟨some 8, .bsl 1 [.int .u8 0] 1 [(0, (.tm 7))], none⟩,
      ⟨some 2, .mov (.tm 8), none⟩])
    .ret)
  .skip))
  (.seq (.ops [⟨some 9, .mov (.tm 0), none⟩,
      ⟨some 10, .bin .add (.cn (.int .i64 97)) (.tm 9), none⟩,
      ⟨some 11, .bin .sub (.tm 10) (.cn (.int .i64 10)), none⟩,
      ⟨some 12, .conv .u8 (.tm 11), none⟩,
      ⟨some 13, .bsl 1 [.int .u8 0] 1 [(0, (.tm 12))], none⟩,
      ⟨some 2, .mov (.tm 13), none⟩])
  .ret)))⟩
theorem comp38 : compF Tryd.prog Tryd.f38 ⟨false, [], [], [], []⟩ = some L38 := by kernel_rfl

def L39 : LFunc := ⟨23, 3, [.t 6, .t 7], false, [], [],
  (.seq (.ops [⟨some 6, .mov (.cn (.string ⟨#[]⟩)), none⟩,
      ⟨some 7, .mov (.cn (.int .i64 0)), none⟩])
  (.seq (.ops [⟨some 11, .mov (.tm 1), none⟩,
      ⟨some 12, .mov (.tm 0), none⟩,
      ⟨some 13, .slen (.tm 12), none⟩,
      ⟨some 14, .call (.fu 13) [(.tm 11), (.tm 13)], none⟩,
      ⟨some 10, .mov (.tm 14), none⟩,
      ⟨some 15, .ext (.tm 10) 0, none⟩,
      ⟨some 16, .ext (.tm 10) 1, none⟩,
      ⟨some 8, .mov (.tm 15), none⟩,
      ⟨some 9, .mov (.tm 16), none⟩])
  (.seq (.seq (.ops [⟨some 17, .mov (.tm 9), none⟩,
      ⟨some 18, .un .not (.tm 17), none⟩])
  (.cond (.tm 18)
  (.seq (.ops [⟨some 6, .mov (.cn (.string ⟨#[]⟩)), none⟩,
      ⟨some 7, .mov (.cn (.int .i64 0)), none⟩])
    .ret)
  .skip))
  (.seq (.ops [⟨some 19, .mov (.tm 2), none⟩,
      ⟨some 20, .mov (.tm 0), none⟩,
      ⟨some 21, .call (.tm 19) [(.tm 20)], none⟩,
      ⟨some 22, .mov (.tm 8), none⟩,
      ⟨some 6, .mov (.tm 21), none⟩,
      ⟨some 7, .mov (.tm 22), none⟩])
  .ret))))⟩
theorem comp39 : compF Tryd.prog Tryd.f39 ⟨false, [], [], [], []⟩ = some L39 := by kernel_rfl

def L40 : LFunc := ⟨5, 1, [.t 2], false, [], [],
  (.seq (.ops [⟨some 2, .mov (.cn (.string ⟨#[]⟩)), none⟩])
  (.seq (.ops [⟨some 3, .mov (.tm 0), none⟩,
      ⟨some 4, .call (.fu 41) [(.tm 3), (.cn (.int .i64 4)), (.fu 42)], none⟩,
      ⟨some 2, .mov (.tm 4), none⟩])
  .ret))⟩
theorem comp40 : compF Tryd.prog Tryd.f40 ⟨false, [], [], [], []⟩ = some L40 := by kernel_rfl

def L41 : LFunc := ⟨53, 3, [.t 6], false, [], [],
  (.seq (.ops [⟨some 6, .mov (.cn (.string ⟨#[]⟩)), none⟩])
  (.seq (.ops [⟨some 7, .mov (.cn (.slice none 0 0)), none⟩])
  (.seq (.ops [⟨some 12, .mov (.cn (.int .i64 0)), none⟩,
      ⟨some 13, .mov (.cn (.int .i64 0)), none⟩,
      ⟨some 8, .mov (.tm 12), none⟩,
      ⟨some 9, .mov (.tm 13), none⟩])
  (.seq (.seq (.ops [⟨some 14, .mov (.tm 0), none⟩,
      ⟨some 15, .slen (.tm 14), none⟩,
      ⟨some 16, .mov (.cn (.int .i64 0)), none⟩])
  (.block 0
  (.pre [.tmp 7 (some 1)] (.loop [0, 1, 2, 7, 8, 9, 15, 16]
    (.seq (.ops [⟨some 17, .bin .lss (.tm 16) (.tm 15), none⟩])
      (.seq (.cond (.tm 17)
      .skip
      (.exit 0))
      (.seq (.block 1
      (.seq (.ops [⟨some 18, .mov (.tm 16), none⟩,
      ⟨some 10, .mov (.tm 18), none⟩])
        (.seq (.ops [⟨some 19, .mov (.tm 2), none⟩,
      ⟨some 20, .mov (.tm 0), none⟩,
      ⟨some 21, .mov (.tm 10), none⟩,
      ⟨some 22, .ixs (.tm 20) (.tm 21), none⟩,
      ⟨some 23, .call (.tm 19) [(.tm 22)], none⟩,
      ⟨some 11, .mov (.tm 23), none⟩])
        (.seq (.seq (.ops [⟨some 24, .mov (.tm 11), none⟩,
      ⟨some 25, .bin .lss (.tm 24) (.cn (.int .i64 0)), none⟩])
        (.cond (.tm 25)
        (.exit 1)
        .skip))
        (.seq (.ops [⟨some 26, .mov (.tm 8), none⟩,
      ⟨some 27, .mov (.tm 1), none⟩,
      ⟨some 28, .bin .shl (.tm 26) (.tm 27), none⟩,
      ⟨some 29, .mov (.tm 11), none⟩,
      ⟨some 30, .bin .or (.tm 28) (.tm 29), none⟩,
      ⟨some 31, .mov (.tm 9), none⟩,
      ⟨some 32, .mov (.tm 1), none⟩,
      ⟨some 33, .bin .add (.tm 31) (.tm 32), none⟩,
      ⟨some 8, .mov (.tm 30), none⟩,
      ⟨some 9, .mov (.tm 33), none⟩])
        (.seq (.ops [⟨some 34, .mov (.tm 9), none⟩,
      ⟨some 35, .bin .geq (.tm 34) (.cn (.int .i64 8)), none⟩])
        (.cond (.tm 35)
        (.seq (.ops [⟨some 36, .mov (.tm 9), none⟩,
      ⟨some 37, .bin .sub (.tm 36) (.cn (.int .i64 8)), none⟩,
      ⟨some 9, .mov (.tm 37), none⟩])
          (.seq (.ops [⟨some 38, .mov (.tm 7), none⟩,
      ⟨some 39, .mov (.tm 8), none⟩,
      ⟨some 40, .mov (.tm 9), none⟩,
      ⟨some 41, .bin .shr (.tm 39) (.tm 40), none⟩,
      ⟨some 42, .conv .u8 (.tm 41), none⟩,
      ⟨some 43, .bsl 1 [.int .u8 0] 1 [(0, (.tm 42))], none⟩,
      ⟨some 44, .app 1 1 false (.tm 38) (.tm 43), none⟩,
      ⟨some 7, .mov (.tm 44), none⟩])
          (.ops [⟨some 45, .mov (.tm 8), none⟩,
      ⟨some 46, .mov (.tm 9), none⟩,
      ⟨some 47, .bin .shl (.cn (.int .i64 1)) (.tm 46), none⟩,
      ⟨some 48, .bin .sub (.tm 47) (.cn (.int .i64 1)), none⟩,
      ⟨some 49, .bin .and (.tm 45) (.tm 48), none⟩,
      ⟨some 8, .mov (.tm 49), none⟩])))
        .skip)))))))
      (.ops [⟨some 50, .bin .add (.tm 16) (.cn (.int .i64 1)), none⟩,
      ⟨some 16, .mov (.tm 50), none⟩]))))))))
  (.seq (.ops [⟨some 51, .mov (.tm 7), none⟩,
      ⟨some 52, .b2s (.tm 51), none⟩,
      ⟨some 6, .mov (.tm 52), none⟩])
  .ret)))))⟩
theorem comp41 : compF Tryd.prog Tryd.f41 ⟨false, [], [([.tmp 7 (some 1)], [0, 1, 2, 7, 8, 9, 15, 16])], [], []⟩ = some L41 := by kernel_rfl

def L42 : LFunc := ⟨35, 1, [.t 2], false, [], [],
  (.seq (.ops [⟨some 2, .mov (.cn (.int .i64 0)), none⟩])
  (.seq (.block 0
  (.seq (.ops [⟨some 4, .mov (.tm 0), none⟩,
      ⟨some 5, .bin .geq (.tm 4) (.cn (.int .u8 48)), none⟩,
      ⟨some 6, .mov (.tm 5), none⟩,
      ⟨some 7, .mov (.tm 0), (some (6, true))⟩,
      ⟨some 8, .bin .leq (.tm 7) (.cn (.int .u8 57)), (some (6, true))⟩,
      ⟨some 9, .pick (.tm 6) (.tm 8) (.cn (.bool false)), none⟩,
      ⟨some 3, .mov (.tm 9), none⟩])
    (.cond (.tm 3)
    (.seq (.ops [⟨some 10, .mov (.tm 0), none⟩,
      ⟨some 11, .bin .sub (.tm 10) (.cn (.int .u8 48)), none⟩,
      ⟨some 12, .conv .i64 (.tm 11), none⟩,
      ⟨some 2, .mov (.tm 12), none⟩])
      .ret)
    (.seq (.ops [⟨some 14, .mov (.tm 0), none⟩,
      ⟨some 15, .bin .geq (.tm 14) (.cn (.int .u8 97)), none⟩,
      ⟨some 16, .mov (.tm 15), none⟩,
      ⟨some 17, .mov (.tm 0), (some (16, true))⟩,
      ⟨some 18, .bin .leq (.tm 17) (.cn (.int .u8 102)), (some (16, true))⟩,
      ⟨some 19, .pick (.tm 16) (.tm 18) (.cn (.bool false)), none⟩,
      ⟨some 13, .mov (.tm 19), none⟩])
      (.cond (.tm 13)
      (.seq (.ops [⟨some 20, .mov (.tm 0), none⟩,
      ⟨some 21, .bin .sub (.tm 20) (.cn (.int .u8 97)), none⟩,
      ⟨some 22, .conv .i64 (.tm 21), none⟩,
      ⟨some 23, .bin .add (.tm 22) (.cn (.int .i64 10)), none⟩,
      ⟨some 2, .mov (.tm 23), none⟩])
        .ret)
      (.seq (.ops [⟨some 25, .mov (.tm 0), none⟩,
      ⟨some 26, .bin .geq (.tm 25) (.cn (.int .u8 65)), none⟩,
      ⟨some 27, .mov (.tm 26), none⟩,
      ⟨some 28, .mov (.tm 0), (some (27, true))⟩,
      ⟨some 29, .bin .leq (.tm 28) (.cn (.int .u8 70)), (some (27, true))⟩,
      ⟨some 30, .pick (.tm 27) (.tm 29) (.cn (.bool false)), none⟩,
      ⟨some 24, .mov (.tm 30), none⟩])
        (.cond (.tm 24)
        (.seq (.ops [⟨some 31, .mov (.tm 0), none⟩,
      ⟨some 32, .bin .sub (.tm 31) (.cn (.int .u8 65)), none⟩,
      ⟨some 33, .conv .i64 (.tm 32), none⟩,
      ⟨some 34, .bin .add (.tm 33) (.cn (.int .i64 10)), none⟩,
      ⟨some 2, .mov (.tm 34), none⟩])
          .ret)
        .skip)))))))
  (.seq (.ops [⟨some 2, .mov (.cn (.int .i64 (-1))), none⟩])
  .ret)))⟩
theorem comp42 : compF Tryd.prog Tryd.f42 ⟨false, [], [], [], []⟩ = some L42 := by kernel_rfl

def L43 : LFunc := ⟨32, 1, [.t 2], false, [], [],
  (.seq (.ops [⟨some 2, .mov (.cn (.int .i64 0)), none⟩])
  (.seq (.seq (.ops [⟨some 3, .mov (.tm 0), none⟩,
      ⟨some 4, .bin .geq (.tm 3) (.cn (.int .u8 48)), none⟩,
      ⟨some 5, .mov (.tm 4), none⟩,
      ⟨some 6, .mov (.tm 0), (some (5, true))⟩,
      ⟨some 7, .bin .leq (.tm 6) (.cn (.int .u8 57)), (some (5, true))⟩,
      ⟨some 8, .pick (.tm 5) (.tm 7) (.cn (.bool false)), none⟩])
  (.cond (.tm 8)
  (.seq (.ops [⟨some 9, .mov (.tm 0), none⟩,
      ⟨some 10, .bin .sub (.tm 9) (.cn (.int .u8 48)), none⟩,
      ⟨some 11, .conv .i64 (.tm 10), none⟩,
      ⟨some 2, .mov (.tm 11), none⟩])
    .ret)
  .skip))
  (.seq (.seq (.ops [⟨some 12, .mov (.tm 0), none⟩,
      ⟨some 13, .bin .geq (.tm 12) (.cn (.int .u8 97)), none⟩,
      ⟨some 14, .mov (.tm 13), none⟩,
      ⟨some 15, .mov (.tm 0), (some (14, true))⟩,
      ⟨some 16, .bin .leq (.tm 15) (.cn (.int .u8 102)), (some (14, true))⟩,
      ⟨some 17, .pick (.tm 14) (.tm 16) (.cn (.bool false)), none⟩])
  (.cond (.tm 17)
  (.seq (.ops [⟨some 18, .mov (.tm 0), none⟩,
      ⟨some 19, .bin .sub (.tm 18) (.cn (.int .u8 97)), none⟩,
      ⟨some 20, .conv .i64 (.tm 19), none⟩,
      ⟨some 21, .bin .add (.tm 20) (.cn (.int .i64 10)), none⟩,
      ⟨some 2, .mov (.tm 21), none⟩])
    .ret)
  .skip))
  (.seq (.seq (.ops [⟨some 22, .mov (.tm 0), none⟩,
      ⟨some 23, .bin .geq (.tm 22) (.cn (.int .u8 65)), none⟩,
      ⟨some 24, .mov (.tm 23), none⟩,
      ⟨some 25, .mov (.tm 0), (some (24, true))⟩,
      ⟨some 26, .bin .leq (.tm 25) (.cn (.int .u8 70)), (some (24, true))⟩,
      ⟨some 27, .pick (.tm 24) (.tm 26) (.cn (.bool false)), none⟩])
  (.cond (.tm 27)
  (.seq (.ops [⟨some 28, .mov (.tm 0), none⟩,
      ⟨some 29, .bin .sub (.tm 28) (.cn (.int .u8 65)), none⟩,
      ⟨some 30, .conv .i64 (.tm 29), none⟩,
      ⟨some 31, .bin .add (.tm 30) (.cn (.int .i64 10)), none⟩,
      ⟨some 2, .mov (.tm 31), none⟩])
    .ret)
  .skip))
  (.seq (.ops [⟨some 2, .mov (.cn (.int .i64 (-1))), none⟩])
  .ret)))))⟩
theorem comp43 : compF Tryd.prog Tryd.f43 ⟨false, [], [], [], []⟩ = some L43 := by kernel_rfl

def L44 : LFunc := ⟨11, 1, [.t 2], false, [], [],
  (.seq (.ops [⟨some 2, .mov (.cn (.string ⟨#[]⟩)), none⟩])
  (.seq (.ops [⟨some 4, .mov (.tm 0), none⟩,
      ⟨some 5, .call (.fu 45) [(.tm 4), (.cn (.string ⟨#[61]⟩))], none⟩,
      ⟨some 3, .mov (.tm 5), none⟩,
      ⟨some 6, .ext (.tm 3) 0, none⟩,
      ⟨some 7, .ext (.tm 3) 1, none⟩,
      ⟨some 8, .ext (.tm 3) 2, none⟩,
      ⟨some 0, .mov (.tm 6), none⟩])
  (.seq (.ops [⟨some 9, .mov (.tm 0), none⟩,
      ⟨some 10, .call (.fu 41) [(.tm 9), (.cn (.int .i64 6)), (.fu 46)], none⟩,
      ⟨some 2, .mov (.tm 10), none⟩])
  .ret)))⟩
theorem comp44 : compF Tryd.prog Tryd.f44 ⟨false, [], [], [], []⟩ = some L44 := by kernel_rfl

def L45 : LFunc := ⟨13, 2, [.t 4, .t 5, .t 6], false, [], [],
  (.seq (.ops [⟨some 4, .mov (.cn (.string ⟨#[]⟩)), none⟩,
      ⟨some 5, .mov (.cn (.string ⟨#[]⟩)), none⟩,
      ⟨some 6, .mov (.cn (.bool false)), none⟩])
  (.seq (.ops [⟨some 7, .mov (.tm 0), none⟩,
      ⟨some 8, .mov (.tm 1), none⟩,
      ⟨some 9, .call (.fu 59) [(.tm 7), (.tm 8)], none⟩,
      ⟨some 10, .ext (.tm 9) 0, none⟩,
      ⟨some 11, .ext (.tm 9) 1, none⟩,
      ⟨some 12, .ext (.tm 9) 2, none⟩,
      ⟨some 4, .mov (.tm 10), none⟩,
      ⟨some 5, .mov (.tm 11), none⟩,
      ⟨some 6, .mov (.tm 12), none⟩])
  .ret))⟩
theorem comp45 : compF Tryd.prog Tryd.f45 ⟨false, [], [], [], []⟩ = some L45 := by kernel_rfl

def L46 : LFunc := ⟨10, 1, [.t 2], false, [], [],
  (.seq (.ops [⟨some 2, .mov (.cn (.int .i64 0)), none⟩])
  (.seq (.seq (.ops [⟨some 3, .mov (.tm 0), none⟩])
  (.block 0
  (.seq (.ops [⟨some 5, .bin .eql (.tm 3) (.cn (.int .u8 45)), none⟩,
      ⟨some 4, .mov (.tm 5), none⟩])
    (.cond (.tm 4)
    (.ops [⟨some 0, .mov (.cn (.int .u8 43)), none⟩])
    (.seq (.ops [⟨some 7, .bin .eql (.tm 3) (.cn (.int .u8 95)), none⟩,
      ⟨some 6, .mov (.tm 7), none⟩])
      (.cond (.tm 6)
      (.ops [⟨some 0, .mov (.cn (.int .u8 47)), none⟩])
      .skip))))))
  (.seq (.ops [⟨some 8, .mov (.tm 0), none⟩,
      ⟨some 9, .call (.fu 47) [(.cn (.string ⟨#[65, 66, 67, 68, 69, 70, 71, 72, 73, 74, 75, 76, 77, 78, 79, 80, 81, 82, 83, 84, 85, 86, 87, 88, 89, 90, 97, 98, 99, 100, 101, 102, 103, 104, 105, 106, 107, 108, 109, 110, 111, 112, 113, 114, 115, 116, 117, 118, 119, 120, 121, 122, 48, 49, 50, 51, 52, 53, 54, 55, 56, 57, 43, 47]⟩)), (.tm 8)], none⟩,
      ⟨some 2, .mov (.tm 9), none⟩])
  .ret)))⟩
theorem comp46 : compF Tryd.prog Tryd.f46 ⟨false, [], [], [], []⟩ = some L46 := by kernel_rfl

def L47 : LFunc := ⟨8, 2, [.t 4], false, [], [],
  (.seq (.ops [⟨some 4, .mov (.cn (.int .i64 0)), none⟩])
  (.seq (.ops [⟨some 5, .mov (.tm 0), none⟩,
      ⟨some 6, .mov (.tm 1), none⟩,
      ⟨some 7, .call (.fu 60) [(.tm 5), (.tm 6)], none⟩,
      ⟨some 4, .mov (.tm 7), none⟩])
  .ret))⟩
theorem comp47 : compF Tryd.prog Tryd.f47 ⟨false, [], [], [], []⟩ = some L47 := by kernel_rfl

def L48 : LFunc := ⟨17, 1, [.t 2], false, [], [],
  (.seq (.ops [⟨some 2, .mov (.cn (.int .i64 0)), none⟩])
  (.seq (.seq (.ops [⟨some 4, .mov (.tm 0), none⟩,
      ⟨some 5, .bin .eql (.tm 4) (.cn (.int .u8 45)), none⟩])
  (.cond (.tm 5)
  (.seq (.ops [⟨some 2, .mov (.cn (.int .i64 62)), none⟩])
    .ret)
  .skip))
  (.seq (.seq (.ops [⟨some 6, .mov (.tm 0), none⟩,
      ⟨some 7, .bin .eql (.tm 6) (.cn (.int .u8 95)), none⟩])
  (.cond (.tm 7)
  (.seq (.ops [⟨some 2, .mov (.cn (.int .i64 63)), none⟩])
    .ret)
  .skip))
  (.seq (.seq (.ops [⟨some 3, .mov (.cn (.int .i64 0)), none⟩])
  (.block 0
  (.loop [0, 3]
    (.seq (.seq (.ops [⟨some 8, .mov (.tm 3), none⟩,
      ⟨some 9, .bin .lss (.tm 8) (.cn (.int .i64 64)), none⟩])
      (.cond (.tm 9)
      .skip
      (.exit 0)))
      (.seq (.block 1
      (.seq (.ops [⟨some 12, .mov (.tm 3), none⟩,
      ⟨some 13, .ixs (.cn (.string ⟨#[65, 66, 67, 68, 69, 70, 71, 72, 73, 74, 75, 76, 77, 78, 79, 80, 81, 82, 83, 84, 85, 86, 87, 88, 89, 90, 97, 98, 99, 100, 101, 102, 103, 104, 105, 106, 107, 108, 109, 110, 111, 112, 113, 114, 115, 116, 117, 118, 119, 120, 121, 122, 48, 49, 50, 51, 52, 53, 54, 55, 56, 57, 43, 47]⟩)) (.tm 12), none⟩,
      ⟨some 14, .mov (.tm 0), none⟩,
      ⟨some 15, .bin .eql (.tm 13) (.tm 14), none⟩])
        (.cond (.tm 15)
        (.seq (.ops [⟨some 16, .mov (.tm 3), none⟩,
      ⟨some 2, .mov (.tm 16), none⟩])
          .ret)
        .skip)))
      (.ops [⟨some 10, .mov (.tm 3), none⟩,
      ⟨some 11, .bin .add (.tm 10) (.cn (.int .i64 1)), none⟩,
      ⟨some 3, .mov (.tm 11), none⟩]))))))
  (.seq (.ops [⟨some 2, .mov (.cn (.int .i64 (-1))), none⟩])
  .ret)))))⟩
theorem comp48 : compF Tryd.prog Tryd.f48 ⟨false, [], [([], [0, 3])], [], []⟩ = some L48 := by kernel_rfl

def L49 : LFunc := ⟨17, 1, [.t 2], false, [], [],
  (.seq (.ops [⟨some 2, .mov (.cn (.bool false)), none⟩])
  (.seq (.ops [⟨some 3, .mov (.tm 0), none⟩,
      ⟨some 4, .bin .geq (.tm 3) (.cn (.int .u8 33)), none⟩,
      ⟨some 5, .mov (.tm 4), none⟩,
      ⟨some 6, .mov (.tm 0), (some (5, true))⟩,
      ⟨some 7, .bin .leq (.tm 6) (.cn (.int .u8 126)), (some (5, true))⟩,
      ⟨some 8, .pick (.tm 5) (.tm 7) (.cn (.bool false)), none⟩,
      ⟨some 9, .mov (.tm 8), none⟩,
      ⟨some 10, .mov (.tm 0), (some (9, true))⟩,
      ⟨some 11, .bin .neq (.tm 10) (.cn (.int .u8 34)), (some (9, true))⟩,
      ⟨some 12, .pick (.tm 9) (.tm 11) (.cn (.bool false)), none⟩,
      ⟨some 13, .mov (.tm 12), none⟩,
      ⟨some 14, .mov (.tm 0), (some (13, true))⟩,
      ⟨some 15, .bin .neq (.tm 14) (.cn (.int .u8 92)), (some (13, true))⟩,
      ⟨some 16, .pick (.tm 13) (.tm 15) (.cn (.bool false)), none⟩,
      ⟨some 2, .mov (.tm 16), none⟩])
  .ret))⟩
theorem comp49 : compF Tryd.prog Tryd.f49 ⟨false, [], [], [], []⟩ = some L49 := by kernel_rfl

def L50 : LFunc := ⟨5, 1, [.t 2], false, [], [],
  (.seq (.ops [⟨some 2, .mov (.cn (.string ⟨#[]⟩)), none⟩])
  (.seq (.ops [⟨some 3, .mov (.tm 0), none⟩,
      ⟨some 4, .call (.fu 61) [(.tm 3)], none⟩,
      ⟨some 2, .mov (.tm 4), none⟩])
  .ret))⟩
theorem comp50 : compF Tryd.prog Tryd.f50 ⟨false, [], [], [], []⟩ = some L50 := by kernel_rfl

def L51 : LFunc := ⟨18, 1, [.t 2, .t 3], false, [], [],
  (.seq (.ops [⟨some 2, .mov (.cn (.int .i64 0)), none⟩,
      ⟨some 3, .mov (.cn (.nilIface)), none⟩])
  (.seq (.ops [⟨some 7, .mov (.tm 0), none⟩,
      ⟨some 8, .call (.fu 62) [(.tm 7)], none⟩,
      ⟨some 6, .mov (.tm 8), none⟩,
      ⟨some 9, .ext (.tm 6) 0, none⟩,
      ⟨some 10, .ext (.tm 6) 1, none⟩,
      ⟨some 4, .mov (.tm 9), none⟩,
      ⟨some 5, .mov (.tm 10), none⟩])
  (.seq (.seq (.ops [⟨some 11, .mov (.tm 5), none⟩,
      ⟨some 12, .isnil 3 true (.tm 11), none⟩])
  (.cond (.tm 12)
  (.seq (.ops [⟨some 13, .mov (.tm 4), none⟩,
      ⟨some 14, .mov (.tm 0), none⟩,
      ⟨some 15, .mov (.tm 5), none⟩,
      ⟨some 16, .call (.fu 63) [(.cn (.string ⟨#[65, 116, 111, 105]⟩)), (.tm 14), (.cn (.int .i64 0)), (.cn (.int .i64 0)), (.tm 15)], none⟩,
      ⟨some 2, .mov (.tm 13), none⟩,
      ⟨some 3, .mov (.tm 16), none⟩])
    .ret)
  .skip))
  (.seq (.ops [⟨some 17, .mov (.tm 4), none⟩,
      ⟨some 2, .mov (.tm 17), none⟩,
      ⟨some 3, .mov (.cn (.nilIface)), none⟩])
  .ret))))⟩
theorem comp51 : compF Tryd.prog Tryd.f51 ⟨false, [], [], [], []⟩ = some L51 := by kernel_rfl

def L52 : LFunc := ⟨32, 2, [.t 4], false, [], [],
  (.seq (.ops [⟨some 4, .mov (.cn (.string ⟨#[]⟩)), none⟩])
  (.seq (.seq (.ops [⟨some 9, .mov (.tm 1), none⟩,
      ⟨some 10, .bin .eql (.tm 9) (.cn (.int .i64 10)), none⟩])
  (.cond (.tm 10)
  (.seq (.seq (.ops [⟨some 11, .mov (.tm 0), none⟩,
      ⟨some 12, .bin .lss (.tm 11) (.cn (.int .u64 100)), none⟩])
    (.cond (.tm 12)
    (.seq (.ops [⟨some 13, .mov (.tm 0), none⟩,
      ⟨some 14, .conv .i64 (.tm 13), none⟩,
      ⟨some 15, .call (.fu 64) [(.tm 14)], none⟩,
      ⟨some 4, .mov (.tm 15), none⟩])
      .ret)
    .skip))
    (.seq (.ops [⟨some 5, .alloc [.int .u8 0, .int .u8 0, .int .u8 0, .int .u8 0, .int .u8 0, .int .u8 0, .int .u8 0, .int .u8 0, .int .u8 0, .int .u8 0, .int .u8 0, .int .u8 0, .int .u8 0, .int .u8 0, .int .u8 0, .int .u8 0, .int .u8 0, .int .u8 0, .int .u8 0, .int .u8 0, .int .u8 0, .int .u8 0, .int .u8 0, .int .u8 0], none⟩])
    (.seq (.ops [⟨some 16, .mov (.tm 0), none⟩,
      ⟨some 17, .call (.fu 65) [(.tm 16)], none⟩,
      ⟨some 6, .mov (.tm 17), none⟩])
    (.seq (.ops [⟨some 18, .mov (.tm 6), none⟩,
      ⟨some 19, .slca 24 (.tm 5) none (some (.tm 18)), none⟩,
      ⟨some 20, .mov (.tm 0), none⟩,
      ⟨some 21, .call (.fu 66) [(.tm 19), (.tm 20)], none⟩])
    (.seq (.ops [⟨some 22, .mov (.tm 6), none⟩,
      ⟨some 23, .slca 24 (.tm 5) none (some (.tm 22)), none⟩,
      ⟨some 24, .b2s (.tm 23), none⟩,
      ⟨some 4, .mov (.tm 24), none⟩])
    .ret)))))
  .skip))
  (.seq (.ops [⟨some 26, .mov (.tm 0), none⟩,
      ⟨some 27, .mov (.tm 1), none⟩,
      ⟨some 28, .call (.fu 67) [(.cn (.slice none 0 0)), (.tm 26), (.tm 27), (.cn (.bool false)), (.cn (.bool false))], none⟩,
      ⟨some 25, .mov (.tm 28), none⟩,
      ⟨some 29, .ext (.tm 25) 0, none⟩,
      ⟨some 30, .ext (.tm 25) 1, none⟩,
      ⟨some 7, .mov (.tm 29), none⟩,
      ⟨some 8, .mov (.tm 30), none⟩])
  (.seq (.ops [⟨some 31, .mov (.tm 8), none⟩,
      ⟨some 4, .mov (.tm 31), none⟩])
  .ret))))⟩
theorem comp52 : compF Tryd.prog Tryd.f52 ⟨false, [], [], [], []⟩ = some L52 := by kernel_rfl

def L53 : LFunc := ⟨30, 2, [.t 4, .t 5], false, [], [],
  (.seq (.ops [⟨some 4, .mov (.cn (.int .u64 0)), none⟩,
      ⟨some 5, .mov (.cn (.int .u64 0)), none⟩])
  (.seq (.cond (.cn (.bool false))
  (.seq (.ops [⟨some 11, .mov (.tm 0), none⟩,
      ⟨some 12, .conv .u32 (.tm 11), none⟩,
      ⟨some 13, .mov (.tm 1), none⟩,
      ⟨some 14, .conv .u32 (.tm 13), none⟩,
      ⟨some 15, .call (.fu 68) [(.tm 12), (.tm 14)], none⟩,
      ⟨some 10, .mov (.tm 15), none⟩,
      ⟨some 16, .ext (.tm 10) 0, none⟩,
      ⟨some 17, .ext (.tm 10) 1, none⟩,
      ⟨some 6, .mov (.tm 16), none⟩,
      ⟨some 7, .mov (.tm 17), none⟩])
    (.seq (.ops [⟨some 18, .mov (.tm 6), none⟩,
      ⟨some 19, .conv .u64 (.tm 18), none⟩,
      ⟨some 20, .mov (.tm 7), none⟩,
      ⟨some 21, .conv .u64 (.tm 20), none⟩,
      ⟨some 4, .mov (.tm 19), none⟩,
      ⟨some 5, .mov (.tm 21), none⟩])
    .ret))
  .skip)
  (.seq (.ops [⟨some 23, .mov (.tm 0), none⟩,
      ⟨some 24, .mov (.tm 1), none⟩,
      ⟨some 25, .call (.fu 69) [(.tm 23), (.tm 24)], none⟩,
      ⟨some 22, .mov (.tm 25), none⟩,
      ⟨some 26, .ext (.tm 22) 0, none⟩,
      ⟨some 27, .ext (.tm 22) 1, none⟩,
      ⟨some 8, .mov (.tm 26), none⟩,
      ⟨some 9, .mov (.tm 27), none⟩])
  (.seq (.ops [⟨some 28, .mov (.tm 8), none⟩,
      ⟨some 29, .mov (.tm 9), none⟩,
      ⟨some 4, .mov (.tm 28), none⟩,
      ⟨some 5, .mov (.tm 29), none⟩])
  .ret))))⟩
theorem comp53 : compF Tryd.prog Tryd.f53 ⟨false, [], [], [], []⟩ = some L53 := by kernel_rfl

def L54 : LFunc := ⟨8, 2, [.t 4], false, [], [],
  (.seq (.ops [⟨some 4, .mov (.cn (.bool false)), none⟩])
  (.seq (.ops [⟨some 5, .mov (.tm 0), none⟩,
      ⟨some 6, .mov (.tm 1), none⟩,
      ⟨some 7, .call (.fu 70) [(.tm 5), (.tm 6)], none⟩,
      ⟨some 4, .mov (.tm 7), none⟩])
  .ret))⟩
theorem comp54 : compF Tryd.prog Tryd.f54 ⟨false, [], [], [], []⟩ = some L54 := by kernel_rfl

def L55 : LFunc := ⟨25, 2, [], false, [], [],
  (.seq (.ops [⟨some 4, .mov (.tm 0), none⟩,
      ⟨some 5, .call (.fu 71) [(.tm 4)], none⟩])
  (.seq (.seq (.ops [⟨some 6, .mov (.tm 1), none⟩,
      ⟨some 7, .bin .lss (.tm 6) (.cn (.int .i64 0)), none⟩])
  (.cond (.tm 7)
  (.ops [⟨some 8, .bad, none⟩,
      ⟨none, .bad, none⟩])
  .skip))
  (.seq (.draw [⟨some 9, .mov (.tm 0), none⟩,
      ⟨some 10, .nilchk (.tm 9), none⟩,
      ⟨some 11, .fld (.tm 10) 1, none⟩,
      ⟨some 12, .load none (.tm 11), none⟩,
      ⟨some 13, .bad, none⟩,
      ⟨some 14, .mov (.tm 0), none⟩,
      ⟨some 15, .nilchk (.tm 14), none⟩,
      ⟨some 16, .fld (.tm 15) 1, none⟩,
      ⟨some 17, .load none (.tm 16), none⟩,
      ⟨some 18, .len (.tm 17), none⟩,
      ⟨some 19, .bin .sub (.tm 13) (.tm 18), none⟩,
      ⟨some 20, .mov (.tm 1), none⟩,
      ⟨some 21, .bin .lss (.tm 19) (.tm 20), none⟩]
      [])
  (.cond (.tm 21)
  (.ops [⟨some 22, .mov (.tm 0), none⟩,
      ⟨some 23, .mov (.tm 1), none⟩,
      ⟨some 24, .call (.fu 72) [(.tm 22), (.tm 23)], none⟩])
  .skip))))⟩
theorem comp55 : compF Tryd.prog Tryd.f55 ⟨false, [], [], [], []⟩ = some L55 := by kernel_rfl

def L56 : LFunc := ⟨19, 2, [.t 4, .t 5], false, [.bx 0 1 (some 1)], [],
  (.seq (.ops [⟨some 4, .mov (.cn (.int .i64 0)), none⟩,
      ⟨some 5, .mov (.cn (.nilIface)), none⟩])
  (.seq (.ops [⟨some 6, .mov (.tm 0), none⟩,
      ⟨some 7, .call (.fu 71) [(.tm 6)], none⟩])
  (.seq (.ops [⟨some 8, .mov (.tm 0), none⟩,
      ⟨some 9, .mov (.tm 0), none⟩,
      ⟨some 10, .nilchk (.tm 9), none⟩,
      ⟨some 11, .fld (.tm 10) 1, none⟩,
      ⟨some 12, .load none (.tm 11), none⟩,
      ⟨some 13, .mov (.tm 1), none⟩,
      ⟨some 14, .app 1 1 true (.tm 12) (.tm 13), none⟩,
      ⟨some 15, .nilchk (.tm 8), none⟩,
      ⟨some 16, .fld (.tm 15) 1, none⟩,
      ⟨none, .store 1 (.tm 16) (.tm 14), none⟩])
  (.seq (.ops [⟨some 17, .mov (.tm 1), none⟩,
      ⟨some 18, .slen (.tm 17), none⟩,
      ⟨some 4, .mov (.tm 18), none⟩,
      ⟨some 5, .mov (.cn (.nilIface)), none⟩])
  .ret))))⟩
theorem comp56 : compF Tryd.prog Tryd.f56 ⟨false, [], [], [.bx 0 1 (some 1)], []⟩ = some L56 := by kernel_rfl

def L57 : LFunc := ⟨8, 1, [.t 2], false, [], [],
  (.seq (.ops [⟨some 2, .mov (.cn (.int .i64 0)), none⟩])
  (.seq (.ops [⟨some 3, .mov (.tm 0), none⟩,
      ⟨some 4, .nilchk (.tm 3), none⟩,
      ⟨some 5, .fld (.tm 4) 1, none⟩,
      ⟨some 6, .load none (.tm 5), none⟩,
      ⟨some 7, .len (.tm 6), none⟩,
      ⟨some 2, .mov (.tm 7), none⟩])
  .ret))⟩
theorem comp57 : compF Tryd.prog Tryd.f57 ⟨false, [], [], [], []⟩ = some L57 := by kernel_rfl

def L58 : LFunc := ⟨14, 1, [.t 2], false, [], [],
  (.seq (.ops [⟨some 2, .mov (.cn (.string ⟨#[]⟩)), none⟩])
  (.seq (.draw [⟨some 3, .mov (.tm 0), none⟩,
      ⟨some 4, .nilchk (.tm 3), none⟩,
      ⟨some 5, .fld (.tm 4) 1, none⟩,
      ⟨some 6, .load none (.tm 5), none⟩,
      ⟨some 7, .bad, none⟩,
      ⟨some 8, .mov (.tm 0), none⟩,
      ⟨some 9, .nilchk (.tm 8), none⟩,
      ⟨some 10, .fld (.tm 9) 1, none⟩,
      ⟨some 11, .load none (.tm 10), none⟩,
      ⟨some 12, .len (.tm 11), none⟩,
      ⟨some 13, .bad, none⟩,
      ⟨some 2, .mov (.tm 13), none⟩]
      [])
  .ret))⟩
theorem comp58 : compF Tryd.prog Tryd.f58 ⟨false, [], [], [], []⟩ = some L58 := by kernel_rfl

def L59 : LFunc := ⟨23, 2, [.t 4, .t 5, .t 6], false, [], [],
  (.seq (.ops [⟨some 4, .mov (.cn (.string ⟨#[]⟩)), none⟩,
      ⟨some 5, .mov (.cn (.string ⟨#[]⟩)), none⟩,
      ⟨some 6, .mov (.cn (.bool false)), none⟩])
  (.seq (.seq (.ops [⟨some 8, .mov (.tm 0), none⟩,
      ⟨some 9, .mov (.tm 1), none⟩,
      ⟨some 10, .call (.fu 73) [(.tm 8), (.tm 9)], none⟩,
      ⟨some 7, .mov (.tm 10), none⟩])
  (.seq (.ops [⟨some 11, .mov (.tm 7), none⟩,
      ⟨some 12, .bin .geq (.tm 11) (.cn (.int .i64 0)), none⟩])
  (.cond (.tm 12)
  (.seq (.draw [⟨some 13, .mov (.tm 0), none⟩,
      ⟨some 14, .mov (.tm 7), none⟩,
      ⟨some 15, .slcs (.tm 13) none (some (.tm 14)), none⟩,
      ⟨some 16, .mov (.tm 0), none⟩,
      ⟨some 17, .mov (.tm 7), none⟩,
      ⟨some 18, .mov (.tm 1), none⟩,
      ⟨some 19, .slen (.tm 18), none⟩,
      ⟨some 20, .bin .add (.tm 17) (.tm 19), none⟩,
      ⟨some 21, .slcs (.tm 16) (some (.tm 20)) none, none⟩,
      ⟨some 4, .mov (.tm 15), none⟩,
      ⟨some 5, .mov (.tm 21), none⟩,
      ⟨some 6, .mov (.cn (.bool true)), none⟩]
      [])
    .ret)
  .skip)))
  (.seq (.ops [⟨some 22, .mov (.tm 0), none⟩,
      ⟨some 4, .mov (.tm 22), none⟩,
      ⟨some 5, .mov (.cn (.string ⟨#[]⟩)), none⟩,
      ⟨some 6, .mov (.cn (.bool false)), none⟩])
  .ret)))⟩
theorem comp59 : compF Tryd.prog Tryd.f59 ⟨false, [], [], [], []⟩ = some L59 := by kernel_rfl

def L60 : LFunc := ⟨8, 2, [.t 4], false, [], [],
  (.seq (.ops [⟨some 4, .mov (.cn (.int .i64 0)), none⟩])
  (.seq (.ops [⟨some 5, .mov (.tm 0), none⟩,
      ⟨some 6, .mov (.tm 1), none⟩,
      ⟨some 7, .call (.fu 74) [(.tm 5), (.tm 6)], none⟩,
      ⟨some 4, .mov (.tm 7), none⟩])
  .ret))⟩
theorem comp60 : compF Tryd.prog Tryd.f60 ⟨false, [], [], [], []⟩ = some L60 := by kernel_rfl

def L61 : LFunc := ⟨5, 1, [.t 2], false, [], [],
  (.seq (.ops [⟨some 2, .mov (.cn (.string ⟨#[]⟩)), none⟩])
  (.seq (.ops [⟨some 3, .mov (.tm 0), none⟩,
      ⟨some 4, .call (.fu 75) [(.tm 3), (.cn (.int .i64 10))], none⟩,
      ⟨some 2, .mov (.tm 4), none⟩])
  .ret))⟩
theorem comp61 : compF Tryd.prog Tryd.f61 ⟨false, [], [], [], []⟩ = some L61 := by kernel_rfl

def L62 : LFunc := ⟨77, 1, [.t 2, .t 3], false, [], [],
  (.seq (.ops [⟨some 2, .mov (.cn (.int .i64 0)), none⟩,
      ⟨some 3, .mov (.cn (.nilIface)), none⟩])
  (.seq (.ops [⟨some 11, .mov (.tm 0), none⟩,
      ⟨some 12, .slen (.tm 11), none⟩,
      ⟨some 4, .mov (.tm 12), none⟩])
  (.seq (.seq (.ops [⟨some 13, .mov (.cn (.bool false)), none⟩,
      ⟨some 14, .mov (.tm 4), (some (13, true))⟩,
      ⟨some 15, .bin .lss (.cn (.int .i64 0)) (.tm 14), (some (13, true))⟩,
      ⟨some 16, .mov (.tm 15), (some (13, true))⟩,
      ⟨some 17, .mov (.tm 4), (some (16, true))⟩,
      ⟨some 18, .bin .lss (.tm 17) (.cn (.int .i64 10)), (some (16, true))⟩,
      ⟨some 19, .pick (.tm 16) (.tm 18) (.cn (.bool false)), (some (13, true))⟩,
      ⟨some 20, .pick (.tm 13) (.tm 19) (.cn (.bool false)), none⟩,
      ⟨some 21, .mov (.tm 20), none⟩,
      ⟨some 22, .mov (.cn (.bool true)), (some (21, false))⟩,
      ⟨some 23, .mov (.tm 4), (some (22, true))⟩,
      ⟨some 24, .bin .lss (.cn (.int .i64 0)) (.tm 23), (some (22, true))⟩,
      ⟨some 25, .mov (.tm 24), (some (22, true))⟩,
      ⟨some 26, .mov (.tm 4), (some (25, true))⟩,
      ⟨some 27, .bin .lss (.tm 26) (.cn (.int .i64 19)), (some (25, true))⟩,
      ⟨some 28, .pick (.tm 25) (.tm 27) (.cn (.bool false)), (some (22, true))⟩,
      ⟨some 29, .pick (.tm 22) (.tm 28) (.cn (.bool false)), (some (21, false))⟩,
      ⟨some 30, .pick (.tm 21) (.cn (.bool true)) (.tm 29), none⟩])
  (.cond (.tm 30)
  (.seq (.ops [⟨some 31, .mov (.tm 0), none⟩,
      ⟨some 5, .mov (.tm 31), none⟩])
    (.seq (.seq (.ops [⟨some 32, .mov (.tm 0), none⟩,
      ⟨some 33, .ixs (.tm 32) (.cn (.int .i64 0)), none⟩,
      ⟨some 34, .bin .eql (.tm 33) (.cn (.int .u8 45)), none⟩,
      ⟨some 35, .mov (.tm 34), none⟩,
      ⟨some 36, .mov (.tm 0), (some (35, false))⟩,
      ⟨some 37, .ixs (.tm 36) (.cn (.int .i64 0)), (some (35, false))⟩,
      ⟨some 38, .bin .eql (.tm 37) (.cn (.int .u8 43)), (some (35, false))⟩,
      ⟨some 39, .pick (.tm 35) (.cn (.bool true)) (.tm 38), none⟩])
    (.cond (.tm 39)
    (.seq (.ops [⟨some 40, .mov (.tm 0), none⟩,
      ⟨some 41, .slcs (.tm 40) (some (.cn (.int .i64 1))) none, none⟩,
      ⟨some 0, .mov (.tm 41), none⟩])
      (.seq (.ops [⟨some 42, .mov (.tm 0), none⟩,
      ⟨some 43, .slen (.tm 42), none⟩,
      ⟨some 44, .bin .lss (.tm 43) (.cn (.int .i64 1)), none⟩])
      (.cond (.tm 44)
      (.seq (.ops [⟨some 45, .bad, none⟩,
      ⟨some 2, .mov (.cn (.int .i64 0)), none⟩,
      ⟨some 3, .mov (.tm 45), none⟩])
        .ret)
      .skip)))
    .skip))
    (.seq (.ops [⟨some 6, .mov (.cn (.int .i64 0)), none⟩])
    (.seq (.seq (.ops [⟨some 46, .mov (.tm 0), none⟩,
      ⟨some 47, .s2b (.tm 46), none⟩,
      ⟨some 48, .len (.tm 47), none⟩,
      ⟨some 49, .mov (.cn (.int .i64 0)), none⟩])
    (.block 0
    (.loop [5, 6, 47, 48, 49]
      (.seq (.ops [⟨some 50, .bin .lss (.tm 49) (.tm 48), none⟩])
        (.seq (.cond (.tm 50)
        .skip
        (.exit 0))
        (.seq (.block 1
        (.seq (.ops [⟨some 51, .ixa 1 (.tm 47) (.tm 49), none⟩,
      ⟨some 52, .load none (.tm 51), none⟩,
      ⟨some 8, .mov (.tm 52), none⟩])
          (.seq (.ops [⟨some 53, .mov (.tm 8), none⟩,
      ⟨some 54, .bin .sub (.tm 53) (.cn (.int .u8 48)), none⟩,
      ⟨some 8, .mov (.tm 54), none⟩])
          (.seq (.seq (.ops [⟨some 55, .mov (.tm 8), none⟩,
      ⟨some 56, .bin .gtr (.tm 55) (.cn (.int .u8 9)), none⟩])
          (.cond (.tm 56)
          (.seq (.ops [⟨some 57, .bad, none⟩,
      ⟨some 2, .mov (.cn (.int .i64 0)), none⟩,
      ⟨some 3, .mov (.tm 57), none⟩])
            .ret)
          .skip))
          (.ops [⟨some 58, .mov (.tm 6), none⟩,
      ⟨some 59, .bin .mul (.tm 58) (.cn (.int .i64 10)), none⟩,
      ⟨some 60, .mov (.tm 8), none⟩,
      ⟨some 61, .conv .i64 (.tm 60), none⟩,
      ⟨some 62, .bin .add (.tm 59) (.tm 61), none⟩,
      ⟨some 6, .mov (.tm 62), none⟩])))))
        (.ops [⟨some 63, .bin .add (.tm 49) (.cn (.int .i64 1)), none⟩,
      ⟨some 49, .mov (.tm 63), none⟩])))))))
    (.seq (.seq (.ops [⟨some 64, .mov (.tm 5), none⟩,
      ⟨some 65, .ixs (.tm 64) (.cn (.int .i64 0)), none⟩,
      ⟨some 66, .bin .eql (.tm 65) (.cn (.int .u8 45)), none⟩])
    (.cond (.tm 66)
    (.ops [⟨some 67, .mov (.tm 6), none⟩,
      ⟨some 68, .un .neg (.tm 67), none⟩,
      ⟨some 6, .mov (.tm 68), none⟩])
    .skip))
    (.seq (.ops [⟨some 69, .mov (.tm 6), none⟩,
      ⟨some 2, .mov (.tm 69), none⟩,
      ⟨some 3, .mov (.cn (.nilIface)), none⟩])
    .ret))))))
  .skip))
  (.seq (.ops [⟨some 71, .mov (.tm 0), none⟩,
      ⟨some 72, .call (.fu 76) [(.tm 71), (.cn (.int .i64 10)), (.cn (.int .i64 0))], none⟩,
      ⟨some 70, .mov (.tm 72), none⟩,
      ⟨some 73, .ext (.tm 70) 0, none⟩,
      ⟨some 74, .ext (.tm 70) 1, none⟩,
      ⟨some 9, .mov (.tm 73), none⟩,
      ⟨some 10, .mov (.tm 74), none⟩])
  (.seq (.ops [⟨some 75, .mov (.tm 9), none⟩,
      ⟨some 76, .mov (.tm 10), none⟩,
      ⟨some 2, .mov (.tm 75), none⟩,
      ⟨some 3, .mov (.tm 76), none⟩])
  .ret)))))⟩
theorem comp62 : compF Tryd.prog Tryd.f62 ⟨false, [], [([], [5, 6, 47, 48, 49])], [], []⟩ = some L62 := by kernel_rfl

def L63 : LFunc := ⟨43, 5, [.t 10], false, [], [],
  (.seq (.ops [⟨some 10, .mov (.cn (.nilIface)), none⟩])
  (.seq (.seq (.ops [⟨some 11, .mov (.tm 4), none⟩])
  (.block 0
  (.seq (.ops [⟨some 13, .bad, none⟩,
      ⟨some 14, .bad, none⟩,
      ⟨some 12, .mov (.tm 14), none⟩])
    (.cond (.tm 12)
    (.seq (.ops [⟨some 15, .mov (.tm 0), none⟩,
      ⟨some 16, .mov (.tm 1), none⟩,
      ⟨some 17, .call (.fu 77) [(.tm 15), (.tm 16)], none⟩,
      ⟨some 18, .bad, none⟩,
      ⟨some 10, .mov (.tm 18), none⟩])
      .ret)
    (.seq (.ops [⟨some 20, .bad, none⟩,
      ⟨some 21, .bad, none⟩,
      ⟨some 19, .mov (.tm 21), none⟩])
      (.cond (.tm 19)
      (.seq (.ops [⟨some 22, .mov (.tm 0), none⟩,
      ⟨some 23, .mov (.tm 1), none⟩,
      ⟨some 24, .call (.fu 78) [(.tm 22), (.tm 23)], none⟩,
      ⟨some 25, .bad, none⟩,
      ⟨some 10, .mov (.tm 25), none⟩])
        .ret)
      (.seq (.ops [⟨some 27, .bad, none⟩,
      ⟨some 28, .bad, none⟩,
      ⟨some 26, .mov (.tm 28), none⟩])
        (.cond (.tm 26)
        (.seq (.ops [⟨some 29, .mov (.tm 0), none⟩,
      ⟨some 30, .mov (.tm 1), none⟩,
      ⟨some 31, .mov (.tm 2), none⟩,
      ⟨some 32, .call (.fu 79) [(.tm 29), (.tm 30), (.tm 31)], none⟩,
      ⟨some 33, .bad, none⟩,
      ⟨some 10, .mov (.tm 33), none⟩])
          .ret)
        (.seq (.ops [⟨some 35, .bad, none⟩,
      ⟨some 36, .bad, none⟩,
      ⟨some 34, .mov (.tm 36), none⟩])
          (.cond (.tm 34)
          (.seq (.ops [⟨some 37, .mov (.tm 0), none⟩,
      ⟨some 38, .mov (.tm 1), none⟩,
      ⟨some 39, .mov (.tm 3), none⟩,
      ⟨some 40, .call (.fu 80) [(.tm 37), (.tm 38), (.tm 39)], none⟩,
      ⟨some 41, .bad, none⟩,
      ⟨some 10, .mov (.tm 41), none⟩])
            .ret)
          .skip))))))))))
  (.seq (.ops [⟨some 42, .mov (.tm 4), none⟩,
      ⟨some 10, .mov (.tm 42), none⟩])
  .ret)))⟩
theorem comp63 : compF Tryd.prog Tryd.f63 ⟨false, [], [], [], []⟩ = some L63 := by kernel_rfl

def L64 : LFunc := ⟨15, 1, [.t 2], false, [], [],
  (.seq (.ops [⟨some 2, .mov (.cn (.string ⟨#[]⟩)), none⟩])
  (.seq (.seq (.ops [⟨some 3, .mov (.tm 0), none⟩,
      ⟨some 4, .bin .lss (.tm 3) (.cn (.int .i64 10)), none⟩])
  (.cond (.tm 4)
  (.seq (.ops [⟨some 5, .mov (.tm 0), none⟩,
      ⟨some 6, .mov (.tm 0), none⟩,
      ⟨some 7, .bin .add (.tm 6) (.cn (.int .i64 1)), none⟩,
      ⟨some 8, .slcs (.cn (.string ⟨#[48, 49, 50, 51, 52, 53, 54, 55, 56, 57, 97, 98, 99, 100, 101, 102, 103, 104, 105, 106, 107, 108, 109, 110, 111, 112, 113, 114, 115, 116, 117, 118, 119, 120, 121, 122]⟩)) (some (.tm 5)) (some (.tm 7)), none⟩,
      ⟨some 2, .mov (.tm 8), none⟩])
    .ret)
  .skip))
  (.seq (.ops [⟨some 9, .mov (.tm 0), none⟩,
      ⟨some 10, .bin .mul (.tm 9) (.cn (.int .i64 2)), none⟩,
      ⟨some 11, .mov (.tm 0), none⟩,
      ⟨some 12, .bin .mul (.tm 11) (.cn (.int .i64 2)), none⟩,
      ⟨some 13, .bin .add (.tm 12) (.cn (.int .i64 2)), none⟩,
      ⟨some 14, .slcs (.cn (.string ⟨#[48, 48, 48, 49, 48, 50, 48, 51, 48, 52, 48, 53, 48, 54, 48, 55, 48, 56, 48, 57, 49, 48, 49, 49, 49, 50, 49, 51, 49, 52, 49, 53, 49, 54, 49, 55, 49, 56, 49, 57, 50, 48, 50, 49, 50, 50, 50, 51, 50, 52, 50, 53, 50, 54, 50, 55, 50, 56, 50, 57, 51, 48, 51, 49, 51, 50, 51, 51, 51, 52, 51, 53, 51, 54, 51, 55, 51, 56, 51, 57, 52, 48, 52, 49, 52, 50, 52, 51, 52, 52, 52, 53, 52, 54, 52, 55, 52, 56, 52, 57, 53, 48, 53, 49, 53, 50, 53, 51, 53, 52, 53, 53, 53, 54, 53, 55, 53, 56, 53, 57, 54, 48, 54, 49, 54, 50, 54, 51, 54, 52, 54, 53, 54, 54, 54, 55, 54, 56, 54, 57, 55, 48, 55, 49, 55, 50, 55, 51, 55, 52, 55, 53, 55, 54, 55, 55, 55, 56, 55, 57, 56, 48, 56, 49, 56, 50, 56, 51, 56, 52, 56, 53, 56, 54, 56, 55, 56, 56, 56, 57, 57, 48, 57, 49, 57, 50, 57, 51, 57, 52, 57, 53, 57, 54, 57, 55, 57, 56, 57, 57]⟩)) (some (.tm 10)) (some (.tm 13)), none⟩,
      ⟨some 2, .mov (.tm 14), none⟩])
  .ret)))⟩
theorem comp64 : compF Tryd.prog Tryd.f64 ⟨false, [], [], [], []⟩ = some L64 := by kernel_rfl

def L65 : LFunc := ⟨15, 1, [.t 2], false, [], [],
  (.seq (.ops [⟨some 2, .mov (.cn (.int .i64 0)), none⟩])
  (.seq (.ops [⟨some 4, .mov (.tm 0), none⟩,
      ⟨some 5, .call (.fu 82) [(.tm 4)], none⟩,
      ⟨some 6, .call (.fu 81) [(.tm 5)], none⟩,
      ⟨some 3, .mov (.tm 6), none⟩])
  (.seq (.ops [⟨some 7, .mov (.tm 3), none⟩,
      ⟨some 8, .mov (.tm 0), none⟩,
      ⟨some 9, .mov (.tm 3), none⟩,
      ⟨some 10, .ixp 20 1 (.gl 1) (.tm 9), none⟩,
      ⟨some 11, .load none (.tm 10), none⟩,
      ⟨some 12, .bin .geq (.tm 8) (.tm 11), none⟩,
      ⟨some 13, .call (.fu 83) [(.tm 12)], none⟩,
      ⟨some 14, .bin .add (.tm 7) (.tm 13), none⟩,
      ⟨some 2, .mov (.tm 14), none⟩])
  .ret)))⟩
theorem comp65 : compF Tryd.prog Tryd.f65 ⟨false, [], [], [], []⟩ = some L65 := by kernel_rfl

def L66 : LFunc := ⟨167, 2, [], false, [], [],
  (.seq (.ops [⟨some 17, .mov (.tm 0), none⟩,
      ⟨some 18, .len (.tm 17), none⟩,
      ⟨some 4, .mov (.tm 18), none⟩])
  (.seq (.block 0
  (.loop [0, 1, 4]
    (.seq (.seq (.ops [⟨some 19, .mov (.tm 4), none⟩,
      ⟨some 20, .bin .geq (.tm 19) (.cn (.int .i64 8)), none⟩])
      (.cond (.tm 20)
      .skip
      (.exit 0)))
      (.block 1
      (.seq (.ops [⟨some 21, .mov (.tm 1), none⟩,
      ⟨some 22, .bin .rem (.tm 21) (.cn (.int .u64 100000000)), none⟩,
      ⟨some 23, .conv .u32 (.tm 22), none⟩,
      ⟨some 5, .mov (.tm 23), none⟩])
        (.seq (.ops [⟨some 24, .mov (.tm 1), none⟩,
      ⟨some 25, .bin .quo (.tm 24) (.cn (.int .u64 100000000)), none⟩,
      ⟨some 1, .mov (.tm 25), none⟩])
        (.seq (.ops [⟨some 26, .mov (.tm 5), none⟩,
      ⟨some 27, .bin .quo (.tm 26) (.cn (.int .u32 10000)), none⟩,
      ⟨some 28, .mov (.tm 5), none⟩,
      ⟨some 29, .bin .rem (.tm 28) (.cn (.int .u32 10000)), none⟩,
      ⟨some 6, .mov (.tm 27), none⟩,
      ⟨some 7, .mov (.tm 29), none⟩])
        (.seq (.ops [⟨some 30, .mov (.tm 7), none⟩,
      ⟨some 31, .bin .quo (.tm 30) (.cn (.int .u32 100)), none⟩,
      ⟨some 32, .bin .mul (.tm 31) (.cn (.int .u32 2)), none⟩,
      ⟨some 33, .mov (.tm 7), none⟩,
      ⟨some 34, .bin .rem (.tm 33) (.cn (.int .u32 100)), none⟩,
      ⟨some 35, .bin .mul (.tm 34) (.cn (.int .u32 2)), none⟩,
      ⟨some 8, .mov (.tm 32), none⟩,
      ⟨some 9, .mov (.tm 35), none⟩])
        (.seq (.ops [⟨some 36, .mov (.tm 6), none⟩,
      ⟨some 37, .bin .quo (.tm 36) (.cn (.int .u32 100)), none⟩,
      ⟨some 38, .bin .mul (.tm 37) (.cn (.int .u32 2)), none⟩,
      ⟨some 39, .mov (.tm 6), none⟩,
      ⟨some 40, .bin .rem (.tm 39) (.cn (.int .u32 100)), none⟩,
      ⟨some 41, .bin .mul (.tm 40) (.cn (.int .u32 2)), none⟩,
      ⟨some 10, .mov (.tm 38), none⟩,
      ⟨some 11, .mov (.tm 41), none⟩])
        (.seq (.draw [⟨some 42, .mov (.tm 0), none⟩,
      ⟨some 43, .mov (.tm 4), none⟩,
      ⟨some 44, .bin .sub (.tm 43) (.cn (.int .i64 1)), none⟩,
      ⟨some 45, .mov (.tm 0), none⟩,
      ⟨some 46, .mov (.tm 4), none⟩,
      ⟨some 47, .bin .sub (.tm 46) (.cn (.int .i64 2)), none⟩,
      ⟨some 48, .mov (.tm 9), none⟩,
      ⟨some 49, .bin .add (.tm 48) (.cn (.int .u32 1)), none⟩,
      ⟨some 50, .ixs (.cn (.string ⟨#[48, 48, 48, 49, 48, 50, 48, 51, 48, 52, 48, 53, 48, 54, 48, 55, 48, 56, 48, 57, 49, 48, 49, 49, 49, 50, 49, 51, 49, 52, 49, 53, 49, 54, 49, 55, 49, 56, 49, 57, 50, 48, 50, 49, 50, 50, 50, 51, 50, 52, 50, 53, 50, 54, 50, 55, 50, 56, 50, 57, 51, 48, 51, 49, 51, 50, 51, 51, 51, 52, 51, 53, 51, 54, 51, 55, 51, 56, 51, 57, 52, 48, 52, 49, 52, 50, 52, 51, 52, 52, 52, 53, 52, 54, 52, 55, 52, 56, 52, 57, 53, 48, 53, 49, 53, 50, 53, 51, 53, 52, 53, 53, 53, 54, 53, 55, 53, 56, 53, 57, 54, 48, 54, 49, 54, 50, 54, 51, 54, 52, 54, 53, 54, 54, 54, 55, 54, 56, 54, 57, 55, 48, 55, 49, 55, 50, 55, 51, 55, 52, 55, 53, 55, 54, 55, 55, 55, 56, 55, 57, 56, 48, 56, 49, 56, 50, 56, 51, 56, 52, 56, 53, 56, 54, 56, 55, 56, 56, 56, 57, 57, 48, 57, 49, 57, 50, 57, 51, 57, 52, 57, 53, 57, 54, 57, 55, 57, 56, 57, 57]⟩)) (.tm 49), none⟩,
      ⟨some 51, .mov (.tm 9), none⟩,
      ⟨some 52, .ixs (.cn (.string ⟨#[48, 48, 48, 49, 48, 50, 48, 51, 48, 52, 48, 53, 48, 54, 48, 55, 48, 56, 48, 57, 49, 48, 49, 49, 49, 50, 49, 51, 49, 52, 49, 53, 49, 54, 49, 55, 49, 56, 49, 57, 50, 48, 50, 49, 50, 50, 50, 51, 50, 52, 50, 53, 50, 54, 50, 55, 50, 56, 50, 57, 51, 48, 51, 49, 51, 50, 51, 51, 51, 52, 51, 53, 51, 54, 51, 55, 51, 56, 51, 57, 52, 48, 52, 49, 52, 50, 52, 51, 52, 52, 52, 53, 52, 54, 52, 55, 52, 56, 52, 57, 53, 48, 53, 49, 53, 50, 53, 51, 53, 52, 53, 53, 53, 54, 53, 55, 53, 56, 53, 57, 54, 48, 54, 49, 54, 50, 54, 51, 54, 52, 54, 53, 54, 54, 54, 55, 54, 56, 54, 57, 55, 48, 55, 49, 55, 50, 55, 51, 55, 52, 55, 53, 55, 54, 55, 55, 55, 56, 55, 57, 56, 48, 56, 49, 56, 50, 56, 51, 56, 52, 56, 53, 56, 54, 56, 55, 56, 56, 56, 57, 57, 48, 57, 49, 57, 50, 57, 51, 57, 52, 57, 53, 57, 54, 57, 55, 57, 56, 57, 57]⟩)) (.tm 51), none⟩,
      ⟨some 53, .ixa 1 (.tm 42) (.tm 44), none⟩,
      ⟨none, .store 1 (.tm 53) (.tm 50), none⟩,
      ⟨some 54, .ixa 1 (.tm 45) (.tm 47), none⟩,
      ⟨none, .store 1 (.tm 54) (.tm 52), none⟩]
      [])
        (.seq (.draw [⟨some 55, .mov (.tm 0), none⟩,
      ⟨some 56, .mov (.tm 4), none⟩,
      ⟨some 57, .bin .sub (.tm 56) (.cn (.int .i64 3)), none⟩,
      ⟨some 58, .mov (.tm 0), none⟩,
      ⟨some 59, .mov (.tm 4), none⟩,
      ⟨some 60, .bin .sub (.tm 59) (.cn (.int .i64 4)), none⟩,
      ⟨some 61, .mov (.tm 8), none⟩,
      ⟨some 62, .bin .add (.tm 61) (.cn (.int .u32 1)), none⟩,
      ⟨some 63, .ixs (.cn (.string ⟨#[48, 48, 48, 49, 48, 50, 48, 51, 48, 52, 48, 53, 48, 54, 48, 55, 48, 56, 48, 57, 49, 48, 49, 49, 49, 50, 49, 51, 49, 52, 49, 53, 49, 54, 49, 55, 49, 56, 49, 57, 50, 48, 50, 49, 50, 50, 50, 51, 50, 52, 50, 53, 50, 54, 50, 55, 50, 56, 50, 57, 51, 48, 51, 49, 51, 50, 51, 51, 51, 52, 51, 53, 51, 54, 51, 55, 51, 56, 51, 57, 52, 48, 52, 49, 52, 50, 52, 51, 52, 52, 52, 53, 52, 54, 52, 55, 52, 56, 52, 57, 53, 48, 53, 49, 53, 50, 53, 51, 53, 52, 53, 53, 53, 54, 53, 55, 53, 56, 53, 57, 54, 48, 54, 49, 54, 50, 54, 51, 54, 52, 54, 53, 54, 54, 54, 55, 54, 56, 54, 57, 55, 48, 55, 49, 55, 50, 55, 51, 55, 52, 55, 53, 55, 54, 55, 55, 55, 56, 55, 57, 56, 48, 56, 49, 56, 50, 56, 51, 56, 52, 56, 53, 56, 54, 56, 55, 56, 56, 56, 57, 57, 48, 57, 49, 57, 50, 57, 51, 57, 52, 57, 53, 57, 54, 57, 55, 57, 56, 57, 57]⟩)) (.tm 62), none⟩,
      ⟨some 64, .mov (.tm 8), none⟩,
      ⟨some 65, .ixs (.cn (.string ⟨#[48, 48, 48, 49, 48, 50, 48, 51, 48, 52, 48, 53, 48, 54, 48, 55, 48, 56, 48, 57, 49, 48, 49, 49, 49, 50, 49, 51, 49, 52, 49, 53, 49, 54, 49, 55, 49, 56, 49, 57, 50, 48, 50, 49, 50, 50, 50, 51, 50, 52, 50, 53, 50, 54, 50, 55, 50, 56, 50, 57, 51, 48, 51, 49, 51, 50, 51, 51, 51, 52, 51, 53, 51, 54, 51, 55, 51, 56, 51, 57, 52, 48, 52, 49, 52, 50, 52, 51, 52, 52, 52, 53, 52, 54, 52, 55, 52, 56, 52, 57, 53, 48, 53, 49, 53, 50, 53, 51, 53, 52, 53, 53, 53, 54, 53, 55, 53, 56, 53, 57, 54, 48, 54, 49, 54, 50, 54, 51, 54, 52, 54, 53, 54, 54, 54, 55, 54, 56, 54, 57, 55, 48, 55, 49, 55, 50, 55, 51, 55, 52, 55, 53, 55, 54, 55, 55, 55, 56, 55, 57, 56, 48, 56, 49, 56, 50, 56, 51, 56, 52, 56, 53, 56, 54, 56, 55, 56, 56, 56, 57, 57, 48, 57, 49, 57, 50, 57, 51, 57, 52, 57, 53, 57, 54, 57, 55, 57, 56, 57, 57]⟩)) (.tm 64), none⟩,
      ⟨some 66, .ixa 1 (.tm 55) (.tm 57), none⟩,
      ⟨none, .store 1 (.tm 66) (.tm 63), none⟩,
      ⟨some 67, .ixa 1 (.tm 58) (.tm 60), none⟩,
      ⟨none, .store 1 (.tm 67) (.tm 65), none⟩]
      [])
        (.seq (.draw [⟨some 68, .mov (.tm 0), none⟩,
      ⟨some 69, .mov (.tm 4), none⟩,
      ⟨some 70, .bin .sub (.tm 69) (.cn (.int .i64 5)), none⟩,
      ⟨some 71, .mov (.tm 0), none⟩,
      ⟨some 72, .mov (.tm 4), none⟩,
      ⟨some 73, .bin .sub (.tm 72) (.cn (.int .i64 6)), none⟩,
      ⟨some 74, .mov (.tm 11), none⟩,
      ⟨some 75, .bin .add (.tm 74) (.cn (.int .u32 1)), none⟩,
      ⟨some 76, .ixs (.cn (.string ⟨#[48, 48, 48, 49, 48, 50, 48, 51, 48, 52, 48, 53, 48, 54, 48, 55, 48, 56, 48, 57, 49, 48, 49, 49, 49, 50, 49, 51, 49, 52, 49, 53, 49, 54, 49, 55, 49, 56, 49, 57, 50, 48, 50, 49, 50, 50, 50, 51, 50, 52, 50, 53, 50, 54, 50, 55, 50, 56, 50, 57, 51, 48, 51, 49, 51, 50, 51, 51, 51, 52, 51, 53, 51, 54, 51, 55, 51, 56, 51, 57, 52, 48, 52, 49, 52, 50, 52, 51, 52, 52, 52, 53, 52, 54, 52, 55, 52, 56, 52, 57, 53, 48, 53, 49, 53, 50, 53, 51, 53, 52, 53, 53, 53, 54, 53, 55, 53, 56, 53, 57, 54, 48, 54, 49, 54, 50, 54, 51, 54, 52, 54, 53, 54, 54, 54, 55, 54, 56, 54, 57, 55, 48, 55, 49, 55, 50, 55, 51, 55, 52, 55, 53, 55, 54, 55, 55, 55, 56, 55, 57, 56, 48, 56, 49, 56, 50, 56, 51, 56, 52, 56, 53, 56, 54, 56, 55, 56, 56, 56, 57, 57, 48, 57, 49, 57, 50, 57, 51, 57, 52, 57, 53, 57, 54, 57, 55, 57, 56, 57, 57]⟩)) (.tm 75), none⟩,
      ⟨some 77, .mov (.tm 11), none⟩,
      ⟨some 78, .ixs (.cn (.string ⟨#[48, 48, 48, 49, 48, 50, 48, 51, 48, 52, 48, 53, 48, 54, 48, 55, 48, 56, 48, 57, 49, 48, 49, 49, 49, 50, 49, 51, 49, 52, 49, 53, 49, 54, 49, 55, 49, 56, 49, 57, 50, 48, 50, 49, 50, 50, 50, 51, 50, 52, 50, 53, 50, 54, 50, 55, 50, 56, 50, 57, 51, 48, 51, 49, 51, 50, 51, 51, 51, 52, 51, 53, 51, 54, 51, 55, 51, 56, 51, 57, 52, 48, 52, 49, 52, 50, 52, 51, 52, 52, 52, 53, 52, 54, 52, 55, 52, 56, 52, 57, 53, 48, 53, 49, 53, 50, 53, 51, 53, 52, 53, 53, 53, 54, 53, 55, 53, 56, 53, 57, 54, 48, 54, 49, 54, 50, 54, 51, 54, 52, 54, 53, 54, 54, 54, 55, 54, 56, 54, 57, 55, 48, 55, 49, 55, 50, 55, 51, 55, 52, 55, 53, 55, 54, 55, 55, 55, 56, 55, 57, 56, 48, 56, 49, 56, 50, 56, 51, 56, 52, 56, 53, 56, 54, 56, 55, 56, 56, 56, 57, 57, 48, 57, 49, 57, 50, 57, 51, 57, 52, 57, 53, 57, 54, 57, 55, 57, 56, 57, 57]⟩)) (.tm 77), none⟩,
      ⟨some 79, .ixa 1 (.tm 68) (.tm 70), none⟩,
      ⟨none, .store 1 (.tm 79) (.tm 76), none⟩,
      ⟨some 80, .ixa 1 (.tm 71) (.tm 73), none⟩,
      ⟨none, .store 1 (.tm 80) (.tm 78), none⟩]
      [])
        (.seq (.draw [⟨some 81, .mov (.tm 0), none⟩,
      ⟨some 82, .mov (.tm 4), none⟩,
      ⟨some 83, .bin .sub (.tm 82) (.cn (.int .i64 7)), none⟩,
      ⟨some 84, .mov (.tm 0), none⟩,
      ⟨some 85, .mov (.tm 4), none⟩,
      ⟨some 86, .bin .sub (.tm 85) (.cn (.int .i64 8)), none⟩,
      ⟨some 87, .mov (.tm 10), none⟩,
      ⟨some 88, .bin .add (.tm 87) (.cn (.int .u32 1)), none⟩,
      ⟨some 89, .ixs (.cn (.string ⟨#[48, 48, 48, 49, 48, 50, 48, 51, 48, 52, 48, 53, 48, 54, 48, 55, 48, 56, 48, 57, 49, 48, 49, 49, 49, 50, 49, 51, 49, 52, 49, 53, 49, 54, 49, 55, 49, 56, 49, 57, 50, 48, 50, 49, 50, 50, 50, 51, 50, 52, 50, 53, 50, 54, 50, 55, 50, 56, 50, 57, 51, 48, 51, 49, 51, 50, 51, 51, 51, 52, 51, 53, 51, 54, 51, 55, 51, 56, 51, 57, 52, 48, 52, 49, 52, 50, 52, 51, 52, 52, 52, 53, 52, 54, 52, 55, 52, 56, 52, 57, 53, 48, 53, 49, 53, 50, 53, 51, 53, 52, 53, 53, 53, 54, 53, 55, 53, 56, 53, 57, 54, 48, 54, 49, 54, 50, 54, 51, 54, 52, 54, 53, 54, 54, 54, 55, 54, 56, 54, 57, 55, 48, 55, 49, 55, 50, 55, 51, 55, 52, 55, 53, 55, 54, 55, 55, 55, 56, 55, 57, 56, 48, 56, 49, 56, 50, 56, 51, 56, 52, 56, 53, 56, 54, 56, 55, 56, 56, 56, 57, 57, 48, 57, 49, 57, 50, 57, 51, 57, 52, 57, 53, 57, 54, 57, 55, 57, 56, 57, 57]⟩)) (.tm 88), none⟩,
      ⟨some 90, .mov (.tm 10), none⟩,
      ⟨some 91, .ixs (.cn (.string ⟨#[48, 48, 48, 49, 48, 50, 48, 51, 48, 52, 48, 53, 48, 54, 48, 55, 48, 56, 48, 57, 49, 48, 49, 49, 49, 50, 49, 51, 49, 52, 49, 53, 49, 54, 49, 55, 49, 56, 49, 57, 50, 48, 50, 49, 50, 50, 50, 51, 50, 52, 50, 53, 50, 54, 50, 55, 50, 56, 50, 57, 51, 48, 51, 49, 51, 50, 51, 51, 51, 52, 51, 53, 51, 54, 51, 55, 51, 56, 51, 57, 52, 48, 52, 49, 52, 50, 52, 51, 52, 52, 52, 53, 52, 54, 52, 55, 52, 56, 52, 57, 53, 48, 53, 49, 53, 50, 53, 51, 53, 52, 53, 53, 53, 54, 53, 55, 53, 56, 53, 57, 54, 48, 54, 49, 54, 50, 54, 51, 54, 52, 54, 53, 54, 54, 54, 55, 54, 56, 54, 57, 55, 48, 55, 49, 55, 50, 55, 51, 55, 52, 55, 53, 55, 54, 55, 55, 55, 56, 55, 57, 56, 48, 56, 49, 56, 50, 56, 51, 56, 52, 56, 53, 56, 54, 56, 55, 56, 56, 56, 57, 57, 48, 57, 49, 57, 50, 57, 51, 57, 52, 57, 53, 57, 54, 57, 55, 57, 56, 57, 57]⟩)) (.tm 90), none⟩,
      ⟨some 92, .ixa 1 (.tm 81) (.tm 83), none⟩,
      ⟨none, .store 1 (.tm 92) (.tm 89), none⟩,
      ⟨some 93, .ixa 1 (.tm 84) (.tm 86), none⟩,
      ⟨none, .store 1 (.tm 93) (.tm 91), none⟩]
      [])
        (.ops [⟨some 94, .mov (.tm 4), none⟩,
      ⟨some 95, .bin .sub (.tm 94) (.cn (.int .i64 8)), none⟩,
      ⟨some 4, .mov (.tm 95), none⟩]))))))))))))))
  (.seq (.ops [⟨some 96, .mov (.tm 1), none⟩,
      ⟨some 97, .conv .u32 (.tm 96), none⟩,
      ⟨some 12, .mov (.tm 97), none⟩])
  (.seq (.seq (.ops [⟨some 98, .mov (.tm 4), none⟩,
      ⟨some 99, .bin .geq (.tm 98) (.cn (.int .i64 4)), none⟩])
  (.cond (.tm 99)
  (.seq (.ops [⟨some 100, .mov (.tm 12), none⟩,
      ⟨some 101, .bin .rem (.tm 100) (.cn (.int .u32 10000)), none⟩,
      ⟨some 13, .mov (.tm 101), none⟩])
    (.seq (.ops [⟨some 102, .mov (.tm 12), none⟩,
      ⟨some 103, .bin .quo (.tm 102) (.cn (.int .u32 10000)), none⟩,
      ⟨some 12, .mov (.tm 103), none⟩])
    (.seq (.ops [⟨some 104, .mov (.tm 13), none⟩,
      ⟨some 105, .bin .quo (.tm 104) (.cn (.int .u32 100)), none⟩,
      ⟨some 106, .bin .mul (.tm 105) (.cn (.int .u32 2)), none⟩,
      ⟨some 107, .mov (.tm 13), none⟩,
      ⟨some 108, .bin .rem (.tm 107) (.cn (.int .u32 100)), none⟩,
      ⟨some 109, .bin .mul (.tm 108) (.cn (.int .u32 2)), none⟩,
      ⟨some 14, .mov (.tm 106), none⟩,
      ⟨some 15, .mov (.tm 109), none⟩])
    (.seq (.draw [⟨some 110, .mov (.tm 0), none⟩,
      ⟨some 111, .mov (.tm 4), none⟩,
      ⟨some 112, .bin .sub (.tm 111) (.cn (.int .i64 1)), none⟩,
      ⟨some 113, .mov (.tm 0), none⟩,
      ⟨some 114, .mov (.tm 4), none⟩,
      ⟨some 115, .bin .sub (.tm 114) (.cn (.int .i64 2)), none⟩,
      ⟨some 116, .mov (.tm 15), none⟩,
      ⟨some 117, .bin .add (.tm 116) (.cn (.int .u32 1)), none⟩,
      ⟨some 118, .ixs (.cn (.string ⟨#[48, 48, 48, 49, 48, 50, 48, 51, 48, 52, 48, 53, 48, 54, 48, 55, 48, 56, 48, 57, 49, 48, 49, 49, 49, 50, 49, 51, 49, 52, 49, 53, 49, 54, 49, 55, 49, 56, 49, 57, 50, 48, 50, 49, 50, 50, 50, 51, 50, 52, 50, 53, 50, 54, 50, 55, 50, 56, 50, 57, 51, 48, 51, 49, 51, 50, 51, 51, 51, 52, 51, 53, 51, 54, 51, 55, 51, 56, 51, 57, 52, 48, 52, 49, 52, 50, 52, 51, 52, 52, 52, 53, 52, 54, 52, 55, 52, 56, 52, 57, 53, 48, 53, 49, 53, 50, 53, 51, 53, 52, 53, 53, 53, 54, 53, 55, 53, 56, 53, 57, 54, 48, 54, 49, 54, 50, 54, 51, 54, 52, 54, 53, 54, 54, 54, 55, 54, 56, 54, 57, 55, 48, 55, 49, 55, 50, 55, 51, 55, 52, 55, 53, 55, 54, 55, 55, 55, 56, 55, 57, 56, 48, 56, 49, 56, 50, 56, 51, 56, 52, 56, 53, 56, 54, 56, 55, 56, 56, 56, 57, 57, 48, 57, 49, 57, 50, 57, 51, 57, 52, 57, 53, 57, 54, 57, 55, 57, 56, 57, 57]⟩)) (.tm 117), none⟩,
      ⟨some 119, .mov (.tm 15), none⟩,
      ⟨some 120, .ixs (.cn (.string ⟨#[48, 48, 48, 49, 48, 50, 48, 51, 48, 52, 48, 53, 48, 54, 48, 55, 48, 56, 48, 57, 49, 48, 49, 49, 49, 50, 49, 51, 49, 52, 49, 53, 49, 54, 49, 55, 49, 56, 49, 57, 50, 48, 50, 49, 50, 50, 50, 51, 50, 52, 50, 53, 50, 54, 50, 55, 50, 56, 50, 57, 51, 48, 51, 49, 51, 50, 51, 51, 51, 52, 51, 53, 51, 54, 51, 55, 51, 56, 51, 57, 52, 48, 52, 49, 52, 50, 52, 51, 52, 52, 52, 53, 52, 54, 52, 55, 52, 56, 52, 57, 53, 48, 53, 49, 53, 50, 53, 51, 53, 52, 53, 53, 53, 54, 53, 55, 53, 56, 53, 57, 54, 48, 54, 49, 54, 50, 54, 51, 54, 52, 54, 53, 54, 54, 54, 55, 54, 56, 54, 57, 55, 48, 55, 49, 55, 50, 55, 51, 55, 52, 55, 53, 55, 54, 55, 55, 55, 56, 55, 57, 56, 48, 56, 49, 56, 50, 56, 51, 56, 52, 56, 53, 56, 54, 56, 55, 56, 56, 56, 57, 57, 48, 57, 49, 57, 50, 57, 51, 57, 52, 57, 53, 57, 54, 57, 55, 57, 56, 57, 57]⟩)) (.tm 119), none⟩,
      ⟨some 121, .ixa 1 (.tm 110) (.tm 112), none⟩,
      ⟨none, .store 1 (.tm 121) (.tm 118), none⟩,
      ⟨some 122, .ixa 1 (.tm 113) (.tm 115), none⟩,
      ⟨none, .store 1 (.tm 122) (.tm 120), none⟩]
      [])
    (.seq (.draw [⟨some 123, .mov (.tm 0), none⟩,
      ⟨some 124, .mov (.tm 4), none⟩,
      ⟨some 125, .bin .sub (.tm 124) (.cn (.int .i64 3)), none⟩,
      ⟨some 126, .mov (.tm 0), none⟩,
      ⟨some 127, .mov (.tm 4), none⟩,
      ⟨some 128, .bin .sub (.tm 127) (.cn (.int .i64 4)), none⟩,
      ⟨some 129, .mov (.tm 14), none⟩,
      ⟨some 130, .bin .add (.tm 129) (.cn (.int .u32 1)), none⟩,
      ⟨some 131, .ixs (.cn (.string ⟨#[48, 48, 48, 49, 48, 50, 48, 51, 48, 52, 48, 53, 48, 54, 48, 55, 48, 56, 48, 57, 49, 48, 49, 49, 49, 50, 49, 51, 49, 52, 49, 53, 49, 54, 49, 55, 49, 56, 49, 57, 50, 48, 50, 49, 50, 50, 50, 51, 50, 52, 50, 53, 50, 54, 50, 55, 50, 56, 50, 57, 51, 48, 51, 49, 51, 50, 51, 51, 51, 52, 51, 53, 51, 54, 51, 55, 51, 56, 51, 57, 52, 48, 52, 49, 52, 50, 52, 51, 52, 52, 52, 53, 52, 54, 52, 55, 52, 56, 52, 57, 53, 48, 53, 49, 53, 50, 53, 51, 53, 52, 53, 53, 53, 54, 53, 55, 53, 56, 53, 57, 54, 48, 54, 49, 54, 50, 54, 51, 54, 52, 54, 53, 54, 54, 54, 55, 54, 56, 54, 57, 55, 48, 55, 49, 55, 50, 55, 51, 55, 52, 55, 53, 55, 54, 55, 55, 55, 56, 55, 57, 56, 48, 56, 49, 56, 50, 56, 51, 56, 52, 56, 53, 56, 54, 56, 55, 56, 56, 56, 57, 57, 48, 57, 49, 57, 50, 57, 51, 57, 52, 57, 53, 57, 54, 57, 55, 57, 56, 57, 57]⟩)) (.tm 130), none⟩,
      ⟨some 132, .mov (.tm 14), none⟩,
      ⟨some 133, .ixs (.cn (.string ⟨#[48, 48, 48, 49, 48, 50, 48, 51, 48, 52, 48, 53, 48, 54, 48, 55, 48, 56, 48, 57, 49, 48, 49, 49, 49, 50, 49, 51, 49, 52, 49, 53, 49, 54, 49, 55, 49, 56, 49, 57, 50, 48, 50, 49, 50, 50, 50, 51, 50, 52, 50, 53, 50, 54, 50, 55, 50, 56, 50, 57, 51, 48, 51, 49, 51, 50, 51, 51, 51, 52, 51, 53, 51, 54, 51, 55, 51, 56, 51, 57, 52, 48, 52, 49, 52, 50, 52, 51, 52, 52, 52, 53, 52, 54, 52, 55, 52, 56, 52, 57, 53, 48, 53, 49, 53, 50, 53, 51, 53, 52, 53, 53, 53, 54, 53, 55, 53, 56, 53, 57, 54, 48, 54, 49, 54, 50, 54, 51, 54, 52, 54, 53, 54, 54, 54, 55, 54, 56, 54, 57, 55, 48, 55, 49, 55, 50, 55, 51, 55, 52, 55, 53, 55, 54, 55, 55, 55, 56, 55, 57, 56, 48, 56, 49, 56, 50, 56, 51, 56, 52, 56, 53, 56, 54, 56, 55, 56, 56, 56, 57, 57, 48, 57, 49, 57, 50, 57, 51, 57, 52, 57, 53, 57, 54, 57, 55, 57, 56, 57, 57]⟩)) (.tm 132), none⟩,
      ⟨some 134, .ixa 1 (.tm 123) (.tm 125), none⟩,
      ⟨none, .store 1 (.tm 134) (.tm 131), none⟩,
      ⟨some 135, .ixa 1 (.tm 126) (.tm 128), none⟩,
      ⟨none, .store 1 (.tm 135) (.tm 133), none⟩]
      [])
    (.ops [⟨some 136, .mov (.tm 4), none⟩,
      ⟨some 137, .bin .sub (.tm 136) (.cn (.int .i64 4)), none⟩,
      ⟨some 4, .mov (.tm 137), none⟩]))))))
  .skip))
  (.seq (.seq (.ops [⟨some 138, .mov (.tm 4), none⟩,
      ⟨some 139, .bin .geq (.tm 138) (.cn (.int .i64 2)), none⟩])
  (.cond (.tm 139)
  (.seq (.ops [⟨some 140, .mov (.tm 12), none⟩,
      ⟨some 141, .bin .rem (.tm 140) (.cn (.int .u32 100)), none⟩,
      ⟨some 142, .bin .mul (.tm 141) (.cn (.int .u32 2)), none⟩,
      ⟨some 16, .mov (.tm 142), none⟩])
    (.seq (.ops [⟨some 143, .mov (.tm 12), none⟩,
      ⟨some 144, .bin .quo (.tm 143) (.cn (.int .u32 100)), none⟩,
      ⟨some 12, .mov (.tm 144), none⟩])
    (.seq (.draw [⟨some 145, .mov (.tm 0), none⟩,
      ⟨some 146, .mov (.tm 4), none⟩,
      ⟨some 147, .bin .sub (.tm 146) (.cn (.int .i64 1)), none⟩,
      ⟨some 148, .mov (.tm 0), none⟩,
      ⟨some 149, .mov (.tm 4), none⟩,
      ⟨some 150, .bin .sub (.tm 149) (.cn (.int .i64 2)), none⟩,
      ⟨some 151, .mov (.tm 16), none⟩,
      ⟨some 152, .bin .add (.tm 151) (.cn (.int .u32 1)), none⟩,
      ⟨some 153, .ixs (.cn (.string ⟨#[48, 48, 48, 49, 48, 50, 48, 51, 48, 52, 48, 53, 48, 54, 48, 55, 48, 56, 48, 57, 49, 48, 49, 49, 49, 50, 49, 51, 49, 52, 49, 53, 49, 54, 49, 55, 49, 56, 49, 57, 50, 48, 50, 49, 50, 50, 50, 51, 50, 52, 50, 53, 50, 54, 50, 55, 50, 56, 50, 57, 51, 48, 51, 49, 51, 50, 51, 51, 51, 52, 51, 53, 51, 54, 51, 55, 51, 56, 51, 57, 52, 48, 52, 49, 52, 50, 52, 51, 52, 52, 52, 53, 52, 54, 52, 55, 52, 56, 52, 57, 53, 48, 53, 49, 53, 50, 53, 51, 53, 52, 53, 53, 53, 54, 53, 55, 53, 56, 53, 57, 54, 48, 54, 49, 54, 50, 54, 51, 54, 52, 54, 53, 54, 54, 54, 55, 54, 56, 54, 57, 55, 48, 55, 49, 55, 50, 55, 51, 55, 52, 55, 53, 55, 54, 55, 55, 55, 56, 55, 57, 56, 48, 56, 49, 56, 50, 56, 51, 56, 52, 56, 53, 56, 54, 56, 55, 56, 56, 56, 57, 57, 48, 57, 49, 57, 50, 57, 51, 57, 52, 57, 53, 57, 54, 57, 55, 57, 56, 57, 57]⟩)) (.tm 152), none⟩,
      ⟨some 154, .mov (.tm 16), none⟩,
      ⟨some 155, .ixs (.cn (.string ⟨#[48, 48, 48, 49, 48, 50, 48, 51, 48, 52, 48, 53, 48, 54, 48, 55, 48, 56, 48, 57, 49, 48, 49, 49, 49, 50, 49, 51, 49, 52, 49, 53, 49, 54, 49, 55, 49, 56, 49, 57, 50, 48, 50, 49, 50, 50, 50, 51, 50, 52, 50, 53, 50, 54, 50, 55, 50, 56, 50, 57, 51, 48, 51, 49, 51, 50, 51, 51, 51, 52, 51, 53, 51, 54, 51, 55, 51, 56, 51, 57, 52, 48, 52, 49, 52, 50, 52, 51, 52, 52, 52, 53, 52, 54, 52, 55, 52, 56, 52, 57, 53, 48, 53, 49, 53, 50, 53, 51, 53, 52, 53, 53, 53, 54, 53, 55, 53, 56, 53, 57, 54, 48, 54, 49, 54, 50, 54, 51, 54, 52, 54, 53, 54, 54, 54, 55, 54, 56, 54, 57, 55, 48, 55, 49, 55, 50, 55, 51, 55, 52, 55, 53, 55, 54, 55, 55, 55, 56, 55, 57, 56, 48, 56, 49, 56, 50, 56, 51, 56, 52, 56, 53, 56, 54, 56, 55, 56, 56, 56, 57, 57, 48, 57, 49, 57, 50, 57, 51, 57, 52, 57, 53, 57, 54, 57, 55, 57, 56, 57, 57]⟩)) (.tm 154), none⟩,
      ⟨some 156, .ixa 1 (.tm 145) (.tm 147), none⟩,
      ⟨none, .store 1 (.tm 156) (.tm 153), none⟩,
      ⟨some 157, .ixa 1 (.tm 148) (.tm 150), none⟩,
      ⟨none, .store 1 (.tm 157) (.tm 155), none⟩]
      [])
    (.ops [⟨some 158, .mov (.tm 4), none⟩,
      ⟨some 159, .bin .sub (.tm 158) (.cn (.int .i64 2)), none⟩,
      ⟨some 4, .mov (.tm 159), none⟩]))))
  .skip))
  (.seq (.ops [⟨some 160, .mov (.tm 4), none⟩,
      ⟨some 161, .bin .gtr (.tm 160) (.cn (.int .i64 0)), none⟩])
  (.cond (.tm 161)
  (.ops [⟨some 162, .mov (.tm 0), none⟩,
      ⟨some 163, .mov (.tm 12), none⟩,
      ⟨some 164, .bin .add (.cn (.int .u32 48)) (.tm 163), none⟩,
      ⟨some 165, .conv .u8 (.tm 164), none⟩,
      ⟨some 166, .ixa 1 (.tm 162) (.cn (.int .i64 0)), none⟩,
      ⟨none, .store 1 (.tm 166) (.tm 165), none⟩])
  .skip)))))))⟩
theorem comp66 : compF Tryd.prog Tryd.f66 ⟨false, [], [([], [0, 1, 4])], [], []⟩ = some L66 := by kernel_rfl

def L67 : LFunc := ⟨102, 5, [.t 10, .t 11], false, [.tmp 0 (some 1)], [],
  (.seq (.ops [⟨some 10, .mov (.cn (.slice none 0 0)), none⟩,
      ⟨some 11, .mov (.cn (.string ⟨#[]⟩)), none⟩])
  (.seq (.seq (.ops [⟨some 19, .mov (.tm 2), none⟩,
      ⟨some 20, .bin .lss (.tm 19) (.cn (.int .i64 2)), none⟩,
      ⟨some 21, .mov (.tm 20), none⟩,
      ⟨some 22, .mov (.tm 2), (some (21, false))⟩,
      ⟨some 23, .bin .eql (.tm 22) (.cn (.int .i64 10)), (some (21, false))⟩,
      ⟨some 24, .pick (.tm 21) (.cn (.bool true)) (.tm 23), none⟩,
      ⟨some 25, .mov (.tm 24), none⟩,
      ⟨some 26, .mov (.tm 2), (some (25, false))⟩,
      ⟨some 27, .bin .gtr (.tm 26) (.cn (.int .i64 36)), (some (25, false))⟩,
      ⟨some 28, .pick (.tm 25) (.cn (.bool true)) (.tm 27), none⟩])
  (.cond (.tm 28)
  (.ops [⟨some 29, .bad, none⟩,
      ⟨none, .bad, none⟩])
  .skip))
  (.seq (.ops [⟨some 12, .alloc [.int .u8 0, .int .u8 0, .int .u8 0, .int .u8 0, .int .u8 0, .int .u8 0, .int .u8 0, .int .u8 0, .int .u8 0, .int .u8 0, .int .u8 0, .int .u8 0, .int .u8 0, .int .u8 0, .int .u8 0, .int .u8 0, .int .u8 0, .int .u8 0, .int .u8 0, .int .u8 0, .int .u8 0, .int .u8 0, .int .u8 0, .int .u8 0, .int .u8 0, .int .u8 0, .int .u8 0, .int .u8 0, .int .u8 0, .int .u8 0, .int .u8 0, .int .u8 0, .int .u8 0, .int .u8 0, .int .u8 0, .int .u8 0, .int .u8 0, .int .u8 0, .int .u8 0, .int .u8 0, .int .u8 0, .int .u8 0, .int .u8 0, .int .u8 0, .int .u8 0, .int .u8 0, .int .u8 0, .int .u8 0, .int .u8 0, .int .u8 0, .int .u8 0, .int .u8 0, .int .u8 0, .int .u8 0, .int .u8 0, .int .u8 0, .int .u8 0, .int .u8 0, .int .u8 0, .int .u8 0, .int .u8 0, .int .u8 0, .int .u8 0, .int .u8 0, .int .u8 0], none⟩])
  (.seq (.ops [⟨some 13, .mov (.cn (.int .i64 65)), none⟩])
  (.seq (.seq (.ops [⟨some 30, .mov (.tm 3), none⟩])
  (.cond (.tm 30)
  (.ops [⟨some 31, .mov (.tm 1), none⟩,
      ⟨some 32, .un .neg (.tm 31), none⟩,
      ⟨some 1, .mov (.tm 32), none⟩])
  .skip))
  (.seq (.seq (.ops [⟨some 33, .mov (.tm 2), none⟩,
      ⟨some 34, .call (.fu 84) [(.tm 33)], none⟩])
  (.cond (.tm 34)
  (.seq (.ops [⟨some 35, .mov (.tm 2), none⟩,
      ⟨some 36, .conv .u64 (.tm 35), none⟩,
      ⟨some 37, .call (.fu 85) [(.tm 36)], none⟩,
      ⟨some 38, .conv .u64 (.tm 37), none⟩,
      ⟨some 14, .mov (.tm 38), none⟩])
    (.seq (.ops [⟨some 39, .mov (.tm 2), none⟩,
      ⟨some 40, .conv .u64 (.tm 39), none⟩,
      ⟨some 15, .mov (.tm 40), none⟩])
    (.seq (.ops [⟨some 41, .mov (.tm 2), none⟩,
      ⟨some 42, .conv .u64 (.tm 41), none⟩,
      ⟨some 43, .bin .sub (.tm 42) (.cn (.int .u64 1)), none⟩,
      ⟨some 16, .mov (.tm 43), none⟩])
    (.seq (.block 0
    (.pre [.tmp 0 (some 1)] (.loop [0, 1, 3, 4, 10, 11, 12, 13, 14, 15, 16]
      (.seq (.seq (.ops [⟨some 44, .mov (.tm 1), none⟩,
      ⟨some 45, .mov (.tm 15), none⟩,
      ⟨some 46, .bin .geq (.tm 44) (.tm 45), none⟩])
        (.cond (.tm 46)
        .skip
        (.exit 0)))
        (.block 1
        (.seq (.ops [⟨some 47, .mov (.tm 13), none⟩,
      ⟨some 48, .bin .sub (.tm 47) (.cn (.int .i64 1)), none⟩,
      ⟨some 13, .mov (.tm 48), none⟩])
          (.seq (.ops [⟨some 49, .mov (.tm 13), none⟩,
      ⟨some 50, .mov (.tm 1), none⟩,
      ⟨some 51, .mov (.tm 16), none⟩,
      ⟨some 52, .bin .and (.tm 50) (.tm 51), none⟩,
      ⟨some 53, .ixs (.cn (.string ⟨#[48, 49, 50, 51, 52, 53, 54, 55, 56, 57, 97, 98, 99, 100, 101, 102, 103, 104, 105, 106, 107, 108, 109, 110, 111, 112, 113, 114, 115, 116, 117, 118, 119, 120, 121, 122]⟩)) (.tm 52), none⟩,
      ⟨some 54, .ixp 65 1 (.tm 12) (.tm 49), none⟩,
      ⟨none, .store 1 (.tm 54) (.tm 53), none⟩])
          (.ops [⟨some 55, .mov (.tm 1), none⟩,
      ⟨some 56, .mov (.tm 14), none⟩,
      ⟨some 57, .bin .shr (.tm 55) (.tm 56), none⟩,
      ⟨some 1, .mov (.tm 57), none⟩]))))))))
    (.seq (.ops [⟨some 58, .mov (.tm 13), none⟩,
      ⟨some 59, .bin .sub (.tm 58) (.cn (.int .i64 1)), none⟩,
      ⟨some 13, .mov (.tm 59), none⟩])
    (.ops [⟨some 60, .mov (.tm 13), none⟩,
      ⟨some 61, .mov (.tm 1), none⟩,
      ⟨some 62, .ixs (.cn (.string ⟨#[48, 49, 50, 51, 52, 53, 54, 55, 56, 57, 97, 98, 99, 100, 101, 102, 103, 104, 105, 106, 107, 108, 109, 110, 111, 112, 113, 114, 115, 116, 117, 118, 119, 120, 121, 122]⟩)) (.tm 61), none⟩,
      ⟨some 63, .ixp 65 1 (.tm 12) (.tm 60), none⟩,
      ⟨none, .store 1 (.tm 63) (.tm 62), none⟩]))))))
  (.seq (.ops [⟨some 64, .mov (.tm 2), none⟩,
      ⟨some 65, .conv .u64 (.tm 64), none⟩,
      ⟨some 17, .mov (.tm 65), none⟩])
    (.seq (.block 2
    (.pre [.tmp 0 (some 1)] (.loop [0, 1, 3, 4, 10, 11, 12, 13, 17]
      (.seq (.seq (.ops [⟨some 66, .mov (.tm 1), none⟩,
      ⟨some 67, .mov (.tm 17), none⟩,
      ⟨some 68, .bin .geq (.tm 66) (.tm 67), none⟩])
        (.cond (.tm 68)
        .skip
        (.exit 2)))
        (.block 3
        (.seq (.ops [⟨some 69, .mov (.tm 13), none⟩,
      ⟨some 70, .bin .sub (.tm 69) (.cn (.int .i64 1)), none⟩,
      ⟨some 13, .mov (.tm 70), none⟩])
          (.seq (.ops [⟨some 71, .mov (.tm 1), none⟩,
      ⟨some 72, .mov (.tm 17), none⟩,
      ⟨some 73, .bin .quo (.tm 71) (.tm 72), none⟩,
      ⟨some 18, .mov (.tm 73), none⟩])
          (.seq (.ops [⟨some 74, .mov (.tm 13), none⟩,
      ⟨some 75, .mov (.tm 1), none⟩,
      ⟨some 76, .mov (.tm 18), none⟩,
      ⟨some 77, .mov (.tm 17), none⟩,
      ⟨some 78, .bin .mul (.tm 76) (.tm 77), none⟩,
      ⟨some 79, .bin .sub (.tm 75) (.tm 78), none⟩,
      ⟨some 80, .ixs (.cn (.string ⟨#[48, 49, 50, 51, 52, 53, 54, 55, 56, 57, 97, 98, 99, 100, 101, 102, 103, 104, 105, 106, 107, 108, 109, 110, 111, 112, 113, 114, 115, 116, 117, 118, 119, 120, 121, 122]⟩)) (.tm 79), none⟩,
      ⟨some 81, .ixp 65 1 (.tm 12) (.tm 74), none⟩,
      ⟨none, .store 1 (.tm 81) (.tm 80), none⟩])
          (.ops [⟨some 82, .mov (.tm 18), none⟩,
      ⟨some 1, .mov (.tm 82), none⟩])))))))))
    (.seq (.ops [⟨some 83, .mov (.tm 13), none⟩,
      ⟨some 84, .bin .sub (.tm 83) (.cn (.int .i64 1)), none⟩,
      ⟨some 13, .mov (.tm 84), none⟩])
    (.ops [⟨some 85, .mov (.tm 13), none⟩,
      ⟨some 86, .mov (.tm 1), none⟩,
      ⟨some 87, .ixs (.cn (.string ⟨#[48, 49, 50, 51, 52, 53, 54, 55, 56, 57, 97, 98, 99, 100, 101, 102, 103, 104, 105, 106, 107, 108, 109, 110, 111, 112, 113, 114, 115, 116, 117, 118, 119, 120, 121, 122]⟩)) (.tm 86), none⟩,
      ⟨some 88, .ixp 65 1 (.tm 12) (.tm 85), none⟩,
      ⟨none, .store 1 (.tm 88) (.tm 87), none⟩]))))))
  (.seq (.seq (.ops [⟨some 89, .mov (.tm 3), none⟩])
  (.cond (.tm 89)
  (.seq (.ops [⟨some 90, .mov (.tm 13), none⟩,
      ⟨some 91, .bin .sub (.tm 90) (.cn (.int .i64 1)), none⟩,
      ⟨some 13, .mov (.tm 91), none⟩])
    (.ops [⟨some 92, .mov (.tm 13), none⟩,
      ⟨some 93, .ixp 65 1 (.tm 12) (.tm 92), none⟩,
      ⟨none, .store 1 (.tm 93) (.cn (.int .u8 45)), none⟩]))
  .skip))
  (.seq (.seq (.ops [⟨some 94, .mov (.tm 4), none⟩])
  (.cond (.tm 94)
  (.seq (.ops [⟨some 95, .mov (.tm 0), none⟩,
      ⟨some 96, .mov (.tm 13), none⟩,
      ⟨some 97, .slca 65 (.tm 12) (some (.tm 96)) none, none⟩,
      ⟨some 98, .app 1 1 false (.tm 95) (.tm 97), none⟩,
      ⟨some 10, .mov (.tm 98), none⟩])
    .ret)
  .skip))
  (.seq (.ops [⟨some 99, .mov (.tm 13), none⟩,
      ⟨some 100, .slca 65 (.tm 12) (some (.tm 99)) none, none⟩,
      ⟨some 101, .b2s (.tm 100), none⟩,
      ⟨some 11, .mov (.tm 101), none⟩])
  .ret)))))))))⟩
theorem comp67 : compF Tryd.prog Tryd.f67 ⟨false, [], [([.tmp 0 (some 1)], [0, 1, 3, 4, 10, 11, 12, 13, 14, 15, 16]), ([.tmp 0 (some 1)], [0, 1, 3, 4, 10, 11, 12, 13, 17])], [.tmp 0 (some 1)], []⟩ = some L67 := by kernel_rfl

def L68 : LFunc := ⟨17, 2, [.t 4, .t 5], false, [], [],
  (.seq (.ops [⟨some 4, .mov (.cn (.int .u32 0)), none⟩,
      ⟨some 5, .mov (.cn (.int .u32 0)), none⟩])
  (.seq (.ops [⟨some 7, .mov (.tm 0), none⟩,
      ⟨some 8, .conv .u64 (.tm 7), none⟩,
      ⟨some 9, .mov (.tm 1), none⟩,
      ⟨some 10, .conv .u64 (.tm 9), none⟩,
      ⟨some 11, .bin .mul (.tm 8) (.tm 10), none⟩,
      ⟨some 6, .mov (.tm 11), none⟩])
  (.seq (.ops [⟨some 12, .mov (.tm 6), none⟩,
      ⟨some 13, .bin .shr (.tm 12) (.cn (.int .u64 32)), none⟩,
      ⟨some 14, .conv .u32 (.tm 13), none⟩,
      ⟨some 15, .mov (.tm 6), none⟩,
      ⟨some 16, .conv .u32 (.tm 15), none⟩,
      ⟨some 4, .mov (.tm 14), none⟩,
      ⟨some 5, .mov (.tm 16), none⟩])
  .ret)))⟩
theorem comp68 : compF Tryd.prog Tryd.f68 ⟨false, [], [], [], []⟩ = some L68 := by kernel_rfl

def L69 : LFunc := ⟨51, 2, [.t 4, .t 5], false, [], [],
  (.seq (.ops [⟨some 4, .mov (.cn (.int .u64 0)), none⟩,
      ⟨some 5, .mov (.cn (.int .u64 0)), none⟩])
  (.seq (.ops [⟨some 14, .mov (.tm 0), none⟩,
      ⟨some 15, .bin .and (.tm 14) (.cn (.int .u64 4294967295)), none⟩,
      ⟨some 6, .mov (.tm 15), none⟩])
  (.seq (.ops [⟨some 16, .mov (.tm 0), none⟩,
      ⟨some 17, .bin .shr (.tm 16) (.cn (.int .u64 32)), none⟩,
      ⟨some 7, .mov (.tm 17), none⟩])
  (.seq (.ops [⟨some 18, .mov (.tm 1), none⟩,
      ⟨some 19, .bin .and (.tm 18) (.cn (.int .u64 4294967295)), none⟩,
      ⟨some 8, .mov (.tm 19), none⟩])
  (.seq (.ops [⟨some 20, .mov (.tm 1), none⟩,
      ⟨some 21, .bin .shr (.tm 20) (.cn (.int .u64 32)), none⟩,
      ⟨some 9, .mov (.tm 21), none⟩])
  (.seq (.ops [⟨some 22, .mov (.tm 6), none⟩,
      ⟨some 23, .mov (.tm 8), none⟩,
      ⟨some 24, .bin .mul (.tm 22) (.tm 23), none⟩,
      ⟨some 10, .mov (.tm 24), none⟩])
  (.seq (.ops [⟨some 25, .mov (.tm 7), none⟩,
      ⟨some 26, .mov (.tm 8), none⟩,
      ⟨some 27, .bin .mul (.tm 25) (.tm 26), none⟩,
      ⟨some 28, .mov (.tm 10), none⟩,
      ⟨some 29, .bin .shr (.tm 28) (.cn (.int .u64 32)), none⟩,
      ⟨some 30, .bin .add (.tm 27) (.tm 29), none⟩,
      ⟨some 11, .mov (.tm 30), none⟩])
  (.seq (.ops [⟨some 31, .mov (.tm 11), none⟩,
      ⟨some 32, .bin .and (.tm 31) (.cn (.int .u64 4294967295)), none⟩,
      ⟨some 12, .mov (.tm 32), none⟩])
  (.seq (.ops [⟨some 33, .mov (.tm 11), none⟩,
      ⟨some 34, .bin .shr (.tm 33) (.cn (.int .u64 32)), none⟩,
      ⟨some 13, .mov (.tm 34), none⟩])
  (.seq (.ops [⟨some 35, .mov (.tm 12), none⟩,
      ⟨some 36, .mov (.tm 6), none⟩,
      ⟨some 37, .mov (.tm 9), none⟩,
      ⟨some 38, .bin .mul (.tm 36) (.tm 37), none⟩,
      ⟨some 39, .bin .add (.tm 35) (.tm 38), none⟩,
      ⟨some 12, .mov (.tm 39), none⟩])
  (.seq (.ops [⟨some 40, .mov (.tm 7), none⟩,
      ⟨some 41, .mov (.tm 9), none⟩,
      ⟨some 42, .bin .mul (.tm 40) (.tm 41), none⟩,
      ⟨some 43, .mov (.tm 13), none⟩,
      ⟨some 44, .bin .add (.tm 42) (.tm 43), none⟩,
      ⟨some 45, .mov (.tm 12), none⟩,
      ⟨some 46, .bin .shr (.tm 45) (.cn (.int .u64 32)), none⟩,
      ⟨some 47, .bin .add (.tm 44) (.tm 46), none⟩,
      ⟨some 4, .mov (.tm 47), none⟩])
  (.seq (.ops [⟨some 48, .mov (.tm 0), none⟩,
      ⟨some 49, .mov (.tm 1), none⟩,
      ⟨some 50, .bin .mul (.tm 48) (.tm 49), none⟩,
      ⟨some 5, .mov (.tm 50), none⟩])
  .ret))))))))))))⟩
theorem comp69 : compF Tryd.prog Tryd.f69 ⟨false, [], [], [], []⟩ = some L69 := by kernel_rfl

def L70 : LFunc := ⟨18, 2, [.t 4], false, [], [],
  (.seq (.ops [⟨some 4, .mov (.cn (.bool false)), none⟩])
  (.seq (.ops [⟨some 5, .mov (.tm 0), none⟩,
      ⟨some 6, .slen (.tm 5), none⟩,
      ⟨some 7, .mov (.tm 1), none⟩,
      ⟨some 8, .slen (.tm 7), none⟩,
      ⟨some 9, .bin .geq (.tm 6) (.tm 8), none⟩,
      ⟨some 10, .mov (.tm 9), none⟩,
      ⟨some 11, .mov (.tm 0), (some (10, true))⟩,
      ⟨some 12, .mov (.tm 1), (some (10, true))⟩,
      ⟨some 13, .slen (.tm 12), (some (10, true))⟩,
      ⟨some 14, .slcs (.tm 11) none (some (.tm 13)), (some (10, true))⟩,
      ⟨some 15, .mov (.tm 1), (some (10, true))⟩,
      ⟨some 16, .bin .eql (.tm 14) (.tm 15), (some (10, true))⟩,
      ⟨some 17, .pick (.tm 10) (.tm 16) (.cn (.bool false)), none⟩,
      ⟨some 4, .mov (.tm 17), none⟩])
  .ret))⟩
theorem comp70 : compF Tryd.prog Tryd.f70 ⟨false, [], [], [], []⟩ = some L70 := by kernel_rfl

def L71 : LFunc := ⟨20, 1, [], false, [], [],
  (.seq (.ops [⟨some 2, .mov (.tm 0), none⟩,
      ⟨some 3, .nilchk (.tm 2), none⟩,
      ⟨some 4, .fld (.tm 3) 0, none⟩,
      ⟨some 5, .load none (.tm 4), none⟩,
      ⟨some 6, .isnil 1 false (.tm 5), none⟩])
  (.cond (.tm 6)
  (.ops [⟨some 7, .mov (.tm 0), none⟩,
      ⟨some 8, .mov (.tm 0), none⟩,
      ⟨some 9, .bad, none⟩,
      ⟨some 10, .call (.fu 86) [(.tm 9)], none⟩,
      ⟨some 11, .bad, none⟩,
      ⟨some 12, .nilchk (.tm 7), none⟩,
      ⟨some 13, .fld (.tm 12) 0, none⟩,
      ⟨none, .store 1 (.tm 13) (.tm 11), none⟩])
  (.seq (.ops [⟨some 14, .mov (.tm 0), none⟩,
      ⟨some 15, .nilchk (.tm 14), none⟩,
      ⟨some 16, .fld (.tm 15) 0, none⟩,
      ⟨some 17, .load none (.tm 16), none⟩,
      ⟨some 18, .mov (.tm 0), none⟩,
      ⟨some 19, .bad, none⟩])
    (.cond (.tm 19)
    .bad
    .skip))))⟩
theorem comp71 : compF Tryd.prog Tryd.f71 ⟨false, [], [], [], []⟩ = some L71 := by kernel_rfl

def L72 : LFunc := ⟨30, 2, [], false, [], [],
  (.seq (.draw [⟨some 5, .mov (.tm 0), none⟩,
      ⟨some 6, .nilchk (.tm 5), none⟩,
      ⟨some 7, .fld (.tm 6) 1, none⟩,
      ⟨some 8, .load none (.tm 7), none⟩,
      ⟨some 9, .bad, none⟩,
      ⟨some 10, .bin .mul (.cn (.int .i64 2)) (.tm 9), none⟩,
      ⟨some 11, .mov (.tm 1), none⟩,
      ⟨some 12, .bin .add (.tm 10) (.tm 11), none⟩,
      ⟨some 13, .call (.fu 87) [(.tm 12)], none⟩,
      ⟨some 14, .mov (.tm 0), none⟩,
      ⟨some 15, .nilchk (.tm 14), none⟩,
      ⟨some 16, .fld (.tm 15) 1, none⟩,
      ⟨some 17, .load none (.tm 16), none⟩,
      ⟨some 18, .len (.tm 17), none⟩,
      ⟨some 19, .slc 1 (.tm 13) none (some (.tm 18)) none, none⟩,
      ⟨some 4, .mov (.tm 19), none⟩]
      [(8, 12)])
  (.seq (.ops [⟨some 20, .mov (.tm 4), none⟩,
      ⟨some 21, .mov (.tm 0), none⟩,
      ⟨some 22, .nilchk (.tm 21), none⟩,
      ⟨some 23, .fld (.tm 22) 1, none⟩,
      ⟨some 24, .load none (.tm 23), none⟩,
      ⟨some 25, .cpy 1 (.tm 20) (.tm 24), none⟩])
  (.ops [⟨some 26, .mov (.tm 0), none⟩,
      ⟨some 27, .mov (.tm 4), none⟩,
      ⟨some 28, .nilchk (.tm 26), none⟩,
      ⟨some 29, .fld (.tm 28) 1, none⟩,
      ⟨none, .store 1 (.tm 29) (.tm 27), none⟩])))⟩
theorem comp72 : compF Tryd.prog Tryd.f72 ⟨false, [], [], [], []⟩ = some L72 := by kernel_rfl

def L73 : LFunc := ⟨143, 2, [.t 4], false, [], [],
  (.seq (.ops [⟨some 4, .mov (.cn (.int .i64 0)), none⟩])
  (.seq (.ops [⟨some 14, .mov (.tm 1), none⟩,
      ⟨some 15, .slen (.tm 14), none⟩,
      ⟨some 5, .mov (.tm 15), none⟩])
  (.seq (.block 0
  (.seq (.ops [⟨some 17, .mov (.tm 5), none⟩,
      ⟨some 18, .bin .eql (.tm 17) (.cn (.int .i64 0)), none⟩,
      ⟨some 19, .mov (.tm 18), none⟩,
      ⟨some 20, .mov (.tm 1), (some (19, false))⟩,
      ⟨some 21, .mov (.tm 0), (some (19, false))⟩,
      ⟨some 22, .bin .eql (.tm 20) (.tm 21), (some (19, false))⟩,
      ⟨some 23, .pick (.tm 19) (.cn (.bool true)) (.tm 22), none⟩,
      ⟨some 16, .mov (.tm 23), none⟩])
    (.cond (.tm 16)
    (.seq (.ops [⟨some 4, .mov (.cn (.int .i64 0)), none⟩])
      .ret)
    (.seq (.ops [⟨some 25, .mov (.tm 5), none⟩,
      ⟨some 26, .bin .eql (.tm 25) (.cn (.int .i64 1)), none⟩,
      ⟨some 24, .mov (.tm 26), none⟩])
      (.cond (.tm 24)
      (.seq (.ops [⟨some 27, .mov (.tm 0), none⟩,
      ⟨some 28, .mov (.tm 1), none⟩,
      ⟨some 29, .ixs (.tm 28) (.cn (.int .i64 0)), none⟩,
      ⟨some 30, .call (.fu 60) [(.tm 27), (.tm 29)], none⟩,
      ⟨some 4, .mov (.tm 30), none⟩])
        .ret)
      (.seq (.ops [⟨some 32, .mov (.tm 5), none⟩,
      ⟨some 33, .mov (.tm 0), none⟩,
      ⟨some 34, .slen (.tm 33), none⟩,
      ⟨some 35, .bin .geq (.tm 32) (.tm 34), none⟩,
      ⟨some 31, .mov (.tm 35), none⟩])
        (.cond (.tm 31)
        (.seq (.ops [⟨some 4, .mov (.cn (.int .i64 (-1))), none⟩])
          .ret)
        (.seq (.ops [⟨some 37, .mov (.tm 5), none⟩,
      ⟨some 38, .load none (.gl 2), none⟩,
      ⟨some 39, .bin .leq (.tm 37) (.tm 38), none⟩,
      ⟨some 40, .mov (.tm 39), none⟩,
      ⟨some 41, .mov (.tm 0), (some (40, true))⟩,
      ⟨some 42, .slen (.tm 41), (some (40, true))⟩,
      ⟨some 43, .bin .leq (.tm 42) (.cn (.int .i64 64)), (some (40, true))⟩,
      ⟨some 44, .pick (.tm 40) (.tm 43) (.cn (.bool false)), none⟩,
      ⟨some 36, .mov (.tm 44), none⟩])
          (.cond (.tm 36)
          (.seq (.ops [⟨some 45, .mov (.tm 0), none⟩,
      ⟨some 46, .mov (.tm 1), none⟩,
      ⟨some 47, .call (.fu 88) [(.tm 45), (.tm 46)], none⟩,
      ⟨some 4, .mov (.tm 47), none⟩])
            .ret)
          .skip)))))))))
  (.seq (.ops [⟨some 48, .mov (.tm 1), none⟩,
      ⟨some 49, .ixs (.tm 48) (.cn (.int .i64 0)), none⟩,
      ⟨some 6, .mov (.tm 49), none⟩])
  (.seq (.ops [⟨some 50, .mov (.tm 1), none⟩,
      ⟨some 51, .ixs (.tm 50) (.cn (.int .i64 1)), none⟩,
      ⟨some 7, .mov (.tm 51), none⟩])
  (.seq (.ops [⟨some 8, .mov (.cn (.int .i64 0)), none⟩])
  (.seq (.ops [⟨some 52, .mov (.tm 0), none⟩,
      ⟨some 53, .slen (.tm 52), none⟩,
      ⟨some 54, .mov (.tm 5), none⟩,
      ⟨some 55, .bin .sub (.tm 53) (.tm 54), none⟩,
      ⟨some 56, .bin .add (.tm 55) (.cn (.int .i64 1)), none⟩,
      ⟨some 9, .mov (.tm 56), none⟩])
  (.seq (.ops [⟨some 10, .mov (.cn (.int .i64 0)), none⟩])
  (.seq (.block 1
  (.loop [0, 1, 5, 6, 7, 8, 9, 10]
    (.seq (.seq (.ops [⟨some 57, .mov (.tm 8), none⟩,
      ⟨some 58, .mov (.tm 9), none⟩,
      ⟨some 59, .bin .lss (.tm 57) (.tm 58), none⟩])
      (.cond (.tm 59)
      .skip
      (.exit 1)))
      (.block 2
      (.seq (.seq (.ops [⟨some 60, .mov (.tm 0), none⟩,
      ⟨some 61, .mov (.tm 8), none⟩,
      ⟨some 62, .ixs (.tm 60) (.tm 61), none⟩,
      ⟨some 63, .mov (.tm 6), none⟩,
      ⟨some 64, .bin .neq (.tm 62) (.tm 63), none⟩])
        (.cond (.tm 64)
        (.seq (.ops [⟨some 65, .mov (.tm 0), none⟩,
      ⟨some 66, .mov (.tm 8), none⟩,
      ⟨some 67, .bin .add (.tm 66) (.cn (.int .i64 1)), none⟩,
      ⟨some 68, .mov (.tm 9), none⟩,
      ⟨some 69, .slcs (.tm 65) (some (.tm 67)) (some (.tm 68)), none⟩,
      ⟨some 70, .mov (.tm 6), none⟩,
      ⟨some 71, .call (.fu 60) [(.tm 69), (.tm 70)], none⟩,
      ⟨some 11, .mov (.tm 71), none⟩])
          (.seq (.seq (.ops [⟨some 72, .mov (.tm 11), none⟩,
      ⟨some 73, .bin .lss (.tm 72) (.cn (.int .i64 0)), none⟩])
          (.cond (.tm 73)
          (.seq (.ops [⟨some 4, .mov (.cn (.int .i64 (-1))), none⟩])
            .ret)
          .skip))
          (.ops [⟨some 74, .mov (.tm 8), none⟩,
      ⟨some 75, .mov (.tm 11), none⟩,
      ⟨some 76, .bin .add (.tm 75) (.cn (.int .i64 1)), none⟩,
      ⟨some 77, .bin .add (.tm 74) (.tm 76), none⟩,
      ⟨some 8, .mov (.tm 77), none⟩])))
        .skip))
        (.seq (.seq (.ops [⟨some 78, .mov (.tm 0), none⟩,
      ⟨some 79, .mov (.tm 8), none⟩,
      ⟨some 80, .bin .add (.tm 79) (.cn (.int .i64 1)), none⟩,
      ⟨some 81, .ixs (.tm 78) (.tm 80), none⟩,
      ⟨some 82, .mov (.tm 7), none⟩,
      ⟨some 83, .bin .eql (.tm 81) (.tm 82), none⟩,
      ⟨some 84, .mov (.tm 83), none⟩,
      ⟨some 85, .mov (.tm 0), (some (84, true))⟩,
      ⟨some 86, .mov (.tm 8), (some (84, true))⟩,
      ⟨some 87, .mov (.tm 8), (some (84, true))⟩,
      ⟨some 88, .mov (.tm 5), (some (84, true))⟩,
      ⟨some 89, .bin .add (.tm 87) (.tm 88), (some (84, true))⟩,
      ⟨some 90, .slcs (.tm 85) (some (.tm 86)) (some (.tm 89)), (some (84, true))⟩,
      ⟨some 91, .mov (.tm 1), (some (84, true))⟩,
      ⟨some 92, .bin .eql (.tm 90) (.tm 91), (some (84, true))⟩,
      ⟨some 93, .pick (.tm 84) (.tm 92) (.cn (.bool false)), none⟩])
        (.cond (.tm 93)
        (.seq (.ops [⟨some 94, .mov (.tm 8), none⟩,
      ⟨some 4, .mov (.tm 94), none⟩])
          .ret)
        .skip))
        (.seq (.ops [⟨some 95, .mov (.tm 8), none⟩,
      ⟨some 96, .bin .add (.tm 95) (.cn (.int .i64 1)), none⟩,
      ⟨some 8, .mov (.tm 96), none⟩])
        (.seq (.ops [⟨some 97, .mov (.tm 10), none⟩,
      ⟨some 98, .bin .add (.tm 97) (.cn (.int .i64 1)), none⟩,
      ⟨some 10, .mov (.tm 98), none⟩])
        (.seq (.ops [⟨some 99, .mov (.tm 5), none⟩,
      ⟨some 100, .load none (.gl 2), none⟩,
      ⟨some 101, .bin .leq (.tm 99) (.tm 100), none⟩,
      ⟨some 102, .mov (.tm 101), none⟩,
      ⟨some 103, .mov (.tm 10), (some (102, true))⟩,
      ⟨some 104, .mov (.tm 8), (some (102, true))⟩,
      ⟨some 105, .call (.fu 89) [(.tm 104)], (some (102, true))⟩,
      ⟨some 106, .bin .gtr (.tm 103) (.tm 105), (some (102, true))⟩,
      ⟨some 107, .pick (.tm 102) (.tm 106) (.cn (.bool false)), none⟩])
        (.cond (.tm 107)
        (.seq (.ops [⟨some 108, .mov (.tm 0), none⟩,
      ⟨some 109, .mov (.tm 8), none⟩,
      ⟨some 110, .slcs (.tm 108) (some (.tm 109)) none, none⟩,
      ⟨some 111, .mov (.tm 1), none⟩,
      ⟨some 112, .call (.fu 88) [(.tm 110), (.tm 111)], none⟩,
      ⟨some 12, .mov (.tm 112), none⟩])
          (.seq (.seq (.ops [⟨some 113, .mov (.tm 12), none⟩,
      ⟨some 114, .bin .geq (.tm 113) (.cn (.int .i64 0)), none⟩])
          (.cond (.tm 114)
          (.seq (.ops [⟨some 115, .mov (.tm 12), none⟩,
      ⟨some 116, .mov (.tm 8), none⟩,
      ⟨some 117, .bin .add (.tm 115) (.tm 116), none⟩,
      ⟨some 4, .mov (.tm 117), none⟩])
            .ret)
          .skip))
          (.seq (.ops [⟨some 4, .mov (.cn (.int .i64 (-1))), none⟩])
          .ret)))
        (.seq (.ops [⟨some 118, .mov (.tm 5), none⟩,
      ⟨some 119, .load none (.gl 2), none⟩,
      ⟨some 120, .bin .gtr (.tm 118) (.tm 119), none⟩,
      ⟨some 121, .mov (.tm 120), none⟩,
      ⟨some 122, .mov (.tm 10), (some (121, true))⟩,
      ⟨some 123, .mov (.tm 8), (some (121, true))⟩,
      ⟨some 124, .bin .shr (.tm 123) (.cn (.int .u64 4)), (some (121, true))⟩,
      ⟨some 125, .bin .add (.cn (.int .i64 4)) (.tm 124), (some (121, true))⟩,
      ⟨some 126, .bin .geq (.tm 122) (.tm 125), (some (121, true))⟩,
      ⟨some 127, .pick (.tm 121) (.tm 126) (.cn (.bool false)), none⟩,
      ⟨some 128, .mov (.tm 127), none⟩,
      ⟨some 129, .mov (.tm 8), (some (128, true))⟩,
      ⟨some 130, .mov (.tm 9), (some (128, true))⟩,
      ⟨some 131, .bin .lss (.tm 129) (.tm 130), (some (128, true))⟩,
      ⟨some 132, .pick (.tm 128) (.tm 131) (.cn (.bool false)), none⟩])
          (.cond (.tm 132)
          (.seq (.ops [⟨some 133, .mov (.tm 0), none⟩,
      ⟨some 134, .mov (.tm 8), none⟩,
      ⟨some 135, .slcs (.tm 133) (some (.tm 134)) none, none⟩,
      ⟨some 136, .mov (.tm 1), none⟩,
      ⟨some 137, .call (.fu 90) [(.tm 135), (.tm 136)], none⟩,
      ⟨some 13, .mov (.tm 137), none⟩])
            (.seq (.seq (.ops [⟨some 138, .mov (.tm 13), none⟩,
      ⟨some 139, .bin .lss (.tm 138) (.cn (.int .i64 0)), none⟩])
            (.cond (.tm 139)
            (.seq (.ops [⟨some 4, .mov (.cn (.int .i64 (-1))), none⟩])
              .ret)
            .skip))
            (.seq (.ops [⟨some 140, .mov (.tm 8), none⟩,
      ⟨some 141, .mov (.tm 13), none⟩,
      ⟨some 142, .bin .add (.tm 140) (.tm 141), none⟩,
      ⟨some 4, .mov (.tm 142), none⟩])
            .ret)))
          .skip))))))))))))
  (.seq (.ops [⟨some 4, .mov (.cn (.int .i64 (-1))), none⟩])
  .ret))))))))))⟩
theorem comp73 : compF Tryd.prog Tryd.f73 ⟨false, [], [([], [0, 1, 5, 6, 7, 8, 9, 10])], [], []⟩ = some L73 := by kernel_rfl


def L75 : LFunc := ⟨54, 2, [.t 4], false, [], [],
  (.seq (.ops [⟨some 4, .mov (.cn (.string ⟨#[]⟩)), none⟩])
  (.seq (.seq (.ops [⟨some 10, .mov (.tm 1), none⟩,
      ⟨some 11, .bin .eql (.tm 10) (.cn (.int .i64 10)), none⟩])
  (.cond (.tm 11)
  (.seq (.seq (.ops [⟨some 12, .mov (.tm 0), none⟩,
      ⟨some 13, .bin .leq (.cn (.int .i64 0)) (.tm 12), none⟩,
      ⟨some 14, .mov (.tm 13), none⟩,
      ⟨some 15, .mov (.tm 0), (some (14, true))⟩,
      ⟨some 16, .bin .lss (.tm 15) (.cn (.int .i64 100)), (some (14, true))⟩,
      ⟨some 17, .pick (.tm 14) (.tm 16) (.cn (.bool false)), none⟩])
    (.cond (.tm 17)
    (.seq (.ops [⟨some 18, .mov (.tm 0), none⟩,
      ⟨some 19, .call (.fu 64) [(.tm 18)], none⟩,
      ⟨some 4, .mov (.tm 19), none⟩])
      .ret)
    .skip))
    (.seq (.ops [⟨some 5, .alloc [.int .u8 0, .int .u8 0, .int .u8 0, .int .u8 0, .int .u8 0, .int .u8 0, .int .u8 0, .int .u8 0, .int .u8 0, .int .u8 0, .int .u8 0, .int .u8 0, .int .u8 0, .int .u8 0, .int .u8 0, .int .u8 0, .int .u8 0, .int .u8 0, .int .u8 0, .int .u8 0, .int .u8 0, .int .u8 0, .int .u8 0, .int .u8 0], none⟩])
    (.seq (.ops [⟨some 20, .mov (.tm 0), none⟩,
      ⟨some 21, .conv .u64 (.tm 20), none⟩,
      ⟨some 6, .mov (.tm 21), none⟩])
    (.seq (.seq (.ops [⟨some 22, .mov (.tm 0), none⟩,
      ⟨some 23, .bin .lss (.tm 22) (.cn (.int .i64 0)), none⟩])
    (.cond (.tm 23)
    (.ops [⟨some 24, .mov (.tm 6), none⟩,
      ⟨some 25, .un .neg (.tm 24), none⟩,
      ⟨some 6, .mov (.tm 25), none⟩])
    .skip))
    (.seq (.ops [⟨some 26, .mov (.tm 6), none⟩,
      ⟨some 27, .call (.fu 65) [(.tm 26)], none⟩,
      ⟨some 7, .mov (.tm 27), none⟩])
    (.seq (.ops [⟨some 28, .mov (.tm 7), none⟩,
      ⟨some 29, .bin .add (.cn (.int .i64 1)) (.tm 28), none⟩,
      ⟨some 30, .slca 24 (.tm 5) (some (.cn (.int .i64 1))) (some (.tm 29)), none⟩,
      ⟨some 31, .mov (.tm 6), none⟩,
      ⟨some 32, .call (.fu 66) [(.tm 30), (.tm 31)], none⟩])
    (.seq (.seq (.ops [⟨some 33, .mov (.tm 0), none⟩,
      ⟨some 34, .bin .lss (.tm 33) (.cn (.int .i64 0)), none⟩])
    (.cond (.tm 34)
    (.seq (.ops [⟨some 35, .ixp 24 1 (.tm 5) (.cn (.int .i64 0)), none⟩,
      ⟨none, .store 1 (.tm 35) (.cn (.int .u8 45)), none⟩])
      (.seq (.ops [⟨some 36, .mov (.tm 7), none⟩,
      ⟨some 37, .bin .add (.cn (.int .i64 1)) (.tm 36), none⟩,
      ⟨some 38, .slca 24 (.tm 5) none (some (.tm 37)), none⟩,
      ⟨some 39, .b2s (.tm 38), none⟩,
      ⟨some 4, .mov (.tm 39), none⟩])
      .ret))
    .skip))
    (.seq (.ops [⟨some 40, .mov (.tm 7), none⟩,
      ⟨some 41, .bin .add (.cn (.int .i64 1)) (.tm 40), none⟩,
      ⟨some 42, .slca 24 (.tm 5) (some (.cn (.int .i64 1))) (some (.tm 41)), none⟩,
      ⟨some 43, .b2s (.tm 42), none⟩,
      ⟨some 4, .mov (.tm 43), none⟩])
    .ret))))))))
  .skip))
  (.seq (.ops [⟨some 45, .mov (.tm 0), none⟩,
      ⟨some 46, .conv .u64 (.tm 45), none⟩,
      ⟨some 47, .mov (.tm 1), none⟩,
      ⟨some 48, .mov (.tm 0), none⟩,
      ⟨some 49, .bin .lss (.tm 48) (.cn (.int .i64 0)), none⟩,
      ⟨some 50, .call (.fu 67) [(.cn (.slice none 0 0)), (.tm 46), (.tm 47), (.tm 49), (.cn (.bool false))], none⟩,
      ⟨some 44, .mov (.tm 50), none⟩,
      ⟨some 51, .ext (.tm 44) 0, none⟩,
      ⟨some 52, .ext (.tm 44) 1, none⟩,
      ⟨some 8, .mov (.tm 51), none⟩,
      ⟨some 9, .mov (.tm 52), none⟩])
  (.seq (.ops [⟨some 53, .mov (.tm 9), none⟩,
      ⟨some 4, .mov (.tm 53), none⟩])
  .ret))))⟩
theorem comp75 : compF Tryd.prog Tryd.f75 ⟨false, [], [], [], []⟩ = some L75 := by kernel_rfl

def L76 : LFunc := ⟨73, 3, [.t 6, .t 7], false, [], [],
  (.seq (.ops [⟨some 6, .mov (.cn (.int .i64 0)), none⟩,
      ⟨some 7, .mov (.cn (.nilIface)), none⟩])
  (.seq (.seq (.ops [⟨some 12, .mov (.tm 0), none⟩,
      ⟨some 13, .bin .eql (.tm 12) (.cn (.string ⟨#[]⟩)), none⟩])
  (.cond (.tm 13)
  (.seq (.ops [⟨some 14, .bad, none⟩,
      ⟨some 6, .mov (.cn (.int .i64 0)), none⟩,
      ⟨some 7, .mov (.tm 14), none⟩])
    .ret)
  .skip))
  (.seq (.ops [⟨some 8, .mov (.cn (.bool false)), none⟩])
  (.seq (.seq (.ops [⟨some 15, .mov (.tm 0), none⟩,
      ⟨some 16, .ixs (.tm 15) (.cn (.int .i64 0)), none⟩])
  (.block 0
  (.seq (.ops [⟨some 18, .bin .eql (.tm 16) (.cn (.int .u8 43)), none⟩,
      ⟨some 17, .mov (.tm 18), none⟩])
    (.cond (.tm 17)
    (.ops [⟨some 19, .mov (.tm 0), none⟩,
      ⟨some 20, .slcs (.tm 19) (some (.cn (.int .i64 1))) none, none⟩,
      ⟨some 0, .mov (.tm 20), none⟩])
    (.seq (.ops [⟨some 22, .bin .eql (.tm 16) (.cn (.int .u8 45)), none⟩,
      ⟨some 21, .mov (.tm 22), none⟩])
      (.cond (.tm 21)
      (.seq (.ops [⟨some 23, .mov (.tm 0), none⟩,
      ⟨some 24, .slcs (.tm 23) (some (.cn (.int .i64 1))) none, none⟩,
      ⟨some 0, .mov (.tm 24), none⟩])
        (.ops [⟨some 8, .mov (.cn (.bool true)), none⟩]))
      .skip))))))
  (.seq (.ops [⟨some 9, .mov (.cn (.int .u64 0)), none⟩])
  (.seq (.ops [⟨some 26, .mov (.tm 0), none⟩,
      ⟨some 27, .mov (.tm 1), none⟩,
      ⟨some 28, .mov (.tm 2), none⟩,
      ⟨some 29, .call (.fu 91) [(.tm 26), (.tm 27), (.tm 28)], none⟩,
      ⟨some 25, .mov (.tm 29), none⟩,
      ⟨some 30, .ext (.tm 25) 0, none⟩,
      ⟨some 31, .ext (.tm 25) 1, none⟩,
      ⟨some 9, .mov (.tm 30), none⟩,
      ⟨some 7, .mov (.tm 31), none⟩])
  (.seq (.seq (.ops [⟨some 32, .mov (.tm 7), none⟩,
      ⟨some 33, .isnil 3 true (.tm 32), none⟩,
      ⟨some 34, .mov (.tm 33), none⟩,
      ⟨some 35, .mov (.tm 7), (some (34, true))⟩,
      ⟨some 36, .bad, (some (34, true))⟩,
      ⟨some 37, .bad, (some (34, true))⟩,
      ⟨some 38, .pick (.tm 34) (.tm 37) (.cn (.bool false)), none⟩])
  (.cond (.tm 38)
  (.seq (.ops [⟨some 39, .mov (.tm 7), none⟩,
      ⟨some 6, .mov (.cn (.int .i64 0)), none⟩,
      ⟨some 7, .mov (.tm 39), none⟩])
    .ret)
  .skip))
  (.seq (.seq (.ops [⟨some 40, .mov (.tm 2), none⟩,
      ⟨some 41, .bin .eql (.tm 40) (.cn (.int .i64 0)), none⟩])
  (.cond (.tm 41)
  (.ops [⟨some 2, .mov (.cn (.int .i64 64)), none⟩])
  .skip))
  (.seq (.ops [⟨some 42, .mov (.tm 2), none⟩,
      ⟨some 43, .bin .sub (.tm 42) (.cn (.int .i64 1)), none⟩,
      ⟨some 44, .conv .u64 (.tm 43), none⟩,
      ⟨some 45, .bin .shl (.cn (.int .u64 1)) (.tm 44), none⟩,
      ⟨some 10, .mov (.tm 45), none⟩])
  (.seq (.seq (.ops [⟨some 46, .mov (.tm 8), none⟩,
      ⟨some 47, .un .not (.tm 46), none⟩,
      ⟨some 48, .mov (.tm 47), none⟩,
      ⟨some 49, .mov (.tm 9), (some (48, true))⟩,
      ⟨some 50, .mov (.tm 10), (some (48, true))⟩,
      ⟨some 51, .bin .geq (.tm 49) (.tm 50), (some (48, true))⟩,
      ⟨some 52, .pick (.tm 48) (.tm 51) (.cn (.bool false)), none⟩])
  (.cond (.tm 52)
  (.seq (.ops [⟨some 53, .mov (.tm 10), none⟩,
      ⟨some 54, .bin .sub (.tm 53) (.cn (.int .u64 1)), none⟩,
      ⟨some 55, .conv .i64 (.tm 54), none⟩,
      ⟨some 56, .bad, none⟩,
      ⟨some 6, .mov (.tm 55), none⟩,
      ⟨some 7, .mov (.tm 56), none⟩])
    .ret)
  .skip))
  (.seq (.seq (.ops [⟨some 57, .mov (.tm 8), none⟩,
      ⟨some 58, .mov (.tm 57), none⟩,
      ⟨some 59, .mov (.tm 9), (some (58, true))⟩,
      ⟨some 60, .mov (.tm 10), (some (58, true))⟩,
      ⟨some 61, .bin .gtr (.tm 59) (.tm 60), (some (58, true))⟩,
      ⟨some 62, .pick (.tm 58) (.tm 61) (.cn (.bool false)), none⟩])
  (.cond (.tm 62)
  (.seq (.ops [⟨some 63, .mov (.tm 10), none⟩,
      ⟨some 64, .conv .i64 (.tm 63), none⟩,
      ⟨some 65, .un .neg (.tm 64), none⟩,
      ⟨some 66, .bad, none⟩,
      ⟨some 6, .mov (.tm 65), none⟩,
      ⟨some 7, .mov (.tm 66), none⟩])
    .ret)
  .skip))
  (.seq (.ops [⟨some 67, .mov (.tm 9), none⟩,
      ⟨some 68, .conv .i64 (.tm 67), none⟩,
      ⟨some 11, .mov (.tm 68), none⟩])
  (.seq (.seq (.ops [⟨some 69, .mov (.tm 8), none⟩])
  (.cond (.tm 69)
  (.ops [⟨some 70, .mov (.tm 11), none⟩,
      ⟨some 71, .un .neg (.tm 70), none⟩,
      ⟨some 11, .mov (.tm 71), none⟩])
  .skip))
  (.seq (.ops [⟨some 72, .mov (.tm 11), none⟩,
      ⟨some 6, .mov (.tm 72), none⟩,
      ⟨some 7, .mov (.cn (.nilIface)), none⟩])
  .ret))))))))))))))⟩
theorem comp76 : compF Tryd.prog Tryd.f76 ⟨false, [], [], [], []⟩ = some L76 := by kernel_rfl

def L77 : LFunc := ⟨11, 2, [.t 4], false, [], [],
  (.seq (.ops [⟨some 4, .mov (.cn (.pointer none)), none⟩])
  (.seq (.draw [⟨some 5, .mov (.tm 0), none⟩,
      ⟨some 6, .mov (.tm 1), none⟩,
      ⟨some 7, .call (.fu 92) [(.tm 6)], none⟩,
      ⟨some 8, .load none (.gl 3), none⟩,
      ⟨some 9, .build [.string ⟨#[]⟩, .string ⟨#[]⟩, .nilIface] [(0, 1, (.tm 5)), (1, 1, (.tm 7)), (2, 1, (.tm 8))], none⟩,
      ⟨some 10, .box (.tm 9), none⟩,
      ⟨some 4, .mov (.tm 10), none⟩]
      [(2, 3)])
  .ret))⟩
theorem comp77 : compF Tryd.prog Tryd.f77 ⟨false, [], [], [], []⟩ = some L77 := by kernel_rfl

def L78 : LFunc := ⟨11, 2, [.t 4], false, [], [],
  (.seq (.ops [⟨some 4, .mov (.cn (.pointer none)), none⟩])
  (.seq (.draw [⟨some 5, .mov (.tm 0), none⟩,
      ⟨some 6, .mov (.tm 1), none⟩,
      ⟨some 7, .call (.fu 92) [(.tm 6)], none⟩,
      ⟨some 8, .load none (.gl 4), none⟩,
      ⟨some 9, .build [.string ⟨#[]⟩, .string ⟨#[]⟩, .nilIface] [(0, 1, (.tm 5)), (1, 1, (.tm 7)), (2, 1, (.tm 8))], none⟩,
      ⟨some 10, .box (.tm 9), none⟩,
      ⟨some 4, .mov (.tm 10), none⟩]
      [(2, 3)])
  .ret))⟩
theorem comp78 : compF Tryd.prog Tryd.f78 ⟨false, [], [], [], []⟩ = some L78 := by kernel_rfl

def L79 : LFunc := ⟨16, 3, [.t 6], false, [], [],
  (.seq (.ops [⟨some 6, .mov (.cn (.pointer none)), none⟩])
  (.seq (.ops [⟨some 7, .mov (.tm 0), none⟩,
      ⟨some 8, .mov (.tm 1), none⟩,
      ⟨some 9, .call (.fu 92) [(.tm 8)], none⟩,
      ⟨some 10, .mov (.tm 2), none⟩,
      ⟨some 11, .call (.fu 50) [(.tm 10)], none⟩,
      ⟨some 12, .bin .add (.cn (.string ⟨#[105, 110, 118, 97, 108, 105, 100, 32, 98, 97, 115, 101, 32]⟩)) (.tm 11), none⟩,
      ⟨some 13, .call (.fu 93) [(.tm 12)], none⟩,
      ⟨some 14, .build [.string ⟨#[]⟩, .string ⟨#[]⟩, .nilIface] [(0, 1, (.tm 7)), (1, 1, (.tm 9)), (2, 1, (.tm 13))], none⟩,
      ⟨some 15, .box (.tm 14), none⟩,
      ⟨some 6, .mov (.tm 15), none⟩])
  .ret))⟩
theorem comp79 : compF Tryd.prog Tryd.f79 ⟨false, [], [], [], []⟩ = some L79 := by kernel_rfl

def L80 : LFunc := ⟨16, 3, [.t 6], false, [], [],
  (.seq (.ops [⟨some 6, .mov (.cn (.pointer none)), none⟩])
  (.seq (.ops [⟨some 7, .mov (.tm 0), none⟩,
      ⟨some 8, .mov (.tm 1), none⟩,
      ⟨some 9, .call (.fu 92) [(.tm 8)], none⟩,
      ⟨some 10, .mov (.tm 2), none⟩,
      ⟨some 11, .call (.fu 50) [(.tm 10)], none⟩,
      ⟨some 12, .bin .add (.cn (.string ⟨#[105, 110, 118, 97, 108, 105, 100, 32, 98, 105, 116, 32, 115, 105, 122, 101, 32]⟩)) (.tm 11), none⟩,
      ⟨some 13, .call (.fu 93) [(.tm 12)], none⟩,
      ⟨some 14, .build [.string ⟨#[]⟩, .string ⟨#[]⟩, .nilIface] [(0, 1, (.tm 7)), (1, 1, (.tm 9)), (2, 1, (.tm 13))], none⟩,
      ⟨some 15, .box (.tm 14), none⟩,
      ⟨some 6, .mov (.tm 15), none⟩])
  .ret))⟩
theorem comp80 : compF Tryd.prog Tryd.f80 ⟨false, [], [], [], []⟩ = some L80 := by kernel_rfl

def L81 : LFunc := ⟨6, 1, [.t 2], false, [], [],
  (.seq (.ops [⟨some 2, .mov (.cn (.int .i64 0)), none⟩])
  (.seq (.ops [⟨some 3, .mov (.tm 0), none⟩,
      ⟨some 4, .bin .mul (.tm 3) (.cn (.int .i64 78913)), none⟩,
      ⟨some 5, .bin .shr (.tm 4) (.cn (.int .u64 18)), none⟩,
      ⟨some 2, .mov (.tm 5), none⟩])
  .ret))⟩
theorem comp81 : compF Tryd.prog Tryd.f81 ⟨false, [], [], [], []⟩ = some L81 := by kernel_rfl

def L82 : LFunc := ⟨25, 1, [.t 2], false, [], [],
  (.seq (.ops [⟨some 2, .mov (.cn (.int .i64 0)), none⟩])
  (.seq (.seq (.ops [⟨some 3, .mov (.tm 0), none⟩,
      ⟨some 4, .bin .geq (.tm 3) (.cn (.int .u64 4294967296)), none⟩])
  (.cond (.tm 4)
  (.seq (.ops [⟨some 5, .mov (.tm 0), none⟩,
      ⟨some 6, .bin .shr (.tm 5) (.cn (.int .u64 32)), none⟩,
      ⟨some 0, .mov (.tm 6), none⟩])
    (.ops [⟨some 2, .mov (.cn (.int .i64 32)), none⟩]))
  .skip))
  (.seq (.seq (.ops [⟨some 7, .mov (.tm 0), none⟩,
      ⟨some 8, .bin .geq (.tm 7) (.cn (.int .u64 65536)), none⟩])
  (.cond (.tm 8)
  (.seq (.ops [⟨some 9, .mov (.tm 0), none⟩,
      ⟨some 10, .bin .shr (.tm 9) (.cn (.int .u64 16)), none⟩,
      ⟨some 0, .mov (.tm 10), none⟩])
    (.ops [⟨some 11, .mov (.tm 2), none⟩,
      ⟨some 12, .bin .add (.tm 11) (.cn (.int .i64 16)), none⟩,
      ⟨some 2, .mov (.tm 12), none⟩]))
  .skip))
  (.seq (.seq (.ops [⟨some 13, .mov (.tm 0), none⟩,
      ⟨some 14, .bin .geq (.tm 13) (.cn (.int .u64 256)), none⟩])
  (.cond (.tm 14)
  (.seq (.ops [⟨some 15, .mov (.tm 0), none⟩,
      ⟨some 16, .bin .shr (.tm 15) (.cn (.int .u64 8)), none⟩,
      ⟨some 0, .mov (.tm 16), none⟩])
    (.ops [⟨some 17, .mov (.tm 2), none⟩,
      ⟨some 18, .bin .add (.tm 17) (.cn (.int .i64 8)), none⟩,
      ⟨some 2, .mov (.tm 18), none⟩]))
  .skip))
  (.seq (.ops [⟨some 19, .mov (.tm 2), none⟩,
      ⟨some 20, .mov (.tm 0), none⟩,
      ⟨some 21, .conv .u8 (.tm 20), none⟩,
      ⟨some 22, .ixs (.cn (.string ⟨#[0, 1, 2, 2, 3, 3, 3, 3, 4, 4, 4, 4, 4, 4, 4, 4, 5, 5, 5, 5, 5, 5, 5, 5, 5, 5, 5, 5, 5, 5, 5, 5, 6, 6, 6, 6, 6, 6, 6, 6, 6, 6, 6, 6, 6, 6, 6, 6, 6, 6, 6, 6, 6, 6, 6, 6, 6, 6, 6, 6, 6, 6, 6, 6, 7, 7, 7, 7, 7, 7, 7, 7, 7, 7, 7, 7, 7, 7, 7, 7, 7, 7, 7, 7, 7, 7, 7, 7, 7, 7, 7, 7, 7, 7, 7, 7, 7, 7, 7, 7, 7, 7, 7, 7, 7, 7, 7, 7, 7, 7, 7, 7, 7, 7, 7, 7, 7, 7, 7, 7, 7, 7, 7, 7, 7, 7, 7, 7, 8, 8, 8, 8, 8, 8, 8, 8, 8, 8, 8, 8, 8, 8, 8, 8, 8, 8, 8, 8, 8, 8, 8, 8, 8, 8, 8, 8, 8, 8, 8, 8, 8, 8, 8, 8, 8, 8, 8, 8, 8, 8, 8, 8, 8, 8, 8, 8, 8, 8, 8, 8, 8, 8, 8, 8, 8, 8, 8, 8, 8, 8, 8, 8, 8, 8, 8, 8, 8, 8, 8, 8, 8, 8, 8, 8, 8, 8, 8, 8, 8, 8, 8, 8, 8, 8, 8, 8, 8, 8, 8, 8, 8, 8, 8, 8, 8, 8, 8, 8, 8, 8, 8, 8, 8, 8, 8, 8, 8, 8, 8, 8, 8, 8, 8, 8, 8, 8, 8, 8, 8, 8, 8, 8, 8, 8, 8, 8]⟩)) (.tm 21), none⟩,
      ⟨some 23, .conv .i64 (.tm 22), none⟩,
      ⟨some 24, .bin .add (.tm 19) (.tm 23), none⟩,
      ⟨some 2, .mov (.tm 24), none⟩])
  .ret)))))⟩
theorem comp82 : compF Tryd.prog Tryd.f82 ⟨false, [], [], [], []⟩ = some L82 := by kernel_rfl

def L83 : LFunc := ⟨4, 1, [.t 2], false, [], [],
  (.seq (.ops [⟨some 2, .mov (.cn (.int .i64 0)), none⟩])
  (.seq (.seq (.ops [⟨some 3, .mov (.tm 0), none⟩])
  (.cond (.tm 3)
  (.seq (.ops [⟨some 2, .mov (.cn (.int .i64 1)), none⟩])
    .ret)
  .skip))
  (.seq (.ops [⟨some 2, .mov (.cn (.int .i64 0)), none⟩])
  .ret)))⟩
theorem comp83 : compF Tryd.prog Tryd.f83 ⟨false, [], [], [], []⟩ = some L83 := by kernel_rfl

def L84 : LFunc := ⟨8, 1, [.t 2], false, [], [],
  (.seq (.ops [⟨some 2, .mov (.cn (.bool false)), none⟩])
  (.seq (.ops [⟨some 3, .mov (.tm 0), none⟩,
      ⟨some 4, .mov (.tm 0), none⟩,
      ⟨some 5, .bin .sub (.tm 4) (.cn (.int .i64 1)), none⟩,
      ⟨some 6, .bin .and (.tm 3) (.tm 5), none⟩,
      ⟨some 7, .bin .eql (.tm 6) (.cn (.int .i64 0)), none⟩,
      ⟨some 2, .mov (.tm 7), none⟩])
  .ret))⟩
theorem comp84 : compF Tryd.prog Tryd.f84 ⟨false, [], [], [], []⟩ = some L84 := by kernel_rfl

def L85 : LFunc := ⟨8, 1, [.t 2], false, [], [],
  (.seq (.ops [⟨some 2, .mov (.cn (.int .i64 0)), none⟩])
  (.seq (.cond (.cn (.bool false))
  (.seq (.ops [⟨some 3, .mov (.tm 0), none⟩,
      ⟨some 4, .conv .u32 (.tm 3), none⟩,
      ⟨some 5, .call (.fu 94) [(.tm 4)], none⟩,
      ⟨some 2, .mov (.tm 5), none⟩])
    .ret)
  .skip)
  (.seq (.ops [⟨some 6, .mov (.tm 0), none⟩,
      ⟨some 7, .call (.fu 95) [(.tm 6)], none⟩,
      ⟨some 2, .mov (.tm 7), none⟩])
  .ret)))⟩
theorem comp85 : compF Tryd.prog Tryd.f85 ⟨false, [], [], [], []⟩ = some L85 := by kernel_rfl




def L89 : LFunc := ⟨6, 1, [.t 2], false, [], [],
  (.seq (.ops [⟨some 2, .mov (.cn (.int .i64 0)), none⟩])
  (.seq (.ops [⟨some 3, .mov (.tm 0), none⟩,
      ⟨some 4, .bin .add (.tm 3) (.cn (.int .i64 16)), none⟩,
      ⟨some 5, .bin .quo (.tm 4) (.cn (.int .i64 8)), none⟩,
      ⟨some 2, .mov (.tm 5), none⟩])
  .ret))⟩
theorem comp89 : compF Tryd.prog Tryd.f89 ⟨false, [], [], [], []⟩ = some L89 := by kernel_rfl

def L90 : LFunc := ⟨81, 2, [.t 4], false, [], [],
  (.seq (.ops [⟨some 4, .mov (.cn (.int .i64 0)), none⟩])
  (.seq (.ops [⟨some 12, .mov (.tm 1), none⟩,
      ⟨some 13, .call (.fu 96) [(.tm 12)], none⟩,
      ⟨some 11, .mov (.tm 13), none⟩,
      ⟨some 14, .ext (.tm 11) 0, none⟩,
      ⟨some 15, .ext (.tm 11) 1, none⟩,
      ⟨some 5, .mov (.tm 14), none⟩,
      ⟨some 6, .mov (.tm 15), none⟩])
  (.seq (.ops [⟨some 16, .mov (.tm 1), none⟩,
      ⟨some 17, .slen (.tm 16), none⟩,
      ⟨some 7, .mov (.tm 17), none⟩])
  (.seq (.ops [⟨some 8, .mov (.cn (.int .u32 0)), none⟩])
  (.seq (.seq (.ops [⟨some 9, .mov (.cn (.int .i64 0)), none⟩])
  (.block 0
  (.loop [0, 1, 5, 6, 7, 8, 9]
    (.seq (.seq (.ops [⟨some 18, .mov (.tm 9), none⟩,
      ⟨some 19, .mov (.tm 7), none⟩,
      ⟨some 20, .bin .lss (.tm 18) (.tm 19), none⟩])
      (.cond (.tm 20)
      .skip
      (.exit 0)))
      (.seq (.block 1
      (.ops [⟨some 23, .mov (.tm 8), none⟩,
      ⟨some 24, .bin .mul (.tm 23) (.cn (.int .u32 16777619)), none⟩,
      ⟨some 25, .mov (.tm 0), none⟩,
      ⟨some 26, .mov (.tm 9), none⟩,
      ⟨some 27, .ixs (.tm 25) (.tm 26), none⟩,
      ⟨some 28, .conv .u32 (.tm 27), none⟩,
      ⟨some 29, .bin .add (.tm 24) (.tm 28), none⟩,
      ⟨some 8, .mov (.tm 29), none⟩]))
      (.ops [⟨some 21, .mov (.tm 9), none⟩,
      ⟨some 22, .bin .add (.tm 21) (.cn (.int .i64 1)), none⟩,
      ⟨some 9, .mov (.tm 22), none⟩]))))))
  (.seq (.seq (.ops [⟨some 30, .mov (.tm 8), none⟩,
      ⟨some 31, .mov (.tm 5), none⟩,
      ⟨some 32, .bin .eql (.tm 30) (.tm 31), none⟩,
      ⟨some 33, .mov (.tm 32), none⟩,
      ⟨some 34, .mov (.tm 0), (some (33, true))⟩,
      ⟨some 35, .mov (.tm 7), (some (33, true))⟩,
      ⟨some 36, .slcs (.tm 34) none (some (.tm 35)), (some (33, true))⟩,
      ⟨some 37, .mov (.tm 1), (some (33, true))⟩,
      ⟨some 38, .bin .eql (.tm 36) (.tm 37), (some (33, true))⟩,
      ⟨some 39, .pick (.tm 33) (.tm 38) (.cn (.bool false)), none⟩])
  (.cond (.tm 39)
  (.seq (.ops [⟨some 4, .mov (.cn (.int .i64 0)), none⟩])
    .ret)
  .skip))
  (.seq (.seq (.ops [⟨some 40, .mov (.tm 7), none⟩,
      ⟨some 10, .mov (.tm 40), none⟩])
  (.block 2
  (.loop [0, 1, 5, 6, 7, 8, 10]
    (.seq (.seq (.ops [⟨some 41, .mov (.tm 10), none⟩,
      ⟨some 42, .mov (.tm 0), none⟩,
      ⟨some 43, .slen (.tm 42), none⟩,
      ⟨some 44, .bin .lss (.tm 41) (.tm 43), none⟩])
      (.cond (.tm 44)
      .skip
      (.exit 2)))
      (.block 3
      (.seq (.ops [⟨some 45, .mov (.tm 8), none⟩,
      ⟨some 46, .bin .mul (.tm 45) (.cn (.int .u32 16777619)), none⟩,
      ⟨some 8, .mov (.tm 46), none⟩])
        (.seq (.ops [⟨some 47, .mov (.tm 8), none⟩,
      ⟨some 48, .mov (.tm 0), none⟩,
      ⟨some 49, .mov (.tm 10), none⟩,
      ⟨some 50, .ixs (.tm 48) (.tm 49), none⟩,
      ⟨some 51, .conv .u32 (.tm 50), none⟩,
      ⟨some 52, .bin .add (.tm 47) (.tm 51), none⟩,
      ⟨some 8, .mov (.tm 52), none⟩])
        (.seq (.ops [⟨some 53, .mov (.tm 8), none⟩,
      ⟨some 54, .mov (.tm 6), none⟩,
      ⟨some 55, .mov (.tm 0), none⟩,
      ⟨some 56, .mov (.tm 10), none⟩,
      ⟨some 57, .mov (.tm 7), none⟩,
      ⟨some 58, .bin .sub (.tm 56) (.tm 57), none⟩,
      ⟨some 59, .ixs (.tm 55) (.tm 58), none⟩,
      ⟨some 60, .conv .u32 (.tm 59), none⟩,
      ⟨some 61, .bin .mul (.tm 54) (.tm 60), none⟩,
      ⟨some 62, .bin .sub (.tm 53) (.tm 61), none⟩,
      ⟨some 8, .mov (.tm 62), none⟩])
        (.seq (.ops [⟨some 63, .mov (.tm 10), none⟩,
      ⟨some 64, .bin .add (.tm 63) (.cn (.int .i64 1)), none⟩,
      ⟨some 10, .mov (.tm 64), none⟩])
        (.seq (.ops [⟨some 65, .mov (.tm 8), none⟩,
      ⟨some 66, .mov (.tm 5), none⟩,
      ⟨some 67, .bin .eql (.tm 65) (.tm 66), none⟩,
      ⟨some 68, .mov (.tm 67), none⟩,
      ⟨some 69, .mov (.tm 0), (some (68, true))⟩,
      ⟨some 70, .mov (.tm 10), (some (68, true))⟩,
      ⟨some 71, .mov (.tm 7), (some (68, true))⟩,
      ⟨some 72, .bin .sub (.tm 70) (.tm 71), (some (68, true))⟩,
      ⟨some 73, .mov (.tm 10), (some (68, true))⟩,
      ⟨some 74, .slcs (.tm 69) (some (.tm 72)) (some (.tm 73)), (some (68, true))⟩,
      ⟨some 75, .mov (.tm 1), (some (68, true))⟩,
      ⟨some 76, .bin .eql (.tm 74) (.tm 75), (some (68, true))⟩,
      ⟨some 77, .pick (.tm 68) (.tm 76) (.cn (.bool false)), none⟩])
        (.cond (.tm 77)
        (.seq (.ops [⟨some 78, .mov (.tm 10), none⟩,
      ⟨some 79, .mov (.tm 7), none⟩,
      ⟨some 80, .bin .sub (.tm 78) (.tm 79), none⟩,
      ⟨some 4, .mov (.tm 80), none⟩])
          .ret)
        .skip)))))))))))
  (.seq (.ops [⟨some 4, .mov (.cn (.int .i64 (-1))), none⟩])
  .ret))))))))⟩
theorem comp90 : compF Tryd.prog Tryd.f90 ⟨false, [], [([], [0, 1, 5, 6, 7, 8, 9]), ([], [0, 1, 5, 6, 7, 8, 10])], [], []⟩ = some L90 := by kernel_rfl

def L91 : LFunc := ⟨172, 3, [.t 6, .t 7], false, [], [],
  (.seq (.ops [⟨some 6, .mov (.cn (.int .u64 0)), none⟩,
      ⟨some 7, .mov (.cn (.nilIface)), none⟩])
  (.seq (.seq (.ops [⟨some 18, .mov (.tm 0), none⟩,
      ⟨some 19, .bin .eql (.tm 18) (.cn (.string ⟨#[]⟩)), none⟩])
  (.cond (.tm 19)
  (.seq (.ops [⟨some 20, .bad, none⟩,
      ⟨some 6, .mov (.cn (.int .u64 0)), none⟩,
      ⟨some 7, .mov (.tm 20), none⟩])
    .ret)
  .skip))
  (.seq (.ops [⟨some 21, .mov (.tm 1), none⟩,
      ⟨some 22, .bin .eql (.tm 21) (.cn (.int .i64 0)), none⟩,
      ⟨some 8, .mov (.tm 22), none⟩])
  (.seq (.ops [⟨some 23, .mov (.tm 0), none⟩,
      ⟨some 9, .mov (.tm 23), none⟩])
  (.seq (.block 0
  (.seq (.ops [⟨some 26, .mov (.tm 1), none⟩,
      ⟨some 27, .bin .leq (.cn (.int .i64 2)) (.tm 26), none⟩,
      ⟨some 28, .mov (.tm 27), none⟩,
      ⟨some 29, .mov (.tm 1), (some (28, true))⟩,
      ⟨some 30, .bin .leq (.tm 29) (.cn (.int .i64 36)), (some (28, true))⟩,
      ⟨some 31, .pick (.tm 28) (.tm 30) (.cn (.bool false)), none⟩,
      ⟨some 25, .mov (.tm 31), none⟩])
    (.cond (.tm 25)
    .skip
    (.seq (.ops [⟨some 33, .mov (.tm 1), none⟩,
      ⟨some 34, .bin .eql (.tm 33) (.cn (.int .i64 0)), none⟩,
      ⟨some 32, .mov (.tm 34), none⟩])
      (.cond (.tm 32)
      (.seq (.ops [⟨some 1, .mov (.cn (.int .i64 10)), none⟩])
        (.seq (.ops [⟨some 35, .mov (.tm 0), none⟩,
      ⟨some 36, .ixs (.tm 35) (.cn (.int .i64 0)), none⟩,
      ⟨some 37, .bin .eql (.tm 36) (.cn (.int .u8 48)), none⟩])
        (.cond (.tm 37)
        (.block 1
          (.seq (.ops [⟨some 41, .mov (.tm 0), none⟩,
      ⟨some 42, .slen (.tm 41), none⟩,
      ⟨some 43, .bin .geq (.tm 42) (.cn (.int .i64 3)), none⟩,
      ⟨some 44, .mov (.tm 43), none⟩,
      ⟨some 45, .mov (.tm 0), (some (44, true))⟩,
      ⟨some 46, .ixs (.tm 45) (.cn (.int .i64 1)), (some (44, true))⟩,
      ⟨some 47, .call (.fu 97) [(.tm 46)], (some (44, true))⟩,
      ⟨some 48, .bin .eql (.tm 47) (.cn (.int .u8 98)), (some (44, true))⟩,
      ⟨some 49, .pick (.tm 44) (.tm 48) (.cn (.bool false)), none⟩,
      ⟨some 40, .mov (.tm 49), none⟩])
            (.cond (.tm 40)
            (.seq (.ops [⟨some 1, .mov (.cn (.int .i64 2)), none⟩])
              (.ops [⟨some 50, .mov (.tm 0), none⟩,
      ⟨some 51, .slcs (.tm 50) (some (.cn (.int .i64 2))) none, none⟩,
      ⟨some 0, .mov (.tm 51), none⟩]))
            (.seq (.ops [⟨some 53, .mov (.tm 0), none⟩,
      ⟨some 54, .slen (.tm 53), none⟩,
      ⟨some 55, .bin .geq (.tm 54) (.cn (.int .i64 3)), none⟩,
      ⟨some 56, .mov (.tm 55), none⟩,
      ⟨some 57, .mov (.tm 0), (some (56, true))⟩,
      ⟨some 58, .ixs (.tm 57) (.cn (.int .i64 1)), (some (56, true))⟩,
      ⟨some 59, .call (.fu 97) [(.tm 58)], (some (56, true))⟩,
      ⟨some 60, .bin .eql (.tm 59) (.cn (.int .u8 111)), (some (56, true))⟩,
      ⟨some 61, .pick (.tm 56) (.tm 60) (.cn (.bool false)), none⟩,
      ⟨some 52, .mov (.tm 61), none⟩])
              (.cond (.tm 52)
              (.seq (.ops [⟨some 1, .mov (.cn (.int .i64 8)), none⟩])
                (.ops [⟨some 62, .mov (.tm 0), none⟩,
      ⟨some 63, .slcs (.tm 62) (some (.cn (.int .i64 2))) none, none⟩,
      ⟨some 0, .mov (.tm 63), none⟩]))
              (.seq (.ops [⟨some 65, .mov (.tm 0), none⟩,
      ⟨some 66, .slen (.tm 65), none⟩,
      ⟨some 67, .bin .geq (.tm 66) (.cn (.int .i64 3)), none⟩,
      ⟨some 68, .mov (.tm 67), none⟩,
      ⟨some 69, .mov (.tm 0), (some (68, true))⟩,
      ⟨some 70, .ixs (.tm 69) (.cn (.int .i64 1)), (some (68, true))⟩,
      ⟨some 71, .call (.fu 97) [(.tm 70)], (some (68, true))⟩,
      ⟨some 72, .bin .eql (.tm 71) (.cn (.int .u8 120)), (some (68, true))⟩,
      ⟨some 73, .pick (.tm 68) (.tm 72) (.cn (.bool false)), none⟩,
      ⟨some 64, .mov (.tm 73), none⟩])
                (.cond (.tm 64)
                (.seq (.ops [⟨some 1, .mov (.cn (.int .i64 16)), none⟩])
                  (.ops [⟨some 74, .mov (.tm 0), none⟩,
      ⟨some 75, .slcs (.tm 74) (some (.cn (.int .i64 2))) none, none⟩,
      ⟨some 0, .mov (.tm 75), none⟩]))
                (.seq (.ops [⟨some 1, .mov (.cn (.int .i64 8)), none⟩])
                  (.ops [⟨some 38, .mov (.tm 0), none⟩,
      ⟨some 39, .slcs (.tm 38) (some (.cn (.int .i64 1))) none, none⟩,
      ⟨some 0, .mov (.tm 39), none⟩])))))))))
        .skip)))
      (.seq (.ops [⟨some 24, .bad, none⟩,
      ⟨some 6, .mov (.cn (.int .u64 0)), none⟩,
      ⟨some 7, .mov (.tm 24), none⟩])
        .ret))))))
  (.seq (.seq (.ops [⟨some 76, .mov (.tm 2), none⟩,
      ⟨some 77, .bin .eql (.tm 76) (.cn (.int .i64 0)), none⟩])
  (.cond (.tm 77)
  (.ops [⟨some 2, .mov (.cn (.int .i64 64)), none⟩])
  (.seq (.ops [⟨some 78, .mov (.tm 2), none⟩,
      ⟨some 79, .bin .lss (.tm 78) (.cn (.int .i64 0)), none⟩,
      ⟨some 80, .mov (.tm 79), none⟩,
      ⟨some 81, .mov (.tm 2), (some (80, false))⟩,
      ⟨some 82, .bin .gtr (.tm 81) (.cn (.int .i64 64)), (some (80, false))⟩,
      ⟨some 83, .pick (.tm 80) (.cn (.bool true)) (.tm 82), none⟩])
    (.cond (.tm 83)
    (.seq (.ops [⟨some 84, .bad, none⟩,
      ⟨some 6, .mov (.cn (.int .u64 0)), none⟩,
      ⟨some 7, .mov (.tm 84), none⟩])
      .ret)
    .skip))))
  (.seq (.ops [⟨some 10, .mov (.cn (.int .u64 0)), none⟩])
  (.seq (.seq (.ops [⟨some 85, .mov (.tm 1), none⟩])
  (.block 2
  (.seq (.ops [⟨some 91, .bin .eql (.tm 85) (.cn (.int .i64 10)), none⟩,
      ⟨some 90, .mov (.tm 91), none⟩])
    (.cond (.tm 90)
    (.ops [⟨some 10, .mov (.cn (.int .u64 1844674407370955162)), none⟩])
    (.seq (.ops [⟨some 93, .bin .eql (.tm 85) (.cn (.int .i64 16)), none⟩,
      ⟨some 92, .mov (.tm 93), none⟩])
      (.cond (.tm 92)
      (.ops [⟨some 10, .mov (.cn (.int .u64 1152921504606846976)), none⟩])
      (.ops [⟨some 86, .mov (.tm 1), none⟩,
      ⟨some 87, .conv .u64 (.tm 86), none⟩,
      ⟨some 88, .bin .quo (.cn (.int .u64 18446744073709551615)) (.tm 87), none⟩,
      ⟨some 89, .bin .add (.tm 88) (.cn (.int .u64 1)), none⟩,
      ⟨some 10, .mov (.tm 89), none⟩])))))))
  (.seq (.ops [⟨some 94, .mov (.tm 2), none⟩,
      ⟨some 95, .conv .u64 (.tm 94), none⟩,
      ⟨some 96, .bin .shl (.cn (.int .u64 1)) (.tm 95), none⟩,
      ⟨some 97, .bin .sub (.tm 96) (.cn (.int .u64 1)), none⟩,
      ⟨some 11, .mov (.tm 97), none⟩])
  (.seq (.ops [⟨some 12, .mov (.cn (.bool false)), none⟩])
  (.seq (.ops [⟨some 13, .mov (.cn (.int .u64 0)), none⟩])
  (.seq (.seq (.ops [⟨some 98, .mov (.tm 0), none⟩,
      ⟨some 99, .s2b (.tm 98), none⟩,
      ⟨some 100, .len (.tm 99), none⟩,
      ⟨some 101, .mov (.cn (.int .i64 0)), none⟩])
  (.block 3
  (.loop [1, 8, 9, 10, 11, 12, 13, 99, 100, 101]
    (.seq (.ops [⟨some 102, .bin .lss (.tm 101) (.tm 100), none⟩])
      (.seq (.cond (.tm 102)
      .skip
      (.exit 3))
      (.seq (.block 4
      (.seq (.ops [⟨some 103, .ixa 1 (.tm 99) (.tm 101), none⟩,
      ⟨some 104, .load none (.tm 103), none⟩,
      ⟨some 15, .mov (.tm 104), none⟩])
        (.seq (.ops [⟨some 16, .mov (.cn (.int .u8 0)), none⟩])
        (.seq (.block 5
        (.seq (.ops [⟨some 107, .mov (.tm 15), none⟩,
      ⟨some 108, .bin .eql (.tm 107) (.cn (.int .u8 95)), none⟩,
      ⟨some 109, .mov (.tm 108), none⟩,
      ⟨some 110, .mov (.tm 8), (some (109, true))⟩,
      ⟨some 111, .pick (.tm 109) (.tm 110) (.cn (.bool false)), none⟩,
      ⟨some 106, .mov (.tm 111), none⟩])
          (.cond (.tm 106)
          (.seq (.ops [⟨some 12, .mov (.cn (.bool true)), none⟩])
            (.exit 4))
          (.seq (.ops [⟨some 113, .mov (.tm 15), none⟩,
      ⟨some 114, .bin .leq (.cn (.int .u8 48)) (.tm 113), none⟩,
      ⟨some 115, .mov (.tm 114), none⟩,
      ⟨some 116, .mov (.tm 15), (some (115, true))⟩,
      ⟨some 117, .bin .leq (.tm 116) (.cn (.int .u8 57)), (some (115, true))⟩,
      ⟨some 118, .pick (.tm 115) (.tm 117) (.cn (.bool false)), none⟩,
      ⟨some 112, .mov (.tm 118), none⟩])
            (.cond (.tm 112)
            (.ops [⟨some 119, .mov (.tm 15), none⟩,
      ⟨some 120, .bin .sub (.tm 119) (.cn (.int .u8 48)), none⟩,
      ⟨some 16, .mov (.tm 120), none⟩])
            (.seq (.ops [⟨some 122, .mov (.tm 15), none⟩,
      ⟨some 123, .call (.fu 97) [(.tm 122)], none⟩,
      ⟨some 124, .bin .leq (.cn (.int .u8 97)) (.tm 123), none⟩,
      ⟨some 125, .mov (.tm 124), none⟩,
      ⟨some 126, .mov (.tm 15), (some (125, true))⟩,
      ⟨some 127, .call (.fu 97) [(.tm 126)], (some (125, true))⟩,
      ⟨some 128, .bin .leq (.tm 127) (.cn (.int .u8 122)), (some (125, true))⟩,
      ⟨some 129, .pick (.tm 125) (.tm 128) (.cn (.bool false)), none⟩,
      ⟨some 121, .mov (.tm 129), none⟩])
              (.cond (.tm 121)
              (.ops [⟨some 130, .mov (.tm 15), none⟩,
      ⟨some 131, .call (.fu 97) [(.tm 130)], none⟩,
      ⟨some 132, .bin .sub (.tm 131) (.cn (.int .u8 97)), none⟩,
      ⟨some 133, .bin .add (.tm 132) (.cn (.int .u8 10)), none⟩,
      ⟨some 16, .mov (.tm 133), none⟩])
              (.seq (.ops [⟨some 105, .bad, none⟩,
      ⟨some 6, .mov (.cn (.int .u64 0)), none⟩,
      ⟨some 7, .mov (.tm 105), none⟩])
                .ret))))))))
        (.seq (.seq (.ops [⟨some 134, .mov (.tm 16), none⟩,
      ⟨some 135, .mov (.tm 1), none⟩,
      ⟨some 136, .conv .u8 (.tm 135), none⟩,
      ⟨some 137, .bin .geq (.tm 134) (.tm 136), none⟩])
        (.cond (.tm 137)
        (.seq (.ops [⟨some 138, .bad, none⟩,
      ⟨some 6, .mov (.cn (.int .u64 0)), none⟩,
      ⟨some 7, .mov (.tm 138), none⟩])
          .ret)
        .skip))
        (.seq (.seq (.ops [⟨some 139, .mov (.tm 13), none⟩,
      ⟨some 140, .mov (.tm 10), none⟩,
      ⟨some 141, .bin .geq (.tm 139) (.tm 140), none⟩])
        (.cond (.tm 141)
        (.seq (.ops [⟨some 142, .mov (.tm 11), none⟩,
      ⟨some 143, .bad, none⟩,
      ⟨some 6, .mov (.tm 142), none⟩,
      ⟨some 7, .mov (.tm 143), none⟩])
          .ret)
        .skip))
        (.seq (.ops [⟨some 144, .mov (.tm 13), none⟩,
      ⟨some 145, .mov (.tm 1), none⟩,
      ⟨some 146, .conv .u64 (.tm 145), none⟩,
      ⟨some 147, .bin .mul (.tm 144) (.tm 146), none⟩,
      ⟨some 13, .mov (.tm 147), none⟩])
        (.seq (.ops [⟨some 148, .mov (.tm 13), none⟩,
      ⟨some 149, .mov (.tm 16), none⟩,
      ⟨some 150, .conv .u64 (.tm 149), none⟩,
      ⟨some 151, .bin .add (.tm 148) (.tm 150), none⟩,
      ⟨some 17, .mov (.tm 151), none⟩])
        (.seq (.seq (.ops [⟨some 152, .mov (.tm 17), none⟩,
      ⟨some 153, .mov (.tm 13), none⟩,
      ⟨some 154, .bin .lss (.tm 152) (.tm 153), none⟩,
      ⟨some 155, .mov (.tm 154), none⟩,
      ⟨some 156, .mov (.tm 17), (some (155, false))⟩,
      ⟨some 157, .mov (.tm 11), (some (155, false))⟩,
      ⟨some 158, .bin .gtr (.tm 156) (.tm 157), (some (155, false))⟩,
      ⟨some 159, .pick (.tm 155) (.cn (.bool true)) (.tm 158), none⟩])
        (.cond (.tm 159)
        (.seq (.ops [⟨some 160, .mov (.tm 11), none⟩,
      ⟨some 161, .bad, none⟩,
      ⟨some 6, .mov (.tm 160), none⟩,
      ⟨some 7, .mov (.tm 161), none⟩])
          .ret)
        .skip))
        (.ops [⟨some 162, .mov (.tm 17), none⟩,
      ⟨some 13, .mov (.tm 162), none⟩]))))))))))
      (.ops [⟨some 163, .bin .add (.tm 101) (.cn (.int .i64 1)), none⟩,
      ⟨some 101, .mov (.tm 163), none⟩])))))))
  (.seq (.seq (.ops [⟨some 164, .mov (.tm 12), none⟩,
      ⟨some 165, .mov (.tm 164), none⟩,
      ⟨some 166, .mov (.tm 9), (some (165, true))⟩,
      ⟨some 167, .call (.fu 98) [(.tm 166)], (some (165, true))⟩,
      ⟨some 168, .un .not (.tm 167), (some (165, true))⟩,
      ⟨some 169, .pick (.tm 165) (.tm 168) (.cn (.bool false)), none⟩])
  (.cond (.tm 169)
  (.seq (.ops [⟨some 170, .bad, none⟩,
      ⟨some 6, .mov (.cn (.int .u64 0)), none⟩,
      ⟨some 7, .mov (.tm 170), none⟩])
    .ret)
  .skip))
  (.seq (.ops [⟨some 171, .mov (.tm 13), none⟩,
      ⟨some 6, .mov (.tm 171), none⟩,
      ⟨some 7, .mov (.cn (.nilIface)), none⟩])
  .ret))))))))))))))⟩
theorem comp91 : compF Tryd.prog Tryd.f91 ⟨false, [], [([], [1, 8, 9, 10, 11, 12, 13, 99, 100, 101])], [], []⟩ = some L91 := by kernel_rfl

def L92 : LFunc := ⟨18, 1, [.t 2], false, [], [],
  (.seq (.ops [⟨some 2, .mov (.cn (.string ⟨#[]⟩)), none⟩])
  (.seq (.seq (.ops [⟨some 4, .mov (.tm 0), none⟩,
      ⟨some 5, .slen (.tm 4), none⟩,
      ⟨some 6, .bin .eql (.tm 5) (.cn (.int .i64 0)), none⟩])
  (.cond (.tm 6)
  (.seq (.ops [⟨some 2, .mov (.cn (.string ⟨#[]⟩)), none⟩])
    .ret)
  .skip))
  (.seq (.ops [⟨some 7, .mov (.tm 0), none⟩,
      ⟨some 8, .slen (.tm 7), none⟩,
      ⟨some 9, .mks 1 1 [.int .u8 0] (.tm 8) (.tm 8), none⟩,
      ⟨some 3, .mov (.tm 9), none⟩])
  (.seq (.ops [⟨some 10, .mov (.tm 3), none⟩,
      ⟨some 11, .mov (.tm 0), none⟩,
      ⟨some 12, .cpy 1 (.tm 10) (.tm 11), none⟩])
  (.seq (.ops [⟨some 13, .mov (.tm 3), none⟩,
      ⟨some 14, .ixa 1 (.tm 13) (.cn (.int .i64 0)), none⟩,
      ⟨some 15, .mov (.tm 3), none⟩,
      ⟨some 16, .len (.tm 15), none⟩,
      ⟨some 17, .bad, none⟩,
      ⟨some 2, .mov (.tm 17), none⟩])
  .ret)))))⟩
theorem comp92 : compF Tryd.prog Tryd.f92 ⟨false, [], [], [], []⟩ = some L92 := by kernel_rfl

def L93 : LFunc := ⟨7, 1, [.t 2], false, [], [],
  (.seq (.ops [⟨some 2, .mov (.cn (.nilIface)), none⟩])
  (.seq (.ops [⟨some 3, .mov (.tm 0), none⟩,
      ⟨some 4, .build [.string ⟨#[]⟩] [(0, 1, (.tm 3))], none⟩,
      ⟨some 5, .box (.tm 4), none⟩,
      ⟨some 6, .bad, none⟩,
      ⟨some 2, .mov (.tm 6), none⟩])
  .ret))⟩
theorem comp93 : compF Tryd.prog Tryd.f93 ⟨false, [], [], [], []⟩ = some L93 := by kernel_rfl

def L94 : LFunc := ⟨14, 1, [.t 2], false, [], [],
  (.seq (.ops [⟨some 2, .mov (.cn (.int .i64 0)), none⟩])
  (.seq (.seq (.ops [⟨some 3, .mov (.tm 0), none⟩,
      ⟨some 4, .bin .eql (.tm 3) (.cn (.int .u32 0)), none⟩])
  (.cond (.tm 4)
  (.seq (.ops [⟨some 2, .mov (.cn (.int .i64 32)), none⟩])
    .ret)
  .skip))
  (.seq (.ops [⟨some 5, .mov (.tm 0), none⟩,
      ⟨some 6, .mov (.tm 0), none⟩,
      ⟨some 7, .un .neg (.tm 6), none⟩,
      ⟨some 8, .bin .and (.tm 5) (.tm 7), none⟩,
      ⟨some 9, .bin .mul (.tm 8) (.cn (.int .u32 125613361)), none⟩,
      ⟨some 10, .bin .shr (.tm 9) (.cn (.int .u64 27)), none⟩,
      ⟨some 11, .ixp 32 1 (.gl 5) (.tm 10), none⟩,
      ⟨some 12, .load none (.tm 11), none⟩,
      ⟨some 13, .conv .i64 (.tm 12), none⟩,
      ⟨some 2, .mov (.tm 13), none⟩])
  .ret)))⟩
theorem comp94 : compF Tryd.prog Tryd.f94 ⟨false, [], [], [], []⟩ = some L94 := by kernel_rfl

def L95 : LFunc := ⟨14, 1, [.t 2], false, [], [],
  (.seq (.ops [⟨some 2, .mov (.cn (.int .i64 0)), none⟩])
  (.seq (.seq (.ops [⟨some 3, .mov (.tm 0), none⟩,
      ⟨some 4, .bin .eql (.tm 3) (.cn (.int .u64 0)), none⟩])
  (.cond (.tm 4)
  (.seq (.ops [⟨some 2, .mov (.cn (.int .i64 64)), none⟩])
    .ret)
  .skip))
  (.seq (.ops [⟨some 5, .mov (.tm 0), none⟩,
      ⟨some 6, .mov (.tm 0), none⟩,
      ⟨some 7, .un .neg (.tm 6), none⟩,
      ⟨some 8, .bin .and (.tm 5) (.tm 7), none⟩,
      ⟨some 9, .bin .mul (.tm 8) (.cn (.int .u64 285870213051353865)), none⟩,
      ⟨some 10, .bin .shr (.tm 9) (.cn (.int .u64 58)), none⟩,
      ⟨some 11, .ixp 64 1 (.gl 6) (.tm 10), none⟩,
      ⟨some 12, .load none (.tm 11), none⟩,
      ⟨some 13, .conv .i64 (.tm 12), none⟩,
      ⟨some 2, .mov (.tm 13), none⟩])
  .ret)))⟩
theorem comp95 : compF Tryd.prog Tryd.f95 ⟨false, [], [], [], []⟩ = some L95 := by kernel_rfl

def L96 : LFunc := ⟨39, 1, [.t 2, .t 3], false, [], [],
  (.seq (.ops [⟨some 2, .mov (.cn (.int .u32 0)), none⟩,
      ⟨some 3, .mov (.cn (.int .u32 0)), none⟩])
  (.seq (.ops [⟨some 4, .mov (.cn (.int .u32 0)), none⟩])
  (.seq (.seq (.ops [⟨some 5, .mov (.cn (.int .i64 0)), none⟩])
  (.block 0
  (.loop [0, 4, 5]
    (.seq (.seq (.ops [⟨some 9, .mov (.tm 5), none⟩,
      ⟨some 10, .mov (.tm 0), none⟩,
      ⟨some 11, .slen (.tm 10), none⟩,
      ⟨some 12, .bin .lss (.tm 9) (.tm 11), none⟩])
      (.cond (.tm 12)
      .skip
      (.exit 0)))
      (.seq (.block 1
      (.ops [⟨some 15, .mov (.tm 4), none⟩,
      ⟨some 16, .bin .mul (.tm 15) (.cn (.int .u32 16777619)), none⟩,
      ⟨some 17, .mov (.tm 0), none⟩,
      ⟨some 18, .mov (.tm 5), none⟩,
      ⟨some 19, .ixs (.tm 17) (.tm 18), none⟩,
      ⟨some 20, .conv .u32 (.tm 19), none⟩,
      ⟨some 21, .bin .add (.tm 16) (.tm 20), none⟩,
      ⟨some 4, .mov (.tm 21), none⟩]))
      (.ops [⟨some 13, .mov (.tm 5), none⟩,
      ⟨some 14, .bin .add (.tm 13) (.cn (.int .i64 1)), none⟩,
      ⟨some 5, .mov (.tm 14), none⟩]))))))
  (.seq (.ops [⟨some 6, .mov (.cn (.int .u32 1)), none⟩,
      ⟨some 7, .mov (.cn (.int .u32 16777619)), none⟩])
  (.seq (.seq (.ops [⟨some 22, .mov (.tm 0), none⟩,
      ⟨some 23, .slen (.tm 22), none⟩,
      ⟨some 8, .mov (.tm 23), none⟩])
  (.block 2
  (.loop [4, 6, 7, 8]
    (.seq (.seq (.ops [⟨some 24, .mov (.tm 8), none⟩,
      ⟨some 25, .bin .gtr (.tm 24) (.cn (.int .i64 0)), none⟩])
      (.cond (.tm 25)
      .skip
      (.exit 2)))
      (.seq (.block 3
      (.seq (.seq (.ops [⟨some 28, .mov (.tm 8), none⟩,
      ⟨some 29, .bin .and (.tm 28) (.cn (.int .i64 1)), none⟩,
      ⟨some 30, .bin .neq (.tm 29) (.cn (.int .i64 0)), none⟩])
        (.cond (.tm 30)
        (.ops [⟨some 31, .mov (.tm 6), none⟩,
      ⟨some 32, .mov (.tm 7), none⟩,
      ⟨some 33, .bin .mul (.tm 31) (.tm 32), none⟩,
      ⟨some 6, .mov (.tm 33), none⟩])
        .skip))
        (.ops [⟨some 34, .mov (.tm 7), none⟩,
      ⟨some 35, .mov (.tm 7), none⟩,
      ⟨some 36, .bin .mul (.tm 34) (.tm 35), none⟩,
      ⟨some 7, .mov (.tm 36), none⟩])))
      (.ops [⟨some 26, .mov (.tm 8), none⟩,
      ⟨some 27, .bin .shr (.tm 26) (.cn (.int .u64 1)), none⟩,
      ⟨some 8, .mov (.tm 27), none⟩]))))))
  (.seq (.ops [⟨some 37, .mov (.tm 4), none⟩,
      ⟨some 38, .mov (.tm 6), none⟩,
      ⟨some 2, .mov (.tm 37), none⟩,
      ⟨some 3, .mov (.tm 38), none⟩])
  .ret))))))⟩
theorem comp96 : compF Tryd.prog Tryd.f96 ⟨false, [], [([], [0, 4, 5]), ([], [4, 6, 7, 8])], [], []⟩ = some L96 := by kernel_rfl

def L97 : LFunc := ⟨5, 1, [.t 2], false, [], [],
  (.seq (.ops [⟨some 2, .mov (.cn (.int .u8 0)), none⟩])
  (.seq (.ops [⟨some 3, .mov (.tm 0), none⟩,
      ⟨some 4, .bin .or (.tm 3) (.cn (.int .u8 32)), none⟩,
      ⟨some 2, .mov (.tm 4), none⟩])
  .ret))⟩
theorem comp97 : compF Tryd.prog Tryd.f97 ⟨false, [], [], [], []⟩ = some L97 := by kernel_rfl

def L98 : LFunc := ⟨94, 1, [.t 2], false, [], [],
  (.seq (.ops [⟨some 2, .mov (.cn (.bool false)), none⟩])
  (.seq (.ops [⟨some 3, .mov (.cn (.int .i32 94)), none⟩])
  (.seq (.ops [⟨some 4, .mov (.cn (.int .i64 0)), none⟩])
  (.seq (.seq (.ops [⟨some 6, .mov (.tm 0), none⟩,
      ⟨some 7, .slen (.tm 6), none⟩,
      ⟨some 8, .bin .geq (.tm 7) (.cn (.int .i64 1)), none⟩,
      ⟨some 9, .mov (.tm 8), none⟩,
      ⟨some 10, .mov (.tm 0), (some (9, true))⟩,
      ⟨some 11, .ixs (.tm 10) (.cn (.int .i64 0)), (some (9, true))⟩,
      ⟨some 12, .bin .eql (.tm 11) (.cn (.int .u8 45)), (some (9, true))⟩,
      ⟨some 13, .mov (.tm 12), (some (9, true))⟩,
      ⟨some 14, .mov (.tm 0), (some (13, false))⟩,
      ⟨some 15, .ixs (.tm 14) (.cn (.int .i64 0)), (some (13, false))⟩,
      ⟨some 16, .bin .eql (.tm 15) (.cn (.int .u8 43)), (some (13, false))⟩,
      ⟨some 17, .pick (.tm 13) (.cn (.bool true)) (.tm 16), (some (9, true))⟩,
      ⟨some 18, .pick (.tm 9) (.tm 17) (.cn (.bool false)), none⟩])
  (.cond (.tm 18)
  (.ops [⟨some 19, .mov (.tm 0), none⟩,
      ⟨some 20, .slcs (.tm 19) (some (.cn (.int .i64 1))) none, none⟩,
      ⟨some 0, .mov (.tm 20), none⟩])
  .skip))
  (.seq (.ops [⟨some 5, .mov (.cn (.bool false)), none⟩])
  (.seq (.seq (.ops [⟨some 21, .mov (.tm 0), none⟩,
      ⟨some 22, .slen (.tm 21), none⟩,
      ⟨some 23, .bin .geq (.tm 22) (.cn (.int .i64 2)), none⟩,
      ⟨some 24, .mov (.tm 23), none⟩,
      ⟨some 25, .mov (.tm 0), (some (24, true))⟩,
      ⟨some 26, .ixs (.tm 25) (.cn (.int .i64 0)), (some (24, true))⟩,
      ⟨some 27, .bin .eql (.tm 26) (.cn (.int .u8 48)), (some (24, true))⟩,
      ⟨some 28, .pick (.tm 24) (.tm 27) (.cn (.bool false)), none⟩,
      ⟨some 29, .mov (.tm 28), none⟩,
      ⟨some 30, .mov (.tm 0), (some (29, true))⟩,
      ⟨some 31, .ixs (.tm 30) (.cn (.int .i64 1)), (some (29, true))⟩,
      ⟨some 32, .call (.fu 97) [(.tm 31)], (some (29, true))⟩,
      ⟨some 33, .bin .eql (.tm 32) (.cn (.int .u8 98)), (some (29, true))⟩,
      ⟨some 34, .mov (.tm 33), (some (29, true))⟩,
      ⟨some 35, .mov (.tm 0), (some (34, false))⟩,
      ⟨some 36, .ixs (.tm 35) (.cn (.int .i64 1)), (some (34, false))⟩,
      ⟨some 37, .call (.fu 97) [(.tm 36)], (some (34, false))⟩,
      ⟨some 38, .bin .eql (.tm 37) (.cn (.int .u8 111)), (some (34, false))⟩,
      ⟨some 39, .pick (.tm 34) (.cn (.bool true)) (.tm 38), (some (29, true))⟩,
      ⟨some 40, .mov (.tm 39), (some (29, true))⟩,
      ⟨some 41, .mov (.tm 0), (some (40, false))⟩,
      ⟨some 42, .ixs (.tm 41) (.cn (.int .i64 1)), (some (40, false))⟩,
      ⟨some 43, .call (.fu 97) [(.tm 42)], (some (40, false))⟩,
      ⟨some 44, .bin .eql (.tm 43) (.cn (.int .u8 120)), (some (40, false))⟩,
      ⟨some 45, .pick (.tm 40) (.cn (.bool true)) (.tm 44), (some (29, true))⟩,
      ⟨some 46, .pick (.tm 29) (.tm 45) (.cn (.bool false)), none⟩])
  (.cond (.tm 46)
  (.seq (.ops [⟨some 4, .mov (.cn (.int .i64 2)), none⟩])
    (.seq (.ops [⟨some 3, .mov (.cn (.int .i32 48)), none⟩])
    (.ops [⟨some 47, .mov (.tm 0), none⟩,
      ⟨some 48, .ixs (.tm 47) (.cn (.int .i64 1)), none⟩,
      ⟨some 49, .call (.fu 97) [(.tm 48)], none⟩,
      ⟨some 50, .bin .eql (.tm 49) (.cn (.int .u8 120)), none⟩,
      ⟨some 5, .mov (.tm 50), none⟩])))
  .skip))
  (.seq (.block 0
  (.loop [0, 3, 4, 5]
    (.seq (.seq (.ops [⟨some 51, .mov (.tm 4), none⟩,
      ⟨some 52, .mov (.tm 0), none⟩,
      ⟨some 53, .slen (.tm 52), none⟩,
      ⟨some 54, .bin .lss (.tm 51) (.tm 53), none⟩])
      (.cond (.tm 54)
      .skip
      (.exit 0)))
      (.seq (.block 1
      (.seq (.seq (.ops [⟨some 57, .mov (.tm 0), none⟩,
      ⟨some 58, .mov (.tm 4), none⟩,
      ⟨some 59, .ixs (.tm 57) (.tm 58), none⟩,
      ⟨some 60, .bin .leq (.cn (.int .u8 48)) (.tm 59), none⟩,
      ⟨some 61, .mov (.tm 60), none⟩,
      ⟨some 62, .mov (.tm 0), (some (61, true))⟩,
      ⟨some 63, .mov (.tm 4), (some (61, true))⟩,
      ⟨some 64, .ixs (.tm 62) (.tm 63), (some (61, true))⟩,
      ⟨some 65, .bin .leq (.tm 64) (.cn (.int .u8 57)), (some (61, true))⟩,
      ⟨some 66, .pick (.tm 61) (.tm 65) (.cn (.bool false)), none⟩,
      ⟨some 67, .mov (.tm 66), none⟩,
      ⟨some 68, .mov (.tm 5), (some (67, false))⟩,
      ⟨some 69, .mov (.tm 68), (some (67, false))⟩,
      ⟨some 70, .mov (.tm 0), (some (69, true))⟩,
      ⟨some 71, .mov (.tm 4), (some (69, true))⟩,
      ⟨some 72, .ixs (.tm 70) (.tm 71), (some (69, true))⟩,
      ⟨some 73, .call (.fu 97) [(.tm 72)], (some (69, true))⟩,
      ⟨some 74, .bin .leq (.cn (.int .u8 97)) (.tm 73), (some (69, true))⟩,
      ⟨some 75, .pick (.tm 69) (.tm 74) (.cn (.bool false)), (some (67, false))⟩,
      ⟨some 76, .mov (.tm 75), (some (67, false))⟩,
      ⟨some 77, .mov (.tm 0), (some (76, true))⟩,
      ⟨some 78, .mov (.tm 4), (some (76, true))⟩,
      ⟨some 79, .ixs (.tm 77) (.tm 78), (some (76, true))⟩,
      ⟨some 80, .call (.fu 97) [(.tm 79)], (some (76, true))⟩,
      ⟨some 81, .bin .leq (.tm 80) (.cn (.int .u8 102)), (some (76, true))⟩,
      ⟨some 82, .pick (.tm 76) (.tm 81) (.cn (.bool false)), (some (67, false))⟩,
      ⟨some 83, .pick (.tm 67) (.cn (.bool true)) (.tm 82), none⟩])
        (.cond (.tm 83)
        (.seq (.ops [⟨some 3, .mov (.cn (.int .i32 48)), none⟩])
          (.exit 1))
        .skip))
        (.seq (.seq (.ops [⟨some 84, .mov (.tm 0), none⟩,
      ⟨some 85, .mov (.tm 4), none⟩,
      ⟨some 86, .ixs (.tm 84) (.tm 85), none⟩,
      ⟨some 87, .bin .eql (.tm 86) (.cn (.int .u8 95)), none⟩])
        (.cond (.tm 87)
        (.seq (.seq (.ops [⟨some 88, .mov (.tm 3), none⟩,
      ⟨some 89, .bin .neq (.tm 88) (.cn (.int .i32 48)), none⟩])
          (.cond (.tm 89)
          (.seq (.ops [⟨some 2, .mov (.cn (.bool false)), none⟩])
            .ret)
          .skip))
          (.seq (.ops [⟨some 3, .mov (.cn (.int .i32 95)), none⟩])
          (.exit 1)))
        .skip))
        (.seq (.seq (.ops [⟨some 90, .mov (.tm 3), none⟩,
      ⟨some 91, .bin .eql (.tm 90) (.cn (.int .i32 95)), none⟩])
        (.cond (.tm 91)
        (.seq (.ops [⟨some 2, .mov (.cn (.bool false)), none⟩])
          .ret)
        .skip))
        (.ops [⟨some 3, .mov (.cn (.int .i32 33)), none⟩])))))
      (.ops [⟨some 55, .mov (.tm 4), none⟩,
      ⟨some 56, .bin .add (.tm 55) (.cn (.int .i64 1)), none⟩,
      ⟨some 4, .mov (.tm 56), none⟩])))))
  (.seq (.ops [⟨some 92, .mov (.tm 3), none⟩,
      ⟨some 93, .bin .neq (.tm 92) (.cn (.int .i32 95)), none⟩,
      ⟨some 2, .mov (.tm 93), none⟩])
  .ret))))))))⟩
theorem comp98 : compF Tryd.prog Tryd.f98 ⟨false, [], [([], [0, 3, 4, 5])], [], []⟩ = some L98 := by kernel_rfl

end Go.Vai
