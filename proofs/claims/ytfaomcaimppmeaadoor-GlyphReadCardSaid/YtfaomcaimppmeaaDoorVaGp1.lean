/-
  The compact code of the functions, and that it is what was loaded.
-/
import Derived.Test.YtfaomcaimppmeaaDoorProg
import Derived.Test.YtfaomcaimppmeaaDoorVa4
set_option linter.unusedVariables false
set_option maxRecDepth 100000
namespace Go.Vai
open Go.Proofs
def L62 : LFunc := ⟨6, 1, [.t 2], false, [], [],
 (.seq (.ops [⟨some 2, .mov (.cn (.int .i64 0)), none⟩])
 (.seq (.ops [⟨some 3, .mov (.tm 0), none⟩,
 ⟨some 4, .mn [(.tm 3), (.cn (.int .i64 1048576))], none⟩,
 ⟨some 5, .mx [(.cn (.int .i64 (-1048576))), (.tm 4)], none⟩,
 ⟨some 2, .mov (.tm 5), none⟩])
 .ret))⟩
theorem comp62 : compF Tryd.prog Tryd.f62 ⟨false, [], [], [], []⟩ = some L62 := by kernel_rfl

def L63 : LFunc := ⟨26, 2, [.t 4], false, [], [],
 (.seq (.ops [⟨some 4, .mov (.cn (.bool false)), none⟩])
 (.seq (.seq (.ops [⟨some 6, .mov (.tm 0), none⟩,
 ⟨some 7, .len (.tm 6), none⟩,
 ⟨some 8, .mov (.tm 1), none⟩,
 ⟨some 9, .len (.tm 8), none⟩,
 ⟨some 10, .bin .neq (.tm 7) (.tm 9), none⟩])
 (.cond (.tm 10)
 (.seq (.ops [⟨some 4, .mov (.cn (.bool false)), none⟩])
 .ret)
 .skip))
 (.seq (.seq (.ops [⟨some 5, .mov (.cn (.int .i64 0)), none⟩])
 (.block 0
 (.loop [0, 1, 5]
 (.seq (.seq (.ops [⟨some 11, .mov (.tm 5), none⟩,
 ⟨some 12, .mov (.tm 0), none⟩,
 ⟨some 13, .len (.tm 12), none⟩,
 ⟨some 14, .bin .lss (.tm 11) (.tm 13), none⟩])
 (.cond (.tm 14)
 .skip
 (.exit 0)))
 (.seq (.block 1
 (.seq (.draw [⟨some 17, .mov (.tm 0), none⟩,
 ⟨some 18, .mov (.tm 5), none⟩,
 ⟨some 19, .ixa 2 (.tm 17) (.tm 18), none⟩,
 ⟨some 20, .load (some 2) (.tm 19), none⟩,
 ⟨some 21, .mov (.tm 1), none⟩,
 ⟨some 22, .mov (.tm 5), none⟩,
 ⟨some 23, .ixa 2 (.tm 21) (.tm 22), none⟩,
 ⟨some 24, .load (some 2) (.tm 23), none⟩,
 ⟨some 25, .eqs [0, 0] true (.tm 20) (.tm 24), none⟩]
 [])
 (.cond (.tm 25)
 (.seq (.ops [⟨some 4, .mov (.cn (.bool false)), none⟩])
 .ret)
 .skip)))
 (.ops [⟨some 15, .mov (.tm 5), none⟩,
 ⟨some 16, .bin .add (.tm 15) (.cn (.int .i64 1)), none⟩,
 ⟨some 5, .mov (.tm 16), none⟩]))))))
 (.seq (.ops [⟨some 4, .mov (.cn (.bool true)), none⟩])
 .ret))))⟩
theorem comp63 : compF Tryd.prog Tryd.f63 ⟨false, [], [([], [0, 1, 5])], [], []⟩ = some L63 := by kernel_rfl

def L64 : LFunc := ⟨22, 1, [.t 4], false, [], [],
 (.seq (.ops [⟨some 4, .mov (.cn (.int .i64 0)), none⟩])
 (.seq (.draw [⟨some 7, .mov (.tm 0), none⟩,
 ⟨some 8, .call (.fu 60) [(.tm 7)], none⟩,
 ⟨some 9, .load none (.tm 1), none⟩,
 ⟨some 10, .bin .mul (.tm 8) (.tm 9), none⟩,
 ⟨some 5, .mov (.tm 10), none⟩]
 [(1, 2)])
 (.seq (.ops [⟨some 11, .mov (.tm 5), none⟩,
 ⟨some 12, .load none (.tm 2), none⟩,
 ⟨some 13, .bin .quo (.tm 11) (.tm 12), none⟩,
 ⟨some 6, .mov (.tm 13), none⟩])
 (.seq (.seq (.ops [⟨some 14, .mov (.tm 5), none⟩,
 ⟨some 15, .load none (.tm 2), none⟩,
 ⟨some 16, .bin .rem (.tm 14) (.tm 15), none⟩,
 ⟨some 17, .bin .lss (.tm 16) (.cn (.int .i64 0)), none⟩])
 (.cond (.tm 17)
 (.ops [⟨some 18, .mov (.tm 6), none⟩,
 ⟨some 19, .bin .sub (.tm 18) (.cn (.int .i64 1)), none⟩,
 ⟨some 6, .mov (.tm 19), none⟩])
 .skip))
 (.seq (.ops [⟨some 20, .mov (.tm 6), none⟩,
 ⟨some 21, .call (.fu 60) [(.tm 20)], none⟩,
 ⟨some 4, .mov (.tm 21), none⟩])
 .ret)))))⟩
theorem comp64 : compF Tryd.prog Tryd.f64 ⟨false, [], [], [], []⟩ = some L64 := by kernel_rfl

def L65 : LFunc := ⟨16, 2, [.t 4], false, [], [],
 (.seq (.ops [⟨some 4, .mov (.cn (.int .i64 0)), none⟩])
 (.seq (.ops [⟨some 6, .mov (.tm 0), none⟩,
 ⟨some 7, .mov (.tm 1), none⟩,
 ⟨some 8, .bin .quo (.tm 6) (.tm 7), none⟩,
 ⟨some 5, .mov (.tm 8), none⟩])
 (.seq (.seq (.ops [⟨some 9, .mov (.tm 0), none⟩,
 ⟨some 10, .mov (.tm 1), none⟩,
 ⟨some 11, .bin .rem (.tm 9) (.tm 10), none⟩,
 ⟨some 12, .bin .lss (.tm 11) (.cn (.int .i64 0)), none⟩])
 (.cond (.tm 12)
 (.ops [⟨some 13, .mov (.tm 5), none⟩,
 ⟨some 14, .bin .sub (.tm 13) (.cn (.int .i64 1)), none⟩,
 ⟨some 5, .mov (.tm 14), none⟩])
 .skip))
 (.seq (.ops [⟨some 15, .mov (.tm 5), none⟩,
 ⟨some 4, .mov (.tm 15), none⟩])
 .ret))))⟩
theorem comp65 : compF Tryd.prog Tryd.f65 ⟨false, [], [], [], []⟩ = some L65 := by kernel_rfl

def L66 : LFunc := ⟨8, 1, [.t 2], false, [], [],
 (.seq (.ops [⟨some 2, .mov (.cn (.slice none 0 0)), none⟩])
 (.seq (.seq (.ops [⟨some 3, .mov (.tm 0), none⟩,
 ⟨some 4, .isnil 0 false (.tm 3), none⟩])
 (.cond (.tm 4)
 (.seq (.ops [⟨some 2, .mov (.cn (.slice none 0 0)), none⟩])
 .ret)
 .skip))
 (.seq (.ops [⟨some 5, .bsl 2 [.int .i64 0, .int .i64 0] 0 [], none⟩,
 ⟨some 6, .mov (.tm 0), none⟩,
 ⟨some 7, .app 2 16 false (.tm 5) (.tm 6), none⟩,
 ⟨some 2, .mov (.tm 7), none⟩])
 .ret)))⟩
theorem comp66 : compF Tryd.prog Tryd.f66 ⟨false, [], [], [], []⟩ = some L66 := by kernel_rfl

def L67 : LFunc := ⟨30, 4, [.t 8], false, [], [],
 (.seq (.ops [⟨some 8, .mov (.cn (.slice none 0 0)), none⟩])
 (.seq (.ops [⟨some 9, .mov (.tm 0), none⟩,
 ⟨some 10, .mov (.tm 1), none⟩,
 ⟨some 11, .build [.int .i64 0, .int .i64 0] [(0, 1, (.tm 9)), (1, 1, (.tm 10))], none⟩,
 ⟨some 12, .mov (.tm 0), none⟩,
 ⟨some 13, .mov (.tm 2), none⟩,
 ⟨some 14, .bin .add (.tm 12) (.tm 13), none⟩,
 ⟨some 15, .mov (.tm 1), none⟩,
 ⟨some 16, .build [.int .i64 0, .int .i64 0] [(0, 1, (.tm 14)), (1, 1, (.tm 15))], none⟩,
 ⟨some 17, .mov (.tm 0), none⟩,
 ⟨some 18, .mov (.tm 2), none⟩,
 ⟨some 19, .bin .add (.tm 17) (.tm 18), none⟩,
 ⟨some 20, .mov (.tm 1), none⟩,
 ⟨some 21, .mov (.tm 3), none⟩,
 ⟨some 22, .bin .add (.tm 20) (.tm 21), none⟩,
 ⟨some 23, .build [.int .i64 0, .int .i64 0] [(0, 1, (.tm 19)), (1, 1, (.tm 22))], none⟩,
 ⟨some 24, .mov (.tm 0), none⟩,
 ⟨some 25, .mov (.tm 1), none⟩,
 ⟨some 26, .mov (.tm 3), none⟩,
 ⟨some 27, .bin .add (.tm 25) (.tm 26), none⟩,
 ⟨some 28, .build [.int .i64 0, .int .i64 0] [(0, 1, (.tm 24)), (1, 1, (.tm 27))], none⟩,
 ⟨some 29, .bsl 2 [.int .i64 0, .int .i64 0] 4 [(0, (.tm 11)), (1, (.tm 16)), (2, (.tm 23)), (3, (.tm 28))], none⟩,
 ⟨some 8, .mov (.tm 29), none⟩])
 .ret))⟩
theorem comp67 : compF Tryd.prog Tryd.f67 ⟨false, [], [], [], []⟩ = some L67 := by kernel_rfl

def L68 : LFunc := ⟨29, 1, [.t 2], false, [], [],
 (.seq (.ops [⟨some 2, .mov (.cn (.string ⟨#[]⟩)), none⟩])
 (.seq (.seq (.ops [⟨some 3, .mov (.tm 0), none⟩,
 ⟨some 4, .bin .geq (.tm 3) (.cn (.int .i64 97)), none⟩,
 ⟨some 5, .mov (.tm 4), none⟩,
 ⟨some 6, .mov (.tm 0), (some (5, true))⟩,
 ⟨some 7, .bin .leq (.tm 6) (.cn (.int .i64 122)), (some (5, true))⟩,
 ⟨some 8, .pick (.tm 5) (.tm 7) (.cn (.bool false)), none⟩])
 (.cond (.tm 8)
 (.ops [⟨some 9, .mov (.tm 0), none⟩,
 ⟨some 10, .bin .sub (.tm 9) (.cn (.int .i64 32)), none⟩,
 ⟨some 0, .mov (.tm 10), none⟩])
 .skip))
 (.seq (.seq (.ops [⟨some 11, .mov (.tm 0), none⟩,
 ⟨some 12, .bin .geq (.tm 11) (.cn (.int .i64 123)), none⟩])
 (.cond (.tm 12)
 (.seq (.ops [⟨some 13, .mov (.tm 0), none⟩,
 ⟨some 14, .bin .sub (.tm 13) (.cn (.int .i64 123)), none⟩,
 ⟨some 15, .bin .mul (.cn (.int .i64 5)) (.tm 14), none⟩,
 ⟨some 16, .mov (.tm 0), none⟩,
 ⟨some 17, .bin .sub (.tm 16) (.cn (.int .i64 123)), none⟩,
 ⟨some 18, .bin .mul (.cn (.int .i64 5)) (.tm 17), none⟩,
 ⟨some 19, .bin .add (.tm 18) (.cn (.int .i64 5)), none⟩,
 ⟨some 20, .slcs (.cn (.string ⟨#[51, 50, 54, 50, 51, 50, 50, 50, 50, 50, 54, 50, 51, 50, 54, 48, 51, 54, 48, 48]⟩)) (some (.tm 15)) (some (.tm 19)), none⟩,
 ⟨some 2, .mov (.tm 20), none⟩])
 .ret)
 .skip))
 (.seq (.ops [⟨some 21, .mov (.tm 0), none⟩,
 ⟨some 22, .bin .sub (.tm 21) (.cn (.int .i64 33)), none⟩,
 ⟨some 23, .bin .mul (.cn (.int .i64 5)) (.tm 22), none⟩,
 ⟨some 24, .mov (.tm 0), none⟩,
 ⟨some 25, .bin .sub (.tm 24) (.cn (.int .i64 33)), none⟩,
 ⟨some 26, .bin .mul (.cn (.int .i64 5)) (.tm 25), none⟩,
 ⟨some 27, .bin .add (.tm 26) (.cn (.int .i64 5)), none⟩,
 ⟨some 28, .slcs (.cn (.string ⟨#[50, 50, 50, 48, 50, 53, 53, 48, 48, 48, 53, 55, 53, 55, 53, 51, 54, 55, 51, 54, 53, 49, 50, 52, 53, 50, 53, 50, 53, 51, 50, 50, 48, 48, 48, 49, 50, 50, 50, 49, 52, 50, 50, 50, 52, 48, 53, 50, 53, 48, 48, 50, 55, 50, 48, 48, 48, 48, 50, 52, 48, 48, 55, 48, 48, 48, 48, 48, 48, 50, 49, 49, 50, 52, 52, 55, 53, 53, 53, 55, 50, 54, 50, 50, 55, 55, 49, 55, 52, 55, 55, 49, 55, 49, 55, 53, 53, 55, 49, 49, 55, 52, 55, 49, 55, 55, 52, 55, 53, 55, 55, 49, 49, 49, 49, 55, 53, 55, 53, 55, 55, 53, 55, 49, 55, 48, 50, 48, 50, 48, 48, 50, 48, 50, 52, 49, 50, 52, 50, 49, 48, 55, 48, 55, 48, 52, 50, 49, 50, 52, 55, 49, 50, 48, 50, 55, 53, 55, 52, 55, 50, 53, 55, 53, 53, 54, 53, 54, 53, 54, 51, 52, 52, 52, 51, 54, 53, 53, 53, 54, 55, 52, 54, 52, 55, 55, 52, 54, 52, 52, 51, 52, 53, 53, 51, 53, 53, 55, 53, 53, 55, 50, 50, 50, 55, 49, 49, 49, 53, 50, 53, 53, 54, 53, 53, 52, 52, 52, 52, 55, 53, 55, 55, 53, 53, 54, 53, 53, 53, 53, 50, 53, 53, 53, 50, 54, 53, 54, 52, 52, 50, 53, 53, 54, 51, 54, 53, 54, 53, 53, 51, 52, 50, 49, 54, 55, 50, 50, 50, 50, 53, 53, 53, 53, 55, 53, 53, 53, 53, 50, 53, 53, 55, 55, 53, 53, 53, 50, 53, 53, 53, 53, 50, 50, 50, 55, 49, 50, 52, 55, 54, 52, 52, 52, 54, 52, 52, 50, 49, 49, 51, 49, 49, 49, 51, 50, 53, 48, 48, 48, 48, 48, 48, 48, 55, 52, 50, 48, 48, 48]⟩)) (some (.tm 23)) (some (.tm 27)), none⟩,
 ⟨some 2, .mov (.tm 28), none⟩])
 .ret))))⟩
theorem comp68 : compF Tryd.prog Tryd.f68 ⟨false, [], [], [], []⟩ = some L68 := by kernel_rfl

def L69 : LFunc := ⟨43, 2, [.t 4], false, [], [],
 (.seq (.ops [⟨some 2, .box (.tm 0), none⟩,
 ⟨some 3, .box (.tm 1), none⟩,
 ⟨some 4, .mov (.cn (.bool false)), none⟩])
 (.seq (.seq (.ops [⟨some 7, .fld (.tm 2) 0, none⟩,
 ⟨some 8, .load none (.tm 7), none⟩,
 ⟨some 9, .call (.fu 84) [(.tm 8)], none⟩,
 ⟨some 10, .un .not (.tm 9), none⟩,
 ⟨some 11, .mov (.tm 10), none⟩,
 ⟨some 12, .fld (.tm 2) 1, (some (11, false))⟩,
 ⟨some 13, .load none (.tm 12), (some (11, false))⟩,
 ⟨some 14, .len (.tm 13), (some (11, false))⟩,
 ⟨some 15, .bin .gtr (.tm 14) (.cn (.int .i64 64)), (some (11, false))⟩,
 ⟨some 16, .pick (.tm 11) (.cn (.bool true)) (.tm 15), none⟩,
 ⟨some 17, .mov (.tm 16), none⟩,
 ⟨some 18, .fld (.tm 2) 2, (some (17, false))⟩,
 ⟨some 19, .load none (.tm 18), (some (17, false))⟩,
 ⟨some 20, .len (.tm 19), (some (17, false))⟩,
 ⟨some 21, .bin .gtr (.tm 20) (.cn (.int .i64 32)), (some (17, false))⟩,
 ⟨some 22, .pick (.tm 17) (.cn (.bool true)) (.tm 21), none⟩])
 (.cond (.tm 22)
 (.seq (.ops [⟨some 4, .mov (.cn (.bool false)), none⟩])
 .ret)
 .skip))
 (.seq (.seq (.ops [⟨some 23, .fld (.tm 2) 1, none⟩,
 ⟨some 24, .load none (.tm 23), none⟩,
 ⟨some 25, .len (.tm 24), none⟩,
 ⟨some 26, .mov (.cn (.int .i64 0)), none⟩])
 (.block 0
 (.loop [2, 3, 24, 25, 26]
 (.seq (.ops [⟨some 27, .bin .lss (.tm 26) (.tm 25), none⟩])
 (.seq (.cond (.tm 27)
 .skip
 (.exit 0))
 (.seq (.block 1
 (.seq (.ops [⟨some 28, .ixa 1 (.tm 24) (.tm 26), none⟩,
 ⟨some 29, .load none (.tm 28), none⟩,
 ⟨some 6, .mov (.tm 29), none⟩])
 (.seq (.ops [⟨some 30, .mov (.tm 6), none⟩,
 ⟨some 31, .len (.tm 30), none⟩,
 ⟨some 32, .bin .gtr (.tm 31) (.cn (.int .i64 255)), none⟩,
 ⟨some 33, .mov (.tm 32), none⟩,
 ⟨some 34, .mov (.tm 6), (some (33, false))⟩,
 ⟨some 35, .call (.fu 85) [(.tm 34), (.fu 86)], (some (33, false))⟩,
 ⟨some 36, .pick (.tm 33) (.cn (.bool true)) (.tm 35), none⟩])
 (.cond (.tm 36)
 (.seq (.ops [⟨some 4, .mov (.cn (.bool false)), none⟩])
 .ret)
 .skip))))
 (.ops [⟨some 37, .bin .add (.tm 26) (.cn (.int .i64 1)), none⟩,
 ⟨some 26, .mov (.tm 37), none⟩])))))))
 (.seq (.ops [⟨some 38, .fld (.tm 2) 2, none⟩,
 ⟨some 39, .load none (.tm 38), none⟩,
 ⟨some 40, .mkf 88 [(.tm 3)], none⟩,
 ⟨some 41, .call (.fu 87) [(.tm 39), (.tm 40)], none⟩,
 ⟨some 42, .un .not (.tm 41), none⟩,
 ⟨some 4, .mov (.tm 42), none⟩])
 .ret))))⟩
theorem comp69 : compF Tryd.prog Tryd.f69 ⟨false, [], [([], [2, 3, 24, 25, 26])], [], []⟩ = some L69 := by kernel_rfl

def L71 : LFunc := ⟨23, 2, [.t 4], true, [.tmp 0 (some 1)], [],
 (.seq (.ops [⟨some 4, .mov (.cn (.slice none 0 0)), none⟩])
 (.seq (.seq (.ops [⟨some 7, .mov (.tm 1), none⟩,
 ⟨some 8, .len (.tm 7), none⟩,
 ⟨some 9, .mov (.cn (.int .i64 0)), none⟩])
 (.block 0
 (.pre [.tmp 0 (some 1)] (.loop [0, 7, 8, 9]
 (.seq (.ops [⟨some 10, .bin .lss (.tm 9) (.tm 8), none⟩])
 (.seq (.cond (.tm 10)
 .skip
 (.exit 0))
 (.seq (.block 1
 (.seq (.ops [⟨some 11, .ixa 1 (.tm 7) (.tm 9), none⟩,
 ⟨some 12, .load none (.tm 11), none⟩,
 ⟨some 6, .mov (.tm 12), none⟩])
 (.ops [⟨some 13, .mov (.tm 0), none⟩,
 ⟨some 14, .mov (.tm 6), none⟩,
 ⟨some 15, .bin .shr (.tm 14) (.cn (.int .u64 8)), none⟩,
 ⟨some 16, .conv .u8 (.tm 15), none⟩,
 ⟨some 17, .mov (.tm 6), none⟩,
 ⟨some 18, .conv .u8 (.tm 17), none⟩,
 ⟨some 19, .bsl 1 [.int .u8 0] 2 [(0, (.tm 16)), (1, (.tm 18))], none⟩,
 ⟨some 20, .app 1 1 false (.tm 13) (.tm 19), none⟩,
 ⟨some 0, .mov (.tm 20), none⟩])))
 (.ops [⟨some 21, .bin .add (.tm 9) (.cn (.int .i64 1)), none⟩,
 ⟨some 9, .mov (.tm 21), none⟩]))))))))
 (.seq (.ops [⟨some 22, .mov (.tm 0), none⟩,
 ⟨some 4, .mov (.tm 22), none⟩])
 .ret)))⟩
theorem comp71 : compF Tryd.prog Tryd.f71 ⟨true, [], [([.tmp 0 (some 1)], [0, 7, 8, 9])], [.tmp 0 (some 1)], []⟩ = some L71 := by kernel_rfl

def L72 : LFunc := ⟨96, 2, [.t 4], false, [], [],
 (.seq (.ops [⟨some 2, .box (.tm 0), none⟩,
 ⟨some 4, .mov (.cn (.bool false)), none⟩])
 (.seq (.seq (.ops [⟨some 10, .fld (.tm 2) 0, none⟩,
 ⟨some 11, .load none (.tm 10), none⟩,
 ⟨some 12, .call (.fu 89) [(.tm 11)], none⟩,
 ⟨some 13, .un .not (.tm 12), none⟩,
 ⟨some 14, .mov (.tm 13), none⟩,
 ⟨some 15, .fld (.tm 2) 1, (some (14, false))⟩,
 ⟨some 16, .load none (.tm 15), (some (14, false))⟩,
 ⟨some 17, .len (.tm 16), (some (14, false))⟩,
 ⟨some 18, .bin .gtr (.tm 17) (.cn (.int .i64 64)), (some (14, false))⟩,
 ⟨some 19, .pick (.tm 14) (.cn (.bool true)) (.tm 18), none⟩,
 ⟨some 20, .mov (.tm 19), none⟩,
 ⟨some 21, .fld (.tm 2) 2, (some (20, false))⟩,
 ⟨some 22, .load none (.tm 21), (some (20, false))⟩,
 ⟨some 23, .len (.tm 22), (some (20, false))⟩,
 ⟨some 24, .bin .gtr (.tm 23) (.cn (.int .i64 32)), (some (20, false))⟩,
 ⟨some 25, .pick (.tm 20) (.cn (.bool true)) (.tm 24), none⟩])
 (.cond (.tm 25)
 (.seq (.ops [⟨some 4, .mov (.cn (.bool false)), none⟩])
 .ret)
 .skip))
 (.seq (.seq (.ops [⟨some 5, .mov (.cn (.int .i64 0)), none⟩])
 (.block 0
 (.loop [1, 2, 5]
 (.seq (.seq (.ops [⟨some 26, .mov (.tm 5), none⟩,
 ⟨some 27, .fld (.tm 2) 1, none⟩,
 ⟨some 28, .load none (.tm 27), none⟩,
 ⟨some 29, .len (.tm 28), none⟩,
 ⟨some 30, .bin .lss (.tm 26) (.tm 29), none⟩])
 (.cond (.tm 30)
 .skip
 (.exit 0)))
 (.seq (.block 1
 (.seq (.ops [⟨some 33, .fld (.tm 2) 1, none⟩,
 ⟨some 34, .load none (.tm 33), none⟩,
 ⟨some 35, .mov (.tm 5), none⟩,
 ⟨some 36, .ixa 1 (.tm 34) (.tm 35), none⟩,
 ⟨some 37, .load none (.tm 36), none⟩,
 ⟨some 6, .mov (.tm 37), none⟩])
 (.seq (.seq (.ops [⟨some 38, .mov (.tm 6), none⟩,
 ⟨some 39, .len (.tm 38), none⟩,
 ⟨some 40, .bin .gtr (.tm 39) (.cn (.int .i64 255)), none⟩])
 (.cond (.tm 40)
 (.seq (.ops [⟨some 4, .mov (.cn (.bool false)), none⟩])
 .ret)
 .skip))
 (.seq (.ops [⟨some 7, .mov (.cn (.int .i64 0)), none⟩])
 (.block 2
 (.loop [1, 2, 5, 6, 7]
 (.seq (.seq (.ops [⟨some 41, .mov (.tm 7), none⟩,
 ⟨some 42, .mov (.tm 6), none⟩,
 ⟨some 43, .len (.tm 42), none⟩,
 ⟨some 44, .bin .lss (.tm 41) (.tm 43), none⟩])
 (.cond (.tm 44)
 .skip
 (.exit 2)))
 (.seq (.block 3
 (.seq (.ops [⟨some 47, .mov (.tm 6), none⟩,
 ⟨some 48, .mov (.tm 7), none⟩,
 ⟨some 49, .ixa 2 (.tm 47) (.tm 48), none⟩,
 ⟨some 50, .fld (.tm 49) 0, none⟩,
 ⟨some 51, .load none (.tm 50), none⟩,
 ⟨some 52, .call (.fu 89) [(.tm 51)], none⟩,
 ⟨some 53, .un .not (.tm 52), none⟩,
 ⟨some 54, .mov (.tm 53), none⟩,
 ⟨some 55, .mov (.tm 6), (some (54, false))⟩,
 ⟨some 56, .mov (.tm 7), (some (54, false))⟩,
 ⟨some 57, .ixa 2 (.tm 55) (.tm 56), (some (54, false))⟩,
 ⟨some 58, .fld (.tm 57) 1, (some (54, false))⟩,
 ⟨some 59, .load none (.tm 58), (some (54, false))⟩,
 ⟨some 60, .call (.fu 89) [(.tm 59)], (some (54, false))⟩,
 ⟨some 61, .un .not (.tm 60), (some (54, false))⟩,
 ⟨some 62, .pick (.tm 54) (.cn (.bool true)) (.tm 61), none⟩])
 (.cond (.tm 62)
 (.seq (.ops [⟨some 4, .mov (.cn (.bool false)), none⟩])
 .ret)
 .skip)))
 (.ops [⟨some 45, .mov (.tm 7), none⟩,
 ⟨some 46, .bin .add (.tm 45) (.cn (.int .i64 1)), none⟩,
 ⟨some 7, .mov (.tm 46), none⟩])))))))))
 (.ops [⟨some 31, .mov (.tm 5), none⟩,
 ⟨some 32, .bin .add (.tm 31) (.cn (.int .i64 1)), none⟩,
 ⟨some 5, .mov (.tm 32), none⟩]))))))
 (.seq (.seq (.ops [⟨some 8, .mov (.cn (.int .i64 0)), none⟩])
 (.block 4
 (.loop [1, 2, 8]
 (.seq (.seq (.ops [⟨some 63, .mov (.tm 8), none⟩,
 ⟨some 64, .fld (.tm 2) 2, none⟩,
 ⟨some 65, .load none (.tm 64), none⟩,
 ⟨some 66, .len (.tm 65), none⟩,
 ⟨some 67, .bin .lss (.tm 63) (.tm 66), none⟩])
 (.cond (.tm 67)
 .skip
 (.exit 4)))
 (.seq (.block 5
 (.seq (.ops [⟨some 70, .fld (.tm 2) 2, none⟩,
 ⟨some 71, .load none (.tm 70), none⟩,
 ⟨some 72, .mov (.tm 8), none⟩,
 ⟨some 73, .ixa 3 (.tm 71) (.tm 72), none⟩,
 ⟨some 74, .load (some 3) (.tm 73), none⟩,
 ⟨some 9, .alloc [.int .i64 0, .int .i64 0, .int .i64 0], none⟩,
 ⟨none, .store 3 (.tm 9) (.tm 74), none⟩])
 (.seq (.ops [⟨some 75, .fld (.tm 9) 0, none⟩,
 ⟨some 76, .load none (.tm 75), none⟩,
 ⟨some 77, .bin .lss (.tm 76) (.cn (.int .i64 0)), none⟩,
 ⟨some 78, .mov (.tm 77), none⟩,
 ⟨some 79, .fld (.tm 9) 0, (some (78, false))⟩,
 ⟨some 80, .load none (.tm 79), (some (78, false))⟩,
 ⟨some 81, .mov (.tm 1), (some (78, false))⟩,
 ⟨some 82, .bin .geq (.tm 80) (.tm 81), (some (78, false))⟩,
 ⟨some 83, .pick (.tm 78) (.cn (.bool true)) (.tm 82), none⟩,
 ⟨some 84, .mov (.tm 83), none⟩,
 ⟨some 85, .fld (.tm 9) 1, (some (84, false))⟩,
 ⟨some 86, .load none (.tm 85), (some (84, false))⟩,
 ⟨some 87, .call (.fu 89) [(.tm 86)], (some (84, false))⟩,
 ⟨some 88, .un .not (.tm 87), (some (84, false))⟩,
 ⟨some 89, .pick (.tm 84) (.cn (.bool true)) (.tm 88), none⟩,
 ⟨some 90, .mov (.tm 89), none⟩,
 ⟨some 91, .fld (.tm 9) 2, (some (90, false))⟩,
 ⟨some 92, .load none (.tm 91), (some (90, false))⟩,
 ⟨some 93, .call (.fu 89) [(.tm 92)], (some (90, false))⟩,
 ⟨some 94, .un .not (.tm 93), (some (90, false))⟩,
 ⟨some 95, .pick (.tm 90) (.cn (.bool true)) (.tm 94), none⟩])
 (.cond (.tm 95)
 (.seq (.ops [⟨some 4, .mov (.cn (.bool false)), none⟩])
 .ret)
 .skip))))
 (.ops [⟨some 68, .mov (.tm 8), none⟩,
 ⟨some 69, .bin .add (.tm 68) (.cn (.int .i64 1)), none⟩,
 ⟨some 8, .mov (.tm 69), none⟩]))))))
 (.seq (.ops [⟨some 4, .mov (.cn (.bool true)), none⟩])
 .ret)))))⟩
theorem comp72 : compF Tryd.prog Tryd.f72 ⟨false, [], [([], [1, 2, 5]), ([], [1, 2, 5, 6, 7]), ([], [1, 2, 8])], [], []⟩ = some L72 := by kernel_rfl

def L73 : LFunc := ⟨24, 2, [.t 4], false, [], [],
 (.seq (.ops [⟨some 4, .mov (.cn (.string ⟨#[]⟩)), none⟩])
 (.seq (.ops [⟨some 7, .bsl 1 [.int .u8 0] 0 [], none⟩,
 ⟨some 5, .mov (.tm 7), none⟩])
 (.seq (.seq (.ops [⟨some 8, .mov (.tm 1), none⟩,
 ⟨some 9, .bin .sub (.tm 8) (.cn (.int .i64 1)), none⟩,
 ⟨some 6, .mov (.tm 9), none⟩])
 (.block 0
 (.pre [.tmp 5 (some 1)] (.loop [0, 5, 6]
 (.seq (.seq (.ops [⟨some 10, .mov (.tm 6), none⟩,
 ⟨some 11, .bin .geq (.tm 10) (.cn (.int .i64 0)), none⟩])
 (.cond (.tm 11)
 .skip
 (.exit 0)))
 (.seq (.block 1
 (.ops [⟨some 14, .mov (.tm 5), none⟩,
 ⟨some 15, .mov (.tm 0), none⟩,
 ⟨some 16, .mov (.tm 6), none⟩,
 ⟨some 17, .bin .mul (.cn (.int .i64 8)) (.tm 16), none⟩,
 ⟨some 18, .bin .shr (.tm 15) (.tm 17), none⟩,
 ⟨some 19, .conv .u8 (.tm 18), none⟩,
 ⟨some 20, .bsl 1 [.int .u8 0] 1 [(0, (.tm 19))], none⟩,
 ⟨some 21, .app 1 1 false (.tm 14) (.tm 20), none⟩,
 ⟨some 5, .mov (.tm 21), none⟩]))
 (.ops [⟨some 12, .mov (.tm 6), none⟩,
 ⟨some 13, .bin .sub (.tm 12) (.cn (.int .i64 1)), none⟩,
 ⟨some 6, .mov (.tm 13), none⟩])))))))
 (.seq (.ops [⟨some 22, .mov (.tm 5), none⟩,
 ⟨some 23, .b2s (.tm 22), none⟩,
 ⟨some 4, .mov (.tm 23), none⟩])
 .ret))))⟩
theorem comp73 : compF Tryd.prog Tryd.f73 ⟨false, [], [([.tmp 5 (some 1)], [0, 5, 6])], [], []⟩ = some L73 := by kernel_rfl

def L74 : LFunc := ⟨33, 1, [], false, [], [.att (.bx 0 3) 2 3 none],
 (.seq (.ops [⟨some 3, .mov (.tm 0), none⟩,
 ⟨some 4, .nilchk (.tm 3), none⟩,
 ⟨some 5, .fld (.tm 4) 0, none⟩,
 ⟨some 6, .call (.fu 90) [(.tm 5)], none⟩,
 ⟨some 7, .build [.int .i64 0, .slice none 0 0, .slice none 0 0] [(0, 1, (.tm 6))], none⟩,
 ⟨some 2, .alloc [.int .i64 0, .slice none 0 0, .slice none 0 0], none⟩,
 ⟨none, .store 3 (.tm 2) (.tm 7), none⟩])
 (.seq (.ops [⟨some 8, .mov (.tm 0), none⟩,
 ⟨some 9, .call (.fu 91) [(.tm 8)], none⟩,
 ⟨some 10, .fld (.tm 2) 1, none⟩,
 ⟨none, .store 1 (.tm 10) (.tm 9), none⟩])
 (.seq (.ops [⟨some 11, .mov (.tm 0), none⟩,
 ⟨some 12, .call (.fu 92) [(.tm 11)], none⟩,
 ⟨some 13, .fld (.tm 2) 2, none⟩,
 ⟨none, .store 1 (.tm 13) (.tm 12), none⟩])
 (.seq (.ops [⟨some 14, .mov (.tm 0), none⟩,
 ⟨some 15, .nilchk (.tm 14), none⟩,
 ⟨some 16, .fld (.tm 15) 3, none⟩,
 ⟨some 17, .fld (.tm 16) 0, none⟩,
 ⟨some 18, .load none (.tm 17), none⟩,
 ⟨some 19, .len (.tm 18), none⟩,
 ⟨some 20, .bin .lss (.tm 19) (.cn (.int .i64 1000)), none⟩])
 (.cond (.tm 20)
 (.pre [.rowop 7] (.draw [⟨some 21, .mov (.tm 0), none⟩,
 ⟨some 22, .mov (.tm 0), none⟩,
 ⟨some 23, .nilchk (.tm 22), none⟩,
 ⟨some 24, .fld (.tm 23) 3, none⟩,
 ⟨some 25, .fld (.tm 24) 0, none⟩,
 ⟨some 26, .load none (.tm 25), none⟩,
 ⟨some 27, .load (some 3) (.tm 2), none⟩,
 ⟨some 28, .bslr 3 [.int .i64 0, .slice none 0 0, .slice none 0 0] 1 [(0, (.tm 27))], none⟩,
 ⟨some 29, .app 3 56 false (.tm 26) (.tm 28), none⟩,
 ⟨some 30, .nilchk (.tm 21), none⟩,
 ⟨some 31, .fld (.tm 30) 3, none⟩,
 ⟨some 32, .fld (.tm 31) 0, none⟩,
 ⟨none, .store 1 (.tm 32) (.tm 29), none⟩]
 [(5, 7)]))
 .skip)))))⟩
theorem comp74 : compF Tryd.prog Tryd.f74 ⟨false, [(4, [.rowop 7])], [], [], [.att (.bx 0 3) 2 3 none]⟩ = some L74 := by kernel_rfl

def L75 : LFunc := ⟨29, 1, [], false, [], [],
 (.seq (.ops [⟨some 3, .mov (.tm 0), none⟩,
 ⟨some 4, .nilchk (.tm 3), none⟩,
 ⟨some 5, .fld (.tm 4) 0, none⟩,
 ⟨some 6, .call (.fu 93) [(.tm 5), (.cn (.int .i64 3))], none⟩,
 ⟨some 7, .build [.int .i64 0, .int .i64 0] [(0, 1, (.tm 6))], none⟩,
 ⟨some 2, .alloc [.int .i64 0, .int .i64 0], none⟩,
 ⟨none, .store 2 (.tm 2) (.tm 7), none⟩])
 (.seq (.ops [⟨some 8, .mov (.tm 0), none⟩,
 ⟨some 9, .nilchk (.tm 8), none⟩,
 ⟨some 10, .fld (.tm 9) 0, none⟩,
 ⟨some 11, .call (.fu 93) [(.tm 10), (.cn (.int .i64 2))], none⟩,
 ⟨some 12, .fld (.tm 2) 1, none⟩,
 ⟨none, .store 1 (.tm 12) (.tm 11), none⟩])
 (.seq (.ops [⟨some 13, .mov (.tm 0), none⟩,
 ⟨some 14, .nilchk (.tm 13), none⟩,
 ⟨some 15, .fld (.tm 14) 0, none⟩,
 ⟨some 16, .fld (.tm 15) 2, none⟩,
 ⟨some 17, .load none (.tm 16), none⟩,
 ⟨some 18, .un .not (.tm 17), none⟩])
 (.cond (.tm 18)
 (.draw [⟨some 19, .mov (.tm 0), none⟩,
 ⟨some 20, .mov (.tm 0), none⟩,
 ⟨some 21, .nilchk (.tm 20), none⟩,
 ⟨some 22, .fld (.tm 21) 5, none⟩,
 ⟨some 23, .load none (.tm 22), none⟩,
 ⟨some 24, .load (some 2) (.tm 2), none⟩,
 ⟨some 25, .bsl 2 [.int .i64 0, .int .i64 0] 1 [(0, (.tm 24))], none⟩,
 ⟨some 26, .app 2 16 false (.tm 23) (.tm 25), none⟩,
 ⟨some 27, .nilchk (.tm 19), none⟩,
 ⟨some 28, .fld (.tm 27) 5, none⟩,
 ⟨none, .store 1 (.tm 28) (.tm 26), none⟩]
 [(4, 6)])
 .skip))))⟩
theorem comp75 : compF Tryd.prog Tryd.f75 ⟨false, [], [], [], []⟩ = some L75 := by kernel_rfl

def L76 : LFunc := ⟨94, 1, [], false, [.bx 0 4 (some 2)], [],
 (.seq (.ops [⟨some 10, .mov (.tm 0), none⟩,
 ⟨some 11, .nilchk (.tm 10), none⟩,
 ⟨some 12, .fld (.tm 11) 3, none⟩,
 ⟨some 13, .fld (.tm 12) 0, none⟩,
 ⟨some 14, .load none (.tm 13), none⟩,
 ⟨some 15, .len (.tm 14), none⟩,
 ⟨some 2, .alloc [.int .i64 0], none⟩,
 ⟨none, .store 1 (.tm 2) (.tm 15), none⟩])
 (.seq (.seq (.ops [⟨some 16, .mov (.tm 0), none⟩,
 ⟨some 17, .nilchk (.tm 16), none⟩,
 ⟨some 18, .fld (.tm 17) 3, none⟩,
 ⟨some 19, .fld (.tm 18) 0, none⟩,
 ⟨some 20, .load none (.tm 19), none⟩,
 ⟨some 21, .len (.tm 20), none⟩,
 ⟨some 22, .mov (.cn (.int .i64 0)), none⟩])
 (.block 0
 (.loop [0, 2, 21, 22]
 (.seq (.ops [⟨some 23, .bin .lss (.tm 22) (.tm 21), none⟩])
 (.seq (.cond (.tm 23)
 .skip
 (.exit 0))
 (.seq (.block 1
 (.seq (.ops [⟨some 24, .mov (.tm 22), none⟩,
 ⟨some 3, .mov (.tm 24), none⟩])
 (.seq (.ops [⟨some 25, .mov (.tm 0), none⟩,
 ⟨some 26, .nilchk (.tm 25), none⟩,
 ⟨some 27, .fld (.tm 26) 3, none⟩,
 ⟨some 28, .fld (.tm 27) 0, none⟩,
 ⟨some 29, .load none (.tm 28), none⟩,
 ⟨some 30, .mov (.tm 3), none⟩,
 ⟨some 31, .ixa 3 (.tm 29) (.tm 30), none⟩,
 ⟨some 4, .mov (.tm 31), none⟩])
 (.pre [.rowop 4] (.ops [⟨some 32, .mov (.tm 4), none⟩,
 ⟨some 33, .mov (.tm 4), none⟩,
 ⟨some 34, .nilchk (.tm 33), none⟩,
 ⟨some 35, .fld (.tm 34) 2, none⟩,
 ⟨some 36, .loadr (.tm 35), none⟩,
 ⟨some 37, .mkf 95 [(.tm 2)], none⟩,
 ⟨some 38, .call (.fu 94) [(.tm 36), (.tm 37)], none⟩,
 ⟨some 39, .nilchk (.tm 32), none⟩,
 ⟨some 40, .fld (.tm 39) 2, none⟩,
 ⟨none, .store 1 (.tm 40) (.tm 38), none⟩])))))
 (.pre [.att (.bx 0 3) 2 3 (some 3)] (.ops [⟨some 41, .bin .add (.tm 22) (.cn (.int .i64 1)), none⟩,
 ⟨some 22, .mov (.tm 41), none⟩]))))))))
 (.seq (.ops [⟨some 42, .mkm, none⟩,
 ⟨some 5, .mov (.tm 42), none⟩])
 (.seq (.seq (.ops [⟨some 43, .mov (.tm 0), none⟩,
 ⟨some 44, .nilchk (.tm 43), none⟩,
 ⟨some 45, .fld (.tm 44) 5, none⟩,
 ⟨some 46, .load none (.tm 45), none⟩,
 ⟨some 47, .len (.tm 46), none⟩,
 ⟨some 48, .mov (.cn (.int .i64 0)), none⟩])
 (.block 2
 (.loop [0, 2, 5, 46, 47, 48]
 (.seq (.ops [⟨some 49, .bin .lss (.tm 48) (.tm 47), none⟩])
 (.seq (.cond (.tm 49)
 .skip
 (.exit 2))
 (.seq (.block 3
 (.seq (.ops [⟨some 50, .ixa 2 (.tm 46) (.tm 48), none⟩,
 ⟨some 51, .load (some 2) (.tm 50), none⟩,
 ⟨some 7, .alloc [.int .i64 0, .int .i64 0], none⟩,
 ⟨none, .store 2 (.tm 7) (.tm 51), none⟩])
 (.seq (.ops [⟨some 52, .fld (.tm 7) 0, none⟩,
 ⟨some 53, .load none (.tm 52), none⟩,
 ⟨some 54, .bin .leq (.tm 53) (.cn (.int .i64 1114111)), none⟩,
 ⟨some 55, .mov (.tm 54), none⟩,
 ⟨some 56, .fld (.tm 7) 1, (some (55, true))⟩,
 ⟨some 57, .load none (.tm 56), (some (55, true))⟩,
 ⟨some 58, .load none (.tm 2), (some (55, true))⟩,
 ⟨some 59, .bin .lss (.tm 57) (.tm 58), (some (55, true))⟩,
 ⟨some 60, .pick (.tm 55) (.tm 59) (.cn (.bool false)), none⟩])
 (.cond (.tm 60)
 (.ops [⟨some 61, .mov (.tm 5), none⟩,
 ⟨some 62, .fld (.tm 7) 0, none⟩,
 ⟨some 63, .load none (.tm 62), none⟩,
 ⟨some 64, .fld (.tm 7) 1, none⟩,
 ⟨some 65, .load none (.tm 64), none⟩,
 ⟨none, .mset 0 (.tm 61) (.tm 63) (.tm 65), none⟩])
 .skip))))
 (.ops [⟨some 66, .bin .add (.tm 48) (.cn (.int .i64 1)), none⟩,
 ⟨some 48, .mov (.tm 66), none⟩])))))))
 (.seq (.ops [⟨some 67, .mov (.tm 5), none⟩,
 ⟨some 68, .mrng (.tm 67), none⟩])
 (.rng [0, 68] 69 70 68 4
 (.block 5
 (.seq (.ops [⟨some 71, .ment (.tm 68), none⟩,
 ⟨some 72, .ext (.tm 71) 0, none⟩,
 ⟨some 73, .ext (.tm 71) 1, none⟩,
 ⟨some 8, .mov (.tm 72), none⟩,
 ⟨some 9, .mov (.tm 73), none⟩])
 (.ops [⟨some 74, .mov (.tm 0), none⟩,
 ⟨some 75, .mov (.tm 0), none⟩,
 ⟨some 76, .nilchk (.tm 75), none⟩,
 ⟨some 77, .fld (.tm 76) 3, none⟩,
 ⟨some 78, .fld (.tm 77) 1, none⟩,
 ⟨some 79, .load none (.tm 78), none⟩,
 ⟨some 80, .mov (.tm 8), none⟩,
 ⟨some 81, .mov (.tm 9), none⟩,
 ⟨some 82, .build [.int .i64 0, .int .i64 0] [(0, 1, (.tm 80)), (1, 1, (.tm 81))], none⟩,
 ⟨some 83, .bsl 2 [.int .i64 0, .int .i64 0] 1 [(0, (.tm 82))], none⟩,
 ⟨some 84, .app 2 16 false (.tm 79) (.tm 83), none⟩,
 ⟨some 85, .nilchk (.tm 74), none⟩,
 ⟨some 86, .fld (.tm 85) 3, none⟩,
 ⟨some 87, .fld (.tm 86) 1, none⟩,
 ⟨none, .store 1 (.tm 87) (.tm 84), none⟩])))
 (.ops [⟨some 88, .mov (.tm 0), none⟩,
 ⟨some 89, .nilchk (.tm 88), none⟩,
 ⟨some 90, .fld (.tm 89) 3, none⟩,
 ⟨some 91, .fld (.tm 90) 1, none⟩,
 ⟨some 92, .load none (.tm 91), none⟩,
 ⟨some 93, .call (.fu 96) [(.tm 92), (.fu 97)], none⟩]) []))))))⟩
theorem comp76 : compF Tryd.prog Tryd.f76 ⟨false, [(5, [.rowop 4]), (6, [.att (.bx 0 3) 2 3 (some 3)])], [([], [0, 2, 21, 22]), ([], [0, 2, 5, 46, 47, 48]), ([], [0, 68]), ([], [])], [.bx 0 4 (some 2)], []⟩ = some L76 := by kernel_rfl

def L77 : LFunc := ⟨14, 2, [.t 4, .t 5], false, [], [],
 (.seq (.ops [⟨some 4, .mov (.cn (.int .i64 0)), none⟩,
 ⟨some 5, .mov (.cn (.bool false)), none⟩])
 (.seq (.ops [⟨some 6, .mov (.tm 0), none⟩,
 ⟨some 7, .mx [(.tm 6), (.cn (.int .i64 0))], none⟩,
 ⟨some 0, .mov (.tm 7), none⟩])
 (.seq (.seq (.ops [⟨some 8, .mov (.tm 1), none⟩,
 ⟨some 9, .mov (.tm 0), none⟩,
 ⟨some 10, .bin .gtr (.tm 8) (.tm 9), none⟩])
 (.cond (.tm 10)
 (.seq (.ops [⟨some 4, .mov (.cn (.int .i64 0)), none⟩,
 ⟨some 5, .mov (.cn (.bool false)), none⟩])
 .ret)
 .skip))
 (.seq (.ops [⟨some 11, .mov (.tm 0), none⟩,
 ⟨some 12, .mov (.tm 1), none⟩,
 ⟨some 13, .bin .sub (.tm 11) (.tm 12), none⟩,
 ⟨some 4, .mov (.tm 13), none⟩,
 ⟨some 5, .mov (.cn (.bool true)), none⟩])
 .ret))))⟩
theorem comp77 : compF Tryd.prog Tryd.f77 ⟨false, [], [], [], []⟩ = some L77 := by kernel_rfl

def L78 : LFunc := ⟨122, 2, [.cell 4 (some 3), .cell 5 (some 2)], false, [], [],
 (.seq (.ops [⟨some 3, .box (.tm 1), none⟩,
 ⟨some 4, .alloc [.int .i64 0, .slice none 0 0, .slice none 0 0], none⟩,
 ⟨some 5, .alloc [.int .i64 0, .bool false], none⟩])
 (.seq (.ops [⟨some 21, .build [.int .i64 0, .slice none 0 0, .slice none 0 0] [], none⟩,
 ⟨some 6, .alloc [.int .i64 0, .slice none 0 0, .slice none 0 0], none⟩,
 ⟨none, .store 3 (.tm 6) (.tm 21), none⟩])
 (.seq (.ops [⟨some 7, .mov (.cn (.int .i64 0)), none⟩,
 ⟨some 8, .mov (.cn (.int .i64 0)), none⟩])
 (.seq (.ops [⟨some 23, .mov (.tm 0), none⟩,
 ⟨some 24, .load (some 2) (.tm 3), none⟩,
 ⟨some 25, .call (.fu 98) [(.tm 23), (.tm 24)], none⟩,
 ⟨some 22, .mov (.tm 25), none⟩,
 ⟨some 26, .ext (.tm 22) 0, none⟩,
 ⟨some 27, .ext (.tm 22) 1, none⟩,
 ⟨some 7, .mov (.tm 26), none⟩,
 ⟨none, .store 2 (.tm 3) (.tm 27), none⟩])
 (.seq (.ops [⟨some 28, .mov (.tm 7), none⟩,
 ⟨some 29, .fld (.tm 6) 0, none⟩,
 ⟨none, .store 1 (.tm 29) (.tm 28), none⟩])
 (.seq (.ops [⟨some 31, .mov (.tm 0), none⟩,
 ⟨some 32, .load (some 2) (.tm 3), none⟩,
 ⟨some 33, .call (.fu 79) [(.tm 31), (.tm 32), (.cn (.int .i64 1))], none⟩,
 ⟨some 30, .mov (.tm 33), none⟩,
 ⟨some 34, .ext (.tm 30) 0, none⟩,
 ⟨some 35, .ext (.tm 30) 1, none⟩,
 ⟨some 8, .mov (.tm 34), none⟩,
 ⟨none, .store 2 (.tm 3) (.tm 35), none⟩])
 (.seq (.seq (.ops [⟨some 9, .mov (.cn (.int .i64 0)), none⟩])
 (.block 0
 (.pre [.bx 6 1 (some 1), .bx 6 2 (some 3)] (.loop [0, 3, 4, 5, 6, 8, 9]
 (.seq (.seq (.ops [⟨some 36, .mov (.tm 9), none⟩,
 ⟨some 37, .mov (.tm 8), none⟩,
 ⟨some 38, .bin .lss (.tm 36) (.tm 37), none⟩,
 ⟨some 39, .mov (.tm 38), none⟩,
 ⟨some 40, .fld (.tm 3) 1, (some (39, true))⟩,
 ⟨some 41, .load none (.tm 40), (some (39, true))⟩,
 ⟨some 42, .pick (.tm 39) (.tm 41) (.cn (.bool false)), none⟩])
 (.cond (.tm 42)
 .skip
 (.exit 0)))
 (.seq (.block 1
 (.seq (.ops [⟨some 46, .mov (.tm 0), none⟩,
 ⟨some 47, .load (some 2) (.tm 3), none⟩,
 ⟨some 48, .call (.fu 79) [(.tm 46), (.tm 47), (.cn (.int .i64 1))], none⟩,
 ⟨some 45, .mov (.tm 48), none⟩,
 ⟨some 49, .ext (.tm 45) 0, none⟩,
 ⟨some 50, .ext (.tm 45) 1, none⟩,
 ⟨some 11, .alloc [.int .i64 0, .bool false], none⟩,
 ⟨some 10, .mov (.tm 49), none⟩,
 ⟨none, .store 2 (.tm 11) (.tm 50), none⟩])
 (.seq (.ops [⟨some 52, .mov (.tm 0), none⟩,
 ⟨some 53, .load (some 2) (.tm 11), none⟩,
 ⟨some 54, .mov (.tm 10), none⟩,
 ⟨some 55, .call (.fu 99) [(.tm 52), (.tm 53), (.tm 54)], none⟩,
 ⟨some 51, .mov (.tm 55), none⟩,
 ⟨some 56, .ext (.tm 51) 0, none⟩,
 ⟨some 57, .ext (.tm 51) 1, none⟩,
 ⟨some 13, .alloc [.int .i64 0, .bool false], none⟩,
 ⟨some 12, .mov (.tm 56), none⟩,
 ⟨none, .store 2 (.tm 13) (.tm 57), none⟩])
 (.seq (.ops [⟨some 58, .load (some 2) (.tm 13), none⟩,
 ⟨none, .store 2 (.tm 3) (.tm 58), none⟩])
 (.seq (.ops [⟨some 59, .fld (.tm 11) 1, none⟩,
 ⟨some 60, .load none (.tm 59), none⟩,
 ⟨some 61, .mov (.tm 60), none⟩,
 ⟨some 62, .mov (.tm 9), (some (61, true))⟩,
 ⟨some 63, .bin .lss (.tm 62) (.cn (.int .i64 64)), (some (61, true))⟩,
 ⟨some 64, .pick (.tm 61) (.tm 63) (.cn (.bool false)), none⟩])
 (.cond (.tm 64)
 (.ops [⟨some 65, .fld (.tm 6) 1, none⟩,
 ⟨some 66, .load none (.tm 65), none⟩,
 ⟨some 67, .mov (.tm 12), none⟩,
 ⟨some 68, .bsl 1 [.slice none 0 0] 1 [(0, (.tm 67))], none⟩,
 ⟨some 69, .app 1 24 false (.tm 66) (.tm 68), none⟩,
 ⟨some 70, .fld (.tm 6) 1, none⟩,
 ⟨none, .store 1 (.tm 70) (.tm 69), none⟩])
 .skip))))))
 (.ops [⟨some 43, .mov (.tm 9), none⟩,
 ⟨some 44, .bin .add (.tm 43) (.cn (.int .i64 1)), none⟩,
 ⟨some 9, .mov (.tm 44), none⟩])))))))
 (.seq (.ops [⟨some 72, .mov (.tm 0), none⟩,
 ⟨some 73, .load (some 2) (.tm 3), none⟩,
 ⟨some 74, .call (.fu 79) [(.tm 72), (.tm 73), (.cn (.int .i64 1))], none⟩,
 ⟨some 71, .mov (.tm 74), none⟩,
 ⟨some 75, .ext (.tm 71) 0, none⟩,
 ⟨some 76, .ext (.tm 71) 1, none⟩,
 ⟨some 8, .mov (.tm 75), none⟩,
 ⟨none, .store 2 (.tm 3) (.tm 76), none⟩])
 (.seq (.seq (.ops [⟨some 14, .mov (.cn (.int .i64 0)), none⟩])
 (.block 2
 (.pre [.bx 6 1 (some 1), .bx 6 2 (some 3)] (.loop [0, 3, 4, 5, 6, 8, 14]
 (.seq (.seq (.ops [⟨some 77, .mov (.tm 14), none⟩,
 ⟨some 78, .mov (.tm 8), none⟩,
 ⟨some 79, .bin .lss (.tm 77) (.tm 78), none⟩,
 ⟨some 80, .mov (.tm 79), none⟩,
 ⟨some 81, .fld (.tm 3) 1, (some (80, true))⟩,
 ⟨some 82, .load none (.tm 81), (some (80, true))⟩,
 ⟨some 83, .pick (.tm 80) (.tm 82) (.cn (.bool false)), none⟩])
 (.cond (.tm 83)
 .skip
 (.exit 2)))
 (.seq (.block 3
 (.seq (.ops [⟨some 87, .mov (.tm 0), none⟩,
 ⟨some 88, .load (some 2) (.tm 3), none⟩,
 ⟨some 89, .call (.fu 79) [(.tm 87), (.tm 88), (.cn (.int .i64 2))], none⟩,
 ⟨some 86, .mov (.tm 89), none⟩,
 ⟨some 90, .ext (.tm 86) 0, none⟩,
 ⟨some 91, .ext (.tm 86) 1, none⟩,
 ⟨some 16, .alloc [.int .i64 0, .bool false], none⟩,
 ⟨some 15, .mov (.tm 90), none⟩,
 ⟨none, .store 2 (.tm 16) (.tm 91), none⟩])
 (.seq (.ops [⟨some 93, .mov (.tm 0), none⟩,
 ⟨some 94, .load (some 2) (.tm 16), none⟩,
 ⟨some 95, .call (.fu 98) [(.tm 93), (.tm 94)], none⟩,
 ⟨some 92, .mov (.tm 95), none⟩,
 ⟨some 96, .ext (.tm 92) 0, none⟩,
 ⟨some 97, .ext (.tm 92) 1, none⟩,
 ⟨some 18, .alloc [.int .i64 0, .bool false], none⟩,
 ⟨some 17, .mov (.tm 96), none⟩,
 ⟨none, .store 2 (.tm 18) (.tm 97), none⟩])
 (.seq (.ops [⟨some 99, .mov (.tm 0), none⟩,
 ⟨some 100, .load (some 2) (.tm 18), none⟩,
 ⟨some 101, .call (.fu 98) [(.tm 99), (.tm 100)], none⟩,
 ⟨some 98, .mov (.tm 101), none⟩,
 ⟨some 102, .ext (.tm 98) 0, none⟩,
 ⟨some 103, .ext (.tm 98) 1, none⟩,
 ⟨some 20, .alloc [.int .i64 0, .bool false], none⟩,
 ⟨some 19, .mov (.tm 102), none⟩,
 ⟨none, .store 2 (.tm 20) (.tm 103), none⟩])
 (.seq (.ops [⟨some 104, .load (some 2) (.tm 20), none⟩,
 ⟨none, .store 2 (.tm 3) (.tm 104), none⟩])
 (.seq (.ops [⟨some 105, .fld (.tm 3) 1, none⟩,
 ⟨some 106, .load none (.tm 105), none⟩,
 ⟨some 107, .mov (.tm 106), none⟩,
 ⟨some 108, .mov (.tm 14), (some (107, true))⟩,
 ⟨some 109, .bin .lss (.tm 108) (.cn (.int .i64 32)), (some (107, true))⟩,
 ⟨some 110, .pick (.tm 107) (.tm 109) (.cn (.bool false)), none⟩])
 (.cond (.tm 110)
 (.ops [⟨some 111, .fld (.tm 6) 2, none⟩,
 ⟨some 112, .load none (.tm 111), none⟩,
 ⟨some 113, .mov (.tm 15), none⟩,
 ⟨some 114, .mov (.tm 17), none⟩,
 ⟨some 115, .mov (.tm 19), none⟩,
 ⟨some 116, .build [.int .i64 0, .int .i64 0, .int .i64 0] [(0, 1, (.tm 113)), (1, 1, (.tm 114)), (2, 1, (.tm 115))], none⟩,
 ⟨some 117, .bsl 3 [.int .i64 0, .int .i64 0, .int .i64 0] 1 [(0, (.tm 116))], none⟩,
 ⟨some 118, .app 3 24 false (.tm 112) (.tm 117), none⟩,
 ⟨some 119, .fld (.tm 6) 2, none⟩,
 ⟨none, .store 1 (.tm 119) (.tm 118), none⟩])
 .skip)))))))
 (.ops [⟨some 84, .mov (.tm 14), none⟩,
 ⟨some 85, .bin .add (.tm 84) (.cn (.int .i64 1)), none⟩,
 ⟨some 14, .mov (.tm 85), none⟩])))))))
 (.seq (.draw [⟨some 120, .load (some 3) (.tm 6), none⟩,
 ⟨some 121, .load (some 2) (.tm 3), none⟩,
 ⟨none, .store 3 (.tm 4) (.tm 120), none⟩,
 ⟨none, .store 2 (.tm 5) (.tm 121), none⟩]
 [(1, 2)])
 .ret))))))))))⟩
theorem comp78 : compF Tryd.prog Tryd.f78 ⟨false, [], [([.bx 6 1 (some 1), .bx 6 2 (some 3)], [0, 3, 4, 5, 6, 8, 9]), ([.bx 6 1 (some 1), .bx 6 2 (some 3)], [0, 3, 4, 5, 6, 8, 14])], [], []⟩ = some L78 := by kernel_rfl

def L79 : LFunc := ⟨46, 3, [.t 6, .cell 7 (some 2)], false, [], [],
 (.seq (.ops [⟨some 4, .box (.tm 1), none⟩,
 ⟨some 6, .mov (.cn (.int .i64 0)), none⟩,
 ⟨some 7, .alloc [.int .i64 0, .bool false], none⟩])
 (.seq (.seq (.ops [⟨some 10, .fld (.tm 4) 1, none⟩,
 ⟨some 11, .load none (.tm 10), none⟩,
 ⟨some 12, .un .not (.tm 11), none⟩,
 ⟨some 13, .mov (.tm 12), none⟩,
 ⟨some 14, .fld (.tm 4) 0, (some (13, false))⟩,
 ⟨some 15, .load none (.tm 14), (some (13, false))⟩,
 ⟨some 16, .mov (.tm 2), (some (13, false))⟩,
 ⟨some 17, .bin .add (.tm 15) (.tm 16), (some (13, false))⟩,
 ⟨some 18, .mov (.tm 0), (some (13, false))⟩,
 ⟨some 19, .slen (.tm 18), (some (13, false))⟩,
 ⟨some 20, .bin .gtr (.tm 17) (.tm 19), (some (13, false))⟩,
 ⟨some 21, .pick (.tm 13) (.cn (.bool true)) (.tm 20), none⟩])
 (.cond (.tm 21)
 (.seq (.ops [⟨some 22, .mov (.tm 0), none⟩,
 ⟨some 23, .slen (.tm 22), none⟩,
 ⟨some 24, .build [.int .i64 0, .bool false] [(0, 1, (.tm 23))], none⟩,
 ⟨some 6, .mov (.cn (.int .i64 0)), none⟩,
 ⟨none, .store 2 (.tm 7) (.tm 24), none⟩])
 .ret)
 .skip))
 (.seq (.ops [⟨some 8, .mov (.cn (.int .i64 0)), none⟩])
 (.seq (.seq (.ops [⟨some 9, .mov (.cn (.int .i64 0)), none⟩])
 (.block 0
 (.loop [0, 2, 4, 7, 8, 9]
 (.seq (.seq (.ops [⟨some 25, .mov (.tm 9), none⟩,
 ⟨some 26, .mov (.tm 2), none⟩,
 ⟨some 27, .bin .lss (.tm 25) (.tm 26), none⟩])
 (.cond (.tm 27)
 .skip
 (.exit 0)))
 (.seq (.block 1
 (.ops [⟨some 30, .mov (.tm 8), none⟩,
 ⟨some 31, .bin .mul (.tm 30) (.cn (.int .i64 256)), none⟩,
 ⟨some 32, .mov (.tm 0), none⟩,
 ⟨some 33, .fld (.tm 4) 0, none⟩,
 ⟨some 34, .load none (.tm 33), none⟩,
 ⟨some 35, .mov (.tm 9), none⟩,
 ⟨some 36, .bin .add (.tm 34) (.tm 35), none⟩,
 ⟨some 37, .ixs (.tm 32) (.tm 36), none⟩,
 ⟨some 38, .conv .i64 (.tm 37), none⟩,
 ⟨some 39, .bin .add (.tm 31) (.tm 38), none⟩,
 ⟨some 8, .mov (.tm 39), none⟩]))
 (.ops [⟨some 28, .mov (.tm 9), none⟩,
 ⟨some 29, .bin .add (.tm 28) (.cn (.int .i64 1)), none⟩,
 ⟨some 9, .mov (.tm 29), none⟩]))))))
 (.seq (.draw [⟨some 40, .mov (.tm 8), none⟩,
 ⟨some 41, .fld (.tm 4) 0, none⟩,
 ⟨some 42, .load none (.tm 41), none⟩,
 ⟨some 43, .mov (.tm 2), none⟩,
 ⟨some 44, .bin .add (.tm 42) (.tm 43), none⟩,
 ⟨some 45, .build [.int .i64 0, .bool false] [(0, 1, (.tm 44)), (1, 1, (.cn (.bool true)))], none⟩,
 ⟨some 6, .mov (.tm 40), none⟩,
 ⟨none, .store 2 (.tm 7) (.tm 45), none⟩]
 [])
 .ret)))))⟩
theorem comp79 : compF Tryd.prog Tryd.f79 ⟨false, [], [([], [0, 2, 4, 7, 8, 9])], [], []⟩ = some L79 := by kernel_rfl

def L80 : LFunc := ⟨89, 2, [.cell 4 (some 2)], false, [], [],
 (.seq (.ops [⟨some 4, .alloc [.slice none 0 0, .slice none 0 0], none⟩])
 (.seq (.ops [⟨some 11, .build [.slice none 0 0, .slice none 0 0] [], none⟩,
 ⟨some 5, .alloc [.slice none 0 0, .slice none 0 0], none⟩,
 ⟨none, .store 2 (.tm 5) (.tm 11), none⟩])
 (.seq (.seq (.ops [⟨some 6, .mov (.cn (.int .i64 0)), none⟩])
 (.block 0
 (.pre [.bx 5 0 (some 3)] (.loop [0, 1, 4, 5, 6]
 (.seq (.seq (.ops [⟨some 12, .mov (.tm 6), none⟩,
 ⟨some 13, .mov (.tm 0), none⟩,
 ⟨some 14, .len (.tm 13), none⟩,
 ⟨some 15, .bin .lss (.tm 12) (.tm 14), none⟩])
 (.cond (.tm 15)
 .skip
 (.exit 0)))
 (.seq (.block 1
 (.seq (.ops [⟨some 18, .mov (.tm 0), none⟩,
 ⟨some 19, .mov (.tm 6), none⟩,
 ⟨some 20, .ixa 3 (.tm 18) (.tm 19), none⟩,
 ⟨some 21, .load (some 3) (.tm 20), none⟩,
 ⟨some 7, .alloc [.int .i64 0, .slice none 0 0, .slice none 0 0], none⟩,
 ⟨none, .store 3 (.tm 7) (.tm 21), none⟩])
 (.seq (.ops [⟨some 22, .bsl 3 [.int .i64 0, .int .i64 0, .int .i64 0] 0 [], none⟩,
 ⟨some 8, .mov (.tm 22), none⟩])
 (.seq (.seq (.ops [⟨some 9, .mov (.cn (.int .i64 0)), none⟩])
 (.block 2
 (.pre [.bx 5 0 (some 3), .tmp 8 (some 3)] (.loop [0, 1, 4, 5, 6, 7, 8, 9]
 (.seq (.seq (.ops [⟨some 23, .mov (.tm 9), none⟩,
 ⟨some 24, .fld (.tm 7) 2, none⟩,
 ⟨some 25, .load none (.tm 24), none⟩,
 ⟨some 26, .len (.tm 25), none⟩,
 ⟨some 27, .bin .lss (.tm 23) (.tm 26), none⟩])
 (.cond (.tm 27)
 .skip
 (.exit 2)))
 (.seq (.block 3
 (.seq (.ops [⟨some 30, .fld (.tm 7) 2, none⟩,
 ⟨some 31, .load none (.tm 30), none⟩,
 ⟨some 32, .mov (.tm 9), none⟩,
 ⟨some 33, .ixa 3 (.tm 31) (.tm 32), none⟩,
 ⟨some 34, .fld (.tm 33) 0, none⟩,
 ⟨some 35, .load none (.tm 34), none⟩,
 ⟨some 36, .mov (.tm 0), none⟩,
 ⟨some 37, .len (.tm 36), none⟩,
 ⟨some 38, .bin .lss (.tm 35) (.tm 37), none⟩])
 (.cond (.tm 38)
 (.ops [⟨some 39, .mov (.tm 8), none⟩,
 ⟨some 40, .fld (.tm 7) 2, none⟩,
 ⟨some 41, .load none (.tm 40), none⟩,
 ⟨some 42, .mov (.tm 9), none⟩,
 ⟨some 43, .ixa 3 (.tm 41) (.tm 42), none⟩,
 ⟨some 44, .load (some 3) (.tm 43), none⟩,
 ⟨some 45, .bsl 3 [.int .i64 0, .int .i64 0, .int .i64 0] 1 [(0, (.tm 44))], none⟩,
 ⟨some 46, .app 3 24 false (.tm 39) (.tm 45), none⟩,
 ⟨some 8, .mov (.tm 46), none⟩])
 .skip)))
 (.ops [⟨some 28, .mov (.tm 9), none⟩,
 ⟨some 29, .bin .add (.tm 28) (.cn (.int .i64 1)), none⟩,
 ⟨some 9, .mov (.tm 29), none⟩])))))))
 (.ops [⟨some 47, .fld (.tm 5) 0, none⟩,
 ⟨some 48, .load none (.tm 47), none⟩,
 ⟨some 49, .fld (.tm 7) 0, none⟩,
 ⟨some 50, .load none (.tm 49), none⟩,
 ⟨some 51, .fld (.tm 7) 1, none⟩,
 ⟨some 52, .load none (.tm 51), none⟩,
 ⟨some 53, .mov (.tm 8), none⟩,
 ⟨some 54, .build [.int .i64 0, .slice none 0 0, .slice none 0 0] [(0, 1, (.tm 50)), (1, 1, (.tm 52)), (2, 1, (.tm 53))], none⟩,
 ⟨some 55, .bsl 3 [.int .i64 0, .slice none 0 0, .slice none 0 0] 1 [(0, (.tm 54))], none⟩,
 ⟨some 56, .app 3 56 false (.tm 48) (.tm 55), none⟩,
 ⟨some 57, .fld (.tm 5) 0, none⟩,
 ⟨none, .store 1 (.tm 57) (.tm 56), none⟩])))))
 (.ops [⟨some 16, .mov (.tm 6), none⟩,
 ⟨some 17, .bin .add (.tm 16) (.cn (.int .i64 1)), none⟩,
 ⟨some 6, .mov (.tm 17), none⟩])))))))
 (.seq (.seq (.ops [⟨some 10, .mov (.cn (.int .i64 0)), none⟩])
 (.block 4
 (.pre [.bx 5 0 (some 3), .bx 5 1 (some 2)] (.loop [0, 1, 4, 5, 10]
 (.seq (.seq (.ops [⟨some 58, .mov (.tm 10), none⟩,
 ⟨some 59, .mov (.tm 1), none⟩,
 ⟨some 60, .len (.tm 59), none⟩,
 ⟨some 61, .bin .lss (.tm 58) (.tm 60), none⟩])
 (.cond (.tm 61)
 .skip
 (.exit 4)))
 (.seq (.block 5
 (.seq (.ops [⟨some 64, .mov (.tm 1), none⟩,
 ⟨some 65, .mov (.tm 10), none⟩,
 ⟨some 66, .ixa 2 (.tm 64) (.tm 65), none⟩,
 ⟨some 67, .fld (.tm 66) 1, none⟩,
 ⟨some 68, .load none (.tm 67), none⟩,
 ⟨some 69, .mov (.tm 0), none⟩,
 ⟨some 70, .len (.tm 69), none⟩,
 ⟨some 71, .bin .lss (.tm 68) (.tm 70), none⟩,
 ⟨some 72, .mov (.tm 71), none⟩,
 ⟨some 73, .mov (.tm 1), (some (72, true))⟩,
 ⟨some 74, .mov (.tm 10), (some (72, true))⟩,
 ⟨some 75, .ixa 2 (.tm 73) (.tm 74), (some (72, true))⟩,
 ⟨some 76, .fld (.tm 75) 0, (some (72, true))⟩,
 ⟨some 77, .load none (.tm 76), (some (72, true))⟩,
 ⟨some 78, .bin .leq (.tm 77) (.cn (.int .i64 1114111)), (some (72, true))⟩,
 ⟨some 79, .pick (.tm 72) (.tm 78) (.cn (.bool false)), none⟩])
 (.cond (.tm 79)
 (.draw [⟨some 80, .fld (.tm 5) 1, none⟩,
 ⟨some 81, .load none (.tm 80), none⟩,
 ⟨some 82, .mov (.tm 1), none⟩,
 ⟨some 83, .mov (.tm 10), none⟩,
 ⟨some 84, .ixa 2 (.tm 82) (.tm 83), none⟩,
 ⟨some 85, .load (some 2) (.tm 84), none⟩,
 ⟨some 86, .call (.fu 100) [(.tm 81), (.tm 85)], none⟩,
 ⟨some 87, .fld (.tm 5) 1, none⟩,
 ⟨none, .store 1 (.tm 87) (.tm 86), none⟩]
 [])
 .skip)))
 (.ops [⟨some 62, .mov (.tm 10), none⟩,
 ⟨some 63, .bin .add (.tm 62) (.cn (.int .i64 1)), none⟩,
 ⟨some 10, .mov (.tm 63), none⟩])))))))
 (.seq (.ops [⟨some 88, .load (some 2) (.tm 5), none⟩,
 ⟨none, .store 2 (.tm 4) (.tm 88), none⟩])
 .ret)))))⟩
theorem comp80 : compF Tryd.prog Tryd.f80 ⟨false, [], [([.bx 5 0 (some 3)], [0, 1, 4, 5, 6]), ([.bx 5 0 (some 3), .tmp 8 (some 3)], [0, 1, 4, 5, 6, 7, 8, 9]), ([.bx 5 0 (some 3), .bx 5 1 (some 2)], [0, 1, 4, 5, 10])], [], []⟩ = some L80 := by kernel_rfl

def L81 : LFunc := ⟨117, 1, [.t 2, .t 3], false, [], [],
 (.seq (.ops [⟨some 2, .mov (.cn (.int .i32 0)), none⟩,
 ⟨some 3, .mov (.cn (.int .i64 0)), none⟩])
 (.seq (.ops [⟨some 13, .mov (.tm 0), none⟩,
 ⟨some 14, .slen (.tm 13), none⟩,
 ⟨some 4, .mov (.tm 14), none⟩])
 (.seq (.seq (.ops [⟨some 15, .mov (.tm 4), none⟩,
 ⟨some 16, .bin .lss (.tm 15) (.cn (.int .i64 1)), none⟩])
 (.cond (.tm 16)
 (.seq (.ops [⟨some 2, .mov (.cn (.int .i32 65533)), none⟩,
 ⟨some 3, .mov (.cn (.int .i64 0)), none⟩])
 .ret)
 .skip))
 (.seq (.ops [⟨some 17, .mov (.tm 0), none⟩,
 ⟨some 18, .ixs (.tm 17) (.cn (.int .i64 0)), none⟩,
 ⟨some 5, .mov (.tm 18), none⟩])
 (.seq (.ops [⟨some 19, .mov (.tm 5), none⟩,
 ⟨some 20, .ixp 256 1 (.gl 0) (.tm 19), none⟩,
 ⟨some 21, .load none (.tm 20), none⟩,
 ⟨some 6, .mov (.tm 21), none⟩])
 (.seq (.seq (.ops [⟨some 22, .mov (.tm 6), none⟩,
 ⟨some 23, .bin .geq (.tm 22) (.cn (.int .u8 240)), none⟩])
 (.cond (.tm 23)
 (.seq (.ops [⟨some 24, .mov (.tm 6), none⟩,
 ⟨some 25, .conv .i32 (.tm 24), none⟩,
 ⟨some 26, .bin .shl (.tm 25) (.cn (.int .u64 31)), none⟩,
 ⟨some 27, .bin .shr (.tm 26) (.cn (.int .u64 31)), none⟩,
 ⟨some 7, .mov (.tm 27), none⟩])
 (.seq (.ops [⟨some 28, .mov (.tm 0), none⟩,
 ⟨some 29, .ixs (.tm 28) (.cn (.int .i64 0)), none⟩,
 ⟨some 30, .conv .i32 (.tm 29), none⟩,
 ⟨some 31, .mov (.tm 7), none⟩,
 ⟨some 32, .bin .andNot (.tm 30) (.tm 31), none⟩,
 ⟨some 33, .mov (.tm 7), none⟩,
 ⟨some 34, .bin .and (.cn (.int .i32 65533)) (.tm 33), none⟩,
 ⟨some 35, .bin .or (.tm 32) (.tm 34), none⟩,
 ⟨some 2, .mov (.tm 35), none⟩,
 ⟨some 3, .mov (.cn (.int .i64 1)), none⟩])
 .ret))
 .skip))
 (.seq (.ops [⟨some 36, .mov (.tm 6), none⟩,
 ⟨some 37, .bin .and (.tm 36) (.cn (.int .u8 7)), none⟩,
 ⟨some 38, .conv .i64 (.tm 37), none⟩,
 ⟨some 8, .mov (.tm 38), none⟩])
 (.seq (.ops [⟨some 39, .mov (.tm 6), none⟩,
 ⟨some 40, .bin .shr (.tm 39) (.cn (.int .u64 4)), none⟩,
 ⟨some 41, .ixp 16 2 (.gl 1) (.tm 40), none⟩,
 ⟨some 42, .load (some 2) (.tm 41), none⟩,
 ⟨some 9, .alloc [.int .u8 0, .int .u8 0], none⟩,
 ⟨none, .store 2 (.tm 9) (.tm 42), none⟩])
 (.seq (.seq (.ops [⟨some 43, .mov (.tm 4), none⟩,
 ⟨some 44, .mov (.tm 8), none⟩,
 ⟨some 45, .bin .lss (.tm 43) (.tm 44), none⟩])
 (.cond (.tm 45)
 (.seq (.ops [⟨some 2, .mov (.cn (.int .i32 65533)), none⟩,
 ⟨some 3, .mov (.cn (.int .i64 1)), none⟩])
 .ret)
 .skip))
 (.seq (.ops [⟨some 46, .mov (.tm 0), none⟩,
 ⟨some 47, .ixs (.tm 46) (.cn (.int .i64 1)), none⟩,
 ⟨some 10, .mov (.tm 47), none⟩])
 (.seq (.seq (.ops [⟨some 48, .mov (.tm 10), none⟩,
 ⟨some 49, .fld (.tm 9) 0, none⟩,
 ⟨some 50, .load none (.tm 49), none⟩,
 ⟨some 51, .bin .lss (.tm 48) (.tm 50), none⟩,
 ⟨some 52, .mov (.tm 51), none⟩,
 ⟨some 53, .fld (.tm 9) 1, (some (52, false))⟩,
 ⟨some 54, .load none (.tm 53), (some (52, false))⟩,
 ⟨some 55, .mov (.tm 10), (some (52, false))⟩,
 ⟨some 56, .bin .lss (.tm 54) (.tm 55), (some (52, false))⟩,
 ⟨some 57, .pick (.tm 52) (.cn (.bool true)) (.tm 56), none⟩])
 (.cond (.tm 57)
 (.seq (.ops [⟨some 2, .mov (.cn (.int .i32 65533)), none⟩,
 ⟨some 3, .mov (.cn (.int .i64 1)), none⟩])
 .ret)
 .skip))
 (.seq (.seq (.ops [⟨some 58, .mov (.tm 8), none⟩,
 ⟨some 59, .bin .leq (.tm 58) (.cn (.int .i64 2)), none⟩])
 (.cond (.tm 59)
 (.seq (.ops [⟨some 60, .mov (.tm 5), none⟩,
 ⟨some 61, .bin .and (.tm 60) (.cn (.int .u8 31)), none⟩,
 ⟨some 62, .conv .i32 (.tm 61), none⟩,
 ⟨some 63, .bin .shl (.tm 62) (.cn (.int .u64 6)), none⟩,
 ⟨some 64, .mov (.tm 10), none⟩,
 ⟨some 65, .bin .and (.tm 64) (.cn (.int .u8 63)), none⟩,
 ⟨some 66, .conv .i32 (.tm 65), none⟩,
 ⟨some 67, .bin .or (.tm 63) (.tm 66), none⟩,
 ⟨some 2, .mov (.tm 67), none⟩,
 ⟨some 3, .mov (.cn (.int .i64 2)), none⟩])
 .ret)
 .skip))
 (.seq (.ops [⟨some 68, .mov (.tm 0), none⟩,
 ⟨some 69, .ixs (.tm 68) (.cn (.int .i64 2)), none⟩,
 ⟨some 11, .mov (.tm 69), none⟩])
 (.seq (.seq (.ops [⟨some 70, .mov (.tm 11), none⟩,
 ⟨some 71, .bin .lss (.tm 70) (.cn (.int .u8 128)), none⟩,
 ⟨some 72, .mov (.tm 71), none⟩,
 ⟨some 73, .mov (.tm 11), (some (72, false))⟩,
 ⟨some 74, .bin .lss (.cn (.int .u8 191)) (.tm 73), (some (72, false))⟩,
 ⟨some 75, .pick (.tm 72) (.cn (.bool true)) (.tm 74), none⟩])
 (.cond (.tm 75)
 (.seq (.ops [⟨some 2, .mov (.cn (.int .i32 65533)), none⟩,
 ⟨some 3, .mov (.cn (.int .i64 1)), none⟩])
 .ret)
 .skip))
 (.seq (.seq (.ops [⟨some 76, .mov (.tm 8), none⟩,
 ⟨some 77, .bin .leq (.tm 76) (.cn (.int .i64 3)), none⟩])
 (.cond (.tm 77)
 (.seq (.ops [⟨some 78, .mov (.tm 5), none⟩,
 ⟨some 79, .bin .and (.tm 78) (.cn (.int .u8 15)), none⟩,
 ⟨some 80, .conv .i32 (.tm 79), none⟩,
 ⟨some 81, .bin .shl (.tm 80) (.cn (.int .u64 12)), none⟩,
 ⟨some 82, .mov (.tm 10), none⟩,
 ⟨some 83, .bin .and (.tm 82) (.cn (.int .u8 63)), none⟩,
 ⟨some 84, .conv .i32 (.tm 83), none⟩,
 ⟨some 85, .bin .shl (.tm 84) (.cn (.int .u64 6)), none⟩,
 ⟨some 86, .bin .or (.tm 81) (.tm 85), none⟩,
 ⟨some 87, .mov (.tm 11), none⟩,
 ⟨some 88, .bin .and (.tm 87) (.cn (.int .u8 63)), none⟩,
 ⟨some 89, .conv .i32 (.tm 88), none⟩,
 ⟨some 90, .bin .or (.tm 86) (.tm 89), none⟩,
 ⟨some 2, .mov (.tm 90), none⟩,
 ⟨some 3, .mov (.cn (.int .i64 3)), none⟩])
 .ret)
 .skip))
 (.seq (.ops [⟨some 91, .mov (.tm 0), none⟩,
 ⟨some 92, .ixs (.tm 91) (.cn (.int .i64 3)), none⟩,
 ⟨some 12, .mov (.tm 92), none⟩])
 (.seq (.seq (.ops [⟨some 93, .mov (.tm 12), none⟩,
 ⟨some 94, .bin .lss (.tm 93) (.cn (.int .u8 128)), none⟩,
 ⟨some 95, .mov (.tm 94), none⟩,
 ⟨some 96, .mov (.tm 12), (some (95, false))⟩,
 ⟨some 97, .bin .lss (.cn (.int .u8 191)) (.tm 96), (some (95, false))⟩,
 ⟨some 98, .pick (.tm 95) (.cn (.bool true)) (.tm 97), none⟩])
 (.cond (.tm 98)
 (.seq (.ops [⟨some 2, .mov (.cn (.int .i32 65533)), none⟩,
 ⟨some 3, .mov (.cn (.int .i64 1)), none⟩])
 .ret)
 .skip))
 (.seq (.ops [⟨some 99, .mov (.tm 5), none⟩,
 ⟨some 100, .bin .and (.tm 99) (.cn (.int .u8 7)), none⟩,
 ⟨some 101, .conv .i32 (.tm 100), none⟩,
 ⟨some 102, .bin .shl (.tm 101) (.cn (.int .u64 18)), none⟩,
 ⟨some 103, .mov (.tm 10), none⟩,
 ⟨some 104, .bin .and (.tm 103) (.cn (.int .u8 63)), none⟩,
 ⟨some 105, .conv .i32 (.tm 104), none⟩,
 ⟨some 106, .bin .shl (.tm 105) (.cn (.int .u64 12)), none⟩,
 ⟨some 107, .bin .or (.tm 102) (.tm 106), none⟩,
 ⟨some 108, .mov (.tm 11), none⟩,
 ⟨some 109, .bin .and (.tm 108) (.cn (.int .u8 63)), none⟩,
 ⟨some 110, .conv .i32 (.tm 109), none⟩,
 ⟨some 111, .bin .shl (.tm 110) (.cn (.int .u64 6)), none⟩,
 ⟨some 112, .bin .or (.tm 107) (.tm 111), none⟩,
 ⟨some 113, .mov (.tm 12), none⟩,
 ⟨some 114, .bin .and (.tm 113) (.cn (.int .u8 63)), none⟩,
 ⟨some 115, .conv .i32 (.tm 114), none⟩,
 ⟨some 116, .bin .or (.tm 112) (.tm 115), none⟩,
 ⟨some 2, .mov (.tm 116), none⟩,
 ⟨some 3, .mov (.cn (.int .i64 4)), none⟩])
 .ret))))))))))))))))))⟩
theorem comp81 : compF Tryd.prog Tryd.f81 ⟨false, [], [], [], []⟩ = some L81 := by kernel_rfl

def L82 : LFunc := ⟨21, 2, [.t 4], false, [], [],
 (.seq (.ops [⟨some 4, .mov (.cn (.bool false)), none⟩])
 (.seq (.ops [⟨some 5, .mov (.tm 1), none⟩,
 ⟨some 6, .mov (.tm 0), none⟩,
 ⟨some 7, .slen (.tm 6), none⟩,
 ⟨some 8, .bin .lss (.tm 5) (.tm 7), none⟩,
 ⟨some 9, .mov (.tm 8), none⟩,
 ⟨some 10, .mov (.tm 0), (some (9, true))⟩,
 ⟨some 11, .mov (.tm 1), (some (9, true))⟩,
 ⟨some 12, .ixs (.tm 10) (.tm 11), (some (9, true))⟩,
 ⟨some 13, .bin .geq (.tm 12) (.cn (.int .u8 128)), (some (9, true))⟩,
 ⟨some 14, .pick (.tm 9) (.tm 13) (.cn (.bool false)), none⟩,
 ⟨some 15, .mov (.tm 14), none⟩,
 ⟨some 16, .mov (.tm 0), (some (15, true))⟩,
 ⟨some 17, .mov (.tm 1), (some (15, true))⟩,
 ⟨some 18, .ixs (.tm 16) (.tm 17), (some (15, true))⟩,
 ⟨some 19, .bin .lss (.tm 18) (.cn (.int .u8 192)), (some (15, true))⟩,
 ⟨some 20, .pick (.tm 15) (.tm 19) (.cn (.bool false)), none⟩,
 ⟨some 4, .mov (.tm 20), none⟩])
 .ret))⟩
theorem comp82 : compF Tryd.prog Tryd.f82 ⟨false, [], [], [], []⟩ = some L82 := by kernel_rfl

def L83 : LFunc := ⟨19, 2, [.t 4], false, [], [],
 (.seq (.ops [⟨some 4, .mov (.cn (.int .i64 0)), none⟩])
 (.seq (.seq (.ops [⟨some 6, .mov (.tm 0), none⟩,
 ⟨some 7, .len (.tm 6), none⟩,
 ⟨some 8, .mov (.cn (.int .i64 0)), none⟩])
 (.block 0
 (.loop [0, 1, 7, 8]
 (.seq (.ops [⟨some 9, .bin .lss (.tm 8) (.tm 7), none⟩])
 (.seq (.cond (.tm 9)
 .skip
 (.exit 0))
 (.seq (.block 1
 (.seq (.ops [⟨some 10, .mov (.tm 8), none⟩,
 ⟨some 5, .mov (.tm 10), none⟩])
 (.seq (.ops [⟨some 11, .mov (.tm 1), none⟩,
 ⟨some 12, .mov (.tm 0), none⟩,
 ⟨some 13, .mov (.tm 5), none⟩,
 ⟨some 14, .ixa 1 (.tm 12) (.tm 13), none⟩,
 ⟨some 15, .load none (.tm 14), none⟩,
 ⟨some 16, .bin .eql (.tm 11) (.tm 15), none⟩])
 (.cond (.tm 16)
 (.seq (.ops [⟨some 17, .mov (.tm 5), none⟩,
 ⟨some 4, .mov (.tm 17), none⟩])
 .ret)
 .skip))))
 (.ops [⟨some 18, .bin .add (.tm 8) (.cn (.int .i64 1)), none⟩,
 ⟨some 8, .mov (.tm 18), none⟩])))))))
 (.seq (.ops [⟨some 4, .mov (.cn (.int .i64 (-1))), none⟩])
 .ret)))⟩
theorem comp83 : compF Tryd.prog Tryd.f83 ⟨false, [], [([], [0, 1, 7, 8])], [], []⟩ = some L83 := by kernel_rfl

def L84 : LFunc := ⟨9, 1, [.t 2], false, [], [],
 (.seq (.ops [⟨some 2, .mov (.cn (.bool false)), none⟩])
 (.seq (.ops [⟨some 3, .mov (.tm 0), none⟩,
 ⟨some 4, .bin .geq (.tm 3) (.cn (.int .i64 (-32768))), none⟩,
 ⟨some 5, .mov (.tm 4), none⟩,
 ⟨some 6, .mov (.tm 0), (some (5, true))⟩,
 ⟨some 7, .bin .leq (.tm 6) (.cn (.int .i64 32767)), (some (5, true))⟩,
 ⟨some 8, .pick (.tm 5) (.tm 7) (.cn (.bool false)), none⟩,
 ⟨some 2, .mov (.tm 8), none⟩])
 .ret))⟩
theorem comp84 : compF Tryd.prog Tryd.f84 ⟨false, [], [], [], []⟩ = some L84 := by kernel_rfl

def L85 : LFunc := ⟨9, 2, [.t 4], false, [], [],
 (.seq (.ops [⟨some 4, .mov (.cn (.bool false)), none⟩])
 (.seq (.ops [⟨some 5, .mov (.tm 0), none⟩,
 ⟨some 6, .mov (.tm 1), none⟩,
 ⟨some 7, .call (.fu 101) [(.tm 5), (.tm 6)], none⟩,
 ⟨some 8, .bin .geq (.tm 7) (.cn (.int .i64 0)), none⟩,
 ⟨some 4, .mov (.tm 8), none⟩])
 .ret))⟩
theorem comp85 : compF Tryd.prog Tryd.f85 ⟨false, [], [], [], []⟩ = some L85 := by kernel_rfl

def L86 : LFunc := ⟨13, 1, [.t 2], false, [], [],
 (.seq (.ops [⟨some 1, .box (.tm 0), none⟩,
 ⟨some 2, .mov (.cn (.bool false)), none⟩])
 (.seq (.ops [⟨some 3, .fld (.tm 1) 0, none⟩,
 ⟨some 4, .load none (.tm 3), none⟩,
 ⟨some 5, .call (.fu 84) [(.tm 4)], none⟩,
 ⟨some 6, .un .not (.tm 5), none⟩,
 ⟨some 7, .mov (.tm 6), none⟩,
 ⟨some 8, .fld (.tm 1) 1, (some (7, false))⟩,
 ⟨some 9, .load none (.tm 8), (some (7, false))⟩,
 ⟨some 10, .call (.fu 84) [(.tm 9)], (some (7, false))⟩,
 ⟨some 11, .un .not (.tm 10), (some (7, false))⟩,
 ⟨some 12, .pick (.tm 7) (.cn (.bool true)) (.tm 11), none⟩,
 ⟨some 2, .mov (.tm 12), none⟩])
 .ret))⟩
theorem comp86 : compF Tryd.prog Tryd.f86 ⟨false, [], [], [], []⟩ = some L86 := by kernel_rfl

def L87 : LFunc := ⟨9, 2, [.t 4], false, [], [],
 (.seq (.ops [⟨some 4, .mov (.cn (.bool false)), none⟩])
 (.seq (.ops [⟨some 5, .mov (.tm 0), none⟩,
 ⟨some 6, .mov (.tm 1), none⟩,
 ⟨some 7, .call (.fu 102) [(.tm 5), (.tm 6)], none⟩,
 ⟨some 8, .bin .geq (.tm 7) (.cn (.int .i64 0)), none⟩,
 ⟨some 4, .mov (.tm 8), none⟩])
 .ret))⟩
theorem comp87 : compF Tryd.prog Tryd.f87 ⟨false, [], [], [], []⟩ = some L87 := by kernel_rfl

def L88 : LFunc := ⟨25, 1, [.t 3], false, [], [],
 (.seq (.ops [⟨some 2, .box (.tm 0), none⟩,
 ⟨some 3, .mov (.cn (.bool false)), none⟩])
 (.seq (.ops [⟨some 4, .fld (.tm 2) 0, none⟩,
 ⟨some 5, .load none (.tm 4), none⟩,
 ⟨some 6, .bin .lss (.tm 5) (.cn (.int .i64 0)), none⟩,
 ⟨some 7, .mov (.tm 6), none⟩,
 ⟨some 8, .fld (.tm 2) 0, (some (7, false))⟩,
 ⟨some 9, .load none (.tm 8), (some (7, false))⟩,
 ⟨some 10, .load none (.tm 1), (some (7, false))⟩,
 ⟨some 11, .bin .geq (.tm 9) (.tm 10), (some (7, false))⟩,
 ⟨some 12, .pick (.tm 7) (.cn (.bool true)) (.tm 11), none⟩,
 ⟨some 13, .mov (.tm 12), none⟩,
 ⟨some 14, .fld (.tm 2) 1, (some (13, false))⟩,
 ⟨some 15, .load none (.tm 14), (some (13, false))⟩,
 ⟨some 16, .call (.fu 84) [(.tm 15)], (some (13, false))⟩,
 ⟨some 17, .un .not (.tm 16), (some (13, false))⟩,
 ⟨some 18, .pick (.tm 13) (.cn (.bool true)) (.tm 17), none⟩,
 ⟨some 19, .mov (.tm 18), none⟩,
 ⟨some 20, .fld (.tm 2) 2, (some (19, false))⟩,
 ⟨some 21, .load none (.tm 20), (some (19, false))⟩,
 ⟨some 22, .call (.fu 84) [(.tm 21)], (some (19, false))⟩,
 ⟨some 23, .un .not (.tm 22), (some (19, false))⟩,
 ⟨some 24, .pick (.tm 19) (.cn (.bool true)) (.tm 23), none⟩,
 ⟨some 3, .mov (.tm 24), none⟩])
 .ret))⟩
theorem comp88 : compF Tryd.prog Tryd.f88 ⟨false, [], [], [], []⟩ = some L88 := by kernel_rfl

def L89 : LFunc := ⟨9, 1, [.t 2], false, [], [],
 (.seq (.ops [⟨some 2, .mov (.cn (.bool false)), none⟩])
 (.seq (.ops [⟨some 3, .mov (.tm 0), none⟩,
 ⟨some 4, .bin .geq (.tm 3) (.cn (.int .i64 (-32768))), none⟩,
 ⟨some 5, .mov (.tm 4), none⟩,
 ⟨some 6, .mov (.tm 0), (some (5, true))⟩,
 ⟨some 7, .bin .leq (.tm 6) (.cn (.int .i64 32767)), (some (5, true))⟩,
 ⟨some 8, .pick (.tm 5) (.tm 7) (.cn (.bool false)), none⟩,
 ⟨some 2, .mov (.tm 8), none⟩])
 .ret))⟩
theorem comp89 : compF Tryd.prog Tryd.f89 ⟨false, [], [], [], []⟩ = some L89 := by kernel_rfl

def L90 : LFunc := ⟨11, 1, [.t 2], false, [], [],
 (.seq (.ops [⟨some 2, .mov (.cn (.int .i64 0)), none⟩])
 (.seq (.ops [⟨some 4, .mov (.tm 0), none⟩,
 ⟨some 5, .call (.fu 93) [(.tm 4), (.cn (.int .i64 2))], none⟩,
 ⟨some 3, .mov (.tm 5), none⟩])
 (.seq (.seq (.ops [⟨some 6, .mov (.tm 3), none⟩,
 ⟨some 7, .bin .gtr (.tm 6) (.cn (.int .i64 32767)), none⟩])
 (.cond (.tm 7)
 (.ops [⟨some 8, .mov (.tm 3), none⟩,
 ⟨some 9, .bin .sub (.tm 8) (.cn (.int .i64 65536)), none⟩,
 ⟨some 3, .mov (.tm 9), none⟩])
 .skip))
 (.seq (.ops [⟨some 10, .mov (.tm 3), none⟩,
 ⟨some 2, .mov (.tm 10), none⟩])
 .ret))))⟩
theorem comp90 : compF Tryd.prog Tryd.f90 ⟨false, [], [], [], []⟩ = some L90 := by kernel_rfl

def L91 : LFunc := ⟨49, 1, [.t 2], false, [], [],
 (.seq (.ops [⟨some 2, .mov (.cn (.slice none 0 0)), none⟩])
 (.seq (.ops [⟨some 3, .mov (.cn (.slice none 0 0)), none⟩])
 (.seq (.seq (.ops [⟨some 8, .mov (.tm 0), none⟩,
 ⟨some 9, .nilchk (.tm 8), none⟩,
 ⟨some 10, .fld (.tm 9) 0, none⟩,
 ⟨some 11, .call (.fu 93) [(.tm 10), (.cn (.int .i64 1))], none⟩,
 ⟨some 12, .mov (.cn (.int .i64 0)), none⟩])
 (.block 0
 (.pre [.tmp 3 (some 1)] (.loop [0, 3, 11, 12]
 (.seq (.ops [⟨some 13, .bin .lss (.tm 12) (.tm 11), none⟩])
 (.seq (.cond (.tm 13)
 .skip
 (.exit 0))
 (.seq (.block 1
 (.seq (.ops [⟨some 14, .mov (.tm 0), none⟩,
 ⟨some 15, .nilchk (.tm 14), none⟩,
 ⟨some 16, .fld (.tm 15) 0, none⟩,
 ⟨some 17, .call (.fu 93) [(.tm 16), (.cn (.int .i64 1))], none⟩,
 ⟨some 4, .mov (.tm 17), none⟩])
 (.seq (.seq (.ops [⟨some 18, .mov (.tm 0), none⟩,
 ⟨some 19, .nilchk (.tm 18), none⟩,
 ⟨some 20, .fld (.tm 19) 0, none⟩,
 ⟨some 21, .fld (.tm 20) 2, none⟩,
 ⟨some 22, .load none (.tm 21), none⟩])
 (.cond (.tm 22)
 (.exit 0)
 .skip))
 (.seq (.ops [⟨some 5, .mov (.cn (.slice none 0 0)), none⟩])
 (.seq (.seq (.ops [⟨some 23, .mov (.tm 4), none⟩,
 ⟨some 24, .mov (.cn (.int .i64 0)), none⟩])
 (.block 2
 (.pre [.tmp 3 (some 1), .tmp 5 (some 2)] (.loop [0, 3, 5, 11, 12, 23, 24]
 (.seq (.ops [⟨some 25, .bin .lss (.tm 24) (.tm 23), none⟩])
 (.seq (.cond (.tm 25)
 .skip
 (.exit 2))
 (.seq (.block 3
 (.seq (.ops [⟨some 27, .mov (.tm 0), none⟩,
 ⟨some 28, .nilchk (.tm 27), none⟩,
 ⟨some 29, .fld (.tm 28) 0, none⟩,
 ⟨some 30, .call (.fu 103) [(.tm 29)], none⟩,
 ⟨some 26, .mov (.tm 30), none⟩,
 ⟨some 31, .ext (.tm 26) 0, none⟩,
 ⟨some 32, .ext (.tm 26) 1, none⟩,
 ⟨some 6, .alloc [.int .i64 0, .int .i64 0], none⟩,
 ⟨none, .store 2 (.tm 6) (.tm 31), none⟩,
 ⟨some 7, .mov (.tm 32), none⟩])
 (.seq (.seq (.ops [⟨some 33, .mov (.tm 7), none⟩,
 ⟨some 34, .un .not (.tm 33), none⟩])
 (.cond (.tm 34)
 (.exit 2)
 .skip))
 (.ops [⟨some 35, .mov (.tm 5), none⟩,
 ⟨some 36, .load (some 2) (.tm 6), none⟩,
 ⟨some 37, .bsl 2 [.int .i64 0, .int .i64 0] 1 [(0, (.tm 36))], none⟩,
 ⟨some 38, .app 2 16 false (.tm 35) (.tm 37), none⟩,
 ⟨some 5, .mov (.tm 38), none⟩]))))
 (.ops [⟨some 39, .bin .add (.tm 24) (.cn (.int .i64 1)), none⟩,
 ⟨some 24, .mov (.tm 39), none⟩]))))))))
 (.seq (.ops [⟨some 40, .mov (.tm 3), none⟩,
 ⟨some 41, .len (.tm 40), none⟩,
 ⟨some 42, .bin .lss (.tm 41) (.cn (.int .i64 64)), none⟩])
 (.cond (.tm 42)
 (.ops [⟨some 43, .mov (.tm 3), none⟩,
 ⟨some 44, .mov (.tm 5), none⟩,
 ⟨some 45, .bsl 1 [.slice none 0 0] 1 [(0, (.tm 44))], none⟩,
 ⟨some 46, .app 1 24 false (.tm 43) (.tm 45), none⟩,
 ⟨some 3, .mov (.tm 46), none⟩])
 .skip)))))))
 (.ops [⟨some 47, .bin .add (.tm 12) (.cn (.int .i64 1)), none⟩,
 ⟨some 12, .mov (.tm 47), none⟩]))))))))
 (.seq (.ops [⟨some 48, .mov (.tm 3), none⟩,
 ⟨some 2, .mov (.tm 48), none⟩])
 .ret))))⟩
theorem comp91 : compF Tryd.prog Tryd.f91 ⟨false, [], [([.tmp 3 (some 1)], [0, 3, 11, 12]), ([.tmp 3 (some 1), .tmp 5 (some 2)], [0, 3, 5, 11, 12, 23, 24])], [], []⟩ = some L91 := by kernel_rfl

def L92 : LFunc := ⟨40, 1, [.t 2], true, [], [.tmp 2 (some 3)],
 (.seq (.ops [⟨some 2, .mov (.cn (.slice none 0 0)), none⟩])
 (.seq (.ops [⟨some 3, .mov (.cn (.slice none 0 0)), none⟩])
 (.seq (.seq (.ops [⟨some 7, .mov (.tm 0), none⟩,
 ⟨some 8, .nilchk (.tm 7), none⟩,
 ⟨some 9, .fld (.tm 8) 0, none⟩,
 ⟨some 10, .call (.fu 93) [(.tm 9), (.cn (.int .i64 1))], none⟩,
 ⟨some 11, .mov (.cn (.int .i64 0)), none⟩])
 (.block 0
 (.pre [.tmp 3 (some 3)] (.loop [0, 3, 10, 11]
 (.seq (.ops [⟨some 12, .bin .lss (.tm 11) (.tm 10), none⟩])
 (.seq (.cond (.tm 12)
 .skip
 (.exit 0))
 (.seq (.block 1
 (.seq (.ops [⟨some 13, .mov (.tm 0), none⟩,
 ⟨some 14, .nilchk (.tm 13), none⟩,
 ⟨some 15, .fld (.tm 14) 0, none⟩,
 ⟨some 16, .call (.fu 93) [(.tm 15), (.cn (.int .i64 2))], none⟩,
 ⟨some 4, .mov (.tm 16), none⟩])
 (.seq (.ops [⟨some 18, .mov (.tm 0), none⟩,
 ⟨some 19, .nilchk (.tm 18), none⟩,
 ⟨some 20, .fld (.tm 19) 0, none⟩,
 ⟨some 21, .call (.fu 103) [(.tm 20)], none⟩,
 ⟨some 17, .mov (.tm 21), none⟩,
 ⟨some 22, .ext (.tm 17) 0, none⟩,
 ⟨some 23, .ext (.tm 17) 1, none⟩,
 ⟨some 5, .alloc [.int .i64 0, .int .i64 0], none⟩,
 ⟨none, .store 2 (.tm 5) (.tm 22), none⟩,
 ⟨some 6, .mov (.tm 23), none⟩])
 (.seq (.seq (.ops [⟨some 24, .mov (.tm 6), none⟩,
 ⟨some 25, .un .not (.tm 24), none⟩])
 (.cond (.tm 25)
 (.exit 0)
 .skip))
 (.seq (.ops [⟨some 26, .mov (.tm 3), none⟩,
 ⟨some 27, .len (.tm 26), none⟩,
 ⟨some 28, .bin .lss (.tm 27) (.cn (.int .i64 32)), none⟩])
 (.cond (.tm 28)
 (.ops [⟨some 29, .mov (.tm 3), none⟩,
 ⟨some 30, .mov (.tm 4), none⟩,
 ⟨some 31, .fld (.tm 5) 0, none⟩,
 ⟨some 32, .load none (.tm 31), none⟩,
 ⟨some 33, .fld (.tm 5) 1, none⟩,
 ⟨some 34, .load none (.tm 33), none⟩,
 ⟨some 35, .build [.int .i64 0, .int .i64 0, .int .i64 0] [(0, 1, (.tm 30)), (1, 1, (.tm 32)), (2, 1, (.tm 34))], none⟩,
 ⟨some 36, .bsl 3 [.int .i64 0, .int .i64 0, .int .i64 0] 1 [(0, (.tm 35))], none⟩,
 ⟨some 37, .app 3 24 false (.tm 29) (.tm 36), none⟩,
 ⟨some 3, .mov (.tm 37), none⟩])
 .skip))))))
 (.ops [⟨some 38, .bin .add (.tm 11) (.cn (.int .i64 1)), none⟩,
 ⟨some 11, .mov (.tm 38), none⟩]))))))))
 (.seq (.ops [⟨some 39, .mov (.tm 3), none⟩,
 ⟨some 2, .mov (.tm 39), none⟩])
 .ret))))⟩
theorem comp92 : compF Tryd.prog Tryd.f92 ⟨true, [], [([.tmp 3 (some 3)], [0, 3, 10, 11])], [], [.tmp 2 (some 3)]⟩ = some L92 := by kernel_rfl

def L93 : LFunc := ⟨60, 2, [.t 4], false, [], [],
 (.seq (.ops [⟨some 4, .mov (.cn (.int .i64 0)), none⟩])
 (.seq (.seq (.draw [⟨some 6, .mov (.tm 0), none⟩,
 ⟨some 7, .nilchk (.tm 6), none⟩,
 ⟨some 8, .fld (.tm 7) 2, none⟩,
 ⟨some 9, .load none (.tm 8), none⟩,
 ⟨some 10, .mov (.tm 9), none⟩,
 ⟨some 11, .mov (.tm 0), (some (10, false))⟩,
 ⟨some 12, .nilchk (.tm 11), (some (10, false))⟩,
 ⟨some 13, .fld (.tm 12) 1, (some (10, false))⟩,
 ⟨some 14, .load none (.tm 13), (some (10, false))⟩,
 ⟨some 15, .mov (.tm 1), (some (10, false))⟩,
 ⟨some 16, .bin .add (.tm 14) (.tm 15), (some (10, false))⟩,
 ⟨some 17, .mov (.tm 0), (some (10, false))⟩,
 ⟨some 18, .nilchk (.tm 17), (some (10, false))⟩,
 ⟨some 19, .fld (.tm 18) 0, (some (10, false))⟩,
 ⟨some 20, .load none (.tm 19), (some (10, false))⟩,
 ⟨some 21, .slen (.tm 20), (some (10, false))⟩,
 ⟨some 22, .bin .gtr (.tm 16) (.tm 21), (some (10, false))⟩,
 ⟨some 23, .pick (.tm 10) (.cn (.bool true)) (.tm 22), none⟩]
 [])
 (.cond (.tm 23)
 (.seq (.ops [⟨some 24, .mov (.tm 0), none⟩,
 ⟨some 25, .mov (.tm 0), none⟩,
 ⟨some 26, .mov (.tm 0), none⟩,
 ⟨some 27, .nilchk (.tm 26), none⟩,
 ⟨some 28, .fld (.tm 27) 0, none⟩,
 ⟨some 29, .load none (.tm 28), none⟩,
 ⟨some 30, .slen (.tm 29), none⟩,
 ⟨some 31, .nilchk (.tm 24), none⟩,
 ⟨some 32, .fld (.tm 31) 1, none⟩,
 ⟨none, .store 1 (.tm 32) (.tm 30), none⟩,
 ⟨some 33, .nilchk (.tm 25), none⟩,
 ⟨some 34, .fld (.tm 33) 2, none⟩,
 ⟨none, .store 1 (.tm 34) (.cn (.bool true)), none⟩])
 (.seq (.ops [⟨some 4, .mov (.cn (.int .i64 0)), none⟩])
 .ret))
 .skip))
 (.seq (.ops [⟨some 5, .mov (.cn (.int .i64 0)), none⟩])
 (.seq (.seq (.ops [⟨some 35, .mov (.tm 1), none⟩,
 ⟨some 36, .mov (.cn (.int .i64 0)), none⟩])
 (.block 0
 (.loop [0, 5, 35, 36]
 (.seq (.ops [⟨some 37, .bin .lss (.tm 36) (.tm 35), none⟩])
 (.seq (.cond (.tm 37)
 .skip
 (.exit 0))
 (.seq (.block 1
 (.seq (.draw [⟨some 38, .mov (.tm 5), none⟩,
 ⟨some 39, .bin .shl (.tm 38) (.cn (.int .u64 8)), none⟩,
 ⟨some 40, .mov (.tm 0), none⟩,
 ⟨some 41, .nilchk (.tm 40), none⟩,
 ⟨some 42, .fld (.tm 41) 0, none⟩,
 ⟨some 43, .load none (.tm 42), none⟩,
 ⟨some 44, .mov (.tm 0), none⟩,
 ⟨some 45, .nilchk (.tm 44), none⟩,
 ⟨some 46, .fld (.tm 45) 1, none⟩,
 ⟨some 47, .load none (.tm 46), none⟩,
 ⟨some 48, .ixs (.tm 43) (.tm 47), none⟩,
 ⟨some 49, .conv .i64 (.tm 48), none⟩,
 ⟨some 50, .bin .or (.tm 39) (.tm 49), none⟩,
 ⟨some 5, .mov (.tm 50), none⟩]
 [])
 (.ops [⟨some 51, .mov (.tm 0), none⟩,
 ⟨some 52, .nilchk (.tm 51), none⟩,
 ⟨some 53, .fld (.tm 52) 1, none⟩,
 ⟨some 54, .load none (.tm 53), none⟩,
 ⟨some 55, .bin .add (.tm 54) (.cn (.int .i64 1)), none⟩,
 ⟨some 56, .nilchk (.tm 51), none⟩,
 ⟨some 57, .fld (.tm 56) 1, none⟩,
 ⟨none, .store 1 (.tm 57) (.tm 55), none⟩])))
 (.ops [⟨some 58, .bin .add (.tm 36) (.cn (.int .i64 1)), none⟩,
 ⟨some 36, .mov (.tm 58), none⟩])))))))
 (.seq (.ops [⟨some 59, .mov (.tm 5), none⟩,
 ⟨some 4, .mov (.tm 59), none⟩])
 .ret)))))⟩
theorem comp93 : compF Tryd.prog Tryd.f93 ⟨false, [], [([], [0, 5, 35, 36])], [], []⟩ = some L93 := by kernel_rfl

def L94 : LFunc := ⟨42, 2, [.t 4], false, [], [],
 (.seq (.ops [⟨some 4, .mov (.cn (.slice none 0 0)), none⟩])
 (.seq (.ops [⟨some 8, .mov (.tm 0), none⟩,
 ⟨some 9, .mov (.tm 1), none⟩,
 ⟨some 10, .call (.fu 102) [(.tm 8), (.tm 9)], none⟩,
 ⟨some 5, .mov (.tm 10), none⟩])
 (.seq (.seq (.ops [⟨some 11, .mov (.tm 5), none⟩,
 ⟨some 12, .bin .eql (.tm 11) (.cn (.int .i64 (-1))), none⟩])
 (.cond (.tm 12)
 (.seq (.ops [⟨some 13, .mov (.tm 0), none⟩,
 ⟨some 4, .mov (.tm 13), none⟩])
 .ret)
 .skip))
 (.seq (.seq (.ops [⟨some 14, .mov (.tm 5), none⟩,
 ⟨some 15, .bin .add (.tm 14) (.cn (.int .i64 1)), none⟩,
 ⟨some 6, .mov (.tm 15), none⟩])
 (.block 0
 (.loop [0, 1, 5, 6]
 (.seq (.seq (.ops [⟨some 16, .mov (.tm 6), none⟩,
 ⟨some 17, .mov (.tm 0), none⟩,
 ⟨some 18, .len (.tm 17), none⟩,
 ⟨some 19, .bin .lss (.tm 16) (.tm 18), none⟩])
 (.cond (.tm 19)
 .skip
 (.exit 0)))
 (.seq (.block 1
 (.seq (.ops [⟨some 22, .mov (.tm 0), none⟩,
 ⟨some 23, .mov (.tm 6), none⟩,
 ⟨some 24, .ixa 3 (.tm 22) (.tm 23), none⟩,
 ⟨some 25, .load (some 3) (.tm 24), none⟩,
 ⟨some 7, .alloc [.int .i64 0, .int .i64 0, .int .i64 0], none⟩,
 ⟨none, .store 3 (.tm 7) (.tm 25), none⟩])
 (.seq (.ops [⟨some 26, .mov (.tm 1), none⟩,
 ⟨some 27, .load (some 3) (.tm 7), none⟩,
 ⟨some 28, .call (.tm 26) [(.tm 27)], none⟩,
 ⟨some 29, .un .not (.tm 28), none⟩])
 (.cond (.tm 29)
 (.seq (.ops [⟨some 30, .mov (.tm 0), none⟩,
 ⟨some 31, .mov (.tm 5), none⟩,
 ⟨some 32, .load (some 3) (.tm 7), none⟩,
 ⟨some 33, .ixa 3 (.tm 30) (.tm 31), none⟩,
 ⟨none, .store 3 (.tm 33) (.tm 32), none⟩])
 (.ops [⟨some 34, .mov (.tm 5), none⟩,
 ⟨some 35, .bin .add (.tm 34) (.cn (.int .i64 1)), none⟩,
 ⟨some 5, .mov (.tm 35), none⟩]))
 .skip))))
 (.ops [⟨some 20, .mov (.tm 6), none⟩,
 ⟨some 21, .bin .add (.tm 20) (.cn (.int .i64 1)), none⟩,
 ⟨some 6, .mov (.tm 21), none⟩]))))))
 (.seq (.ops [⟨some 36, .mov (.tm 0), none⟩,
 ⟨some 37, .mov (.tm 5), none⟩,
 ⟨some 38, .slc 3 (.tm 36) (some (.tm 37)) none none, none⟩,
 ⟨none, .clr 3 [.int .i64 0, .int .i64 0, .int .i64 0] (.tm 38), none⟩])
 (.seq (.ops [⟨some 39, .mov (.tm 0), none⟩,
 ⟨some 40, .mov (.tm 5), none⟩,
 ⟨some 41, .slc 3 (.tm 39) none (some (.tm 40)) none, none⟩,
 ⟨some 4, .mov (.tm 41), none⟩])
 .ret))))))⟩
theorem comp94 : compF Tryd.prog Tryd.f94 ⟨false, [], [([], [0, 1, 5, 6])], [], []⟩ = some L94 := by kernel_rfl

def L95 : LFunc := ⟨8, 1, [.t 3], false, [], [],
 (.seq (.ops [⟨some 2, .box (.tm 0), none⟩,
 ⟨some 3, .mov (.cn (.bool false)), none⟩])
 (.seq (.ops [⟨some 4, .fld (.tm 2) 0, none⟩,
 ⟨some 5, .load none (.tm 4), none⟩,
 ⟨some 6, .load none (.tm 1), none⟩,
 ⟨some 7, .bin .geq (.tm 5) (.tm 6), none⟩,
 ⟨some 3, .mov (.tm 7), none⟩])
 .ret))⟩
theorem comp95 : compF Tryd.prog Tryd.f95 ⟨false, [], [], [], []⟩ = some L95 := by kernel_rfl

def L97 : LFunc := ⟨10, 2, [.t 4], false, [], [],
 (.seq (.ops [⟨some 2, .box (.tm 0), none⟩,
 ⟨some 3, .box (.tm 1), none⟩,
 ⟨some 4, .mov (.cn (.int .i64 0)), none⟩])
 (.seq (.ops [⟨some 5, .fld (.tm 2) 0, none⟩,
 ⟨some 6, .load none (.tm 5), none⟩,
 ⟨some 7, .fld (.tm 3) 0, none⟩,
 ⟨some 8, .load none (.tm 7), none⟩,
 ⟨some 9, .bin .sub (.tm 6) (.tm 8), none⟩,
 ⟨some 4, .mov (.tm 9), none⟩])
 .ret))⟩
theorem comp97 : compF Tryd.prog Tryd.f97 ⟨false, [], [], [], []⟩ = some L97 := by kernel_rfl

def L98 : LFunc := ⟨20, 2, [.t 4, .cell 5 (some 2)], false, [], [],
 (.seq (.ops [⟨some 3, .box (.tm 1), none⟩,
 ⟨some 4, .mov (.cn (.int .i64 0)), none⟩,
 ⟨some 5, .alloc [.int .i64 0, .bool false], none⟩])
 (.seq (.ops [⟨some 9, .mov (.tm 0), none⟩,
 ⟨some 10, .load (some 2) (.tm 3), none⟩,
 ⟨some 11, .call (.fu 79) [(.tm 9), (.tm 10), (.cn (.int .i64 2))], none⟩,
 ⟨some 8, .mov (.tm 11), none⟩,
 ⟨some 12, .ext (.tm 8) 0, none⟩,
 ⟨some 13, .ext (.tm 8) 1, none⟩,
 ⟨some 7, .alloc [.int .i64 0, .bool false], none⟩,
 ⟨some 6, .mov (.tm 12), none⟩,
 ⟨none, .store 2 (.tm 7) (.tm 13), none⟩])
 (.seq (.seq (.ops [⟨some 14, .mov (.tm 6), none⟩,
 ⟨some 15, .bin .geq (.tm 14) (.cn (.int .i64 32768)), none⟩])
 (.cond (.tm 15)
 (.ops [⟨some 16, .mov (.tm 6), none⟩,
 ⟨some 17, .bin .sub (.tm 16) (.cn (.int .i64 65536)), none⟩,
 ⟨some 6, .mov (.tm 17), none⟩])
 .skip))
 (.seq (.draw [⟨some 18, .mov (.tm 6), none⟩,
 ⟨some 19, .load (some 2) (.tm 7), none⟩,
 ⟨some 4, .mov (.tm 18), none⟩,
 ⟨none, .store 2 (.tm 5) (.tm 19), none⟩]
 [])
 .ret))))⟩
theorem comp98 : compF Tryd.prog Tryd.f98 ⟨false, [], [], [], []⟩ = some L98 := by kernel_rfl

def L99 : LFunc := ⟨47, 3, [.t 6, .cell 7 (some 2)], false, [], [],
 (.seq (.ops [⟨some 4, .box (.tm 1), none⟩,
 ⟨some 6, .mov (.cn (.slice none 0 0)), none⟩,
 ⟨some 7, .alloc [.int .i64 0, .bool false], none⟩])
 (.seq (.ops [⟨some 14, .bsl 2 [.int .i64 0, .int .i64 0] 0 [], none⟩,
 ⟨some 8, .mov (.tm 14), none⟩])
 (.seq (.seq (.ops [⟨some 9, .mov (.cn (.int .i64 0)), none⟩])
 (.block 0
 (.pre [.tmp 8 (some 2)] (.loop [0, 2, 4, 7, 8, 9]
 (.seq (.seq (.ops [⟨some 15, .mov (.tm 9), none⟩,
 ⟨some 16, .mov (.tm 2), none⟩,
 ⟨some 17, .bin .lss (.tm 15) (.tm 16), none⟩,
 ⟨some 18, .mov (.tm 17), none⟩,
 ⟨some 19, .fld (.tm 4) 1, (some (18, true))⟩,
 ⟨some 20, .load none (.tm 19), (some (18, true))⟩,
 ⟨some 21, .pick (.tm 18) (.tm 20) (.cn (.bool false)), none⟩])
 (.cond (.tm 21)
 .skip
 (.exit 0)))
 (.seq (.block 1
 (.seq (.ops [⟨some 25, .mov (.tm 0), none⟩,
 ⟨some 26, .load (some 2) (.tm 4), none⟩,
 ⟨some 27, .call (.fu 98) [(.tm 25), (.tm 26)], none⟩,
 ⟨some 24, .mov (.tm 27), none⟩,
 ⟨some 28, .ext (.tm 24) 0, none⟩,
 ⟨some 29, .ext (.tm 24) 1, none⟩,
 ⟨some 11, .alloc [.int .i64 0, .bool false], none⟩,
 ⟨some 10, .mov (.tm 28), none⟩,
 ⟨none, .store 2 (.tm 11) (.tm 29), none⟩])
 (.seq (.ops [⟨some 31, .mov (.tm 0), none⟩,
 ⟨some 32, .load (some 2) (.tm 11), none⟩,
 ⟨some 33, .call (.fu 98) [(.tm 31), (.tm 32)], none⟩,
 ⟨some 30, .mov (.tm 33), none⟩,
 ⟨some 34, .ext (.tm 30) 0, none⟩,
 ⟨some 35, .ext (.tm 30) 1, none⟩,
 ⟨some 13, .alloc [.int .i64 0, .bool false], none⟩,
 ⟨some 12, .mov (.tm 34), none⟩,
 ⟨none, .store 2 (.tm 13) (.tm 35), none⟩])
 (.seq (.ops [⟨some 36, .load (some 2) (.tm 13), none⟩,
 ⟨none, .store 2 (.tm 4) (.tm 36), none⟩])
 (.seq (.ops [⟨some 37, .fld (.tm 4) 1, none⟩,
 ⟨some 38, .load none (.tm 37), none⟩])
 (.cond (.tm 38)
 (.ops [⟨some 39, .mov (.tm 8), none⟩,
 ⟨some 40, .mov (.tm 10), none⟩,
 ⟨some 41, .mov (.tm 12), none⟩,
 ⟨some 42, .build [.int .i64 0, .int .i64 0] [(0, 1, (.tm 40)), (1, 1, (.tm 41))], none⟩,
 ⟨some 43, .bsl 2 [.int .i64 0, .int .i64 0] 1 [(0, (.tm 42))], none⟩,
 ⟨some 44, .app 2 16 false (.tm 39) (.tm 43), none⟩,
 ⟨some 8, .mov (.tm 44), none⟩])
 .skip))))))
 (.ops [⟨some 22, .mov (.tm 9), none⟩,
 ⟨some 23, .bin .add (.tm 22) (.cn (.int .i64 1)), none⟩,
 ⟨some 9, .mov (.tm 23), none⟩])))))))
 (.seq (.draw [⟨some 45, .mov (.tm 8), none⟩,
 ⟨some 46, .load (some 2) (.tm 4), none⟩,
 ⟨some 6, .mov (.tm 45), none⟩,
 ⟨none, .store 2 (.tm 7) (.tm 46), none⟩]
 [])
 .ret))))⟩
theorem comp99 : compF Tryd.prog Tryd.f99 ⟨false, [], [([.tmp 8 (some 2)], [0, 2, 4, 7, 8, 9])], [], []⟩ = some L99 := by kernel_rfl

def L100 : LFunc := ⟨58, 2, [.t 4], true, [.tmp 0 (some 2)], [],
 (.seq (.ops [⟨some 3, .box (.tm 1), none⟩,
 ⟨some 4, .mov (.cn (.slice none 0 0)), none⟩])
 (.seq (.ops [⟨some 5, .mov (.cn (.int .i64 0)), none⟩])
 (.seq (.block 0
 (.pre [.tmp 0 (some 2)] (.loop [0, 3, 5]
 (.seq (.seq (.draw [⟨some 6, .mov (.tm 5), none⟩,
 ⟨some 7, .mov (.tm 0), none⟩,
 ⟨some 8, .len (.tm 7), none⟩,
 ⟨some 9, .bin .lss (.tm 6) (.tm 8), none⟩,
 ⟨some 10, .mov (.tm 9), none⟩,
 ⟨some 11, .mov (.tm 0), (some (10, true))⟩,
 ⟨some 12, .mov (.tm 5), (some (10, true))⟩,
 ⟨some 13, .ixa 2 (.tm 11) (.tm 12), (some (10, true))⟩,
 ⟨some 14, .fld (.tm 13) 0, (some (10, true))⟩,
 ⟨some 15, .load none (.tm 14), (some (10, true))⟩,
 ⟨some 16, .fld (.tm 3) 0, (some (10, true))⟩,
 ⟨some 17, .load none (.tm 16), (some (10, true))⟩,
 ⟨some 18, .bin .lss (.tm 15) (.tm 17), (some (10, true))⟩,
 ⟨some 19, .pick (.tm 10) (.tm 18) (.cn (.bool false)), none⟩]
 [])
 (.cond (.tm 19)
 .skip
 (.exit 0)))
 (.block 1
 (.ops [⟨some 20, .mov (.tm 5), none⟩,
 ⟨some 21, .bin .add (.tm 20) (.cn (.int .i64 1)), none⟩,
 ⟨some 5, .mov (.tm 21), none⟩]))))))
 (.seq (.seq (.draw [⟨some 22, .mov (.tm 5), none⟩,
 ⟨some 23, .mov (.tm 0), none⟩,
 ⟨some 24, .len (.tm 23), none⟩,
 ⟨some 25, .bin .lss (.tm 22) (.tm 24), none⟩,
 ⟨some 26, .mov (.tm 25), none⟩,
 ⟨some 27, .mov (.tm 0), (some (26, true))⟩,
 ⟨some 28, .mov (.tm 5), (some (26, true))⟩,
 ⟨some 29, .ixa 2 (.tm 27) (.tm 28), (some (26, true))⟩,
 ⟨some 30, .fld (.tm 29) 0, (some (26, true))⟩,
 ⟨some 31, .load none (.tm 30), (some (26, true))⟩,
 ⟨some 32, .fld (.tm 3) 0, (some (26, true))⟩,
 ⟨some 33, .load none (.tm 32), (some (26, true))⟩,
 ⟨some 34, .bin .eql (.tm 31) (.tm 33), (some (26, true))⟩,
 ⟨some 35, .pick (.tm 26) (.tm 34) (.cn (.bool false)), none⟩]
 [])
 (.cond (.tm 35)
 (.seq (.ops [⟨some 36, .mov (.tm 0), none⟩,
 ⟨some 37, .mov (.tm 5), none⟩,
 ⟨some 38, .load (some 2) (.tm 3), none⟩,
 ⟨some 39, .ixa 2 (.tm 36) (.tm 37), none⟩,
 ⟨none, .store 2 (.tm 39) (.tm 38), none⟩])
 (.seq (.ops [⟨some 40, .mov (.tm 0), none⟩,
 ⟨some 4, .mov (.tm 40), none⟩])
 .ret))
 .skip))
 (.seq (.ops [⟨some 41, .mov (.tm 0), none⟩,
 ⟨some 42, .build [.int .i64 0, .int .i64 0] [], none⟩,
 ⟨some 43, .bsl 2 [.int .i64 0, .int .i64 0] 1 [(0, (.tm 42))], none⟩,
 ⟨some 44, .app 2 16 false (.tm 41) (.tm 43), none⟩,
 ⟨some 0, .mov (.tm 44), none⟩])
 (.seq (.draw [⟨some 45, .mov (.tm 0), none⟩,
 ⟨some 46, .mov (.tm 5), none⟩,
 ⟨some 47, .bin .add (.tm 46) (.cn (.int .i64 1)), none⟩,
 ⟨some 48, .slc 2 (.tm 45) (some (.tm 47)) none none, none⟩,
 ⟨some 49, .mov (.tm 0), none⟩,
 ⟨some 50, .mov (.tm 5), none⟩,
 ⟨some 51, .slc 2 (.tm 49) (some (.tm 50)) none none, none⟩,
 ⟨some 52, .cpy 2 (.tm 48) (.tm 51), none⟩]
 [])
 (.seq (.ops [⟨some 53, .mov (.tm 0), none⟩,
 ⟨some 54, .mov (.tm 5), none⟩,
 ⟨some 55, .load (some 2) (.tm 3), none⟩,
 ⟨some 56, .ixa 2 (.tm 53) (.tm 54), none⟩,
 ⟨none, .store 2 (.tm 56) (.tm 55), none⟩])
 (.seq (.ops [⟨some 57, .mov (.tm 0), none⟩,
 ⟨some 4, .mov (.tm 57), none⟩])
 .ret))))))))⟩
theorem comp100 : compF Tryd.prog Tryd.f100 ⟨true, [], [([.tmp 0 (some 2)], [0, 3, 5])], [.tmp 0 (some 2)], []⟩ = some L100 := by kernel_rfl

def L101 : LFunc := ⟨19, 2, [.t 4], false, [], [],
 (.seq (.ops [⟨some 4, .mov (.cn (.int .i64 0)), none⟩])
 (.seq (.seq (.ops [⟨some 6, .mov (.tm 0), none⟩,
 ⟨some 7, .len (.tm 6), none⟩,
 ⟨some 8, .mov (.cn (.int .i64 0)), none⟩])
 (.block 0
 (.loop [0, 1, 7, 8]
 (.seq (.ops [⟨some 9, .bin .lss (.tm 8) (.tm 7), none⟩])
 (.seq (.cond (.tm 9)
 .skip
 (.exit 0))
 (.seq (.block 1
 (.seq (.ops [⟨some 10, .mov (.tm 8), none⟩,
 ⟨some 5, .mov (.tm 10), none⟩])
 (.seq (.ops [⟨some 11, .mov (.tm 1), none⟩,
 ⟨some 12, .mov (.tm 0), none⟩,
 ⟨some 13, .mov (.tm 5), none⟩,
 ⟨some 14, .ixa 2 (.tm 12) (.tm 13), none⟩,
 ⟨some 15, .load (some 2) (.tm 14), none⟩,
 ⟨some 16, .call (.tm 11) [(.tm 15)], none⟩])
 (.cond (.tm 16)
 (.seq (.ops [⟨some 17, .mov (.tm 5), none⟩,
 ⟨some 4, .mov (.tm 17), none⟩])
 .ret)
 .skip))))
 (.ops [⟨some 18, .bin .add (.tm 8) (.cn (.int .i64 1)), none⟩,
 ⟨some 8, .mov (.tm 18), none⟩])))))))
 (.seq (.ops [⟨some 4, .mov (.cn (.int .i64 (-1))), none⟩])
 .ret)))⟩
theorem comp101 : compF Tryd.prog Tryd.f101 ⟨false, [], [([], [0, 1, 7, 8])], [], []⟩ = some L101 := by kernel_rfl

def L102 : LFunc := ⟨19, 2, [.t 4], false, [], [],
 (.seq (.ops [⟨some 4, .mov (.cn (.int .i64 0)), none⟩])
 (.seq (.seq (.ops [⟨some 6, .mov (.tm 0), none⟩,
 ⟨some 7, .len (.tm 6), none⟩,
 ⟨some 8, .mov (.cn (.int .i64 0)), none⟩])
 (.block 0
 (.loop [0, 1, 7, 8]
 (.seq (.ops [⟨some 9, .bin .lss (.tm 8) (.tm 7), none⟩])
 (.seq (.cond (.tm 9)
 .skip
 (.exit 0))
 (.seq (.block 1
 (.seq (.ops [⟨some 10, .mov (.tm 8), none⟩,
 ⟨some 5, .mov (.tm 10), none⟩])
 (.seq (.ops [⟨some 11, .mov (.tm 1), none⟩,
 ⟨some 12, .mov (.tm 0), none⟩,
 ⟨some 13, .mov (.tm 5), none⟩,
 ⟨some 14, .ixa 3 (.tm 12) (.tm 13), none⟩,
 ⟨some 15, .load (some 3) (.tm 14), none⟩,
 ⟨some 16, .call (.tm 11) [(.tm 15)], none⟩])
 (.cond (.tm 16)
 (.seq (.ops [⟨some 17, .mov (.tm 5), none⟩,
 ⟨some 4, .mov (.tm 17), none⟩])
 .ret)
 .skip))))
 (.ops [⟨some 18, .bin .add (.tm 8) (.cn (.int .i64 1)), none⟩,
 ⟨some 8, .mov (.tm 18), none⟩])))))))
 (.seq (.ops [⟨some 4, .mov (.cn (.int .i64 (-1))), none⟩])
 .ret)))⟩
theorem comp102 : compF Tryd.prog Tryd.f102 ⟨false, [], [([], [0, 1, 7, 8])], [], []⟩ = some L102 := by kernel_rfl

def L103 : LFunc := ⟨18, 1, [.cell 2 (some 2), .t 3], false, [], [],
 (.seq (.ops [⟨some 2, .alloc [.int .i64 0, .int .i64 0], none⟩,
 ⟨some 3, .mov (.cn (.bool false)), none⟩])
 (.seq (.ops [⟨some 6, .mov (.tm 0), none⟩,
 ⟨some 7, .call (.fu 90) [(.tm 6)], none⟩,
 ⟨some 4, .mov (.tm 7), none⟩])
 (.seq (.ops [⟨some 8, .mov (.tm 0), none⟩,
 ⟨some 9, .call (.fu 90) [(.tm 8)], none⟩,
 ⟨some 5, .mov (.tm 9), none⟩])
 (.seq (.draw [⟨some 10, .mov (.tm 4), none⟩,
 ⟨some 11, .mov (.tm 5), none⟩,
 ⟨some 12, .build [.int .i64 0, .int .i64 0] [(0, 1, (.tm 10)), (1, 1, (.tm 11))], none⟩,
 ⟨some 13, .mov (.tm 0), none⟩,
 ⟨some 14, .nilchk (.tm 13), none⟩,
 ⟨some 15, .fld (.tm 14) 2, none⟩,
 ⟨some 16, .load none (.tm 15), none⟩,
 ⟨some 17, .un .not (.tm 16), none⟩,
 ⟨none, .store 2 (.tm 2) (.tm 12), none⟩,
 ⟨some 3, .mov (.tm 17), none⟩]
 [(6, 8)])
 .ret))))⟩
theorem comp103 : compF Tryd.prog Tryd.f103 ⟨false, [], [], [], []⟩ = some L103 := by kernel_rfl

end Go.Vai
