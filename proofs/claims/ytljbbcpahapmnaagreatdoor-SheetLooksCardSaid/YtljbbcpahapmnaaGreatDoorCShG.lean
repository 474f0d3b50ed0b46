/-
  The compact code of the functions, and that it is what was loaded.
-/
import Derived.Test.YtljbbcpahapmnaaGreatDoorProg
import Derived.Test.YtljbbcpahapmnaaGreatDoorVa4
set_option linter.unusedVariables false
set_option maxRecDepth 100000
namespace Go.Vai
open Go.Proofs
namespace Sh
abbrev t (n:Nat):LX:=.tm n
abbrev ci (n:Int):LX:=.cn (.int .i64 n)
abbrev cb (b:Bool):LX:=.cn (.bool b)
abbrev o (d:Nat) (x:LOp):LOper:=⟨some d,x,none⟩
abbrev n (x:LOp):LOper:=⟨none,x,none⟩
abbrev og (d g:Nat) (x:LOp):LOper:=⟨some d,x,some (g,true)⟩
abbrev mv (d s:Nat):LOper:=⟨some d,.mov (.tm s),none⟩
abbrev mg (d g s:Nat):LOper:=⟨some d,.mov (.tm s),some (g,true)⟩
end Sh
open Sh
def L5:LFunc:=⟨144,1,[.t 2],false,none,[],[],
 (.seq (.ops [o 1 (.box (t 0)),
 o 2 (.mov (cb false))])
 (.seq (.ops [o 14 (.call (.fu 7) []),
 mv 3 14])
 (.seq (.seq (.ops [o 15 (.load (some 3) (t 1)),
 o 16 (.call (.fu 8) [(t 15),(ci 700)]),
 o 17 (.un .not (t 16)),
 mv 18 17,
 ⟨some 19,.load (some 3) (t 1),(some (18,false))⟩,
 ⟨some 20,.call (.fu 20) [(t 19)],(some (18,false))⟩,
 ⟨some 21,.un .not (t 20),(some (18,false))⟩,
 o 22 (.pick (t 18) (cb true) (t 21))])
 (.cond (t 22)
 (.seq (.ops [mv 23 3,
 mv 2 23])
 .ret)
 .skip))
 (.seq (.ops [o 24 (.fld (t 1) 0),
 o 25 (.load none (t 24)),
 o 26 (.len (t 25)),
 o 27 (.mks 1 1 [.bool false] (t 26) (t 26)),
 mv 4 27])
 (.seq (.ops [o 28 (.load (some 3) (t 1)),
 o 29 (.call (.fu 15) [(t 28)]),
 mv 5 29])
 (.seq (.seq (.ops [o 6 (.mov (ci 0))])
 (.block 0
 (.loop [1,3,4,5,6]
 (.seq (.seq (.ops [mv 30 6,
 mv 31 5,
 o 32 (.len (t 31)),
 o 33 (.bin .lss (t 30) (t 32))])
 (.cond (t 33)
 .skip
 (.exit 0)))
 (.seq (.block 1
 (.seq (.seq (.draw [mv 36 5,
 mv 37 6,
 o 38 (.ixa 1 (t 36) (t 37)),
 o 39 (.load none (t 38)),
 o 40 (.bin .lss (t 39) (ci 0)),
 mv 41 40,
 ⟨some 42,.mov (t 5),(some (41,false))⟩,
 ⟨some 43,.mov (t 6),(some (41,false))⟩,
 ⟨some 44,.ixa 1 (t 42) (t 43),(some (41,false))⟩,
 ⟨some 45,.load none (t 44),(some (41,false))⟩,
 ⟨some 46,.mov (t 4),(some (41,false))⟩,
 ⟨some 47,.len (t 46),(some (41,false))⟩,
 ⟨some 48,.bin .geq (t 45) (t 47),(some (41,false))⟩,
 o 49 (.pick (t 41) (cb true) (t 48)),
 mv 50 49,
 ⟨some 51,.mov (t 6),(some (50,false))⟩,
 ⟨some 52,.bin .gtr (t 51) (ci 0),(some (50,false))⟩,
 ⟨some 53,.mov (t 52),(some (50,false))⟩,
 mg 54 53 5,
 mg 55 53 6,
 og 56 53 (.ixa 1 (t 54) (t 55)),
 og 57 53 (.load none (t 56)),
 mg 58 53 5,
 mg 59 53 6,
 og 60 53 (.bin .sub (t 59) (ci 1)),
 og 61 53 (.ixa 1 (t 58) (t 60)),
 og 62 53 (.load none (t 61)),
 og 63 53 (.bin .leq (t 57) (t 62)),
 ⟨some 64,.pick (t 53) (t 63) (cb false),(some (50,false))⟩,
 o 65 (.pick (t 50) (cb true) (t 64))]
 [])
 (.cond (t 65)
 (.seq (.ops [o 2 (.mov (cb false))])
 .ret)
 .skip))
 (.ops [mv 66 4,
 mv 67 5,
 mv 68 6,
 o 69 (.ixa 1 (t 67) (t 68)),
 o 70 (.load none (t 69)),
 o 71 (.ixa 1 (t 66) (t 70)),
 n (.store 1 (t 71) (cb true))])))
 (.ops [mv 34 6,
 o 35 (.bin .add (t 34) (ci 1)),
 mv 6 35]))))))
 (.seq (.ops [o 72 (.bsl 1 [.slice none 0 0] 0 []),
 mv 7 72])
 (.seq (.seq (.ops [o 8 (.mov (ci 0))])
 (.block 2
 (.pre [.tmp 7 (some 1)] (.loop [1,3,4,7,8]
 (.seq (.seq (.ops [mv 73 8,
 o 74 (.fld (t 1) 0),
 o 75 (.load none (t 74)),
 o 76 (.len (t 75)),
 o 77 (.bin .lss (t 73) (t 76))])
 (.cond (t 77)
 .skip
 (.exit 2)))
 (.seq (.block 3
 (.ops [mv 80 7,
 o 81 (.load (some 3) (t 1)),
 mv 82 8,
 o 83 (.call (.fu 14) [(t 81),(t 82)]),
 o 84 (.bsl 1 [.slice none 0 0] 1 [(0,(t 83))]),
 o 85 (.app 1 24 false (t 80) (t 84)),
 mv 7 85]))
 (.ops [mv 78 8,
 o 79 (.bin .add (t 78) (ci 1)),
 mv 8 79])))))))
 (.seq (.seq (.ops [o 9 (.mov (ci 0))])
 (.block 4
 (.pre [.tmp 7 (some 1)] (.loop [3,4,7,9]
 (.seq (.seq (.ops [mv 86 9,
 mv 87 7,
 o 88 (.len (t 87)),
 o 89 (.bin .lss (t 86) (t 88))])
 (.cond (t 89)
 .skip
 (.exit 4)))
 (.seq (.block 5
 (.seq (.ops [mv 92 7,
 o 93 (.len (t 92)),
 o 94 (.mks 1 1 [.bool false] (t 93) (t 93)),
 mv 10 94])
 (.seq (.ops [o 95 (.bsl 1 [.int .i64 0] 0 []),
 mv 96 7,
 mv 97 9,
 o 98 (.ixa 1 (t 96) (t 97)),
 o 99 (.load none (t 98)),
 o 100 (.app 1 8 false (t 95) (t 99)),
 mv 11 100])
 (.seq (.ops [o 12 (.mov (cb false))])
 (.seq (.block 6
 (.pre [.tmp 7 (some 1),.tmp 11 (some 1)] (.loop [3,4,7,9,10,11,12]
 (.seq (.seq (.ops [mv 101 11,
 o 102 (.len (t 101)),
 o 103 (.bin .gtr (t 102) (ci 0))])
 (.cond (t 103)
 .skip
 (.exit 6)))
 (.block 7
 (.seq (.ops [mv 104 11,
 o 105 (.ixa 1 (t 104) (ci 0)),
 o 106 (.load none (t 105)),
 mv 13 106])
 (.seq (.ops [mv 107 11,
 o 108 (.slc 1 (t 107) (some (ci 1)) none none),
 mv 11 108])
 (.seq (.seq (.ops [mv 109 13,
 o 110 (.bin .lss (t 109) (ci 0)),
 mv 111 110,
 ⟨some 112,.mov (t 13),(some (111,false))⟩,
 ⟨some 113,.mov (t 7),(some (111,false))⟩,
 ⟨some 114,.len (t 113),(some (111,false))⟩,
 ⟨some 115,.bin .geq (t 112) (t 114),(some (111,false))⟩,
 o 116 (.pick (t 111) (cb true) (t 115))])
 (.cond (t 116)
 (.seq (.ops [o 2 (.mov (cb false))])
 .ret)
 .skip))
 (.seq (.ops [mv 117 12,
 mv 118 117,
 ⟨some 119,.mov (t 13),(some (118,false))⟩,
 ⟨some 120,.mov (t 9),(some (118,false))⟩,
 ⟨some 121,.bin .eql (t 119) (t 120),(some (118,false))⟩,
 o 122 (.pick (t 118) (cb true) (t 121)),
 mv 12 122])
 (.seq (.ops [mv 123 10,
 mv 124 13,
 o 125 (.ixa 1 (t 123) (t 124)),
 o 126 (.load none (t 125)),
 o 127 (.un .not (t 126))])
 (.cond (t 127)
 (.seq (.ops [mv 128 10,
 mv 129 13,
 o 130 (.ixa 1 (t 128) (t 129)),
 n (.store 1 (t 130) (cb true))])
 (.ops [mv 131 11,
 mv 132 7,
 mv 133 13,
 o 134 (.ixa 1 (t 132) (t 133)),
 o 135 (.load none (t 134)),
 o 136 (.app 1 8 false (t 131) (t 135)),
 mv 11 136]))
 .skip)))))))))))
 (.seq (.ops [mv 137 12,
 mv 138 4,
 mv 139 9,
 o 140 (.ixa 1 (t 138) (t 139)),
 o 141 (.load none (t 140)),
 o 142 (.beq true (t 137) (t 141))])
 (.cond (t 142)
 (.seq (.ops [o 2 (.mov (cb false))])
 .ret)
 .skip)))))))
 (.ops [mv 90 9,
 o 91 (.bin .add (t 90) (ci 1)),
 mv 9 91])))))))
 (.seq (.ops [mv 143 3,
 mv 2 143])
 .ret))))))))))⟩
theorem comp5:compF Tryz.prog 5 Tryz.f5 ⟨false,[],[([],[1,3,4,5,6]),([.tmp 7 (some 1)],[1,3,4,7,8]),([.tmp 7 (some 1)],[3,4,7,9]),([.tmp 7 (some 1),.tmp 11 (some 1)],[3,4,7,9,10,11,12])],[],[]⟩=some L5:=by kernel_rfl
def L7:LFunc:=⟨106,0,[.t 0],false,none,[],[],
 (.seq (.ops [o 0 (.mov (cb false))])
 (.seq (.ops [o 17 (.call (.fu 24) [(.cn (.string ⟨#[65,49,61,53,10,66,49,61,55,10,67,49,61,61,65,49,43,66,49,42,50,10]⟩))]),
 o 18 (.call (.fu 23) [(t 17),(ci 100)]),
 mv 16 18,
 o 19 (.ext (t 16) 0),
 o 20 (.ext (t 16) 1),
 o 21 (.ext (t 16) 2),
 o 1 (.alloc [.slice none 0 0,.slice none 0 0,.slice none 0 0]),
 n (.store 3 (t 1) (t 19)),
 mv 2 20,
 mv 3 21])
 (.seq (.ops [o 23 (.load (some 3) (t 1)),
 o 24 (.call (.fu 10) [(t 23),(ci 11)]),
 mv 22 24,
 o 25 (.ext (t 22) 0),
 o 26 (.ext (t 22) 1),
 o 27 (.ext (t 22) 2),
 mv 4 25,
 mv 5 26,
 mv 6 27])
 (.seq (.seq (.ops [mv 28 2,
 o 29 (.bin .neq (t 28) (ci 70)),
 mv 30 29,
 ⟨some 31,.mov (t 3),(some (30,false))⟩,
 ⟨some 32,.bin .neq (t 31) (ci 0),(some (30,false))⟩,
 o 33 (.pick (t 30) (cb true) (t 32)),
 mv 34 33,
 ⟨some 35,.mov (t 4),(some (34,false))⟩,
 ⟨some 36,.len (t 35),(some (34,false))⟩,
 ⟨some 37,.bin .neq (t 36) (ci 3),(some (34,false))⟩,
 o 38 (.pick (t 34) (cb true) (t 37)),
 mv 39 38,
 ⟨some 40,.mov (t 5),(some (39,false))⟩,
 ⟨some 41,.bin .neq (t 40) (ci 1),(some (39,false))⟩,
 o 42 (.pick (t 39) (cb true) (t 41)),
 mv 43 42,
 ⟨some 44,.mov (t 6),(some (43,false))⟩,
 ⟨some 45,.bin .neq (t 44) (ci 0),(some (43,false))⟩,
 o 46 (.pick (t 43) (cb true) (t 45)),
 mv 47 46,
 ⟨some 48,.mov (t 4),(some (47,false))⟩,
 ⟨some 49,.ixa 3 (t 48) (ci 2),(some (47,false))⟩,
 ⟨some 50,.load (some 3) (t 49),(some (47,false))⟩,
 ⟨some 51,.build [.int .i64 0,.int .i64 0,.string ⟨#[]⟩] [(0,1,(ci 1)),(1,1,(ci 19))],(some (47,false))⟩,
 ⟨some 52,.eqs [0,0,1] true (t 50) (t 51),(some (47,false))⟩,
 o 53 (.pick (t 47) (cb true) (t 52))])
 (.cond (t 53)
 (.seq (.ops [o 0 (.mov (cb false))])
 .ret)
 .skip))
 (.seq (.ops [o 55 (.call (.fu 25) [(.cn (.string ⟨#[65,49,43,66,49,42,50]⟩))]),
 mv 54 55,
 o 56 (.ext (t 54) 0),
 o 57 (.ext (t 54) 1),
 o 7 (.alloc [.int .i64 0,.int .i64 0,.string ⟨#[]⟩,.int .i64 0,.int .i64 0,.int .i64 0,.int .i64 0,.slice none 0 0]),
 n (.store 8 (t 7) (t 56)),
 mv 8 57])
 (.seq (.ops [o 59 (.call (.fu 24) [(.cn (.string ⟨#[65,49,61,61,66,49,10,66,49,61,61,65,49,10,67,49,61,61,65,49,43,49,10,68,49,61,61,67,79,85,78,84,40,65,49,58,67,49,41,10]⟩))]),
 o 60 (.call (.fu 23) [(t 59),(ci 100)]),
 mv 58 60,
 o 61 (.ext (t 58) 0),
 o 62 (.ext (t 58) 1),
 o 63 (.ext (t 58) 2),
 o 9 (.alloc [.slice none 0 0,.slice none 0 0,.slice none 0 0]),
 n (.store 3 (t 9) (t 61)),
 mv 10 62,
 mv 11 63])
 (.seq (.ops [o 65 (.load (some 3) (t 9)),
 o 66 (.call (.fu 10) [(t 65),(ci 100)]),
 mv 64 66,
 o 67 (.ext (t 64) 0),
 o 68 (.ext (t 64) 1),
 o 69 (.ext (t 64) 2),
 mv 12 67,
 mv 13 68,
 mv 14 69])
 (.seq (.seq (.ops [mv 70 12,
 o 71 (.len (t 70)),
 o 72 (.bin .neq (t 71) (ci 4)),
 mv 73 72,
 ⟨some 74,.mov (t 12),(some (73,false))⟩,
 ⟨some 75,.ixa 3 (t 74) (ci 2),(some (73,false))⟩,
 ⟨some 76,.load (some 3) (t 75),(some (73,false))⟩,
 ⟨some 77,.call (.fu 12) [(t 76)],(some (73,false))⟩,
 ⟨some 78,.bin .neq (t 77) (.cn (.string ⟨#[35,67,89,67]⟩)),(some (73,false))⟩,
 o 79 (.pick (t 73) (cb true) (t 78)),
 mv 80 79,
 ⟨some 81,.mov (t 12),(some (80,false))⟩,
 ⟨some 82,.ixa 3 (t 81) (ci 3),(some (80,false))⟩,
 ⟨some 83,.load (some 3) (t 82),(some (80,false))⟩,
 ⟨some 84,.call (.fu 12) [(t 83)],(some (80,false))⟩,
 ⟨some 85,.bin .neq (t 84) (.cn (.string ⟨#[48]⟩)),(some (80,false))⟩,
 o 86 (.pick (t 80) (cb true) (t 85))])
 (.cond (t 86)
 (.seq (.ops [o 0 (.mov (cb false))])
 .ret)
 .skip))
 (.seq (.ops [o 87 (.load (some 3) (t 9)),
 o 88 (.call (.fu 15) [(t 87)]),
 mv 15 88])
 (.seq (.ops [mv 89 8,
 mv 90 89,
 og 91 90 (.load (some 8) (t 7)),
 og 92 90 (.call (.fu 26) [(t 91)]),
 og 93 90 (.bin .eql (t 92) (.cn (.string ⟨#[40,65,49,43,40,66,49,42,50,41,41]⟩))),
 o 94 (.pick (t 90) (t 93) (cb false)),
 mv 95 94,
 mg 96 95 15,
 og 97 95 (.len (t 96)),
 og 98 95 (.bin .eql (t 97) (ci 2)),
 o 99 (.pick (t 95) (t 98) (cb false)),
 mv 100 99,
 mg 101 100 15,
 og 102 100 (.ixa 1 (t 101) (ci 1)),
 og 103 100 (.load none (t 102)),
 og 104 100 (.bin .eql (t 103) (ci 1)),
 o 105 (.pick (t 100) (t 104) (cb false)),
 mv 0 105])
 .ret))))))))))⟩
theorem comp7:compF Tryz.prog 7 Tryz.f7 ⟨false,[],[],[],[]⟩=some L7:=by kernel_rfl
def L8:LFunc:=⟨63,2,[.t 4],false,none,[],[],
 (.seq (.ops [o 2 (.box (t 0)),
 o 4 (.mov (cb false))])
 (.seq (.ops [o 8 (.fld (t 2) 0),
 o 9 (.load none (t 8)),
 o 10 (.len (t 9)),
 o 11 (.fld (t 2) 1),
 o 12 (.load none (t 11)),
 o 13 (.len (t 12)),
 o 14 (.bin .add (t 10) (t 13)),
 o 15 (.fld (t 2) 2),
 o 16 (.load none (t 15)),
 o 17 (.len (t 16)),
 o 18 (.bin .add (t 14) (t 17)),
 mv 5 18])
 (.seq (.seq (.ops [o 6 (.mov (ci 0))])
 (.block 0
 (.loop [1,2,5,6]
 (.seq (.seq (.ops [mv 19 6,
 o 20 (.fld (t 2) 0),
 o 21 (.load none (t 20)),
 o 22 (.len (t 21)),
 o 23 (.bin .lss (t 19) (t 22)),
 mv 24 23,
 mg 25 24 5,
 mg 26 24 1,
 og 27 24 (.bin .leq (t 25) (t 26)),
 o 28 (.pick (t 24) (t 27) (cb false))])
 (.cond (t 28)
 .skip
 (.exit 0)))
 (.seq (.block 1
 (.ops [mv 31 5,
 o 32 (.fld (t 2) 0),
 o 33 (.load none (t 32)),
 mv 34 6,
 o 35 (.ixa 3 (t 33) (t 34)),
 o 36 (.fld (t 35) 2),
 o 37 (.load none (t 36)),
 o 38 (.slen (t 37)),
 o 39 (.bin .add (t 31) (t 38)),
 mv 5 39]))
 (.ops [mv 29 6,
 o 30 (.bin .add (t 29) (ci 1)),
 mv 6 30]))))))
 (.seq (.seq (.ops [o 7 (.mov (ci 0))])
 (.block 2
 (.loop [1,2,5,7]
 (.seq (.seq (.ops [mv 40 7,
 o 41 (.fld (t 2) 2),
 o 42 (.load none (t 41)),
 o 43 (.len (t 42)),
 o 44 (.bin .lss (t 40) (t 43)),
 mv 45 44,
 mg 46 45 5,
 mg 47 45 1,
 og 48 45 (.bin .leq (t 46) (t 47)),
 o 49 (.pick (t 45) (t 48) (cb false))])
 (.cond (t 49)
 .skip
 (.exit 2)))
 (.seq (.block 3
 (.ops [mv 52 5,
 o 53 (.fld (t 2) 2),
 o 54 (.load none (t 53)),
 mv 55 7,
 o 56 (.ixa 1 (t 54) (t 55)),
 o 57 (.load none (t 56)),
 o 58 (.slen (t 57)),
 o 59 (.bin .add (t 52) (t 58)),
 mv 5 59]))
 (.ops [mv 50 7,
 o 51 (.bin .add (t 50) (ci 1)),
 mv 7 51]))))))
 (.seq (.ops [mv 60 5,
 mv 61 1,
 o 62 (.bin .leq (t 60) (t 61)),
 mv 4 62])
 .ret)))))⟩
theorem comp8:compF Tryz.prog 8 Tryz.f8 ⟨false,[],[([],[1,2,5,6]),([],[1,2,5,7])],[],[]⟩=some L8:=by kernel_rfl
def L10:LFunc:=⟨70,2,[.t 4,.t 5,.t 6],false,none,[],[],
 (.seq (.ops [o 2 (.box (t 0)),
 o 4 (.mov (.cn (.slice none 0 0))),
 o 5 (.mov (ci 0)),
 o 6 (.mov (ci 0))])
 (.seq (.ops [o 11 (.load (some 3) (t 2)),
 o 12 (.call (.fu 28) [(t 11)]),
 o 13 (.call (.fu 27) [(t 12)]),
 mv 7 13])
 (.seq (.ops [mv 14 7,
 mv 15 1,
 o 16 (.mx [(t 15),(ci 0)]),
 o 17 (.nilchk (t 14)),
 o 18 (.fld (t 17) 7),
 n (.store 1 (t 18) (t 16))])
 (.seq (.ops [mv 19 7,
 mv 20 7,
 o 21 (.nilchk (t 20)),
 o 22 (.fld (t 21) 0),
 o 23 (.load none (t 22)),
 o 24 (.len (t 23)),
 o 25 (.call (.fu 29) [(t 19),(t 24)])])
 (.seq (.seq (.ops [mv 26 7,
 o 27 (.nilchk (t 26)),
 o 28 (.fld (t 27) 2),
 o 29 (.load none (t 28)),
 o 30 (.len (t 29)),
 o 31 (.mov (ci 0))])
 (.block 0
 (.loop [7,29,30,31]
 (.seq (.ops [o 32 (.bin .lss (t 31) (t 30))])
 (.seq (.cond (t 32)
 .skip
 (.exit 0))
 (.seq (.block 1
 (.seq (.ops [o 33 (.ixa 8 (t 29) (t 31)),
 o 34 (.load (some 8) (t 33)),
 o 9 (.alloc [.int .i64 0,.int .i64 0,.string ⟨#[]⟩,.int .i64 0,.int .i64 0,.int .i64 0,.int .i64 0,.slice none 0 0]),
 n (.store 8 (t 9) (t 34))])
 (.ops [mv 35 7,
 o 36 (.load (some 8) (t 9)),
 o 37 (.call (.fu 30) [(t 36)]),
 o 38 (.call (.fu 29) [(t 35),(t 37)])])))
 (.ops [o 39 (.bin .add (t 31) (ci 1)),
 mv 31 39])))))))
 (.seq (.seq (.ops [mv 40 7,
 o 41 (.nilchk (t 40)),
 o 42 (.fld (t 41) 8),
 o 43 (.load none (t 42))])
 (.cond (t 43)
 (.seq (.ops [o 4 (.mov (.cn (.slice none 0 0))),
 o 5 (.mov (ci 0)),
 o 6 (.mov (ci 1))])
 .ret)
 .skip))
 (.seq (.ops [mv 44 7,
 o 45 (.call (.fu 31) [(t 44)])])
 (.seq (.seq (.ops [mv 46 7,
 o 47 (.nilchk (t 46)),
 o 48 (.fld (t 47) 0),
 o 49 (.load none (t 48)),
 o 50 (.len (t 49)),
 o 51 (.mov (ci 0))])
 (.block 2
 (.loop [7,50,51]
 (.seq (.ops [o 52 (.bin .lss (t 51) (t 50))])
 (.seq (.cond (t 52)
 .skip
 (.exit 2))
 (.seq (.block 3
 (.seq (.ops [mv 53 51,
 mv 10 53])
 (.seq (.ops [mv 54 7,
 mv 55 10,
 o 56 (.call (.fu 32) [(t 54),(t 55)])])
 (.seq (.ops [mv 57 7,
 o 58 (.nilchk (t 57)),
 o 59 (.fld (t 58) 8),
 o 60 (.load none (t 59))])
 (.cond (t 60)
 (.seq (.ops [o 4 (.mov (.cn (.slice none 0 0))),
 o 5 (.mov (ci 0)),
 o 6 (.mov (ci 1))])
 .ret)
 .skip)))))
 (.ops [o 61 (.bin .add (t 51) (ci 1)),
 mv 51 61])))))))
 (.seq (.draw [mv 62 7,
 o 63 (.nilchk (t 62)),
 o 64 (.fld (t 63) 5),
 o 65 (.load none (t 64)),
 mv 66 7,
 o 67 (.nilchk (t 66)),
 o 68 (.fld (t 67) 7),
 o 69 (.load none (t 68)),
 mv 4 65,
 mv 5 69,
 o 6 (.mov (ci 0))]
 [])
 .ret)))))))))⟩
theorem comp10:compF Tryz.prog 10 Tryz.f10 ⟨false,[],[([],[7,29,30,31]),([],[7,50,51])],[],[]⟩=some L10:=by kernel_rfl
def L12:LFunc:=⟨15,1,[.t 2],false,none,[],[],
 (.seq (.ops [o 1 (.box (t 0)),
 o 2 (.mov (.cn (.string ⟨#[]⟩)))])
 (.seq (.seq (.ops [o 3 (.fld (t 1) 0),
 o 4 (.load none (t 3))])
 (.block 0
 (.seq (.ops [o 6 (.bin .eql (t 4) (ci 1)),
 mv 5 6])
 (.cond (t 5)
 (.seq (.ops [o 7 (.fld (t 1) 1),
 o 8 (.load none (t 7)),
 o 9 (.call (.fu 40) [(t 8)]),
 mv 2 9])
 .ret)
 (.seq (.seq (.ops [o 11 (.bin .eql (t 4) (ci 2)),
 mv 10 11])
 (.cond (t 10)
 .skip
 (.ops [o 12 (.bin .eql (t 4) (ci 3)),
 mv 10 12])))
 (.cond (t 10)
 (.seq (.ops [o 13 (.fld (t 1) 2),
 o 14 (.load none (t 13)),
 mv 2 14])
 .ret)
 .skip))))))
 (.seq (.ops [o 2 (.mov (.cn (.string ⟨#[]⟩)))])
 .ret)))⟩
theorem comp12:compF Tryz.prog 12 Tryz.f12 ⟨false,[],[],[],[]⟩=some L12:=by kernel_rfl
def L14:LFunc:=⟨23,2,[.t 4],false,none,[],[],
 (.seq (.ops [o 2 (.box (t 0)),
 o 4 (.mov (.cn (.slice none 0 0)))])
 (.seq (.ops [o 6 (.load (some 3) (t 2)),
 o 7 (.call (.fu 28) [(t 6)]),
 o 8 (.call (.fu 27) [(t 7)]),
 mv 5 8])
 (.seq (.seq (.ops [mv 9 1,
 o 10 (.bin .lss (t 9) (ci 0)),
 mv 11 10,
 ⟨some 12,.mov (t 1),(some (11,false))⟩,
 ⟨some 13,.mov (t 5),(some (11,false))⟩,
 ⟨some 14,.nilchk (t 13),(some (11,false))⟩,
 ⟨some 15,.fld (t 14) 0,(some (11,false))⟩,
 ⟨some 16,.load none (t 15),(some (11,false))⟩,
 ⟨some 17,.len (t 16),(some (11,false))⟩,
 ⟨some 18,.bin .geq (t 12) (t 17),(some (11,false))⟩,
 o 19 (.pick (t 11) (cb true) (t 18))])
 (.cond (t 19)
 (.seq (.ops [o 4 (.mov (.cn (.slice none 0 0)))])
 .ret)
 .skip))
 (.seq (.ops [mv 20 5,
 mv 21 1,
 o 22 (.call (.fu 42) [(t 20),(t 21)]),
 mv 4 22])
 .ret))))⟩
theorem comp14:compF Tryz.prog 14 Tryz.f14 ⟨false,[],[],[],[]⟩=some L14:=by kernel_rfl
def L15:LFunc:=⟨29,1,[.t 2],false,none,[],[],
 (.seq (.ops [o 1 (.box (t 0)),
 o 2 (.mov (.cn (.slice none 0 0)))])
 (.seq (.ops [o 7 (.load (some 3) (t 1)),
 o 8 (.call (.fu 28) [(t 7)]),
 o 9 (.call (.fu 27) [(t 8)]),
 mv 3 9])
 (.seq (.ops [mv 10 3,
 o 11 (.call (.fu 31) [(t 10)])])
 (.seq (.ops [o 4 (.mov (.cn (.slice none 0 0)))])
 (.seq (.seq (.ops [mv 12 3,
 o 13 (.nilchk (t 12)),
 o 14 (.fld (t 13) 4),
 o 15 (.load none (t 14)),
 o 16 (.len (t 15)),
 o 17 (.mov (ci 0))])
 (.block 0
 (.pre [.tmp 4 (some 1)] (.loop [4,15,16,17]
 (.seq (.ops [o 18 (.bin .lss (t 17) (t 16))])
 (.seq (.cond (t 18)
 .skip
 (.exit 0))
 (.seq (.block 1
 (.seq (.ops [mv 19 17,
 o 20 (.ixa 1 (t 15) (t 17)),
 o 21 (.load none (t 20)),
 mv 5 19,
 mv 6 21])
 (.seq (.ops [mv 22 6])
 (.cond (t 22)
 (.ops [mv 23 4,
 mv 24 5,
 o 25 (.bsl 1 [.int .i64 0] 1 [(0,(t 24))]),
 o 26 (.app 1 8 false (t 23) (t 25)),
 mv 4 26])
 .skip))))
 (.ops [o 27 (.bin .add (t 17) (ci 1)),
 mv 17 27]))))))))
 (.seq (.ops [mv 28 4,
 mv 2 28])
 .ret))))))⟩
theorem comp15:compF Tryz.prog 15 Tryz.f15 ⟨false,[],[([.tmp 4 (some 1)],[4,15,16,17])],[],[]⟩=some L15:=by kernel_rfl
def L20:LFunc:=⟨59,1,[.t 2],false,none,[],[],
 (.seq (.ops [o 1 (.box (t 0)),
 o 2 (.mov (cb false))])
 (.seq (.seq (.ops [o 5 (.fld (t 1) 1),
 o 6 (.load none (t 5)),
 o 7 (.len (t 6)),
 o 8 (.bin .neq (t 7) (ci 26)),
 mv 9 8,
 ⟨some 10,.fld (t 1) 1,(some (9,false))⟩,
 ⟨some 11,.load none (t 10),(some (9,false))⟩,
 ⟨some 12,.call (.fu 46) [(t 11),(.fu 47)],(some (9,false))⟩,
 o 13 (.pick (t 9) (cb true) (t 12))])
 (.cond (t 13)
 (.seq (.ops [o 2 (.mov (cb false))])
 .ret)
 .skip))
 (.seq (.seq (.ops [o 14 (.fld (t 1) 0),
 o 15 (.load none (t 14)),
 o 16 (.len (t 15)),
 o 17 (.mov (ci 0))])
 (.block 0
 (.loop [1,15,16,17]
 (.seq (.ops [o 18 (.bin .lss (t 17) (t 16))])
 (.seq (.cond (t 18)
 .skip
 (.exit 0))
 (.seq (.block 1
 (.seq (.ops [mv 19 17,
 o 20 (.ixa 3 (t 15) (t 17)),
 o 21 (.load (some 3) (t 20)),
 o 4 (.alloc [.int .i64 0,.int .i64 0,.string ⟨#[]⟩]),
 mv 3 19,
 n (.store 3 (t 4) (t 21))])
 (.seq (.draw [o 22 (.fld (t 4) 0),
 o 23 (.load (some 2) (t 22)),
 o 24 (.call (.fu 48) [(t 23)]),
 o 25 (.un .not (t 24)),
 mv 26 25,
 ⟨some 27,.fld (t 4) 2,(some (26,false))⟩,
 ⟨some 28,.load none (t 27),(some (26,false))⟩,
 ⟨some 29,.bin .eql (t 28) (.cn (.string ⟨#[]⟩)),(some (26,false))⟩,
 o 30 (.pick (t 26) (cb true) (t 29)),
 mv 31 30,
 ⟨some 32,.fld (t 4) 2,(some (31,false))⟩,
 ⟨some 33,.load none (t 32),(some (31,false))⟩,
 ⟨some 34,.call (.fu 49) [(t 33)],(some (31,false))⟩,
 ⟨some 35,.un .not (t 34),(some (31,false))⟩,
 o 36 (.pick (t 31) (cb true) (t 35)),
 mv 37 36,
 ⟨some 38,.mov (t 3),(some (37,false))⟩,
 ⟨some 39,.bin .gtr (t 38) (ci 0),(some (37,false))⟩,
 ⟨some 40,.mov (t 39),(some (37,false))⟩,
 og 41 40 (.fld (t 1) 0),
 og 42 40 (.load none (t 41)),
 mg 43 40 3,
 og 44 40 (.bin .sub (t 43) (ci 1)),
 og 45 40 (.ixa 3 (t 42) (t 44)),
 og 46 40 (.fld (t 45) 0),
 og 47 40 (.load (some 2) (t 46)),
 og 48 40 (.fld (t 4) 0),
 og 49 40 (.load (some 2) (t 48)),
 og 50 40 (.call (.fu 50) [(t 47),(t 49)]),
 og 51 40 (.bin .geq (t 50) (ci 0)),
 ⟨some 52,.pick (t 40) (t 51) (cb false),(some (37,false))⟩,
 o 53 (.pick (t 37) (cb true) (t 52))]
 [])
 (.cond (t 53)
 (.seq (.ops [o 2 (.mov (cb false))])
 .ret)
 .skip))))
 (.ops [o 54 (.bin .add (t 17) (ci 1)),
 mv 17 54])))))))
 (.seq (.ops [o 55 (.fld (t 1) 2),
 o 56 (.load none (t 55)),
 o 57 (.call (.fu 51) [(t 56),(.fu 52)]),
 o 58 (.un .not (t 57)),
 mv 2 58])
 .ret))))⟩
theorem comp20:compF Tryz.prog 20 Tryz.f20 ⟨false,[],[([],[1,15,16,17])],[],[]⟩=some L20:=by kernel_rfl
def L23:LFunc:=⟨46,2,[.cell 4 (some 3),.t 5,.t 6],false,none,[],[],
 (.seq (.ops [o 4 (.alloc [.slice none 0 0,.slice none 0 0,.slice none 0 0]),
 o 5 (.mov (ci 0)),
 o 6 (.mov (ci 0))])
 (.seq (.ops [mv 12 1,
 o 13 (.mx [(t 12),(ci 0)]),
 mv 1 13])
 (.seq (.ops [mv 15 0,
 o 16 (.call (.fu 55) [(t 15),(.cn (.string ⟨#[115,104,101,101,116,32,49,10]⟩))]),
 mv 14 16,
 o 17 (.ext (t 14) 0),
 o 18 (.ext (t 14) 1),
 mv 7 17,
 mv 8 18])
 (.seq (.seq (.ops [mv 19 8,
 o 20 (.un .not (t 19))])
 (.cond (t 20)
 (.seq (.ops [o 21 (.build [.slice none 0 0,.slice none 0 0,.slice none 0 0] []),
 mv 22 1,
 n (.store 3 (t 4) (t 21)),
 mv 5 22,
 o 6 (.mov (ci 120))])
 .ret)
 .skip))
 (.seq (.seq (.ops [mv 23 0,
 o 24 (.slen (t 23)),
 mv 25 1,
 o 26 (.bin .gtr (t 24) (t 25))])
 (.cond (t 26)
 (.seq (.ops [o 27 (.build [.slice none 0 0,.slice none 0 0,.slice none 0 0] []),
 n (.store 3 (t 4) (t 27)),
 o 5 (.mov (ci 0)),
 o 6 (.mov (ci 1))])
 .ret)
 .skip))
 (.seq (.ops [o 28 (.bsl 1 [.int .i64 0] 1 [(0,(ci 6))]),
 o 29 (.call (.fu 57) [(t 28),(ci 26)]),
 o 30 (.build [.slice none 0 0,.slice none 0 0,.slice none 0 0] [(1,1,(t 29))]),
 o 9 (.alloc [.slice none 0 0,.slice none 0 0,.slice none 0 0]),
 n (.store 3 (t 9) (t 30))])
 (.seq (.ops [o 31 (.mkm),
 o 10 (.alloc [.map none]),
 n (.store 1 (t 10) (t 31))])
 (.seq (.seq (.ops [mv 32 7,
 o 33 (.call (.fu 58) [(t 32),(.cn (.string ⟨#[10]⟩))])])
 (.block 0
 (.pre [.bx 9 2 (some 1),.lend 133] (.rfn (t 33) 8364055 [9,10] [133]))))
 (.seq (.ops [o 38 (.load none (t 10)),
 o 39 (.call (.fu 60) [(t 38)]),
 o 40 (.fld (t 9) 0),
 n (.store 1 (t 40) (t 39))])
 (.seq (.ops [o 41 (.load (some 3) (t 9)),
 mv 42 1,
 mv 43 0,
 o 44 (.slen (t 43)),
 o 45 (.bin .sub (t 42) (t 44)),
 n (.store 3 (t 4) (t 41)),
 mv 5 45,
 o 6 (.mov (ci 0))])
 .ret))))))))))⟩
theorem comp23:compF Tryz.prog 23 Tryz.f23 ⟨false,[],[([.bx 9 2 (some 1),.lend 133],[9,10])],[],[]⟩=some L23:=by kernel_rfl
def L8364055:LFunc:=⟨46,1,[],false,some [34],[],[],
 (.seq (.ops [mv 11 34])
 (.block 1
 (.ops [o 35 (.load none (t 10)),
 mv 36 11,
 o 37 (.call (.fu 59) [(t 9),(t 35),(t 36)])])))⟩
theorem comp8364055:compR Tryz.prog 8364055 ⟨false,[],[],[],[]⟩=some L8364055:=by kernel_rfl
def L24:LFunc:=⟨5,1,[.t 2],false,none,[],[],
 (.seq (.ops [o 2 (.mov (.cn (.string ⟨#[]⟩)))])
 (.seq (.ops [mv 3 0,
 o 4 (.bin .add (.cn (.string ⟨#[115,104,101,101,116,32,49,10]⟩)) (t 3)),
 mv 2 4])
 .ret))⟩
theorem comp24:compF Tryz.prog 24 Tryz.f24 ⟨false,[],[],[],[]⟩=some L24:=by kernel_rfl
def L25:LFunc:=⟨35,1,[.cell 2 (some 8),.t 3],false,none,[],[],
 (.seq (.ops [o 2 (.alloc [.int .i64 0,.int .i64 0,.string ⟨#[]⟩,.int .i64 0,.int .i64 0,.int .i64 0,.int .i64 0,.slice none 0 0]),
 o 3 (.mov (cb false))])
 (.seq (.ops [mv 9 0,
 o 10 (.call (.fu 61) [(t 9)]),
 mv 8 10,
 o 11 (.ext (t 8) 0),
 o 12 (.ext (t 8) 1),
 mv 4 11,
 mv 5 12])
 (.seq (.seq (.ops [mv 13 5,
 o 14 (.un .not (t 13))])
 (.cond (t 14)
 (.seq (.ops [o 15 (.build [.int .i64 0,.int .i64 0,.string ⟨#[]⟩,.int .i64 0,.int .i64 0,.int .i64 0,.int .i64 0,.slice none 0 0] []),
 n (.store 8 (t 2) (t 15)),
 o 3 (.mov (cb false))])
 .ret)
 .skip))
 (.seq (.ops [mv 16 4,
 o 17 (.build [.slice none 0 0,.int .i64 0,.bool false] [(0,1,(t 16))]),
 o 18 (.box (t 17)),
 mv 6 18])
 (.seq (.ops [mv 19 6,
 o 20 (.call (.fu 62) [(t 19)]),
 o 7 (.alloc [.int .i64 0,.int .i64 0,.string ⟨#[]⟩,.int .i64 0,.int .i64 0,.int .i64 0,.int .i64 0,.slice none 0 0]),
 n (.store 8 (t 7) (t 20))])
 (.seq (.seq (.ops [mv 21 6,
 o 22 (.nilchk (t 21)),
 o 23 (.fld (t 22) 2),
 o 24 (.load none (t 23)),
 mv 25 24,
 ⟨some 26,.mov (t 6),(some (25,false))⟩,
 ⟨some 27,.nilchk (t 26),(some (25,false))⟩,
 ⟨some 28,.fld (t 27) 0,(some (25,false))⟩,
 ⟨some 29,.load none (t 28),(some (25,false))⟩,
 ⟨some 30,.len (t 29),(some (25,false))⟩,
 ⟨some 31,.bin .gtr (t 30) (ci 0),(some (25,false))⟩,
 o 32 (.pick (t 25) (cb true) (t 31))])
 (.cond (t 32)
 (.seq (.ops [o 33 (.build [.int .i64 0,.int .i64 0,.string ⟨#[]⟩,.int .i64 0,.int .i64 0,.int .i64 0,.int .i64 0,.slice none 0 0] []),
 n (.store 8 (t 2) (t 33)),
 o 3 (.mov (cb false))])
 .ret)
 .skip))
 (.seq (.ops [o 34 (.load (some 8) (t 7)),
 n (.store 8 (t 2) (t 34)),
 o 3 (.mov (cb true))])
 .ret)))))))⟩
theorem comp25:compF Tryz.prog 25 Tryz.f25 ⟨false,[],[],[],[]⟩=some L25:=by kernel_rfl
def L26:LFunc:=⟨89,1,[.t 2],false,none,[],[],
 (.seq (.ops [o 1 (.box (t 0)),
 o 2 (.mov (.cn (.string ⟨#[]⟩)))])
 (.seq (.seq (.ops [o 6 (.fld (t 1) 0),
 o 7 (.load none (t 6))])
 (.block 0
 (.seq (.ops [o 9 (.bin .eql (t 7) (ci 1)),
 mv 8 9])
 (.cond (t 8)
 (.seq (.ops [o 10 (.fld (t 1) 1),
 o 11 (.load none (t 10)),
 o 12 (.call (.fu 40) [(t 11)]),
 mv 2 12])
 .ret)
 (.seq (.ops [o 14 (.bin .eql (t 7) (ci 2)),
 mv 13 14])
 (.cond (t 13)
 (.seq (.ops [o 15 (.fld (t 1) 2),
 o 16 (.load none (t 15)),
 o 17 (.call (.fu 63) [(t 16),(.cn (.string ⟨#[34]⟩)),(.cn (.string ⟨#[34,34]⟩))]),
 o 18 (.bin .add (.cn (.string ⟨#[34]⟩)) (t 17)),
 o 19 (.bin .add (t 18) (.cn (.string ⟨#[34]⟩))),
 mv 2 19])
 .ret)
 (.seq (.ops [o 21 (.bin .eql (t 7) (ci 3)),
 mv 20 21])
 (.cond (t 20)
 (.seq (.ops [o 22 (.fld (t 1) 3),
 o 23 (.load (some 2) (t 22)),
 o 24 (.call (.fu 64) [(t 23)]),
 mv 2 24])
 .ret)
 (.seq (.ops [o 26 (.bin .eql (t 7) (ci 4)),
 mv 25 26])
 (.cond (t 25)
 (.seq (.draw [o 27 (.fld (t 1) 3),
 o 28 (.load (some 2) (t 27)),
 o 29 (.call (.fu 64) [(t 28)]),
 o 30 (.bin .add (t 29) (.cn (.string ⟨#[58]⟩))),
 o 31 (.fld (t 1) 5),
 o 32 (.load (some 2) (t 31)),
 o 33 (.call (.fu 64) [(t 32)]),
 o 34 (.bin .add (t 30) (t 33)),
 mv 2 34]
 [(2,5)])
 .ret)
 (.seq (.ops [o 36 (.bin .eql (t 7) (ci 5)),
 mv 35 36])
 (.cond (t 35)
 (.seq (.ops [o 37 (.fld (t 1) 7),
 o 38 (.load none (t 37)),
 o 39 (.len (t 38))])
 (.block 1
 (.seq (.ops [o 41 (.bin .eql (t 39) (ci 1)),
 mv 40 41])
 (.cond (t 40)
 (.seq (.ops [o 42 (.fld (t 1) 7),
 o 43 (.load none (t 42)),
 o 44 (.ixa 8 (t 43) (ci 0)),
 o 45 (.load (some 8) (t 44)),
 o 46 (.call (.fu 26) [(t 45)]),
 o 47 (.bin .add (.cn (.string ⟨#[40,45]⟩)) (t 46)),
 o 48 (.bin .add (t 47) (.cn (.string ⟨#[41]⟩))),
 mv 2 48])
 .ret)
 (.seq (.ops [o 50 (.bin .eql (t 39) (ci 2)),
 mv 49 50])
 (.cond (t 49)
 (.seq (.draw [o 51 (.fld (t 1) 7),
 o 52 (.load none (t 51)),
 o 53 (.ixa 8 (t 52) (ci 0)),
 o 54 (.load (some 8) (t 53)),
 o 55 (.call (.fu 26) [(t 54)]),
 o 56 (.bin .add (.cn (.string ⟨#[40]⟩)) (t 55)),
 o 57 (.fld (t 1) 2),
 o 58 (.load none (t 57)),
 o 59 (.bin .add (t 56) (t 58)),
 o 60 (.fld (t 1) 7),
 o 61 (.load none (t 60)),
 o 62 (.ixa 8 (t 61) (ci 1)),
 o 63 (.load (some 8) (t 62)),
 o 64 (.call (.fu 26) [(t 63)]),
 o 65 (.bin .add (t 59) (t 64)),
 o 66 (.bin .add (t 65) (.cn (.string ⟨#[41]⟩))),
 mv 2 66]
 [(4,7),(4,10),(4,12),(7,13)])
 .ret)
 .skip))))))
 (.seq (.ops [o 68 (.bin .eql (t 7) (ci 6)),
 mv 67 68])
 (.cond (t 67)
 (.seq (.ops [o 3 (.mov (.cn (.slice none 0 0)))])
 (.seq (.seq (.ops [o 69 (.fld (t 1) 7),
 o 70 (.load none (t 69)),
 o 71 (.len (t 70)),
 o 72 (.mov (ci 0))])
 (.block 2
 (.pre [.tmp 3 (some 1)] (.loop [1,3,70,71,72]
 (.seq (.ops [o 73 (.bin .lss (t 72) (t 71))])
 (.seq (.cond (t 73)
 .skip
 (.exit 2))
 (.seq (.block 3
 (.seq (.ops [o 74 (.ixa 8 (t 70) (t 72)),
 o 75 (.load (some 8) (t 74)),
 o 5 (.alloc [.int .i64 0,.int .i64 0,.string ⟨#[]⟩,.int .i64 0,.int .i64 0,.int .i64 0,.int .i64 0,.slice none 0 0]),
 n (.store 8 (t 5) (t 75))])
 (.ops [mv 76 3,
 o 77 (.load (some 8) (t 5)),
 o 78 (.call (.fu 26) [(t 77)]),
 o 79 (.bsl 1 [.string ⟨#[]⟩] 1 [(0,(t 78))]),
 o 80 (.app 1 16 false (t 76) (t 79)),
 mv 3 80])))
 (.ops [o 81 (.bin .add (t 72) (ci 1)),
 mv 72 81]))))))))
 (.seq (.pre [.tmp 3 none] (.draw [o 82 (.fld (t 1) 2),
 o 83 (.load none (t 82)),
 o 84 (.bin .add (t 83) (.cn (.string ⟨#[40]⟩))),
 mv 85 3,
 o 86 (.call (.fu 65) [(t 85),(.cn (.string ⟨#[44]⟩))]),
 o 87 (.bin .add (t 84) (t 86)),
 o 88 (.bin .add (t 87) (.cn (.string ⟨#[41]⟩))),
 mv 2 88]
 [(1,4)]))
 .ret)))
 .skip))))))))))))))
 (.seq (.ops [o 2 (.mov (.cn (.string ⟨#[]⟩)))])
 .ret)))⟩
theorem comp26:compF Tryz.prog 26 Tryz.f26 ⟨false,[(23,[.tmp 3 none])],[([.tmp 3 (some 1)],[1,3,70,71,72])],[],[]⟩=some L26:=by kernel_rfl
def L27:LFunc:=⟨68,1,[.t 2],false,none,[.cell 0 0 none,.cell 0 1 none,.cell 0 2 none],[],
 (.seq (.ops [o 1 (.box (t 0)),
 o 2 (.mov (.cn (.pointer none)))])
 (.seq (.ops [o 9 (.fld (t 1) 0),
 o 10 (.load none (t 9)),
 o 11 (.len (t 10)),
 mv 3 11])
 (.seq (.draw [o 12 (.fld (t 1) 0),
 o 13 (.load none (t 12)),
 o 14 (.mkm),
 mv 15 3,
 o 16 (.mks 8 88 [.int .i64 0,.int .i64 0,.string ⟨#[]⟩,.int .i64 0,.int .i64 0,.int .i64 0,.int .i64 0,.slice none 0 0] (t 15) (t 15)),
 mv 17 3,
 o 18 (.mks 1 1 [.bool false] (t 17) (t 17)),
 mv 19 3,
 o 20 (.mks 1 1 [.bool false] (t 19) (t 19)),
 mv 21 3,
 o 22 (.mks 3 32 [.int .i64 0,.int .i64 0,.string ⟨#[]⟩] (t 21) (t 21)),
 mv 23 3,
 o 24 (.mks 1 1 [.bool false] (t 23) (t 23)),
 o 25 (.build [.slice none 0 0,.map none,.slice none 0 0,.slice none 0 0,.slice none 0 0,.slice none 0 0,.slice none 0 0,.int .i64 0,.bool false] [(0,1,(t 13)),(1,1,(t 14)),(2,1,(t 16)),(3,1,(t 18)),(4,1,(t 20)),(5,1,(t 22)),(6,1,(t 24))]),
 o 26 (.box (t 25)),
 mv 4 26]
 [(1,2),(1,4),(1,6),(1,8),(1,10),(1,12)])
 (.seq (.seq (.ops [o 27 (.fld (t 1) 0),
 o 28 (.load none (t 27)),
 o 29 (.len (t 28)),
 o 30 (.mov (ci 0))])
 (.block 0
 (.loop [4,28,29,30]
 (.seq (.ops [o 31 (.bin .lss (t 30) (t 29))])
 (.seq (.cond (t 31)
 .skip
 (.exit 0))
 (.seq (.block 1
 (.seq (.ops [mv 32 30,
 o 33 (.ixa 3 (t 28) (t 30)),
 o 34 (.load (some 3) (t 33)),
 o 6 (.alloc [.int .i64 0,.int .i64 0,.string ⟨#[]⟩]),
 mv 5 32,
 n (.store 3 (t 6) (t 34))])
 (.seq (.draw [mv 35 4,
 o 36 (.nilchk (t 35)),
 o 37 (.fld (t 36) 1),
 o 38 (.load none (t 37)),
 o 39 (.fld (t 6) 0),
 o 40 (.load (some 2) (t 39)),
 mv 41 5,
 n (.mset 3 (t 38) (t 40) (t 41))]
 [])
 (.seq (.ops [o 43 (.fld (t 6) 2),
 o 44 (.load none (t 43)),
 o 45 (.call (.fu 55) [(t 44),(.cn (.string ⟨#[61]⟩))]),
 mv 42 45,
 o 46 (.ext (t 42) 0),
 o 47 (.ext (t 42) 1),
 mv 7 46,
 mv 8 47])
 (.seq (.ops [mv 48 8])
 (.cond (t 48)
 (.draw [mv 50 4,
 o 51 (.nilchk (t 50)),
 o 52 (.fld (t 51) 2),
 o 53 (.load none (t 52)),
 mv 54 5,
 mv 55 4,
 o 56 (.nilchk (t 55)),
 o 57 (.fld (t 56) 3),
 o 58 (.load none (t 57)),
 mv 59 5,
 mv 60 7,
 o 61 (.call (.fu 25) [(t 60)]),
 mv 49 61,
 o 62 (.ext (t 49) 0),
 o 63 (.ext (t 49) 1),
 o 64 (.ixa 8 (t 53) (t 54)),
 n (.store 8 (t 64) (t 62)),
 o 65 (.ixa 1 (t 58) (t 59)),
 n (.store 1 (t 65) (t 63))]
 [(3,11),(8,11)])
 .skip))))))
 (.ops [o 66 (.bin .add (t 30) (ci 1)),
 mv 30 66])))))))
 (.seq (.ops [mv 67 4,
 mv 2 67])
 .ret)))))⟩
theorem comp27:compF Tryz.prog 27 Tryz.f27 ⟨false,[],[([],[4,28,29,30])],[.cell 0 0 none,.cell 0 1 none,.cell 0 2 none],[]⟩=some L27:=by kernel_rfl
def L28:LFunc:=⟨80,1,[.cell 2 (some 3)],true,none,[],[],
 (.seq (.ops [o 1 (.box (t 0)),
 o 2 (.alloc [.slice none 0 0,.slice none 0 0,.slice none 0 0])])
 (.seq (.ops [o 3 (.alloc [.slice none 0 0,.slice none 0 0,.slice none 0 0])])
 (.seq (.seq (.ops [o 11 (.mov (ci 0))])
 (.block 0
 (.pre [.bx 3 1 (some 1),.bx 3 2 (some 1)] (.loop [1,2,3,11]
 (.seq (.ops [o 12 (.bin .lss (t 11) (ci 26))])
 (.seq (.cond (t 12)
 .skip
 (.exit 0))
 (.seq (.block 1
 (.seq (.ops [mv 13 11,
 mv 4 13])
 (.seq (.ops [o 5 (.mov (ci 6))])
 (.seq (.seq (.ops [mv 14 4,
 o 15 (.fld (t 1) 1),
 o 16 (.load none (t 15)),
 o 17 (.len (t 16)),
 o 18 (.bin .lss (t 14) (t 17))])
 (.cond (t 18)
 (.ops [o 19 (.fld (t 1) 1),
 o 20 (.load none (t 19)),
 mv 21 4,
 o 22 (.ixa 1 (t 20) (t 21)),
 o 23 (.load none (t 22)),
 o 24 (.mn [(t 23),(ci 20)]),
 o 25 (.mx [(ci 1),(t 24)]),
 mv 5 25])
 .skip))
 (.ops [o 26 (.fld (t 3) 1),
 o 27 (.load none (t 26)),
 mv 28 5,
 o 29 (.bsl 1 [.int .i64 0] 1 [(0,(t 28))]),
 o 30 (.app 1 8 false (t 27) (t 29)),
 o 31 (.fld (t 3) 1),
 n (.store 1 (t 31) (t 30))])))))
 (.ops [o 32 (.bin .add (t 11) (ci 1)),
 mv 11 32]))))))))
 (.seq (.ops [o 33 (.mkm),
 mv 6 33])
 (.seq (.seq (.ops [o 34 (.fld (t 1) 0),
 o 35 (.load none (t 34)),
 o 36 (.len (t 35)),
 o 37 (.mov (ci 0))])
 (.block 2
 (.pre [.bx 3 1 (some 1),.bx 3 2 (some 1)] (.loop [1,2,3,6,35,36,37]
 (.seq (.ops [o 38 (.bin .lss (t 37) (t 36))])
 (.seq (.cond (t 38)
 .skip
 (.exit 2))
 (.seq (.block 3
 (.seq (.ops [o 39 (.ixa 3 (t 35) (t 37)),
 o 40 (.load (some 3) (t 39)),
 o 8 (.alloc [.int .i64 0,.int .i64 0,.string ⟨#[]⟩]),
 n (.store 3 (t 8) (t 40))])
 (.seq (.ops [o 41 (.fld (t 8) 0),
 o 42 (.load (some 2) (t 41)),
 o 43 (.call (.fu 48) [(t 42)]),
 mv 44 43,
 og 45 44 (.fld (t 8) 2),
 og 46 44 (.load none (t 45)),
 og 47 44 (.bin .neq (t 46) (.cn (.string ⟨#[]⟩))),
 o 48 (.pick (t 44) (t 47) (cb false)),
 mv 49 48,
 og 50 49 (.fld (t 8) 2),
 og 51 49 (.load none (t 50)),
 og 52 49 (.call (.fu 49) [(t 51)]),
 o 53 (.pick (t 49) (t 52) (cb false))])
 (.cond (t 53)
 (.ops [mv 54 6,
 o 55 (.fld (t 8) 0),
 o 56 (.load (some 2) (t 55)),
 o 57 (.fld (t 8) 2),
 o 58 (.load none (t 57)),
 n (.mset 3 (t 54) (t 56) (t 58))])
 .skip))))
 (.ops [o 59 (.bin .add (t 37) (ci 1)),
 mv 37 59]))))))))
 (.seq (.ops [mv 60 6,
 o 61 (.call (.fu 60) [(t 60)]),
 o 62 (.fld (t 3) 0),
 n (.store 1 (t 62) (t 61))])
 (.seq (.seq (.ops [o 63 (.fld (t 1) 2),
 o 64 (.load none (t 63)),
 o 65 (.len (t 64)),
 o 66 (.mov (ci 0))])
 (.block 4
 (.pre [.bx 3 1 (some 1),.bx 3 2 (some 1)] (.loop [2,3,64,65,66]
 (.seq (.ops [o 67 (.bin .lss (t 66) (t 65))])
 (.seq (.cond (t 67)
 .skip
 (.exit 4))
 (.seq (.block 5
 (.seq (.ops [o 68 (.ixa 1 (t 64) (t 66)),
 o 69 (.load none (t 68)),
 mv 10 69])
 (.seq (.ops [mv 70 10,
 o 71 (.call (.fu 49) [(t 70)])])
 (.cond (t 71)
 (.ops [o 72 (.fld (t 3) 2),
 o 73 (.load none (t 72)),
 mv 74 10,
 o 75 (.bsl 1 [.string ⟨#[]⟩] 1 [(0,(t 74))]),
 o 76 (.app 1 16 false (t 73) (t 75)),
 o 77 (.fld (t 3) 2),
 n (.store 1 (t 77) (t 76))])
 .skip))))
 (.ops [o 78 (.bin .add (t 66) (ci 1)),
 mv 66 78]))))))))
 (.seq (.ops [o 79 (.load (some 3) (t 3)),
 n (.store 3 (t 2) (t 79))])
 .ret))))))))⟩
theorem comp28:compF Tryz.prog 28 Tryz.f28 ⟨true,[],[([.bx 3 1 (some 1),.bx 3 2 (some 1)],[1,2,3,11]),([.bx 3 1 (some 1),.bx 3 2 (some 1)],[1,2,3,6,35,36,37]),([.bx 3 1 (some 1),.bx 3 2 (some 1)],[2,3,64,65,66])],[],[]⟩=some L28:=by kernel_rfl
def L29:LFunc:=⟨27,2,[],false,none,[],[],
 (.seq (.ops [mv 4 0,
 mv 5 0,
 o 6 (.nilchk (t 5)),
 o 7 (.fld (t 6) 8),
 o 8 (.load none (t 7)),
 mv 9 8,
 ⟨some 10,.mov (t 1),(some (9,false))⟩,
 ⟨some 11,.mov (t 0),(some (9,false))⟩,
 ⟨some 12,.nilchk (t 11),(some (9,false))⟩,
 ⟨some 13,.fld (t 12) 7,(some (9,false))⟩,
 ⟨some 14,.load none (t 13),(some (9,false))⟩,
 ⟨some 15,.bin .gtr (t 10) (t 14),(some (9,false))⟩,
 o 16 (.pick (t 9) (cb true) (t 15)),
 o 17 (.nilchk (t 4)),
 o 18 (.fld (t 17) 8),
 n (.store 1 (t 18) (t 16))])
 (.ops [mv 19 0,
 o 20 (.nilchk (t 19)),
 o 21 (.fld (t 20) 7),
 o 22 (.load none (t 21)),
 mv 23 1,
 o 24 (.bin .sub (t 22) (t 23)),
 o 25 (.nilchk (t 19)),
 o 26 (.fld (t 25) 7),
 n (.store 1 (t 26) (t 24))]))⟩
theorem comp29:compF Tryz.prog 29 Tryz.f29 ⟨false,[],[],[],[]⟩=some L29:=by kernel_rfl
def L30:LFunc:=⟨27,1,[.t 2],false,none,[],[],
 (.seq (.ops [o 1 (.box (t 0)),
 o 2 (.mov (ci 0))])
 (.seq (.ops [o 3 (.mov (ci 0))])
 (.seq (.seq (.ops [o 6 (.fld (t 1) 0),
 o 7 (.load none (t 6))])
 (.block 0
 (.seq (.ops [o 9 (.bin .eql (t 7) (ci 3)),
 mv 8 9])
 (.cond (t 8)
 (.ops [o 3 (.mov (ci 1))])
 (.seq (.ops [o 11 (.bin .eql (t 7) (ci 4)),
 mv 10 11])
 (.cond (t 10)
 (.ops [o 12 (.load (some 8) (t 1)),
 o 13 (.call (.fu 66) [(t 12)]),
 mv 3 13])
 .skip))))))
 (.seq (.seq (.ops [o 14 (.fld (t 1) 7),
 o 15 (.load none (t 14)),
 o 16 (.len (t 15)),
 o 17 (.mov (ci 0))])
 (.block 1
 (.loop [3,15,16,17]
 (.seq (.ops [o 18 (.bin .lss (t 17) (t 16))])
 (.seq (.cond (t 18)
 .skip
 (.exit 1))
 (.seq (.block 2
 (.seq (.ops [o 19 (.ixa 8 (t 15) (t 17)),
 o 20 (.load (some 8) (t 19)),
 o 5 (.alloc [.int .i64 0,.int .i64 0,.string ⟨#[]⟩,.int .i64 0,.int .i64 0,.int .i64 0,.int .i64 0,.slice none 0 0]),
 n (.store 8 (t 5) (t 20))])
 (.ops [mv 21 3,
 o 22 (.load (some 8) (t 5)),
 o 23 (.call (.fu 30) [(t 22)]),
 o 24 (.bin .add (t 21) (t 23)),
 mv 3 24])))
 (.ops [o 25 (.bin .add (t 17) (ci 1)),
 mv 17 25])))))))
 (.seq (.ops [mv 26 3,
 mv 2 26])
 .ret)))))⟩
theorem comp30:compF Tryz.prog 30 Tryz.f30 ⟨false,[],[([],[3,15,16,17])],[],[]⟩=some L30:=by kernel_rfl
def L31:LFunc:=⟨45,1,[],false,none,[],[],
 (.seq (.ops [o 1 (.box (t 0))])
 (.seq (.draw [o 9 (.load none (t 1)),
 o 10 (.nilchk (t 9)),
 o 11 (.fld (t 10) 0),
 o 12 (.load none (t 11)),
 o 13 (.len (t 12)),
 o 14 (.mks 1 8 [.int .i64 0] (t 13) (t 13)),
 o 15 (.load none (t 1)),
 o 16 (.nilchk (t 15)),
 o 17 (.fld (t 16) 0),
 o 18 (.load none (t 17)),
 o 19 (.len (t 18)),
 o 20 (.mks 1 8 [.int .i64 0] (t 19) (t 19)),
 o 2 (.alloc [.slice none 0 0]),
 o 3 (.alloc [.slice none 0 0]),
 n (.store 1 (t 2) (t 14)),
 n (.store 1 (t 3) (t 20))]
 [(5,6),(5,9),(0,11),(3,11),(0,12),(3,12),(6,12),(9,12),(0,13),(3,13),(6,13),(9,13),(6,14),(9,14),(11,14)])
 (.seq (.ops [o 4 (.alloc [.slice none 0 0])])
 (.seq (.ops [o 21 (.load none (t 1)),
 o 22 (.nilchk (t 21)),
 o 23 (.fld (t 22) 0),
 o 24 (.load none (t 23)),
 o 25 (.len (t 24)),
 o 26 (.mks 1 1 [.bool false] (t 25) (t 25)),
 o 5 (.alloc [.slice none 0 0]),
 n (.store 1 (t 5) (t 26))])
 (.seq (.ops [o 6 (.alloc [.int .i64 0]),
 n (.store 1 (t 6) (ci 0))])
 (.seq (.ops [o 7 (.alloc [.nilFunc])])
 (.seq (.ops [o 27 (.mkf 67 [(t 6),(t 2),(t 3),(t 4),(t 5),(t 1),(t 7)]),
 n (.store 1 (t 7) (t 27))])
 (.seq (.ops [o 28 (.load none (t 1)),
 o 29 (.nilchk (t 28)),
 o 30 (.fld (t 29) 0),
 o 31 (.load none (t 30)),
 o 32 (.len (t 31)),
 o 33 (.mov (ci 0))])
 (.block 0
 (.pre [.bx 4 0 (some 1)] (.loop [3,7,32,33]
 (.seq (.ops [o 34 (.bin .lss (t 33) (t 32))])
 (.seq (.cond (t 34)
 .skip
 (.exit 0))
 (.seq (.block 1
 (.seq (.ops [mv 35 33,
 mv 8 35])
 (.seq (.ops [o 36 (.load none (t 3)),
 mv 37 8,
 o 38 (.ixa 1 (t 36) (t 37)),
 o 39 (.load none (t 38)),
 o 40 (.bin .eql (t 39) (ci 0))])
 (.cond (t 40)
 (.ops [o 41 (.load none (t 7)),
 mv 42 8,
 o 43 (.call (t 41) [(t 42)])])
 .skip))))
 (.ops [o 44 (.bin .add (t 33) (ci 1)),
 mv 33 44])))))))))))))))⟩
theorem comp31:compF Tryz.prog 31 Tryz.f31 ⟨false,[],[([.bx 4 0 (some 1)],[3,7,32,33])],[],[]⟩=some L31:=by kernel_rfl
def L32:LFunc:=⟨103,2,[.cell 4 (some 3)],false,none,[],[],
 (.seq (.ops [o 4 (.alloc [.int .i64 0,.int .i64 0,.string ⟨#[]⟩])])
 (.seq (.seq (.ops [mv 9 0,
 o 10 (.nilchk (t 9)),
 o 11 (.fld (t 10) 6),
 o 12 (.load none (t 11)),
 mv 13 1,
 o 14 (.ixa 1 (t 12) (t 13)),
 o 15 (.load none (t 14))])
 (.cond (t 15)
 (.seq (.ops [mv 16 0,
 o 17 (.nilchk (t 16)),
 o 18 (.fld (t 17) 5),
 o 19 (.load none (t 18)),
 mv 20 1,
 o 21 (.ixa 3 (t 19) (t 20)),
 o 22 (.load (some 3) (t 21)),
 n (.store 3 (t 4) (t 22))])
 .ret)
 .skip))
 (.seq (.ops [o 5 (.alloc [.int .i64 0,.int .i64 0,.string ⟨#[]⟩])])
 (.seq (.seq (.ops [mv 23 0,
 o 24 (.nilchk (t 23)),
 o 25 (.fld (t 24) 0),
 o 26 (.load none (t 25)),
 mv 27 1,
 o 28 (.ixa 3 (t 26) (t 27)),
 o 29 (.fld (t 28) 2),
 o 30 (.load none (t 29)),
 mv 6 30])
 (.block 0
 (.seq (.ops [mv 45 6,
 o 46 (.ixs (t 45) (ci 0)),
 o 47 (.bin .eql (t 46) (.cn (.int .u8 39))),
 mv 44 47])
 (.cond (t 44)
 (.ops [mv 48 6,
 o 49 (.slcs (t 48) (some (ci 1)) none),
 o 50 (.call (.fu 69) [(t 49)]),
 n (.store 3 (t 5) (t 50))])
 (.seq (.ops [mv 52 6,
 o 53 (.ixs (t 52) (ci 0)),
 o 54 (.bin .neq (t 53) (.cn (.int .u8 61))),
 mv 51 54])
 (.cond (t 51)
 (.seq (.ops [mv 56 6,
 o 57 (.call (.fu 70) [(t 56)]),
 mv 55 57,
 o 58 (.ext (t 55) 0),
 o 59 (.ext (t 55) 1),
 mv 7 58,
 mv 8 59])
 (.ops [mv 60 8,
 mv 61 60,
 mg 62 61 7,
 og 63 61 (.call (.fu 72) [(t 62)]),
 o 64 (.pick (t 61) (t 63) (cb false)),
 mv 65 7,
 o 66 (.call (.fu 73) [(t 65)]),
 mv 67 6,
 o 68 (.call (.fu 69) [(t 67)]),
 o 69 (.call (.fu 71) [(t 64),(t 66),(t 68)]),
 n (.store 3 (t 5) (t 69))]))
 (.seq (.ops [mv 71 0,
 o 72 (.nilchk (t 71)),
 o 73 (.fld (t 72) 3),
 o 74 (.load none (t 73)),
 mv 75 1,
 o 76 (.ixa 1 (t 74) (t 75)),
 o 77 (.load none (t 76)),
 o 78 (.un .not (t 77)),
 mv 70 78])
 (.cond (t 70)
 (.ops [o 79 (.call (.fu 74) [(.cn (.string ⟨#[35,78,65,77,69]⟩))]),
 n (.store 3 (t 5) (t 79))])
 (.seq (.ops [mv 81 0,
 o 82 (.nilchk (t 81)),
 o 83 (.fld (t 82) 4),
 o 84 (.load none (t 83)),
 mv 85 1,
 o 86 (.ixa 1 (t 84) (t 85)),
 o 87 (.load none (t 86)),
 mv 80 87])
 (.cond (t 80)
 (.ops [o 88 (.call (.fu 74) [(.cn (.string ⟨#[35,67,89,67]⟩))]),
 n (.store 3 (t 5) (t 88))])
 (.seq (.ops [mv 31 0,
 mv 32 0,
 o 33 (.nilchk (t 32)),
 o 34 (.fld (t 33) 2),
 o 35 (.load none (t 34)),
 mv 36 1,
 o 37 (.ixa 8 (t 35) (t 36)),
 o 38 (.load (some 8) (t 37)),
 o 39 (.call (.fu 75) [(t 31),(t 38)]),
 n (.store 3 (t 5) (t 39))])
 (.seq (.ops [o 40 (.fld (t 5) 0),
 o 41 (.load none (t 40)),
 o 42 (.bin .eql (t 41) (ci 0))])
 (.cond (t 42)
 (.ops [o 43 (.call (.fu 73) [(ci 0)]),
 n (.store 3 (t 5) (t 43))])
 .skip)))))))))))))
 (.seq (.draw [mv 89 0,
 o 90 (.nilchk (t 89)),
 o 91 (.fld (t 90) 5),
 o 92 (.load none (t 91)),
 mv 93 1,
 mv 94 0,
 o 95 (.nilchk (t 94)),
 o 96 (.fld (t 95) 6),
 o 97 (.load none (t 96)),
 mv 98 1,
 o 99 (.load (some 3) (t 5)),
 o 100 (.ixa 3 (t 92) (t 93)),
 n (.store 3 (t 100) (t 99)),
 o 101 (.ixa 1 (t 97) (t 98)),
 n (.store 1 (t 101) (cb true))]
 [])
 (.seq (.ops [o 102 (.load (some 3) (t 5)),
 n (.store 3 (t 4) (t 102))])
 .ret))))))⟩
theorem comp32:compF Tryz.prog 32 Tryz.f32 ⟨false,[],[],[],[]⟩=some L32:=by kernel_rfl
def L40:LFunc:=⟨5,1,[.t 2],false,none,[],[],
 (.seq (.ops [o 2 (.mov (.cn (.string ⟨#[]⟩)))])
 (.seq (.ops [mv 3 0,
 o 4 (.call (.fu 87) [(t 3)]),
 mv 2 4])
 .ret))⟩
theorem comp40:compF Tryz.prog 40 Tryz.f40 ⟨false,[],[],[],[]⟩=some L40:=by kernel_rfl
def L42:LFunc:=⟨44,2,[.t 4],false,none,[],[],
 (.seq (.ops [o 2 (.box (t 0)),
 o 4 (.mov (.cn (.slice none 0 0)))])
 (.seq (.ops [o 5 (.alloc [.slice none 0 0])])
 (.seq (.seq (.ops [o 9 (.load none (t 2)),
 o 10 (.nilchk (t 9)),
 o 11 (.fld (t 10) 3),
 o 12 (.load none (t 11)),
 mv 13 1,
 o 14 (.ixa 1 (t 12) (t 13)),
 o 15 (.load none (t 14)),
 o 16 (.un .not (t 15))])
 (.cond (t 16)
 (.seq (.ops [o 4 (.mov (.cn (.slice none 0 0)))])
 .ret)
 .skip))
 (.seq (.seq (.ops [o 17 (.load none (t 2)),
 o 18 (.nilchk (t 17)),
 o 19 (.fld (t 18) 2),
 o 20 (.load none (t 19)),
 mv 21 1,
 o 22 (.ixa 8 (t 20) (t 21)),
 o 23 (.load (some 8) (t 22)),
 o 24 (.call (.fu 88) [(t 23)])])
 (.block 0
 (.pre [.bx 5 0 (some 1),.lend 122] (.rfn (t 24) 499754 [2,5] [122]))))
 (.seq (.ops [o 40 (.load none (t 5)),
 o 41 (.call (.fu 89) [(t 40)])])
 (.seq (.ops [o 42 (.load none (t 5)),
 o 43 (.call (.fu 90) [(t 42)]),
 mv 4 43])
 .ret))))))⟩
theorem comp42:compF Tryz.prog 42 Tryz.f42 ⟨false,[],[([.bx 5 0 (some 1),.lend 122],[2,5])],[],[]⟩=some L42:=by kernel_rfl
def L499754:LFunc:=⟨44,1,[],false,some [25],[],[],
 (.seq (.ops [o 6 (.alloc [.int .i64 0,.int .i64 0]),
 n (.store 2 (t 6) (t 25))])
 (.block 1
 (.seq (.draw [o 27 (.load none (t 2)),
 o 28 (.nilchk (t 27)),
 o 29 (.fld (t 28) 1),
 o 30 (.load none (t 29)),
 o 31 (.load (some 2) (t 6)),
 o 32 (.mget 3 [.int .i64 0] true (t 30) (t 31)),
 mv 26 32,
 o 33 (.ext (t 26) 0),
 o 34 (.ext (t 26) 1),
 mv 7 33,
 mv 8 34]
 [])
 (.seq (.ops [mv 35 8])
 (.cond (t 35)
 (.ops [o 36 (.load none (t 5)),
 mv 37 7,
 o 38 (.bsl 1 [.int .i64 0] 1 [(0,(t 37))]),
 o 39 (.app 1 8 false (t 36) (t 38)),
 n (.store 1 (t 5) (t 39))])
 .skip)))))⟩
theorem comp499754:compR Tryz.prog 499754 ⟨false,[],[],[],[]⟩=some L499754:=by kernel_rfl
def L46:LFunc:=⟨9,2,[.t 4],false,none,[],[],
 (.seq (.ops [o 4 (.mov (cb false))])
 (.seq (.ops [mv 5 0,
 mv 6 1,
 o 7 (.call (.fu 93) [(t 5),(t 6)]),
 o 8 (.bin .geq (t 7) (ci 0)),
 mv 4 8])
 .ret))⟩
theorem comp46:compF Tryz.prog 46 Tryz.f46 ⟨false,[],[],[],[]⟩=some L46:=by kernel_rfl
def L47:LFunc:=⟨9,1,[.t 2],false,none,[],[],
 (.seq (.ops [o 2 (.mov (cb false))])
 (.seq (.ops [mv 3 0,
 o 4 (.bin .lss (t 3) (ci 1)),
 mv 5 4,
 ⟨some 6,.mov (t 0),(some (5,false))⟩,
 ⟨some 7,.bin .gtr (t 6) (ci 20),(some (5,false))⟩,
 o 8 (.pick (t 5) (cb true) (t 7)),
 mv 2 8])
 .ret))⟩
theorem comp47:compF Tryz.prog 47 Tryz.f47 ⟨false,[],[],[],[]⟩=some L47:=by kernel_rfl
def L48:LFunc:=⟨21,1,[.t 2],false,none,[],[],
 (.seq (.ops [o 1 (.box (t 0)),
 o 2 (.mov (cb false))])
 (.seq (.ops [o 3 (.fld (t 1) 0),
 o 4 (.load none (t 3)),
 o 5 (.bin .geq (t 4) (ci 1)),
 mv 6 5,
 og 7 6 (.fld (t 1) 0),
 og 8 6 (.load none (t 7)),
 og 9 6 (.bin .leq (t 8) (ci 99)),
 o 10 (.pick (t 6) (t 9) (cb false)),
 mv 11 10,
 og 12 11 (.fld (t 1) 1),
 og 13 11 (.load none (t 12)),
 og 14 11 (.bin .geq (t 13) (ci 1)),
 o 15 (.pick (t 11) (t 14) (cb false)),
 mv 16 15,
 og 17 16 (.fld (t 1) 1),
 og 18 16 (.load none (t 17)),
 og 19 16 (.bin .leq (t 18) (ci 26)),
 o 20 (.pick (t 16) (t 19) (cb false)),
 mv 2 20])
 .ret))⟩
theorem comp48:compF Tryz.prog 48 Tryz.f48 ⟨false,[],[],[],[]⟩=some L48:=by kernel_rfl
def L49:LFunc:=⟨6,1,[.t 2],false,none,[],[],
 (.seq (.ops [o 2 (.mov (cb false))])
 (.seq (.ops [mv 3 0,
 o 4 (.call (.fu 94) [(t 3),(.cn (.string ⟨#[10]⟩))]),
 o 5 (.un .not (t 4)),
 mv 2 5])
 .ret))⟩
theorem comp49:compF Tryz.prog 49 Tryz.f49 ⟨false,[],[],[],[]⟩=some L49:=by kernel_rfl
def L50:LFunc:=⟨20,2,[.t 4],false,none,[],[],
 (.seq (.ops [o 2 (.box (t 0)),
 o 3 (.box (t 1)),
 o 4 (.mov (ci 0))])
 (.seq (.seq (.ops [o 5 (.fld (t 2) 0),
 o 6 (.load none (t 5)),
 o 7 (.fld (t 3) 0),
 o 8 (.load none (t 7)),
 o 9 (.bin .neq (t 6) (t 8))])
 (.cond (t 9)
 (.seq (.ops [o 10 (.fld (t 2) 0),
 o 11 (.load none (t 10)),
 o 12 (.fld (t 3) 0),
 o 13 (.load none (t 12)),
 o 14 (.bin .sub (t 11) (t 13)),
 mv 4 14])
 .ret)
 .skip))
 (.seq (.ops [o 15 (.fld (t 2) 1),
 o 16 (.load none (t 15)),
 o 17 (.fld (t 3) 1),
 o 18 (.load none (t 17)),
 o 19 (.bin .sub (t 16) (t 18)),
 mv 4 19])
 .ret)))⟩
theorem comp50:compF Tryz.prog 50 Tryz.f50 ⟨false,[],[],[],[]⟩=some L50:=by kernel_rfl
def L51:LFunc:=⟨9,2,[.t 4],false,none,[],[],
 (.seq (.ops [o 4 (.mov (cb false))])
 (.seq (.ops [mv 5 0,
 mv 6 1,
 o 7 (.call (.fu 95) [(t 5),(t 6)]),
 o 8 (.bin .geq (t 7) (ci 0)),
 mv 4 8])
 .ret))⟩
theorem comp51:compF Tryz.prog 51 Tryz.f51 ⟨false,[],[],[],[]⟩=some L51:=by kernel_rfl
def L52:LFunc:=⟨6,1,[.t 2],false,none,[],[],
 (.seq (.ops [o 2 (.mov (cb false))])
 (.seq (.ops [mv 3 0,
 o 4 (.call (.fu 49) [(t 3)]),
 o 5 (.un .not (t 4)),
 mv 2 5])
 .ret))⟩
theorem comp52:compF Tryz.prog 52 Tryz.f52 ⟨false,[],[],[],[]⟩=some L52:=by kernel_rfl
def L55:LFunc:=⟨11,2,[.t 4,.t 5],false,none,[],[],
 (.seq (.ops [o 4 (.mov (.cn (.string ⟨#[]⟩))),
 o 5 (.mov (cb false))])
 (.seq (.ops [mv 6 0,
 mv 7 1,
 o 8 (.call (.fu 96) [(t 6),(t 7)]),
 o 9 (.ext (t 8) 0),
 o 10 (.ext (t 8) 1),
 mv 4 9,
 mv 5 10])
 .ret))⟩
theorem comp55:compF Tryz.prog 55 Tryz.f55 ⟨false,[],[],[],[]⟩=some L55:=by kernel_rfl
def L57:LFunc:=⟨48,2,[.t 4],true,none,[],[],
 (.seq (.ops [o 4 (.mov (.cn (.slice none 0 0)))])
 (.seq (.seq (.ops [mv 9 1,
 o 10 (.bin .lss (t 9) (ci 0))])
 (.cond (t 10)
 (.ops [o 11 (.bad),
 n (.bad)])
 .skip))
 (.seq (.ops [mv 13 0,
 o 14 (.len (t 13)),
 o 15 (.conv .u64 (t 14)),
 mv 16 1,
 o 17 (.conv .u64 (t 16)),
 o 18 (.call (.fu 97) [(t 15),(t 17)]),
 mv 12 18,
 o 19 (.ext (t 12) 0),
 o 20 (.ext (t 12) 1),
 mv 5 19,
 mv 6 20])
 (.seq (.seq (.ops [mv 21 5,
 o 22 (.bin .gtr (t 21) (.cn (.int .u64 0))),
 mv 23 22,
 ⟨some 24,.mov (t 6),(some (23,false))⟩,
 ⟨some 25,.bin .gtr (t 24) (.cn (.int .u64 9223372036854775807)),(some (23,false))⟩,
 o 26 (.pick (t 23) (cb true) (t 25))])
 (.cond (t 26)
 (.ops [o 27 (.bad),
 n (.bad)])
 .skip))
 (.seq (.ops [mv 28 6,
 o 29 (.conv .i64 (t 28)),
 o 30 (.mks 1 8 [.int .i64 0] (t 29) (t 29)),
 mv 7 30])
 (.seq (.ops [mv 31 7,
 mv 32 0,
 o 33 (.cpy 1 (t 31) (t 32)),
 mv 8 33])
 (.seq (.block 0
 (.loop [7,8]
 (.seq (.seq (.ops [mv 34 8,
 mv 35 7,
 o 36 (.len (t 35)),
 o 37 (.bin .lss (t 34) (t 36))])
 (.cond (t 37)
 .skip
 (.exit 0)))
 (.block 1
 (.draw [mv 38 8,
 mv 39 7,
 mv 40 8,
 o 41 (.slc 1 (t 39) (some (t 40)) none none),
 mv 42 7,
 mv 43 8,
 o 44 (.slc 1 (t 42) none (some (t 43)) none),
 o 45 (.cpy 1 (t 41) (t 44)),
 o 46 (.bin .add (t 38) (t 45)),
 mv 8 46]
 [])))))
 (.seq (.ops [mv 47 7,
 mv 4 47])
 .ret))))))))⟩
theorem comp57:compF Tryz.prog 57 Tryz.f57 ⟨true,[],[([],[7,8])],[],[]⟩=some L57:=by kernel_rfl
def L58:LFunc:=⟨8,2,[.t 4],false,none,[],[],
 (.seq (.ops [o 4 (.mov (.cn (.nilFunc)))])
 (.seq (.ops [mv 5 0,
 mv 6 1,
 o 7 (.call (.fu 98) [(t 5),(t 6),(ci 0)]),
 mv 4 7])
 .ret))⟩
theorem comp58:compF Tryz.prog 58 Tryz.f58 ⟨false,[],[],[],[]⟩=some L58:=by kernel_rfl
def L59:LFunc:=⟨95,3,[],false,none,[],[],
 (.seq (.seq (.ops [mv 18 2,
 o 19 (.call (.fu 99) [(t 18),(.cn (.string ⟨#[61]⟩))]),
 mv 17 19,
 o 20 (.ext (t 17) 0),
 o 21 (.ext (t 17) 1),
 o 22 (.ext (t 17) 2),
 mv 6 20,
 mv 7 21,
 mv 8 22])
 (.seq (.ops [mv 23 8])
 (.cond (t 23)
 (.seq (.ops [mv 25 6,
 o 26 (.call (.fu 100) [(t 25)]),
 mv 24 26,
 o 27 (.ext (t 24) 0),
 o 28 (.ext (t 24) 1),
 o 9 (.alloc [.int .i64 0,.int .i64 0]),
 n (.store 2 (t 9) (t 27)),
 mv 10 28])
 (.seq (.ops [mv 29 10])
 (.cond (t 29)
 (.seq (.ops [mv 30 1,
 o 31 (.load (some 2) (t 9)),
 n (.mdel 3 (t 30) (t 31))])
 (.seq (.seq (.ops [mv 32 7,
 o 33 (.bin .neq (t 32) (.cn (.string ⟨#[]⟩)))])
 (.cond (t 33)
 (.ops [mv 34 1,
 o 35 (.load (some 2) (t 9)),
 mv 36 7,
 n (.mset 3 (t 34) (t 35) (t 36))])
 .skip))
 .ret))
 .skip)))
 .skip)))
 (.seq (.seq (.ops [mv 38 2,
 o 39 (.call (.fu 55) [(t 38),(.cn (.string ⟨#[109,97,99,114,111,32]⟩))]),
 mv 37 39,
 o 40 (.ext (t 37) 0),
 o 41 (.ext (t 37) 1),
 mv 11 40,
 mv 12 41])
 (.seq (.ops [mv 42 12])
 (.cond (t 42)
 (.seq (.ops [mv 43 0,
 mv 44 0,
 o 45 (.nilchk (t 44)),
 o 46 (.fld (t 45) 2),
 o 47 (.load none (t 46)),
 mv 48 11,
 o 49 (.bsl 1 [.string ⟨#[]⟩] 1 [(0,(t 48))]),
 o 50 (.app 1 16 false (t 47) (t 49)),
 o 51 (.nilchk (t 43)),
 o 52 (.fld (t 51) 2),
 n (.store 1 (t 52) (t 50))])
 .ret)
 .skip)))
 (.seq (.ops [mv 54 2,
 o 55 (.call (.fu 55) [(t 54),(.cn (.string ⟨#[119,105,100,116,104,32]⟩))]),
 mv 53 55,
 o 56 (.ext (t 53) 0),
 o 57 (.ext (t 53) 1),
 mv 13 56,
 mv 14 57])
 (.seq (.seq (.ops [mv 58 14,
 o 59 (.un .not (t 58)),
 mv 60 59,
 ⟨some 61,.mov (t 13),(some (60,false))⟩,
 ⟨some 62,.slen (t 61),(some (60,false))⟩,
 ⟨some 63,.bin .lss (t 62) (ci 3),(some (60,false))⟩,
 o 64 (.pick (t 60) (cb true) (t 63)),
 mv 65 64,
 ⟨some 66,.mov (t 13),(some (65,false))⟩,
 ⟨some 67,.ixs (t 66) (ci 1),(some (65,false))⟩,
 ⟨some 68,.bin .neq (t 67) (.cn (.int .u8 32)),(some (65,false))⟩,
 o 69 (.pick (t 65) (cb true) (t 68)),
 mv 70 69,
 ⟨some 71,.mov (t 13),(some (70,false))⟩,
 ⟨some 72,.ixs (t 71) (ci 0),(some (70,false))⟩,
 ⟨some 73,.call (.fu 101) [(t 72)],(some (70,false))⟩,
 ⟨some 74,.bin .eql (t 73) (ci 0),(some (70,false))⟩,
 o 75 (.pick (t 70) (cb true) (t 74))])
 (.cond (t 75)
 .ret
 .skip))
 (.seq (.ops [mv 77 13,
 o 78 (.slcs (t 77) (some (ci 2)) none),
 o 79 (.call (.fu 70) [(t 78)]),
 mv 76 79,
 o 80 (.ext (t 76) 0),
 o 81 (.ext (t 76) 1),
 mv 15 80,
 mv 16 81])
 (.seq (.ops [mv 82 16])
 (.cond (t 82)
 (.draw [mv 83 0,
 o 84 (.nilchk (t 83)),
 o 85 (.fld (t 84) 1),
 o 86 (.load none (t 85)),
 mv 87 13,
 o 88 (.ixs (t 87) (ci 0)),
 o 89 (.call (.fu 101) [(t 88)]),
 o 90 (.bin .sub (t 89) (ci 1)),
 mv 91 15,
 o 92 (.mn [(t 91),(ci 20)]),
 o 93 (.mx [(ci 1),(t 92)]),
 o 94 (.ixa 1 (t 86) (t 90)),
 n (.store 1 (t 94) (t 93))]
 [(3,6)])
 .skip)))))))⟩
theorem comp59:compF Tryz.prog 59 Tryz.f59 ⟨false,[],[],[],[]⟩=some L59:=by kernel_rfl
def L60:LFunc:=⟨22,1,[.t 2],true,none,[],[],
 (.seq (.ops [o 2 (.mov (.cn (.slice none 0 0)))])
 (.seq (.ops [o 3 (.mov (.cn (.slice none 0 0)))])
 (.seq (.ops [mv 6 0,
 o 7 (.mrng (t 6))])
 (.pre [.tmp 3 (some 3)] (.rng [3,7] 8 9 7 0
 (.block 1
 (.seq (.ops [o 10 (.ment (t 7)),
 o 11 (.ext (t 10) 0),
 o 12 (.ext (t 10) 1),
 o 4 (.alloc [.int .i64 0,.int .i64 0]),
 n (.store 2 (t 4) (t 11)),
 mv 5 12])
 (.ops [mv 13 3,
 o 14 (.load (some 2) (t 4)),
 mv 15 5,
 o 16 (.build [.int .i64 0,.int .i64 0,.string ⟨#[]⟩] [(0,2,(t 14)),(2,1,(t 15))]),
 o 17 (.bsl 3 [.int .i64 0,.int .i64 0,.string ⟨#[]⟩] 1 [(0,(t 16))]),
 o 18 (.app 3 32 false (t 13) (t 17)),
 mv 3 18])))
 (.seq (.ops [mv 19 3,
 o 20 (.call (.fu 102) [(t 19),(.fu 103)])])
 (.seq (.ops [mv 21 3,
 mv 2 21])
 .ret)) [2])))))⟩
theorem comp60:compF Tryz.prog 60 Tryz.f60 ⟨true,[],[([.tmp 3 (some 3)],[3,7]),([],[2])],[],[]⟩=some L60:=by kernel_rfl
def L61:LFunc:=⟨28,1,[.t 2,.t 3],false,none,[],[],
 (.seq (.ops [o 2 (.mov (.cn (.slice none 0 0))),
 o 3 (.mov (cb false))])
 (.seq (.ops [o 4 (.mov (.cn (.slice none 0 0)))])
 (.seq (.seq (.ops [mv 7 0,
 o 8 (.call (.fu 104) [(t 7),(.cn (.string ⟨#[32]⟩))]),
 mv 0 8])
 (.block 0
 (.pre [.tmp 4 (some 5)] (.loop [0,4]
 (.seq (.seq (.ops [mv 9 0,
 o 10 (.bin .neq (t 9) (.cn (.string ⟨#[]⟩)))])
 (.cond (t 10)
 .skip
 (.exit 0)))
 (.seq (.block 1
 (.seq (.ops [mv 14 0,
 o 15 (.call (.fu 105) [(t 14)]),
 mv 13 15,
 o 16 (.ext (t 13) 0),
 o 17 (.ext (t 13) 1),
 o 5 (.alloc [.int .i64 0,.string ⟨#[]⟩,.int .i64 0,.int .i64 0,.int .i64 0]),
 n (.store 5 (t 5) (t 16)),
 mv 6 17])
 (.seq (.seq (.ops [mv 18 6,
 o 19 (.bin .eql (t 18) (ci 0))])
 (.cond (t 19)
 (.seq (.ops [o 2 (.mov (.cn (.slice none 0 0))),
 o 3 (.mov (cb false))])
 .ret)
 .skip))
 (.seq (.ops [mv 20 4,
 o 21 (.load (some 5) (t 5)),
 o 22 (.bsl 5 [.int .i64 0,.string ⟨#[]⟩,.int .i64 0,.int .i64 0,.int .i64 0] 1 [(0,(t 21))]),
 o 23 (.app 5 48 false (t 20) (t 22)),
 mv 4 23])
 (.ops [mv 24 0,
 mv 25 6,
 o 26 (.slcs (t 24) (some (t 25)) none),
 mv 0 26])))))
 (.ops [mv 11 0,
 o 12 (.call (.fu 104) [(t 11),(.cn (.string ⟨#[32]⟩))]),
 mv 0 12])))))))
 (.seq (.ops [mv 27 4,
 mv 2 27,
 o 3 (.mov (cb true))])
 .ret))))⟩
theorem comp61:compF Tryz.prog 61 Tryz.f61 ⟨false,[],[([.tmp 4 (some 5)],[0,4])],[],[]⟩=some L61:=by kernel_rfl
def L62:LFunc:=⟨22,1,[.cell 2 (some 8)],false,none,[],[],
 (.seq (.ops [o 2 (.alloc [.int .i64 0,.int .i64 0,.string ⟨#[]⟩,.int .i64 0,.int .i64 0,.int .i64 0,.int .i64 0,.slice none 0 0])])
 (.seq (.ops [mv 6 0,
 o 7 (.call (.fu 106) [(t 6)]),
 o 3 (.alloc [.int .i64 0,.int .i64 0,.string ⟨#[]⟩,.int .i64 0,.int .i64 0,.int .i64 0,.int .i64 0,.slice none 0 0]),
 n (.store 8 (t 3) (t 7))])
 (.seq (.seq (.ops [mv 9 0,
 o 10 (.bsl 1 [.string ⟨#[]⟩] 6 [(0,(.cn (.string ⟨#[61]⟩))),(1,(.cn (.string ⟨#[60,62]⟩))),(2,(.cn (.string ⟨#[60]⟩))),(3,(.cn (.string ⟨#[60,61]⟩))),(4,(.cn (.string ⟨#[62]⟩))),(5,(.cn (.string ⟨#[62,61]⟩)))]),
 o 11 (.call (.fu 107) [(t 9),(t 10)]),
 mv 8 11,
 o 12 (.ext (t 8) 0),
 o 13 (.ext (t 8) 1),
 mv 4 12,
 mv 5 13])
 (.seq (.ops [mv 14 5])
 (.cond (t 14)
 (.draw [mv 15 4,
 o 16 (.load (some 8) (t 3)),
 mv 17 0,
 o 18 (.call (.fu 106) [(t 17)]),
 o 19 (.bsl 8 [.int .i64 0,.int .i64 0,.string ⟨#[]⟩,.int .i64 0,.int .i64 0,.int .i64 0,.int .i64 0,.slice none 0 0] 2 [(0,(t 16)),(1,(t 18))]),
 o 20 (.build [.int .i64 0,.int .i64 0,.string ⟨#[]⟩,.int .i64 0,.int .i64 0,.int .i64 0,.int .i64 0,.slice none 0 0] [(0,1,(ci 5)),(2,1,(t 15)),(7,1,(t 19))]),
 n (.store 8 (t 3) (t 20))]
 [(1,3)])
 .skip)))
 (.seq (.ops [o 21 (.load (some 8) (t 3)),
 n (.store 8 (t 2) (t 21))])
 .ret))))⟩
theorem comp62:compF Tryz.prog 62 Tryz.f62 ⟨false,[],[],[],[]⟩=some L62:=by kernel_rfl
def L64:LFunc:=⟨20,1,[.t 2],false,none,[],[],
 (.seq (.ops [o 1 (.box (t 0)),
 o 2 (.mov (.cn (.string ⟨#[]⟩)))])
 (.seq (.ops [o 4 (.fld (t 1) 1),
 o 5 (.load none (t 4)),
 o 6 (.mn [(t 5),(ci 26)]),
 o 7 (.mx [(ci 1),(t 6)]),
 mv 3 7])
 (.seq (.draw [mv 8 3,
 o 9 (.bin .add (ci 65) (t 8)),
 o 10 (.bin .sub (t 9) (ci 1)),
 o 11 (.conv .u8 (t 10)),
 o 12 (.bsl 1 [.int .u8 0] 1 [(0,(t 11))]),
 o 13 (.b2s (t 12)),
 o 14 (.fld (t 1) 0),
 o 15 (.load none (t 14)),
 o 16 (.mn [(t 15),(ci 99)]),
 o 17 (.mx [(ci 1),(t 16)]),
 o 18 (.call (.fu 40) [(t 17)]),
 o 19 (.bin .add (t 13) (t 18)),
 mv 2 19]
 [(4,7),(4,10),(5,10)])
 .ret)))⟩
theorem comp64:compF Tryz.prog 64 Tryz.f64 ⟨false,[],[],[],[]⟩=some L64:=by kernel_rfl
def L66:LFunc:=⟨36,1,[.t 2],false,none,[],[],
 (.seq (.ops [o 1 (.box (t 0)),
 o 2 (.mov (ci 0))])
 (.seq (.ops [o 3 (.fld (t 1) 3),
 o 4 (.fld (t 3) 0),
 o 5 (.load none (t 4)),
 o 6 (.fld (t 1) 5),
 o 7 (.fld (t 6) 0),
 o 8 (.load none (t 7)),
 o 9 (.mx [(t 5),(t 8)]),
 o 10 (.bin .add (ci 1) (t 9)),
 o 11 (.fld (t 1) 3),
 o 12 (.fld (t 11) 0),
 o 13 (.load none (t 12)),
 o 14 (.fld (t 1) 5),
 o 15 (.fld (t 14) 0),
 o 16 (.load none (t 15)),
 o 17 (.mn [(t 13),(t 16)]),
 o 18 (.bin .sub (t 10) (t 17)),
 o 19 (.fld (t 1) 3),
 o 20 (.fld (t 19) 1),
 o 21 (.load none (t 20)),
 o 22 (.fld (t 1) 5),
 o 23 (.fld (t 22) 1),
 o 24 (.load none (t 23)),
 o 25 (.mx [(t 21),(t 24)]),
 o 26 (.bin .add (ci 1) (t 25)),
 o 27 (.fld (t 1) 3),
 o 28 (.fld (t 27) 1),
 o 29 (.load none (t 28)),
 o 30 (.fld (t 1) 5),
 o 31 (.fld (t 30) 1),
 o 32 (.load none (t 31)),
 o 33 (.mn [(t 29),(t 32)]),
 o 34 (.bin .sub (t 26) (t 33)),
 o 35 (.bin .mul (t 18) (t 34)),
 mv 2 35])
 .ret))⟩
theorem comp66:compF Tryz.prog 66 Tryz.f66 ⟨false,[],[],[],[]⟩=some L66:=by kernel_rfl
def L67:LFunc:=⟨132,1,[],false,none,[.bx 4 0 (some 1)],[],
 (.seq (.ops [o 14 (.load none (t 1)),
 o 15 (.bin .add (t 14) (ci 1)),
 n (.store 1 (t 1) (t 15))])
 (.seq (.draw [o 16 (.load none (t 2)),
 mv 17 0,
 o 18 (.load none (t 3)),
 mv 19 0,
 o 20 (.load none (t 1)),
 o 21 (.load none (t 1)),
 o 22 (.ixa 1 (t 16) (t 17)),
 n (.store 1 (t 22) (t 20)),
 o 23 (.ixa 1 (t 18) (t 19)),
 n (.store 1 (t 23) (t 21))]
 [(2,7),(5,7)])
 (.seq (.draw [o 24 (.load none (t 5)),
 mv 25 0,
 o 26 (.load none (t 4)),
 mv 27 0,
 o 28 (.bsl 1 [.int .i64 0] 1 [(0,(t 27))]),
 o 29 (.app 1 8 false (t 26) (t 28)),
 n (.store 1 (t 4) (t 29)),
 o 30 (.ixa 1 (t 24) (t 25)),
 n (.store 1 (t 30) (cb true))]
 [(0,4),(2,4),(0,5),(0,6)])
 (.seq (.seq (.ops [o 31 (.load none (t 6)),
 mv 32 0,
 o 33 (.call (.fu 42) [(t 31),(t 32)]),
 o 34 (.len (t 33)),
 o 35 (.mov (ci 0))])
 (.block 0
 (.pre [.bx 4 0 (some 1)] (.loop [0,2,3,4,5,6,7,33,34,35]
 (.seq (.ops [o 36 (.bin .lss (t 35) (t 34))])
 (.seq (.cond (t 36)
 .skip
 (.exit 0))
 (.seq (.block 1
 (.seq (.ops [o 37 (.ixa 1 (t 33) (t 35)),
 o 38 (.load none (t 37)),
 mv 10 38])
 (.seq (.seq (.ops [mv 39 10,
 mv 40 0,
 o 41 (.bin .eql (t 39) (t 40))])
 (.cond (t 41)
 (.ops [o 42 (.load none (t 6)),
 o 43 (.nilchk (t 42)),
 o 44 (.fld (t 43) 4),
 o 45 (.load none (t 44)),
 mv 46 0,
 o 47 (.ixa 1 (t 45) (t 46)),
 n (.store 1 (t 47) (cb true))])
 .skip))
 (.seq (.ops [o 48 (.load none (t 3)),
 mv 49 10,
 o 50 (.ixa 1 (t 48) (t 49)),
 o 51 (.load none (t 50)),
 o 52 (.bin .eql (t 51) (ci 0))])
 (.cond (t 52)
 (.seq (.ops [o 53 (.load none (t 7)),
 mv 54 10,
 o 55 (.call (t 53) [(t 54)])])
 (.draw [o 56 (.load none (t 2)),
 mv 57 0,
 o 58 (.load none (t 2)),
 mv 59 0,
 o 60 (.ixa 1 (t 58) (t 59)),
 o 61 (.load none (t 60)),
 o 62 (.load none (t 2)),
 mv 63 10,
 o 64 (.ixa 1 (t 62) (t 63)),
 o 65 (.load none (t 64)),
 o 66 (.mn [(t 61),(t 65)]),
 o 67 (.ixa 1 (t 56) (t 57)),
 n (.store 1 (t 67) (t 66))]
 []))
 (.seq (.ops [o 68 (.load none (t 5)),
 mv 69 10,
 o 70 (.ixa 1 (t 68) (t 69)),
 o 71 (.load none (t 70))])
 (.cond (t 71)
 (.draw [o 72 (.load none (t 2)),
 mv 73 0,
 o 74 (.load none (t 2)),
 mv 75 0,
 o 76 (.ixa 1 (t 74) (t 75)),
 o 77 (.load none (t 76)),
 o 78 (.load none (t 3)),
 mv 79 10,
 o 80 (.ixa 1 (t 78) (t 79)),
 o 81 (.load none (t 80)),
 o 82 (.mn [(t 77),(t 81)]),
 o 83 (.ixa 1 (t 72) (t 73)),
 n (.store 1 (t 83) (t 82))]
 [])
 .skip)))))))
 (.ops [o 84 (.bin .add (t 35) (ci 1)),
 mv 35 84]))))))))
 (.seq (.seq (.draw [o 85 (.load none (t 2)),
 mv 86 0,
 o 87 (.ixa 1 (t 85) (t 86)),
 o 88 (.load none (t 87)),
 o 89 (.load none (t 3)),
 mv 90 0,
 o 91 (.ixa 1 (t 89) (t 90)),
 o 92 (.load none (t 91)),
 o 93 (.bin .neq (t 88) (t 92))]
 [])
 (.cond (t 93)
 .ret
 .skip))
 (.seq (.ops [o 94 (.load none (t 4)),
 mv 95 0,
 o 96 (.call (.fu 68) [(t 94),(t 95)]),
 mv 11 96])
 (.seq (.seq (.ops [o 97 (.load none (t 4)),
 mv 98 11,
 o 99 (.slc 1 (t 97) (some (t 98)) none none),
 o 100 (.len (t 99)),
 o 101 (.mov (ci 0))])
 (.block 2
 (.loop [4,5,6,11,99,100,101]
 (.seq (.ops [o 102 (.bin .lss (t 101) (t 100))])
 (.seq (.cond (t 102)
 .skip
 (.exit 2))
 (.seq (.block 3
 (.seq (.ops [o 103 (.ixa 1 (t 99) (t 101)),
 o 104 (.load none (t 103)),
 mv 13 104])
 (.seq (.ops [o 105 (.load none (t 5)),
 mv 106 13,
 o 107 (.ixa 1 (t 105) (t 106)),
 n (.store 1 (t 107) (cb false))])
 (.draw [o 108 (.load none (t 6)),
 o 109 (.nilchk (t 108)),
 o 110 (.fld (t 109) 4),
 o 111 (.load none (t 110)),
 mv 112 13,
 o 113 (.load none (t 6)),
 o 114 (.nilchk (t 113)),
 o 115 (.fld (t 114) 4),
 o 116 (.load none (t 115)),
 mv 117 13,
 o 118 (.ixa 1 (t 116) (t 117)),
 o 119 (.load none (t 118)),
 mv 120 119,
 ⟨some 121,.load none (t 4),(some (120,false))⟩,
 ⟨some 122,.len (t 121),(some (120,false))⟩,
 ⟨some 123,.mov (t 11),(some (120,false))⟩,
 ⟨some 124,.bin .sub (t 122) (t 123),(some (120,false))⟩,
 ⟨some 125,.bin .gtr (t 124) (ci 1),(some (120,false))⟩,
 o 126 (.pick (t 120) (cb true) (t 125)),
 o 127 (.ixa 1 (t 111) (t 112)),
 n (.store 1 (t 127) (t 126))]
 []))))
 (.ops [o 128 (.bin .add (t 101) (ci 1)),
 mv 101 128])))))))
 (.ops [o 129 (.load none (t 4)),
 mv 130 11,
 o 131 (.slc 1 (t 129) none (some (t 130)) none),
 n (.store 1 (t 4) (t 131))]))))))))⟩
theorem comp67:compF Tryz.prog 67 Tryz.f67 ⟨false,[],[([.bx 4 0 (some 1)],[0,2,3,4,5,6,7,33,34,35]),([],[4,5,6,11,99,100,101])],[.bx 4 0 (some 1)],[]⟩=some L67:=by kernel_rfl
def L68:LFunc:=⟨19,2,[.t 4],false,none,[],[],
 (.seq (.ops [o 4 (.mov (ci 0))])
 (.seq (.seq (.ops [mv 6 0,
 o 7 (.len (t 6)),
 o 8 (.mov (ci 0))])
 (.block 0
 (.loop [0,1,7,8]
 (.seq (.ops [o 9 (.bin .lss (t 8) (t 7))])
 (.seq (.cond (t 9)
 .skip
 (.exit 0))
 (.seq (.block 1
 (.seq (.ops [mv 10 8,
 mv 5 10])
 (.seq (.ops [mv 11 1,
 mv 12 0,
 mv 13 5,
 o 14 (.ixa 1 (t 12) (t 13)),
 o 15 (.load none (t 14)),
 o 16 (.bin .eql (t 11) (t 15))])
 (.cond (t 16)
 (.seq (.ops [mv 17 5,
 mv 4 17])
 .ret)
 .skip))))
 (.ops [o 18 (.bin .add (t 8) (ci 1)),
 mv 8 18])))))))
 (.seq (.ops [o 4 (.mov (ci (-1)))])
 .ret)))⟩
theorem comp68:compF Tryz.prog 68 Tryz.f68 ⟨false,[],[([],[0,1,7,8])],[],[]⟩=some L68:=by kernel_rfl
def L69:LFunc:=⟨5,1,[.cell 2 (some 3)],false,none,[],[],
 (.seq (.ops [o 2 (.alloc [.int .i64 0,.int .i64 0,.string ⟨#[]⟩])])
 (.seq (.ops [mv 3 0,
 o 4 (.build [.int .i64 0,.int .i64 0,.string ⟨#[]⟩] [(0,1,(ci 2)),(2,1,(t 3))]),
 n (.store 3 (t 2) (t 4))])
 .ret))⟩
theorem comp69:compF Tryz.prog 69 Tryz.f69 ⟨false,[],[],[],[]⟩=some L69:=by kernel_rfl
def L70:LFunc:=⟨20,1,[.t 2,.t 3],false,none,[],[],
 (.seq (.ops [o 2 (.mov (ci 0)),
 o 3 (.mov (cb false))])
 (.seq (.ops [mv 7 0,
 o 8 (.call (.fu 112) [(t 7)]),
 mv 6 8,
 o 9 (.ext (t 6) 0),
 o 10 (.ext (t 6) 1),
 mv 4 9,
 mv 5 10])
 (.seq (.seq (.ops [mv 11 5,
 o 12 (.isnil 3 true (t 11)),
 mv 13 12,
 ⟨some 14,.mov (t 4),(some (13,false))⟩,
 ⟨some 15,.call (.fu 87) [(t 14)],(some (13,false))⟩,
 ⟨some 16,.mov (t 0),(some (13,false))⟩,
 ⟨some 17,.bin .neq (t 15) (t 16),(some (13,false))⟩,
 o 18 (.pick (t 13) (cb true) (t 17))])
 (.cond (t 18)
 (.seq (.ops [o 2 (.mov (ci 0)),
 o 3 (.mov (cb false))])
 .ret)
 .skip))
 (.seq (.ops [mv 19 4,
 mv 2 19,
 o 3 (.mov (cb true))])
 .ret))))⟩
theorem comp70:compF Tryz.prog 70 Tryz.f70 ⟨false,[],[],[],[]⟩=some L70:=by kernel_rfl
def L71:LFunc:=⟨10,3,[.cell 6 (some 3)],false,none,[],[],
 (.seq (.ops [o 4 (.box (t 1)),
 o 5 (.box (t 2)),
 o 6 (.alloc [.int .i64 0,.int .i64 0,.string ⟨#[]⟩])])
 (.seq (.seq (.ops [mv 7 0])
 (.cond (t 7)
 (.seq (.ops [o 8 (.load (some 3) (t 4)),
 n (.store 3 (t 6) (t 8))])
 .ret)
 .skip))
 (.seq (.ops [o 9 (.load (some 3) (t 5)),
 n (.store 3 (t 6) (t 9))])
 .ret)))⟩
theorem comp71:compF Tryz.prog 71 Tryz.f71 ⟨false,[],[],[],[]⟩=some L71:=by kernel_rfl
def L72:LFunc:=⟨9,1,[.t 2],false,none,[],[],
 (.seq (.ops [o 2 (.mov (cb false))])
 (.seq (.ops [mv 3 0,
 o 4 (.bin .geq (t 3) (ci (-999999999))),
 mv 5 4,
 mg 6 5 0,
 og 7 5 (.bin .leq (t 6) (ci 999999999)),
 o 8 (.pick (t 5) (t 7) (cb false)),
 mv 2 8])
 .ret))⟩
theorem comp72:compF Tryz.prog 72 Tryz.f72 ⟨false,[],[],[],[]⟩=some L72:=by kernel_rfl
def L73:LFunc:=⟨5,1,[.cell 2 (some 3)],false,none,[],[],
 (.seq (.ops [o 2 (.alloc [.int .i64 0,.int .i64 0,.string ⟨#[]⟩])])
 (.seq (.ops [mv 3 0,
 o 4 (.build [.int .i64 0,.int .i64 0,.string ⟨#[]⟩] [(0,1,(ci 1)),(1,1,(t 3))]),
 n (.store 3 (t 2) (t 4))])
 .ret))⟩
theorem comp73:compF Tryz.prog 73 Tryz.f73 ⟨false,[],[],[],[]⟩=some L73:=by kernel_rfl
def L74:LFunc:=⟨5,1,[.cell 2 (some 3)],false,none,[],[],
 (.seq (.ops [o 2 (.alloc [.int .i64 0,.int .i64 0,.string ⟨#[]⟩])])
 (.seq (.ops [mv 3 0,
 o 4 (.build [.int .i64 0,.int .i64 0,.string ⟨#[]⟩] [(0,1,(ci 3)),(2,1,(t 3))]),
 n (.store 3 (t 2) (t 4))])
 .ret))⟩
theorem comp74:compF Tryz.prog 74 Tryz.f74 ⟨false,[],[],[],[]⟩=some L74:=by kernel_rfl
def L75:LFunc:=⟨41,2,[.cell 4 (some 3)],false,none,[],[],
 (.seq (.ops [o 3 (.box (t 1)),
 o 4 (.alloc [.int .i64 0,.int .i64 0,.string ⟨#[]⟩])])
 (.seq (.ops [mv 5 0,
 o 6 (.call (.fu 29) [(t 5),(ci 1)])])
 (.seq (.seq (.ops [mv 7 0,
 o 8 (.nilchk (t 7)),
 o 9 (.fld (t 8) 8),
 o 10 (.load none (t 9))])
 (.cond (t 10)
 (.seq (.ops [o 11 (.build [.int .i64 0,.int .i64 0,.string ⟨#[]⟩] []),
 n (.store 3 (t 4) (t 11))])
 .ret)
 .skip))
 (.seq (.seq (.ops [o 12 (.fld (t 3) 0),
 o 13 (.load none (t 12))])
 (.block 0
 (.seq (.ops [o 15 (.bin .eql (t 13) (ci 1)),
 mv 14 15])
 (.cond (t 14)
 (.seq (.ops [o 16 (.fld (t 3) 1),
 o 17 (.load none (t 16)),
 o 18 (.call (.fu 73) [(t 17)]),
 n (.store 3 (t 4) (t 18))])
 .ret)
 (.seq (.ops [o 20 (.bin .eql (t 13) (ci 2)),
 mv 19 20])
 (.cond (t 19)
 (.seq (.ops [o 21 (.fld (t 3) 2),
 o 22 (.load none (t 21)),
 o 23 (.call (.fu 69) [(t 22)]),
 n (.store 3 (t 4) (t 23))])
 .ret)
 (.seq (.ops [o 25 (.bin .eql (t 13) (ci 3)),
 mv 24 25])
 (.cond (t 24)
 (.seq (.ops [mv 26 0,
 o 27 (.fld (t 3) 3),
 o 28 (.load (some 2) (t 27)),
 o 29 (.call (.fu 113) [(t 26),(t 28)]),
 n (.store 3 (t 4) (t 29))])
 .ret)
 (.seq (.ops [o 31 (.bin .eql (t 13) (ci 5)),
 mv 30 31])
 (.cond (t 30)
 (.seq (.ops [mv 32 0,
 o 33 (.load (some 8) (t 3)),
 o 34 (.call (.fu 114) [(t 32),(t 33)]),
 n (.store 3 (t 4) (t 34))])
 .ret)
 (.seq (.ops [o 36 (.bin .eql (t 13) (ci 6)),
 mv 35 36])
 (.cond (t 35)
 (.seq (.ops [mv 37 0,
 o 38 (.load (some 8) (t 3)),
 o 39 (.call (.fu 115) [(t 37),(t 38)]),
 n (.store 3 (t 4) (t 39))])
 .ret)
 .skip))))))))))))
 (.seq (.ops [o 40 (.call (.fu 74) [(.cn (.string ⟨#[35,86,65,76]⟩))]),
 n (.store 3 (t 4) (t 40))])
 .ret)))))⟩
theorem comp75:compF Tryz.prog 75 Tryz.f75 ⟨false,[],[],[],[]⟩=some L75:=by kernel_rfl
def L88:LFunc:=⟨4,1,[.t 2],false,none,[],[],
 (.seq (.ops [o 1 (.box (t 0)),
 o 2 (.mov (.cn (.nilFunc)))])
 (.seq (.ops [o 3 (.mkf 122 [(t 1)]),
 mv 2 3])
 .ret))⟩
theorem comp88:compF Tryz.prog 88 Tryz.f88 ⟨false,[],[],[],[]⟩=some L88:=by kernel_rfl
def L90:LFunc:=⟨61,1,[.t 2],false,none,[],[],
 (.seq (.ops [o 2 (.mov (.cn (.slice none 0 0)))])
 (.seq (.seq (.ops [mv 6 0,
 o 7 (.len (t 6)),
 o 8 (.bin .lss (t 7) (ci 2))])
 (.cond (t 8)
 (.seq (.ops [mv 9 0,
 mv 2 9])
 .ret)
 .skip))
 (.seq (.seq (.ops [o 3 (.mov (ci 1))])
 (.block 0
 (.loop [0,3]
 (.seq (.seq (.ops [mv 10 3,
 mv 11 0,
 o 12 (.len (t 11)),
 o 13 (.bin .lss (t 10) (t 12))])
 (.cond (t 13)
 .skip
 (.exit 0)))
 (.seq (.block 1
 (.seq (.draw [mv 16 0,
 mv 17 3,
 o 18 (.ixa 1 (t 16) (t 17)),
 o 19 (.load none (t 18)),
 mv 20 0,
 mv 21 3,
 o 22 (.bin .sub (t 21) (ci 1)),
 o 23 (.ixa 1 (t 20) (t 22)),
 o 24 (.load none (t 23)),
 o 25 (.bin .eql (t 19) (t 24))]
 [])
 (.cond (t 25)
 (.seq (.ops [mv 26 0,
 mv 27 3,
 o 28 (.slc 1 (t 26) (some (t 27)) none none),
 mv 4 28])
 (.seq (.seq (.ops [o 5 (.mov (ci 1))])
 (.block 2
 (.loop [0,3,4,5]
 (.seq (.seq (.ops [mv 29 5,
 mv 30 4,
 o 31 (.len (t 30)),
 o 32 (.bin .lss (t 29) (t 31))])
 (.cond (t 32)
 .skip
 (.exit 2)))
 (.seq (.block 3
 (.seq (.draw [mv 35 4,
 mv 36 5,
 o 37 (.ixa 1 (t 35) (t 36)),
 o 38 (.load none (t 37)),
 mv 39 4,
 mv 40 5,
 o 41 (.bin .sub (t 40) (ci 1)),
 o 42 (.ixa 1 (t 39) (t 41)),
 o 43 (.load none (t 42)),
 o 44 (.bin .neq (t 38) (t 43))]
 [])
 (.cond (t 44)
 (.seq (.ops [mv 45 0,
 mv 46 3,
 mv 47 4,
 mv 48 5,
 o 49 (.ixa 1 (t 47) (t 48)),
 o 50 (.load none (t 49)),
 o 51 (.ixa 1 (t 45) (t 46)),
 n (.store 1 (t 51) (t 50))])
 (.ops [mv 52 3,
 o 53 (.bin .add (t 52) (ci 1)),
 mv 3 53]))
 .skip)))
 (.ops [mv 33 5,
 o 34 (.bin .add (t 33) (ci 1)),
 mv 5 34]))))))
 (.seq (.ops [mv 54 0,
 mv 55 3,
 o 56 (.slc 1 (t 54) (some (t 55)) none none),
 n (.clr 1 [.int .i64 0] (t 56))])
 (.seq (.ops [mv 57 0,
 mv 58 3,
 o 59 (.slc 1 (t 57) none (some (t 58)) none),
 mv 2 59])
 .ret))))
 .skip)))
 (.ops [mv 14 3,
 o 15 (.bin .add (t 14) (ci 1)),
 mv 3 15]))))))
 (.seq (.ops [mv 60 0,
 mv 2 60])
 .ret))))⟩
theorem comp90:compF Tryz.prog 90 Tryz.f90 ⟨false,[],[([],[0,3]),([],[0,3,4,5])],[],[]⟩=some L90:=by kernel_rfl
def L93:LFunc:=⟨19,2,[.t 4],false,none,[],[],
 (.seq (.ops [o 4 (.mov (ci 0))])
 (.seq (.seq (.ops [mv 6 0,
 o 7 (.len (t 6)),
 o 8 (.mov (ci 0))])
 (.block 0
 (.loop [0,1,7,8]
 (.seq (.ops [o 9 (.bin .lss (t 8) (t 7))])
 (.seq (.cond (t 9)
 .skip
 (.exit 0))
 (.seq (.block 1
 (.seq (.ops [mv 10 8,
 mv 5 10])
 (.seq (.ops [mv 11 1,
 mv 12 0,
 mv 13 5,
 o 14 (.ixa 1 (t 12) (t 13)),
 o 15 (.load none (t 14)),
 o 16 (.call (t 11) [(t 15)])])
 (.cond (t 16)
 (.seq (.ops [mv 17 5,
 mv 4 17])
 .ret)
 .skip))))
 (.ops [o 18 (.bin .add (t 8) (ci 1)),
 mv 8 18])))))))
 (.seq (.ops [o 4 (.mov (ci (-1)))])
 .ret)))⟩
theorem comp93:compF Tryz.prog 93 Tryz.f93 ⟨false,[],[([],[0,1,7,8])],[],[]⟩=some L93:=by kernel_rfl
def L94:LFunc:=⟨9,2,[.t 4],false,none,[],[],
 (.seq (.ops [o 4 (.mov (cb false))])
 (.seq (.ops [mv 5 0,
 mv 6 1,
 o 7 (.call (.fu 129) [(t 5),(t 6)]),
 o 8 (.bin .geq (t 7) (ci 0)),
 mv 4 8])
 .ret))⟩
theorem comp94:compF Tryz.prog 94 Tryz.f94 ⟨false,[],[],[],[]⟩=some L94:=by kernel_rfl
def L95:LFunc:=⟨19,2,[.t 4],false,none,[],[],
 (.seq (.ops [o 4 (.mov (ci 0))])
 (.seq (.seq (.ops [mv 6 0,
 o 7 (.len (t 6)),
 o 8 (.mov (ci 0))])
 (.block 0
 (.loop [0,1,7,8]
 (.seq (.ops [o 9 (.bin .lss (t 8) (t 7))])
 (.seq (.cond (t 9)
 .skip
 (.exit 0))
 (.seq (.block 1
 (.seq (.ops [mv 10 8,
 mv 5 10])
 (.seq (.ops [mv 11 1,
 mv 12 0,
 mv 13 5,
 o 14 (.ixa 1 (t 12) (t 13)),
 o 15 (.load none (t 14)),
 o 16 (.call (t 11) [(t 15)])])
 (.cond (t 16)
 (.seq (.ops [mv 17 5,
 mv 4 17])
 .ret)
 .skip))))
 (.ops [o 18 (.bin .add (t 8) (ci 1)),
 mv 8 18])))))))
 (.seq (.ops [o 4 (.mov (ci (-1)))])
 .ret)))⟩
theorem comp95:compF Tryz.prog 95 Tryz.f95 ⟨false,[],[([],[0,1,7,8])],[],[]⟩=some L95:=by kernel_rfl
def L96:LFunc:=⟨15,2,[.t 4,.t 5],false,none,[],[],
 (.seq (.ops [o 4 (.mov (.cn (.string ⟨#[]⟩))),
 o 5 (.mov (cb false))])
 (.seq (.seq (.ops [mv 6 0,
 mv 7 1,
 o 8 (.call (.fu 130) [(t 6),(t 7)]),
 o 9 (.un .not (t 8))])
 (.cond (t 9)
 (.seq (.ops [mv 10 0,
 mv 4 10,
 o 5 (.mov (cb false))])
 .ret)
 .skip))
 (.seq (.ops [mv 11 0,
 mv 12 1,
 o 13 (.slen (t 12)),
 o 14 (.slcs (t 11) (some (t 13)) none),
 mv 4 14,
 o 5 (.mov (cb true))])
 .ret)))⟩
theorem comp96:compF Tryz.prog 96 Tryz.f96 ⟨false,[],[],[],[]⟩=some L96:=by kernel_rfl
def L97:LFunc:=⟨30,2,[.t 4,.t 5],false,none,[],[],
 (.seq (.ops [o 4 (.mov (.cn (.int .u64 0))),
 o 5 (.mov (.cn (.int .u64 0)))])
 (.seq (.cond (cb false)
 (.seq (.ops [mv 11 0,
 o 12 (.conv .u32 (t 11)),
 mv 13 1,
 o 14 (.conv .u32 (t 13)),
 o 15 (.call (.fu 131) [(t 12),(t 14)]),
 mv 10 15,
 o 16 (.ext (t 10) 0),
 o 17 (.ext (t 10) 1),
 mv 6 16,
 mv 7 17])
 (.seq (.ops [mv 18 6,
 o 19 (.conv .u64 (t 18)),
 mv 20 7,
 o 21 (.conv .u64 (t 20)),
 mv 4 19,
 mv 5 21])
 .ret))
 .skip)
 (.seq (.ops [mv 23 0,
 mv 24 1,
 o 25 (.call (.fu 132) [(t 23),(t 24)]),
 mv 22 25,
 o 26 (.ext (t 22) 0),
 o 27 (.ext (t 22) 1),
 mv 8 26,
 mv 9 27])
 (.seq (.ops [mv 28 8,
 mv 29 9,
 mv 4 28,
 mv 5 29])
 .ret))))⟩
theorem comp97:compF Tryz.prog 97 Tryz.f97 ⟨false,[],[],[],[]⟩=some L97:=by kernel_rfl
def L98:LFunc:=⟨8,3,[.t 6],false,none,[],[],
 (.seq (.ops [o 3 (.box (t 0)),
 o 4 (.box (t 1)),
 o 5 (.box (t 2)),
 o 6 (.mov (.cn (.nilFunc)))])
 (.seq (.ops [o 7 (.mkf 133 [(t 4),(t 3),(t 5)]),
 mv 6 7])
 .ret))⟩
theorem comp98:compF Tryz.prog 98 Tryz.f98 ⟨false,[],[],[],[]⟩=some L98:=by kernel_rfl
def L99:LFunc:=⟨13,2,[.t 4,.t 5,.t 6],false,none,[],[],
 (.seq (.ops [o 4 (.mov (.cn (.string ⟨#[]⟩))),
 o 5 (.mov (.cn (.string ⟨#[]⟩))),
 o 6 (.mov (cb false))])
 (.seq (.ops [mv 7 0,
 mv 8 1,
 o 9 (.call (.fu 135) [(t 7),(t 8)]),
 o 10 (.ext (t 9) 0),
 o 11 (.ext (t 9) 1),
 o 12 (.ext (t 9) 2),
 mv 4 10,
 mv 5 11,
 mv 6 12])
 .ret))⟩
theorem comp99:compF Tryz.prog 99 Tryz.f99 ⟨false,[],[],[],[]⟩=some L99:=by kernel_rfl
def L100:LFunc:=⟨49,1,[.cell 2 (some 2),.t 3],false,none,[],[],
 (.seq (.ops [o 2 (.alloc [.int .i64 0,.int .i64 0]),
 o 3 (.mov (cb false))])
 (.seq (.seq (.ops [mv 7 0,
 o 8 (.slen (t 7)),
 o 9 (.bin .lss (t 8) (ci 2)),
 mv 10 9,
 ⟨some 11,.mov (t 0),(some (10,false))⟩,
 ⟨some 12,.slen (t 11),(some (10,false))⟩,
 ⟨some 13,.bin .gtr (t 12) (ci 3),(some (10,false))⟩,
 o 14 (.pick (t 10) (cb true) (t 13)),
 mv 15 14,
 ⟨some 16,.mov (t 0),(some (15,false))⟩,
 ⟨some 17,.ixs (t 16) (ci 0),(some (15,false))⟩,
 ⟨some 18,.call (.fu 101) [(t 17)],(some (15,false))⟩,
 ⟨some 19,.bin .eql (t 18) (ci 0),(some (15,false))⟩,
 o 20 (.pick (t 15) (cb true) (t 19)),
 mv 21 20,
 ⟨some 22,.mov (t 0),(some (21,false))⟩,
 ⟨some 23,.ixs (t 22) (ci 1),(some (21,false))⟩,
 ⟨some 24,.bin .lss (t 23) (.cn (.int .u8 49)),(some (21,false))⟩,
 o 25 (.pick (t 21) (cb true) (t 24)),
 mv 26 25,
 ⟨some 27,.mov (t 0),(some (26,false))⟩,
 ⟨some 28,.ixs (t 27) (ci 1),(some (26,false))⟩,
 ⟨some 29,.bin .gtr (t 28) (.cn (.int .u8 57)),(some (26,false))⟩,
 o 30 (.pick (t 26) (cb true) (t 29))])
 (.cond (t 30)
 (.seq (.ops [o 31 (.build [.int .i64 0,.int .i64 0] []),
 n (.store 2 (t 2) (t 31)),
 o 3 (.mov (cb false))])
 .ret)
 .skip))
 (.seq (.ops [mv 33 0,
 o 34 (.slcs (t 33) (some (ci 1)) none),
 o 35 (.call (.fu 70) [(t 34)]),
 mv 32 35,
 o 36 (.ext (t 32) 0),
 o 37 (.ext (t 32) 1),
 mv 4 36,
 mv 5 37])
 (.seq (.ops [mv 38 4,
 mv 39 0,
 o 40 (.ixs (t 39) (ci 0)),
 o 41 (.call (.fu 101) [(t 40)]),
 o 42 (.build [.int .i64 0,.int .i64 0] [(0,1,(t 38)),(1,1,(t 41))]),
 o 6 (.alloc [.int .i64 0,.int .i64 0]),
 n (.store 2 (t 6) (t 42))])
 (.seq (.draw [o 43 (.load (some 2) (t 6)),
 mv 44 5,
 mv 45 44,
 og 46 45 (.load (some 2) (t 6)),
 og 47 45 (.call (.fu 48) [(t 46)]),
 o 48 (.pick (t 45) (t 47) (cb false)),
 n (.store 2 (t 2) (t 43)),
 mv 3 48]
 [(0,4)])
 .ret)))))⟩
theorem comp100:compF Tryz.prog 100 Tryz.f100 ⟨false,[],[],[],[]⟩=some L100:=by kernel_rfl
def L101:LFunc:=⟨21,1,[.t 2],false,none,[],[],
 (.seq (.ops [o 2 (.mov (ci 0))])
 (.seq (.seq (.ops [mv 3 0,
 o 4 (.bin .geq (t 3) (.cn (.int .u8 97))),
 mv 5 4,
 mg 6 5 0,
 og 7 5 (.bin .leq (t 6) (.cn (.int .u8 122))),
 o 8 (.pick (t 5) (t 7) (cb false))])
 (.cond (t 8)
 (.ops [mv 9 0,
 o 10 (.bin .sub (t 9) (.cn (.int .u8 32))),
 mv 0 10])
 .skip))
 (.seq (.seq (.ops [mv 11 0,
 o 12 (.bin .lss (t 11) (.cn (.int .u8 65))),
 mv 13 12,
 ⟨some 14,.mov (t 0),(some (13,false))⟩,
 ⟨some 15,.bin .gtr (t 14) (.cn (.int .u8 90)),(some (13,false))⟩,
 o 16 (.pick (t 13) (cb true) (t 15))])
 (.cond (t 16)
 (.seq (.ops [o 2 (.mov (ci 0))])
 .ret)
 .skip))
 (.seq (.ops [mv 17 0,
 o 18 (.bin .sub (t 17) (.cn (.int .u8 65))),
 o 19 (.conv .i64 (t 18)),
 o 20 (.bin .add (t 19) (ci 1)),
 mv 2 20])
 .ret))))⟩
theorem comp101:compF Tryz.prog 101 Tryz.f101 ⟨false,[],[],[],[]⟩=some L101:=by kernel_rfl
def L103:LFunc:=⟨10,2,[.t 4],false,none,[],[],
 (.seq (.ops [o 2 (.box (t 0)),
 o 3 (.box (t 1)),
 o 4 (.mov (ci 0))])
 (.seq (.ops [o 5 (.fld (t 2) 0),
 o 6 (.load (some 2) (t 5)),
 o 7 (.fld (t 3) 0),
 o 8 (.load (some 2) (t 7)),
 o 9 (.call (.fu 50) [(t 6),(t 8)]),
 mv 4 9])
 .ret))⟩
theorem comp103:compF Tryz.prog 103 Tryz.f103 ⟨false,[],[],[],[]⟩=some L103:=by kernel_rfl
def L104:LFunc:=⟨37,2,[.t 4],false,none,[],[],
 (.seq (.ops [o 4 (.mov (.cn (.string ⟨#[]⟩)))])
 (.seq (.seq (.ops [mv 7 0,
 o 8 (.bin .eql (t 7) (.cn (.string ⟨#[]⟩))),
 mv 9 8,
 ⟨some 10,.mov (t 1),(some (9,false))⟩,
 ⟨some 11,.bin .eql (t 10) (.cn (.string ⟨#[]⟩)),(some (9,false))⟩,
 o 12 (.pick (t 9) (cb true) (t 11))])
 (.cond (t 12)
 (.seq (.ops [mv 13 0,
 mv 4 13])
 .ret)
 .skip))
 (.seq (.seq (.ops [mv 14 1,
 o 15 (.slen (t 14)),
 o 16 (.bin .eql (t 15) (ci 1)),
 mv 17 16,
 mg 18 17 1,
 og 19 17 (.ixs (t 18) (ci 0)),
 og 20 17 (.bin .lss (t 19) (.cn (.int .u8 128))),
 o 21 (.pick (t 17) (t 20) (cb false))])
 (.cond (t 21)
 (.seq (.ops [mv 22 0,
 mv 23 1,
 o 24 (.ixs (t 23) (ci 0)),
 o 25 (.call (.fu 137) [(t 22),(t 24)]),
 mv 4 25])
 .ret)
 .skip))
 (.seq (.seq (.ops [mv 27 1,
 o 28 (.call (.fu 138) [(t 27)]),
 mv 26 28,
 o 29 (.ext (t 26) 0),
 o 30 (.ext (t 26) 1),
 o 5 (.alloc [.bool false,.bool false,.bool false,.bool false,.bool false,.bool false,.bool false,.bool false,.bool false,.bool false,.bool false,.bool false,.bool false,.bool false,.bool false,.bool false,.bool false,.bool false,.bool false,.bool false,.bool false,.bool false,.bool false,.bool false,.bool false,.bool false,.bool false,.bool false,.bool false,.bool false,.bool false,.bool false,.bool false,.bool false,.bool false,.bool false,.bool false,.bool false,.bool false,.bool false,.bool false,.bool false,.bool false,.bool false,.bool false,.bool false,.bool false,.bool false,.bool false,.bool false,.bool false,.bool false,.bool false,.bool false,.bool false,.bool false,.bool false,.bool false,.bool false,.bool false,.bool false,.bool false,.bool false,.bool false,.bool false,.bool false,.bool false,.bool false,.bool false,.bool false,.bool false,.bool false,.bool false,.bool false,.bool false,.bool false,.bool false,.bool false,.bool false,.bool false,.bool false,.bool false,.bool false,.bool false,.bool false,.bool false,.bool false,.bool false,.bool false,.bool false,.bool false,.bool false,.bool false,.bool false,.bool false,.bool false,.bool false,.bool false,.bool false,.bool false,.bool false,.bool false,.bool false,.bool false,.bool false,.bool false,.bool false,.bool false,.bool false,.bool false,.bool false,.bool false,.bool false,.bool false,.bool false,.bool false,.bool false,.bool false,.bool false,.bool false,.bool false,.bool false,.bool false,.bool false,.bool false,.bool false,.bool false,.bool false,.bool false,.bool false,.bool false,.bool false,.bool false,.bool false,.bool false,.bool false,.bool false,.bool false,.bool false,.bool false,.bool false,.bool false,.bool false,.bool false,.bool false,.bool false,.bool false,.bool false,.bool false,.bool false,.bool false,.bool false,.bool false,.bool false,.bool false,.bool false,.bool false,.bool false,.bool false,.bool false,.bool false,.bool false,.bool false,.bool false,.bool false,.bool false,.bool false,.bool false,.bool false,.bool false,.bool false,.bool false,.bool false,.bool false,.bool false,.bool false,.bool false,.bool false,.bool false,.bool false,.bool false,.bool false,.bool false,.bool false,.bool false,.bool false,.bool false,.bool false,.bool false,.bool false,.bool false,.bool false,.bool false,.bool false,.bool false,.bool false,.bool false,.bool false,.bool false,.bool false,.bool false,.bool false,.bool false,.bool false,.bool false,.bool false,.bool false,.bool false,.bool false,.bool false,.bool false,.bool false,.bool false,.bool false,.bool false,.bool false,.bool false,.bool false,.bool false,.bool false,.bool false,.bool false,.bool false,.bool false,.bool false,.bool false,.bool false,.bool false,.bool false,.bool false,.bool false,.bool false,.bool false,.bool false,.bool false,.bool false,.bool false,.bool false,.bool false,.bool false,.bool false,.bool false,.bool false,.bool false,.bool false,.bool false,.bool false,.bool false,.bool false,.bool false,.bool false,.bool false,.bool false,.bool false,.bool false,.bool false]),
 n (.store 256 (t 5) (t 29)),
 mv 6 30])
 (.seq (.ops [mv 31 6])
 (.cond (t 31)
 (.seq (.ops [mv 32 0,
 o 33 (.call (.fu 139) [(t 32),(t 5)]),
 mv 4 33])
 .ret)
 .skip)))
 (.seq (.ops [mv 34 0,
 mv 35 1,
 o 36 (.call (.fu 140) [(t 34),(t 35)]),
 mv 4 36])
 .ret)))))⟩
theorem comp104:compF Tryz.prog 104 Tryz.f104 ⟨false,[],[],[],[]⟩=some L104:=by kernel_rfl
def L105:LFunc:=⟨69,1,[.cell 2 (some 5),.t 3],false,none,[],[],
 (.seq (.ops [o 2 (.alloc [.int .i64 0,.string ⟨#[]⟩,.int .i64 0,.int .i64 0,.int .i64 0]),
 o 3 (.mov (ci 0))])
 (.seq (.seq (.ops [mv 12 0,
 o 13 (.ixs (t 12) (ci 0)),
 mv 4 13])
 (.block 0
 (.seq (.ops [mv 15 4,
 o 16 (.call (.fu 141) [(t 15)]),
 mv 14 16])
 (.cond (t 14)
 (.seq (.ops [mv 17 0,
 o 18 (.call (.fu 142) [(t 17),(.fu 141)]),
 mv 5 18])
 (.seq (.seq (.ops [mv 19 5,
 o 20 (.bin .gtr (t 19) (ci 9))])
 (.cond (t 20)
 (.seq (.ops [o 21 (.build [.int .i64 0,.string ⟨#[]⟩,.int .i64 0,.int .i64 0,.int .i64 0] []),
 n (.store 5 (t 2) (t 21)),
 o 3 (.mov (ci 0))])
 .ret)
 .skip))
 (.seq (.ops [o 6 (.mov (ci 0))])
 (.seq (.seq (.ops [mv 22 5,
 o 23 (.mov (ci 0))])
 (.block 1
 (.loop [0,2,5,6,22,23]
 (.seq (.ops [o 24 (.bin .lss (t 23) (t 22))])
 (.seq (.cond (t 24)
 .skip
 (.exit 1))
 (.seq (.block 2
 (.seq (.ops [mv 25 23,
 mv 7 25])
 (.ops [mv 26 6,
 o 27 (.bin .mul (ci 10) (t 26)),
 mv 28 0,
 mv 29 7,
 o 30 (.ixs (t 28) (t 29)),
 o 31 (.bin .sub (t 30) (.cn (.int .u8 48))),
 o 32 (.conv .i64 (t 31)),
 o 33 (.bin .add (t 27) (t 32)),
 mv 6 33])))
 (.ops [o 34 (.bin .add (t 23) (ci 1)),
 mv 23 34])))))))
 (.seq (.ops [mv 35 6,
 o 36 (.build [.int .i64 0,.string ⟨#[]⟩,.int .i64 0,.int .i64 0,.int .i64 0] [(0,1,(ci 1)),(2,1,(t 35))]),
 mv 37 5,
 n (.store 5 (t 2) (t 36)),
 mv 3 37])
 .ret)))))
 (.seq (.ops [mv 39 4,
 o 40 (.call (.fu 143) [(t 39)]),
 mv 38 40])
 (.cond (t 38)
 (.seq (.ops [mv 41 0,
 o 42 (.call (.fu 144) [(t 41)]),
 o 43 (.ext (t 42) 0),
 o 44 (.ext (t 42) 1),
 n (.store 5 (t 2) (t 43)),
 mv 3 44])
 .ret)
 (.seq (.ops [mv 46 4,
 o 47 (.bin .eql (t 46) (.cn (.int .u8 34))),
 mv 45 47])
 (.cond (t 45)
 (.seq (.ops [mv 49 0,
 o 50 (.call (.fu 145) [(t 49)]),
 mv 48 50,
 o 51 (.ext (t 48) 0),
 o 52 (.ext (t 48) 1),
 mv 8 51,
 mv 9 52])
 (.seq (.ops [mv 53 8,
 o 54 (.build [.int .i64 0,.string ⟨#[]⟩,.int .i64 0,.int .i64 0,.int .i64 0] [(0,1,(ci 2)),(1,1,(t 53))]),
 mv 55 9,
 n (.store 5 (t 2) (t 54)),
 mv 3 55])
 .ret))
 .skip))))))))
 (.seq (.seq (.ops [o 56 (.build [.string ⟨#[]⟩,.string ⟨#[]⟩,.string ⟨#[]⟩,.string ⟨#[]⟩,.string ⟨#[]⟩,.string ⟨#[]⟩,.string ⟨#[]⟩,.string ⟨#[]⟩,.string ⟨#[]⟩,.string ⟨#[]⟩,.string ⟨#[]⟩,.string ⟨#[]⟩,.string ⟨#[]⟩,.string ⟨#[]⟩,.string ⟨#[]⟩] [(0,1,(.cn (.string ⟨#[60,62]⟩))),(1,1,(.cn (.string ⟨#[60,61]⟩))),(2,1,(.cn (.string ⟨#[62,61]⟩))),(3,1,(.cn (.string ⟨#[43]⟩))),(4,1,(.cn (.string ⟨#[45]⟩))),(5,1,(.cn (.string ⟨#[42]⟩))),(6,1,(.cn (.string ⟨#[47]⟩))),(7,1,(.cn (.string ⟨#[38]⟩))),(8,1,(.cn (.string ⟨#[61]⟩))),(9,1,(.cn (.string ⟨#[60]⟩))),(10,1,(.cn (.string ⟨#[62]⟩))),(11,1,(.cn (.string ⟨#[40]⟩))),(12,1,(.cn (.string ⟨#[41]⟩))),(13,1,(.cn (.string ⟨#[44]⟩))),(14,1,(.cn (.string ⟨#[58]⟩)))]),
 o 57 (.mov (ci 0))])
 (.block 3
 (.loop [0,2,56,57]
 (.seq (.ops [o 58 (.bin .lss (t 57) (ci 15))])
 (.seq (.cond (t 58)
 .skip
 (.exit 3))
 (.seq (.block 4
 (.seq (.ops [o 59 (.ixv 15 1 none (t 56) (t 57)),
 mv 11 59])
 (.seq (.ops [mv 60 0,
 mv 61 11,
 o 62 (.call (.fu 146) [(t 60),(t 61)])])
 (.cond (t 62)
 (.seq (.ops [mv 63 11,
 o 64 (.build [.int .i64 0,.string ⟨#[]⟩,.int .i64 0,.int .i64 0,.int .i64 0] [(1,1,(t 63))]),
 mv 65 11,
 o 66 (.slen (t 65)),
 n (.store 5 (t 2) (t 64)),
 mv 3 66])
 .ret)
 .skip))))
 (.ops [o 67 (.bin .add (t 57) (ci 1)),
 mv 57 67])))))))
 (.seq (.ops [o 68 (.build [.int .i64 0,.string ⟨#[]⟩,.int .i64 0,.int .i64 0,.int .i64 0] []),
 n (.store 5 (t 2) (t 68)),
 o 3 (.mov (ci 0))])
 .ret))))⟩
theorem comp105:compF Tryz.prog 105 Tryz.f105 ⟨false,[],[([],[0,2,5,6,22,23]),([],[0,2,56,57])],[],[]⟩=some L105:=by kernel_rfl
def L106:LFunc:=⟨8,1,[.cell 2 (some 8)],false,none,[],[],
 (.seq (.ops [o 2 (.alloc [.int .i64 0,.int .i64 0,.string ⟨#[]⟩,.int .i64 0,.int .i64 0,.int .i64 0,.int .i64 0,.slice none 0 0])])
 (.seq (.ops [mv 3 0,
 mv 4 0,
 o 5 (.mkb 148 [(t 4)]),
 o 6 (.bsl 1 [.string ⟨#[]⟩] 1 [(0,(.cn (.string ⟨#[38]⟩)))]),
 o 7 (.call (.fu 147) [(t 3),(t 5),(t 6)]),
 n (.store 8 (t 2) (t 7))])
 .ret))⟩
theorem comp106:compF Tryz.prog 106 Tryz.f106 ⟨false,[],[],[],[]⟩=some L106:=by kernel_rfl
def L107:LFunc:=⟨57,2,[.t 4,.t 5],false,none,[],[],
 (.seq (.ops [o 4 (.mov (.cn (.string ⟨#[]⟩))),
 o 5 (.mov (cb false))])
 (.seq (.seq (.ops [mv 7 0,
 o 8 (.nilchk (t 7)),
 o 9 (.fld (t 8) 2),
 o 10 (.load none (t 9)),
 o 11 (.un .not (t 10)),
 mv 12 11,
 mg 13 12 0,
 og 14 12 (.nilchk (t 13)),
 og 15 12 (.fld (t 14) 0),
 og 16 12 (.load none (t 15)),
 og 17 12 (.len (t 16)),
 og 18 12 (.bin .gtr (t 17) (ci 0)),
 o 19 (.pick (t 12) (t 18) (cb false)),
 mv 20 19,
 mg 21 20 0,
 og 22 20 (.nilchk (t 21)),
 og 23 20 (.fld (t 22) 0),
 og 24 20 (.load none (t 23)),
 og 25 20 (.ixa 5 (t 24) (ci 0)),
 og 26 20 (.fld (t 25) 0),
 og 27 20 (.load none (t 26)),
 og 28 20 (.bin .eql (t 27) (ci 0)),
 o 29 (.pick (t 20) (t 28) (cb false)),
 mv 30 29,
 mg 31 30 1,
 mg 32 30 0,
 og 33 30 (.nilchk (t 32)),
 og 34 30 (.fld (t 33) 0),
 og 35 30 (.load none (t 34)),
 og 36 30 (.ixa 5 (t 35) (ci 0)),
 og 37 30 (.fld (t 36) 1),
 og 38 30 (.load none (t 37)),
 og 39 30 (.call (.fu 149) [(t 31),(t 38)]),
 o 40 (.pick (t 30) (t 39) (cb false))])
 (.cond (t 40)
 (.seq (.ops [mv 41 0,
 o 42 (.nilchk (t 41)),
 o 43 (.fld (t 42) 0),
 o 44 (.load none (t 43)),
 o 45 (.ixa 5 (t 44) (ci 0)),
 o 46 (.fld (t 45) 1),
 o 47 (.load none (t 46)),
 mv 6 47])
 (.seq (.ops [mv 48 0,
 mv 49 0,
 o 50 (.nilchk (t 49)),
 o 51 (.fld (t 50) 0),
 o 52 (.load none (t 51)),
 o 53 (.slc 5 (t 52) (some (ci 1)) none none),
 o 54 (.nilchk (t 48)),
 o 55 (.fld (t 54) 0),
 n (.store 1 (t 55) (t 53))])
 (.seq (.ops [mv 56 6,
 mv 4 56,
 o 5 (.mov (cb true))])
 .ret)))
 .skip))
 (.seq (.ops [o 4 (.mov (.cn (.string ⟨#[]⟩))),
 o 5 (.mov (cb false))])
 .ret)))⟩
theorem comp107:compF Tryz.prog 107 Tryz.f107 ⟨false,[],[],[],[]⟩=some L107:=by kernel_rfl
def L113:LFunc:=⟨21,2,[.cell 4 (some 3)],false,none,[],[],
 (.seq (.ops [o 3 (.box (t 1)),
 o 4 (.alloc [.int .i64 0,.int .i64 0,.string ⟨#[]⟩])])
 (.seq (.seq (.draw [mv 8 0,
 o 9 (.nilchk (t 8)),
 o 10 (.fld (t 9) 1),
 o 11 (.load none (t 10)),
 o 12 (.load (some 2) (t 3)),
 o 13 (.mget 3 [.int .i64 0] true (t 11) (t 12)),
 mv 7 13,
 o 14 (.ext (t 7) 0),
 o 15 (.ext (t 7) 1),
 mv 5 14,
 mv 6 15]
 [])
 (.seq (.ops [mv 16 6])
 (.cond (t 16)
 (.seq (.ops [mv 17 0,
 mv 18 5,
 o 19 (.call (.fu 32) [(t 17),(t 18)]),
 n (.store 3 (t 4) (t 19))])
 .ret)
 .skip)))
 (.seq (.ops [o 20 (.build [.int .i64 0,.int .i64 0,.string ⟨#[]⟩] []),
 n (.store 3 (t 4) (t 20))])
 .ret)))⟩
theorem comp113:compF Tryz.prog 113 Tryz.f113 ⟨false,[],[],[],[]⟩=some L113:=by kernel_rfl
def L114:LFunc:=⟨119,2,[.cell 4 (some 3)],false,none,[],[],
 (.seq (.ops [o 3 (.box (t 1)),
 o 4 (.alloc [.int .i64 0,.int .i64 0,.string ⟨#[]⟩])])
 (.seq (.ops [o 5 (.mov (.cn (.slice none 0 0)))])
 (.seq (.seq (.ops [o 13 (.fld (t 3) 7),
 o 14 (.load none (t 13)),
 o 15 (.len (t 14)),
 o 16 (.mov (ci 0))])
 (.block 0
 (.pre [.tmp 5 (some 3)] (.loop [0,3,4,5,14,15,16]
 (.seq (.ops [o 17 (.bin .lss (t 16) (t 15))])
 (.seq (.cond (t 17)
 .skip
 (.exit 0))
 (.seq (.block 1
 (.seq (.ops [o 18 (.ixa 8 (t 14) (t 16)),
 o 19 (.load (some 8) (t 18)),
 o 7 (.alloc [.int .i64 0,.int .i64 0,.string ⟨#[]⟩,.int .i64 0,.int .i64 0,.int .i64 0,.int .i64 0,.slice none 0 0]),
 n (.store 8 (t 7) (t 19))])
 (.ops [mv 20 5,
 mv 21 0,
 o 22 (.load (some 8) (t 7)),
 o 23 (.call (.fu 75) [(t 21),(t 22)]),
 o 24 (.bsl 3 [.int .i64 0,.int .i64 0,.string ⟨#[]⟩] 1 [(0,(t 23))]),
 o 25 (.app 3 32 false (t 20) (t 24)),
 mv 5 25])))
 (.ops [o 26 (.bin .add (t 16) (ci 1)),
 mv 16 26]))))))))
 (.seq (.seq (.ops [mv 27 5,
 o 28 (.call (.fu 155) [(t 27),(.fu 156)]),
 mv 8 28])
 (.seq (.ops [mv 29 8,
 o 30 (.bin .geq (t 29) (ci 0))])
 (.cond (t 30)
 (.seq (.ops [mv 31 5,
 mv 32 8,
 o 33 (.ixa 3 (t 31) (t 32)),
 o 34 (.load (some 3) (t 33)),
 n (.store 3 (t 4) (t 34))])
 .ret)
 .skip)))
 (.seq (.seq (.ops [mv 35 5,
 o 36 (.len (t 35)),
 o 37 (.bin .eql (t 36) (ci 1))])
 (.cond (t 37)
 (.draw [o 38 (.call (.fu 73) [(ci 0)]),
 mv 39 5,
 o 40 (.ixa 3 (t 39) (ci 0)),
 o 41 (.load (some 3) (t 40)),
 o 42 (.bsl 3 [.int .i64 0,.int .i64 0,.string ⟨#[]⟩] 2 [(0,(t 38)),(1,(t 41))]),
 mv 5 42]
 [(0,3)])
 .skip))
 (.seq (.draw [mv 43 5,
 o 44 (.ixa 3 (t 43) (ci 0)),
 o 45 (.load (some 3) (t 44)),
 mv 46 5,
 o 47 (.ixa 3 (t 46) (ci 1)),
 o 48 (.load (some 3) (t 47)),
 o 9 (.alloc [.int .i64 0,.int .i64 0,.string ⟨#[]⟩]),
 o 10 (.alloc [.int .i64 0,.int .i64 0,.string ⟨#[]⟩]),
 n (.store 3 (t 9) (t 45)),
 n (.store 3 (t 10) (t 48))]
 [(2,6),(5,6),(2,7),(5,7),(5,8)])
 (.seq (.seq (.ops [o 49 (.fld (t 3) 2),
 o 50 (.load none (t 49))])
 (.block 2
 (.seq (.ops [o 52 (.bin .eql (t 50) (.cn (.string ⟨#[38]⟩))),
 mv 51 52])
 (.cond (t 51)
 (.seq (.draw [o 53 (.load (some 3) (t 9)),
 o 54 (.call (.fu 12) [(t 53)]),
 o 55 (.load (some 3) (t 10)),
 o 56 (.call (.fu 12) [(t 55)]),
 o 57 (.bin .add (t 54) (t 56)),
 mv 11 57]
 [(1,2)])
 (.seq (.ops [mv 58 11,
 o 59 (.slen (t 58)),
 o 60 (.bin .leq (t 59) (ci 200)),
 mv 61 11,
 o 62 (.call (.fu 69) [(t 61)]),
 o 63 (.call (.fu 74) [(.cn (.string ⟨#[35,86,65,76]⟩))]),
 o 64 (.call (.fu 71) [(t 60),(t 62),(t 63)]),
 n (.store 3 (t 4) (t 64))])
 .ret))
 (.seq (.seq (.ops [o 66 (.bin .eql (t 50) (.cn (.string ⟨#[43]⟩))),
 mv 65 66])
 (.cond (t 65)
 .skip
 (.seq (.ops [o 67 (.bin .eql (t 50) (.cn (.string ⟨#[45]⟩))),
 mv 65 67])
 (.cond (t 65)
 .skip
 (.seq (.ops [o 68 (.bin .eql (t 50) (.cn (.string ⟨#[42]⟩))),
 mv 65 68])
 (.cond (t 65)
 .skip
 (.ops [o 69 (.bin .eql (t 50) (.cn (.string ⟨#[47]⟩))),
 mv 65 69])))))))
 (.cond (t 65)
 (.seq (.seq (.ops [o 70 (.fld (t 9) 0),
 o 71 (.load none (t 70)),
 o 72 (.bin .eql (t 71) (ci 2)),
 mv 73 72,
 ⟨some 74,.fld (t 10) 0,(some (73,false))⟩,
 ⟨some 75,.load none (t 74),(some (73,false))⟩,
 ⟨some 76,.bin .eql (t 75) (ci 2),(some (73,false))⟩,
 o 77 (.pick (t 73) (cb true) (t 76))])
 (.cond (t 77)
 (.seq (.ops [o 78 (.call (.fu 74) [(.cn (.string ⟨#[35,86,65,76]⟩))]),
 n (.store 3 (t 4) (t 78))])
 .ret)
 .skip))
 (.seq (.ops [o 79 (.fld (t 3) 2),
 o 80 (.load none (t 79)),
 o 81 (.fld (t 9) 1),
 o 82 (.load none (t 81)),
 o 83 (.fld (t 10) 1),
 o 84 (.load none (t 83)),
 o 85 (.call (.fu 157) [(t 80),(t 82),(t 84)]),
 n (.store 3 (t 4) (t 85))])
 .ret))
 .skip))))))
 (.seq (.ops [o 86 (.load (some 3) (t 9)),
 o 87 (.load (some 3) (t 10)),
 o 88 (.call (.fu 158) [(t 86),(t 87)]),
 mv 12 88])
 (.seq (.seq (.ops [o 89 (.fld (t 3) 2),
 o 90 (.load none (t 89))])
 (.block 3
 (.seq (.ops [o 92 (.bin .eql (t 90) (.cn (.string ⟨#[61]⟩))),
 mv 91 92])
 (.cond (t 91)
 (.seq (.ops [mv 93 12,
 o 94 (.bin .eql (t 93) (ci 0)),
 o 95 (.call (.fu 159) [(t 94)]),
 n (.store 3 (t 4) (t 95))])
 .ret)
 (.seq (.ops [o 97 (.bin .eql (t 90) (.cn (.string ⟨#[60,62]⟩))),
 mv 96 97])
 (.cond (t 96)
 (.seq (.ops [mv 98 12,
 o 99 (.bin .neq (t 98) (ci 0)),
 o 100 (.call (.fu 159) [(t 99)]),
 n (.store 3 (t 4) (t 100))])
 .ret)
 (.seq (.ops [o 102 (.bin .eql (t 90) (.cn (.string ⟨#[60]⟩))),
 mv 101 102])
 (.cond (t 101)
 (.seq (.ops [mv 103 12,
 o 104 (.bin .lss (t 103) (ci 0)),
 o 105 (.call (.fu 159) [(t 104)]),
 n (.store 3 (t 4) (t 105))])
 .ret)
 (.seq (.ops [o 107 (.bin .eql (t 90) (.cn (.string ⟨#[60,61]⟩))),
 mv 106 107])
 (.cond (t 106)
 (.seq (.ops [mv 108 12,
 o 109 (.bin .leq (t 108) (ci 0)),
 o 110 (.call (.fu 159) [(t 109)]),
 n (.store 3 (t 4) (t 110))])
 .ret)
 (.seq (.ops [o 112 (.bin .eql (t 90) (.cn (.string ⟨#[62]⟩))),
 mv 111 112])
 (.cond (t 111)
 (.seq (.ops [mv 113 12,
 o 114 (.bin .gtr (t 113) (ci 0)),
 o 115 (.call (.fu 159) [(t 114)]),
 n (.store 3 (t 4) (t 115))])
 .ret)
 .skip))))))))))))
 (.seq (.ops [mv 116 12,
 o 117 (.bin .geq (t 116) (ci 0)),
 o 118 (.call (.fu 159) [(t 117)]),
 n (.store 3 (t 4) (t 118))])
 .ret))))))))))⟩
theorem comp114:compF Tryz.prog 114 Tryz.f114 ⟨false,[],[([.tmp 5 (some 3)],[0,3,4,5,14,15,16])],[],[]⟩=some L114:=by kernel_rfl
def L115:LFunc:=⟨72,2,[.cell 4 (some 3)],false,none,[],[],
 (.seq (.ops [o 3 (.box (t 1)),
 o 4 (.alloc [.int .i64 0,.int .i64 0,.string ⟨#[]⟩])])
 (.seq (.ops [o 12 (.fld (t 3) 2),
 o 13 (.load none (t 12)),
 o 14 (.call (.fu 160) [(t 13)]),
 mv 5 14])
 (.seq (.seq (.ops [mv 15 5,
 o 16 (.isnil 3 false (t 15))])
 (.cond (t 16)
 (.seq (.ops [o 17 (.call (.fu 74) [(.cn (.string ⟨#[35,78,65,77,69]⟩))]),
 n (.store 3 (t 4) (t 17))])
 .ret)
 .skip))
 (.seq (.seq (.ops [mv 18 5,
 o 19 (.inv [(217,303),(220,304),(221,305),(223,306),(262,309)] (t 18) []),
 mv 6 19])
 (.seq (.ops [mv 20 6,
 o 21 (.bin .geq (t 20) (ci 0)),
 mv 22 21,
 mg 23 22 6,
 og 24 22 (.fld (t 3) 7),
 og 25 22 (.load none (t 24)),
 og 26 22 (.len (t 25)),
 og 27 22 (.bin .neq (t 23) (t 26)),
 o 28 (.pick (t 22) (t 27) (cb false))])
 (.cond (t 28)
 (.seq (.ops [o 29 (.call (.fu 74) [(.cn (.string ⟨#[35,86,65,76]⟩))]),
 n (.store 3 (t 4) (t 29))])
 .ret)
 .skip)))
 (.seq (.seq (.ops [mv 30 5])
 (.block 0
 (.seq (.ops [o 31 (.tas 217 [.string ⟨#[]⟩] (t 30)),
 o 32 (.ext (t 31) 1),
 o 33 (.ext (t 31) 0)])
 (.cond (t 32)
 (.seq (.ops [o 7 (.alloc [.string ⟨#[]⟩]),
 n (.store 1 (t 7) (t 33))])
 (.seq (.ops [mv 34 0,
 o 35 (.fld (t 7) 0),
 o 36 (.load none (t 35)),
 o 37 (.fld (t 3) 7),
 o 38 (.load none (t 37)),
 o 39 (.call (.fu 161) [(t 34),(t 36),(t 38)]),
 n (.store 3 (t 4) (t 39))])
 .ret))
 (.seq (.ops [o 40 (.tas 220 [] (t 30)),
 o 41 (.ext (t 40) 1),
 o 42 (.ext (t 40) 0)])
 (.cond (t 41)
 (.seq (.ops [o 8 (.alloc []),
 n (.store 0 (t 8) (t 42))])
 (.seq (.ops [mv 43 0,
 o 44 (.fld (t 3) 7),
 o 45 (.load none (t 44)),
 o 46 (.ixa 8 (t 45) (ci 0)),
 o 47 (.load (some 8) (t 46)),
 o 48 (.call (.fu 75) [(t 43),(t 47)]),
 o 9 (.alloc [.int .i64 0,.int .i64 0,.string ⟨#[]⟩]),
 n (.store 3 (t 9) (t 48))])
 (.seq (.draw [o 49 (.load (some 3) (t 9)),
 o 50 (.call (.fu 156) [(t 49)]),
 o 51 (.load (some 3) (t 9)),
 o 52 (.load (some 3) (t 9)),
 o 53 (.call (.fu 12) [(t 52)]),
 o 54 (.slen (t 53)),
 o 55 (.call (.fu 73) [(t 54)]),
 o 56 (.call (.fu 71) [(t 50),(t 51),(t 55)]),
 n (.store 3 (t 4) (t 56))]
 [(1,2),(1,3),(2,4),(2,6)])
 .ret)))
 (.seq (.ops [o 57 (.tas 221 [] (t 30)),
 o 58 (.ext (t 57) 1),
 o 59 (.ext (t 57) 0)])
 (.cond (t 58)
 (.seq (.ops [o 10 (.alloc []),
 n (.store 0 (t 10) (t 59))])
 (.seq (.ops [mv 60 0,
 o 61 (.fld (t 3) 7),
 o 62 (.load none (t 61)),
 o 63 (.call (.fu 162) [(t 60),(t 62)]),
 n (.store 3 (t 4) (t 63))])
 .ret))
 (.seq (.ops [o 64 (.tas 223 [] (t 30)),
 o 65 (.ext (t 64) 1),
 o 66 (.ext (t 64) 0)])
 (.cond (t 65)
 (.seq (.ops [o 11 (.alloc []),
 n (.store 0 (t 11) (t 66))])
 (.seq (.ops [mv 67 0,
 o 68 (.fld (t 3) 7),
 o 69 (.load none (t 68)),
 o 70 (.call (.fu 163) [(t 67),(t 69)]),
 n (.store 3 (t 4) (t 70))])
 .ret))
 .skip))))))))))
 (.seq (.ops [o 71 (.call (.fu 74) [(.cn (.string ⟨#[35,65,67,84]⟩))]),
 n (.store 3 (t 4) (t 71))])
 .ret))))))⟩
theorem comp115:compF Tryz.prog 115 Tryz.f115 ⟨false,[],[],[],[]⟩=some L115:=by kernel_rfl
def L122:LFunc:=⟨8,1,[],false,none,[],[],
 (.seq (.ops [o 2 (.box (t 0))])
 (.seq (.ops [o 3 (.alloc [.nilFunc])])
 (.seq (.ops [o 4 (.mkf 123 [(t 2),(t 3)]),
 n (.store 1 (t 3) (t 4))])
 (.ops [o 5 (.load none (t 3)),
 o 6 (.load (some 8) (t 1)),
 o 7 (.call (t 5) [(t 6)])]))))⟩
theorem comp122:compF Tryz.prog 122 Tryz.f122 ⟨false,[],[],[],[]⟩=some L122:=by kernel_rfl
def L123:LFunc:=⟨37,1,[.cell 4 none],false,none,[],[],
 (.seq (.ops [o 3 (.box (t 0)),
 o 4 (.alloc [.bool false])])
 (.seq (.seq (.ops [o 8 (.fld (t 3) 0),
 o 9 (.load none (t 8))])
 (.block 0
 (.seq (.ops [o 11 (.bin .eql (t 9) (ci 3)),
 mv 10 11])
 (.cond (t 10)
 (.seq (.ops [o 12 (.load none (t 1)),
 o 13 (.fld (t 3) 3),
 o 14 (.load (some 2) (t 13)),
 o 15 (.call (t 12) [(t 14)]),
 n (.store 1 (t 4) (t 15))])
 .ret)
 (.seq (.ops [o 17 (.bin .eql (t 9) (ci 4)),
 mv 16 17])
 (.cond (t 16)
 (.seq (.ops [o 18 (.load (some 8) (t 3)),
 o 19 (.call (.fu 124) [(t 18)])])
 (.block 1
 (.pre [.lend 171] (.rfn (t 19) 7053435 [1,4] [171]))))
 .skip))))))
 (.seq (.seq (.ops [o 25 (.fld (t 3) 7),
 o 26 (.load none (t 25)),
 o 27 (.len (t 26)),
 o 28 (.mov (ci 0))])
 (.block 3
 (.loop [2,4,26,27,28]
 (.seq (.ops [o 29 (.bin .lss (t 28) (t 27))])
 (.seq (.cond (t 29)
 .skip
 (.exit 3))
 (.seq (.block 4
 (.seq (.ops [o 30 (.ixa 8 (t 26) (t 28)),
 o 31 (.load (some 8) (t 30)),
 o 7 (.alloc [.int .i64 0,.int .i64 0,.string ⟨#[]⟩,.int .i64 0,.int .i64 0,.int .i64 0,.int .i64 0,.slice none 0 0]),
 n (.store 8 (t 7) (t 31))])
 (.seq (.ops [o 32 (.load none (t 2)),
 o 33 (.load (some 8) (t 7)),
 o 34 (.call (t 32) [(t 33)]),
 o 35 (.un .not (t 34))])
 (.cond (t 35)
 (.seq (.ops [n (.store 1 (t 4) (cb false))])
 .ret)
 .skip))))
 (.ops [o 36 (.bin .add (t 28) (ci 1)),
 mv 28 36])))))))
 (.seq (.ops [n (.store 1 (t 4) (cb true))])
 .ret))))⟩
theorem comp123:compF Tryz.prog 123 Tryz.f123 ⟨false,[],[([.lend 171],[1,4]),([],[2,4,26,27,28])],[],[]⟩=some L123:=by kernel_rfl
def L7053435:LFunc:=⟨37,1,[],false,some [20],[],[],
 (.seq (.ops [o 5 (.alloc [.int .i64 0,.int .i64 0]),
 n (.store 2 (t 5) (t 20))])
 (.block 2
 (.seq (.ops [o 21 (.load none (t 1)),
 o 22 (.load (some 2) (t 5)),
 o 23 (.call (t 21) [(t 22)]),
 o 24 (.un .not (t 23))])
 (.cond (t 24)
 (.seq (.ops [n (.store 1 (t 4) (cb false))])
 .ret)
 .skip))))⟩
theorem comp7053435:compR Tryz.prog 7053435 ⟨false,[],[],[],[]⟩=some L7053435:=by kernel_rfl
def L124:LFunc:=⟨4,1,[.t 2],false,none,[],[],
 (.seq (.ops [o 1 (.box (t 0)),
 o 2 (.mov (.cn (.nilFunc)))])
 (.seq (.ops [o 3 (.mkf 171 [(t 1)]),
 mv 2 3])
 .ret))⟩
theorem comp124:compF Tryz.prog 124 Tryz.f124 ⟨false,[],[],[],[]⟩=some L124:=by kernel_rfl
def L129:LFunc:=⟨8,2,[.t 4],false,none,[],[],
 (.seq (.ops [o 4 (.mov (ci 0))])
 (.seq (.ops [mv 5 0,
 mv 6 1,
 o 7 (.call (.fu 186) [(t 5),(t 6)]),
 mv 4 7])
 .ret))⟩
theorem comp129:compF Tryz.prog 129 Tryz.f129 ⟨false,[],[],[],[]⟩=some L129:=by kernel_rfl
def L130:LFunc:=⟨18,2,[.t 4],false,none,[],[],
 (.seq (.ops [o 4 (.mov (cb false))])
 (.seq (.ops [mv 5 0,
 o 6 (.slen (t 5)),
 mv 7 1,
 o 8 (.slen (t 7)),
 o 9 (.bin .geq (t 6) (t 8)),
 mv 10 9,
 mg 11 10 0,
 mg 12 10 1,
 og 13 10 (.slen (t 12)),
 og 14 10 (.slcs (t 11) none (some (t 13))),
 mg 15 10 1,
 og 16 10 (.bin .eql (t 14) (t 15)),
 o 17 (.pick (t 10) (t 16) (cb false)),
 mv 4 17])
 .ret))⟩
theorem comp130:compF Tryz.prog 130 Tryz.f130 ⟨false,[],[],[],[]⟩=some L130:=by kernel_rfl
def L131:LFunc:=⟨17,2,[.t 4,.t 5],false,none,[],[],
 (.seq (.ops [o 4 (.mov (.cn (.int .u32 0))),
 o 5 (.mov (.cn (.int .u32 0)))])
 (.seq (.ops [mv 7 0,
 o 8 (.conv .u64 (t 7)),
 mv 9 1,
 o 10 (.conv .u64 (t 9)),
 o 11 (.bin .mul (t 8) (t 10)),
 mv 6 11])
 (.seq (.ops [mv 12 6,
 o 13 (.bin .shr (t 12) (.cn (.int .u64 32))),
 o 14 (.conv .u32 (t 13)),
 mv 15 6,
 o 16 (.conv .u32 (t 15)),
 mv 4 14,
 mv 5 16])
 .ret)))⟩
theorem comp131:compF Tryz.prog 131 Tryz.f131 ⟨false,[],[],[],[]⟩=some L131:=by kernel_rfl
def L132:LFunc:=⟨51,2,[.t 4,.t 5],false,none,[],[],
 (.seq (.ops [o 4 (.mov (.cn (.int .u64 0))),
 o 5 (.mov (.cn (.int .u64 0)))])
 (.seq (.ops [mv 14 0,
 o 15 (.bin .and (t 14) (.cn (.int .u64 4294967295))),
 mv 6 15])
 (.seq (.ops [mv 16 0,
 o 17 (.bin .shr (t 16) (.cn (.int .u64 32))),
 mv 7 17])
 (.seq (.ops [mv 18 1,
 o 19 (.bin .and (t 18) (.cn (.int .u64 4294967295))),
 mv 8 19])
 (.seq (.ops [mv 20 1,
 o 21 (.bin .shr (t 20) (.cn (.int .u64 32))),
 mv 9 21])
 (.seq (.ops [mv 22 6,
 mv 23 8,
 o 24 (.bin .mul (t 22) (t 23)),
 mv 10 24])
 (.seq (.ops [mv 25 7,
 mv 26 8,
 o 27 (.bin .mul (t 25) (t 26)),
 mv 28 10,
 o 29 (.bin .shr (t 28) (.cn (.int .u64 32))),
 o 30 (.bin .add (t 27) (t 29)),
 mv 11 30])
 (.seq (.ops [mv 31 11,
 o 32 (.bin .and (t 31) (.cn (.int .u64 4294967295))),
 mv 12 32])
 (.seq (.ops [mv 33 11,
 o 34 (.bin .shr (t 33) (.cn (.int .u64 32))),
 mv 13 34])
 (.seq (.ops [mv 35 12,
 mv 36 6,
 mv 37 9,
 o 38 (.bin .mul (t 36) (t 37)),
 o 39 (.bin .add (t 35) (t 38)),
 mv 12 39])
 (.seq (.ops [mv 40 7,
 mv 41 9,
 o 42 (.bin .mul (t 40) (t 41)),
 mv 43 13,
 o 44 (.bin .add (t 42) (t 43)),
 mv 45 12,
 o 46 (.bin .shr (t 45) (.cn (.int .u64 32))),
 o 47 (.bin .add (t 44) (t 46)),
 mv 4 47])
 (.seq (.ops [mv 48 0,
 mv 49 1,
 o 50 (.bin .mul (t 48) (t 49)),
 mv 5 50])
 .ret))))))))))))⟩
theorem comp132:compF Tryz.prog 132 Tryz.f132 ⟨false,[],[],[],[]⟩=some L132:=by kernel_rfl
def L133:LFunc:=⟨52,1,[],false,none,[],[],
 (.seq (.seq (.ops [o 9 (.load none (t 1)),
 o 10 (.slen (t 9)),
 o 11 (.bin .eql (t 10) (ci 0))])
 (.cond (t 11)
 (.seq (.block 0
 (.loop [0,2]
 (.seq (.seq (.ops [o 12 (.load none (t 2)),
 o 13 (.slen (t 12)),
 o 14 (.bin .gtr (t 13) (ci 0))])
 (.cond (t 14)
 .skip
 (.exit 0)))
 (.block 1
 (.seq (.ops [o 16 (.load none (t 2)),
 o 17 (.call (.fu 134) [(t 16)]),
 mv 15 17,
 o 18 (.ext (t 15) 0),
 o 19 (.ext (t 15) 1),
 mv 5 18,
 mv 6 19])
 (.seq (.seq (.ops [mv 20 0,
 o 21 (.load none (t 2)),
 mv 22 6,
 o 23 (.slcs (t 21) none (some (t 22))),
 o 24 (.call (t 20) [(t 23)]),
 o 25 (.un .not (t 24))])
 (.cond (t 25)
 .ret
 .skip))
 (.ops [o 26 (.load none (t 2)),
 mv 27 6,
 o 28 (.slcs (t 26) (some (t 27)) none),
 n (.store 1 (t 2) (t 28))])))))))
 .ret)
 .skip))
 (.seq (.block 2
 (.loop [0,1,2,3]
 (.block 3
 (.seq (.ops [o 29 (.load none (t 2)),
 o 30 (.load none (t 1)),
 o 31 (.call (.fu 129) [(t 29),(t 30)]),
 mv 7 31])
 (.seq (.seq (.ops [mv 32 7,
 o 33 (.bin .lss (t 32) (ci 0))])
 (.cond (t 33)
 (.exit 2)
 .skip))
 (.seq (.ops [o 34 (.load none (t 2)),
 mv 35 7,
 o 36 (.load none (t 3)),
 o 37 (.bin .add (t 35) (t 36)),
 o 38 (.slcs (t 34) none (some (t 37))),
 mv 8 38])
 (.seq (.seq (.ops [mv 39 0,
 mv 40 8,
 o 41 (.call (t 39) [(t 40)]),
 o 42 (.un .not (t 41))])
 (.cond (t 42)
 .ret
 .skip))
 (.ops [o 43 (.load none (t 2)),
 mv 44 7,
 o 45 (.load none (t 1)),
 o 46 (.slen (t 45)),
 o 47 (.bin .add (t 44) (t 46)),
 o 48 (.slcs (t 43) (some (t 47)) none),
 n (.store 1 (t 2) (t 48))]))))))))
 (.ops [mv 49 0,
 o 50 (.load none (t 2)),
 o 51 (.call (t 49) [(t 50)])])))⟩
theorem comp133:compF Tryz.prog 133 Tryz.f133 ⟨false,[],[([],[0,2]),([],[0,1,2,3])],[],[]⟩=some L133:=by kernel_rfl
def L135:LFunc:=⟨23,2,[.t 4,.t 5,.t 6],false,none,[],[],
 (.seq (.ops [o 4 (.mov (.cn (.string ⟨#[]⟩))),
 o 5 (.mov (.cn (.string ⟨#[]⟩))),
 o 6 (.mov (cb false))])
 (.seq (.seq (.ops [mv 8 0,
 mv 9 1,
 o 10 (.call (.fu 186) [(t 8),(t 9)]),
 mv 7 10])
 (.seq (.ops [mv 11 7,
 o 12 (.bin .geq (t 11) (ci 0))])
 (.cond (t 12)
 (.seq (.draw [mv 13 0,
 mv 14 7,
 o 15 (.slcs (t 13) none (some (t 14))),
 mv 16 0,
 mv 17 7,
 mv 18 1,
 o 19 (.slen (t 18)),
 o 20 (.bin .add (t 17) (t 19)),
 o 21 (.slcs (t 16) (some (t 20)) none),
 mv 4 15,
 mv 5 21,
 o 6 (.mov (cb true))]
 [])
 .ret)
 .skip)))
 (.seq (.ops [mv 22 0,
 mv 4 22,
 o 5 (.mov (.cn (.string ⟨#[]⟩))),
 o 6 (.mov (cb false))])
 .ret)))⟩
theorem comp135:compF Tryz.prog 135 Tryz.f135 ⟨false,[],[],[],[]⟩=some L135:=by kernel_rfl
def L137:LFunc:=⟨17,2,[.t 4],false,none,[],[],
 (.seq (.ops [o 4 (.mov (.cn (.string ⟨#[]⟩)))])
 (.seq (.block 0
 (.loop [0,1]
 (.seq (.seq (.ops [mv 5 0,
 o 6 (.slen (t 5)),
 o 7 (.bin .gtr (t 6) (ci 0)),
 mv 8 7,
 mg 9 8 0,
 og 10 8 (.ixs (t 9) (ci 0)),
 mg 11 8 1,
 og 12 8 (.bin .eql (t 10) (t 11)),
 o 13 (.pick (t 8) (t 12) (cb false))])
 (.cond (t 13)
 .skip
 (.exit 0)))
 (.block 1
 (.ops [mv 14 0,
 o 15 (.slcs (t 14) (some (ci 1)) none),
 mv 0 15])))))
 (.seq (.ops [mv 16 0,
 mv 4 16])
 .ret)))⟩
theorem comp137:compF Tryz.prog 137 Tryz.f137 ⟨false,[],[([],[0,1])],[],[]⟩=some L137:=by kernel_rfl
def L141:LFunc:=⟨9,1,[.t 2],false,none,[],[],
 (.seq (.ops [o 2 (.mov (cb false))])
 (.seq (.ops [mv 3 0,
 o 4 (.bin .geq (t 3) (.cn (.int .u8 48))),
 mv 5 4,
 mg 6 5 0,
 og 7 5 (.bin .leq (t 6) (.cn (.int .u8 57))),
 o 8 (.pick (t 5) (t 7) (cb false)),
 mv 2 8])
 .ret))⟩
theorem comp141:compF Tryz.prog 141 Tryz.f141 ⟨false,[],[],[],[]⟩=some L141:=by kernel_rfl
def L142:LFunc:=⟨20,2,[.t 4],false,none,[],[],
 (.seq (.ops [o 4 (.mov (ci 0))])
 (.seq (.ops [o 5 (.mov (ci 0))])
 (.seq (.block 0
 (.loop [0,1,5]
 (.seq (.seq (.ops [mv 6 5,
 mv 7 0,
 o 8 (.slen (t 7)),
 o 9 (.bin .lss (t 6) (t 8)),
 mv 10 9,
 mg 11 10 1,
 mg 12 10 0,
 mg 13 10 5,
 og 14 10 (.ixs (t 12) (t 13)),
 og 15 10 (.call (t 11) [(t 14)]),
 o 16 (.pick (t 10) (t 15) (cb false))])
 (.cond (t 16)
 .skip
 (.exit 0)))
 (.block 1
 (.ops [mv 17 5,
 o 18 (.bin .add (t 17) (ci 1)),
 mv 5 18])))))
 (.seq (.ops [mv 19 5,
 mv 4 19])
 .ret))))⟩
theorem comp142:compF Tryz.prog 142 Tryz.f142 ⟨false,[],[([],[0,1,5])],[],[]⟩=some L142:=by kernel_rfl
def L143:LFunc:=⟨6,1,[.t 2],false,none,[],[],
 (.seq (.ops [o 2 (.mov (cb false))])
 (.seq (.ops [mv 3 0,
 o 4 (.call (.fu 101) [(t 3)]),
 o 5 (.bin .gtr (t 4) (ci 0)),
 mv 2 5])
 .ret))⟩
theorem comp143:compF Tryz.prog 143 Tryz.f143 ⟨false,[],[],[],[]⟩=some L143:=by kernel_rfl
def L144:LFunc:=⟨43,1,[.cell 2 (some 5),.t 3],false,none,[],[],
 (.seq (.ops [o 2 (.alloc [.int .i64 0,.string ⟨#[]⟩,.int .i64 0,.int .i64 0,.int .i64 0]),
 o 3 (.mov (ci 0))])
 (.seq (.ops [mv 8 0,
 o 9 (.call (.fu 142) [(t 8),(.fu 143)]),
 mv 4 9])
 (.seq (.ops [mv 10 0,
 mv 11 4,
 o 12 (.slcs (t 10) (some (t 11)) none),
 o 13 (.call (.fu 142) [(t 12),(.fu 141)]),
 mv 5 13])
 (.seq (.seq (.ops [mv 14 5,
 o 15 (.bin .eql (t 14) (ci 0))])
 (.cond (t 15)
 (.seq (.ops [mv 16 0,
 mv 17 4,
 o 18 (.slcs (t 16) none (some (t 17))),
 o 19 (.call (.fu 198) [(t 18)]),
 o 20 (.build [.int .i64 0,.string ⟨#[]⟩,.int .i64 0,.int .i64 0,.int .i64 0] [(0,1,(ci 6)),(1,1,(t 19))]),
 mv 21 4,
 n (.store 5 (t 2) (t 20)),
 mv 3 21])
 .ret)
 .skip))
 (.seq (.ops [mv 23 0,
 mv 24 4,
 mv 25 5,
 o 26 (.bin .add (t 24) (t 25)),
 o 27 (.slcs (t 23) none (some (t 26))),
 o 28 (.call (.fu 100) [(t 27)]),
 mv 22 28,
 o 29 (.ext (t 22) 0),
 o 30 (.ext (t 22) 1),
 o 6 (.alloc [.int .i64 0,.int .i64 0]),
 n (.store 2 (t 6) (t 29)),
 mv 7 30])
 (.seq (.seq (.ops [mv 31 4,
 o 32 (.bin .gtr (t 31) (ci 1)),
 mv 33 32,
 ⟨some 34,.mov (t 7),(some (33,false))⟩,
 ⟨some 35,.un .not (t 34),(some (33,false))⟩,
 o 36 (.pick (t 33) (cb true) (t 35))])
 (.cond (t 36)
 (.seq (.ops [o 37 (.build [.int .i64 0,.string ⟨#[]⟩,.int .i64 0,.int .i64 0,.int .i64 0] []),
 n (.store 5 (t 2) (t 37)),
 o 3 (.mov (ci 0))])
 .ret)
 .skip))
 (.seq (.ops [o 38 (.load (some 2) (t 6)),
 o 39 (.build [.int .i64 0,.string ⟨#[]⟩,.int .i64 0,.int .i64 0,.int .i64 0] [(0,1,(ci 3)),(3,2,(t 38))]),
 mv 40 4,
 mv 41 5,
 o 42 (.bin .add (t 40) (t 41)),
 n (.store 5 (t 2) (t 39)),
 mv 3 42])
 .ret)))))))⟩
theorem comp144:compF Tryz.prog 144 Tryz.f144 ⟨false,[],[],[],[]⟩=some L144:=by kernel_rfl
def L145:LFunc:=⟨43,1,[.t 2,.t 3],false,none,[],[],
 (.seq (.ops [o 2 (.mov (.cn (.string ⟨#[]⟩))),
 o 3 (.mov (ci 0))])
 (.seq (.ops [o 4 (.mov (.cn (.slice none 0 0)))])
 (.seq (.seq (.ops [o 5 (.mov (ci 1))])
 (.block 0
 (.pre [.tmp 4 (some 1)] (.loop [0,4,5]
 (.seq (.seq (.ops [mv 6 5,
 mv 7 0,
 o 8 (.slen (t 7)),
 o 9 (.bin .lss (t 6) (t 8))])
 (.cond (t 9)
 .skip
 (.exit 0)))
 (.seq (.block 1
 (.seq (.seq (.ops [mv 12 0,
 mv 13 5,
 o 14 (.ixs (t 12) (t 13)),
 o 15 (.bin .neq (t 14) (.cn (.int .u8 34)))])
 (.cond (t 15)
 (.seq (.ops [mv 16 4,
 mv 17 0,
 mv 18 5,
 o 19 (.ixs (t 17) (t 18)),
 o 20 (.bsl 1 [.int .u8 0] 1 [(0,(t 19))]),
 o 21 (.app 1 1 false (t 16) (t 20)),
 mv 4 21])
 (.exit 1))
 .skip))
 (.seq (.seq (.ops [mv 22 5,
 o 23 (.bin .add (t 22) (ci 1)),
 mv 24 0,
 o 25 (.slen (t 24)),
 o 26 (.bin .eql (t 23) (t 25)),
 mv 27 26,
 ⟨some 28,.mov (t 0),(some (27,false))⟩,
 ⟨some 29,.mov (t 5),(some (27,false))⟩,
 ⟨some 30,.bin .add (t 29) (ci 1),(some (27,false))⟩,
 ⟨some 31,.ixs (t 28) (t 30),(some (27,false))⟩,
 ⟨some 32,.bin .neq (t 31) (.cn (.int .u8 34)),(some (27,false))⟩,
 o 33 (.pick (t 27) (cb true) (t 32))])
 (.cond (t 33)
 (.seq (.ops [mv 34 4,
 o 35 (.b2s (t 34)),
 mv 36 5,
 o 37 (.bin .add (t 36) (ci 1)),
 mv 2 35,
 mv 3 37])
 .ret)
 .skip))
 (.seq (.ops [mv 38 4,
 o 39 (.bsl 1 [.int .u8 0] 1 [(0,(.cn (.int .u8 34)))]),
 o 40 (.app 1 1 false (t 38) (t 39)),
 mv 4 40])
 (.ops [mv 41 5,
 o 42 (.bin .add (t 41) (ci 1)),
 mv 5 42])))))
 (.ops [mv 10 5,
 o 11 (.bin .add (t 10) (ci 1)),
 mv 5 11])))))))
 (.seq (.ops [o 2 (.mov (.cn (.string ⟨#[]⟩))),
 o 3 (.mov (ci 0))])
 .ret))))⟩
theorem comp145:compF Tryz.prog 145 Tryz.f145 ⟨false,[],[([.tmp 4 (some 1)],[0,4,5])],[],[]⟩=some L145:=by kernel_rfl
def L146:LFunc:=⟨8,2,[.t 4],false,none,[],[],
 (.seq (.ops [o 4 (.mov (cb false))])
 (.seq (.ops [mv 5 0,
 mv 6 1,
 o 7 (.call (.fu 130) [(t 5),(t 6)]),
 mv 4 7])
 .ret))⟩
theorem comp146:compF Tryz.prog 146 Tryz.f146 ⟨false,[],[],[],[]⟩=some L146:=by kernel_rfl
def L147:LFunc:=⟨27,3,[.cell 6 (some 8)],false,none,[],[],
 (.seq (.ops [o 6 (.alloc [.int .i64 0,.int .i64 0,.string ⟨#[]⟩,.int .i64 0,.int .i64 0,.int .i64 0,.int .i64 0,.slice none 0 0])])
 (.seq (.ops [mv 10 1,
 o 11 (.call (t 10) []),
 o 7 (.alloc [.int .i64 0,.int .i64 0,.string ⟨#[]⟩,.int .i64 0,.int .i64 0,.int .i64 0,.int .i64 0,.slice none 0 0]),
 n (.store 8 (t 7) (t 11))])
 (.block 0
 (.pre [.bx 7 7 none] (.loop [0,1,2,6,7]
 (.block 1
 (.seq (.ops [mv 13 0,
 mv 14 2,
 o 15 (.call (.fu 107) [(t 13),(t 14)]),
 mv 12 15,
 o 16 (.ext (t 12) 0),
 o 17 (.ext (t 12) 1),
 mv 8 16,
 mv 9 17])
 (.seq (.seq (.ops [mv 18 9,
 o 19 (.un .not (t 18))])
 (.cond (t 19)
 (.seq (.ops [o 20 (.load (some 8) (t 7)),
 n (.store 8 (t 6) (t 20))])
 .ret)
 .skip))
 (.draw [mv 21 8,
 o 22 (.load (some 8) (t 7)),
 mv 23 1,
 o 24 (.call (t 23) []),
 o 25 (.bsl 8 [.int .i64 0,.int .i64 0,.string ⟨#[]⟩,.int .i64 0,.int .i64 0,.int .i64 0,.int .i64 0,.slice none 0 0] 2 [(0,(t 22)),(1,(t 24))]),
 o 26 (.build [.int .i64 0,.int .i64 0,.string ⟨#[]⟩,.int .i64 0,.int .i64 0,.int .i64 0,.int .i64 0,.slice none 0 0] [(0,1,(ci 5)),(2,1,(t 21)),(7,1,(t 25))]),
 n (.store 8 (t 7) (t 26))]
 [(1,3)])))))))))⟩
theorem comp147:compF Tryz.prog 147 Tryz.f147 ⟨false,[],[([.bx 7 7 none],[0,1,2,6,7])],[],[]⟩=some L147:=by kernel_rfl
def L148:LFunc:=⟨8,1,[.cell 2 (some 8)],false,none,[],[],
 (.seq (.ops [o 2 (.alloc [.int .i64 0,.int .i64 0,.string ⟨#[]⟩,.int .i64 0,.int .i64 0,.int .i64 0,.int .i64 0,.slice none 0 0])])
 (.seq (.ops [mv 3 0,
 mv 4 0,
 o 5 (.mkb 199 [(t 4)]),
 o 6 (.bsl 1 [.string ⟨#[]⟩] 2 [(0,(.cn (.string ⟨#[43]⟩))),(1,(.cn (.string ⟨#[45]⟩)))]),
 o 7 (.call (.fu 147) [(t 3),(t 5),(t 6)]),
 n (.store 8 (t 2) (t 7))])
 .ret))⟩
theorem comp148:compF Tryz.prog 148 Tryz.f148 ⟨false,[],[],[],[]⟩=some L148:=by kernel_rfl
def L149:LFunc:=⟨9,2,[.t 4],false,none,[],[],
 (.seq (.ops [o 4 (.mov (cb false))])
 (.seq (.ops [mv 5 0,
 mv 6 1,
 o 7 (.call (.fu 200) [(t 5),(t 6)]),
 o 8 (.bin .geq (t 7) (ci 0)),
 mv 4 8])
 .ret))⟩
theorem comp149:compF Tryz.prog 149 Tryz.f149 ⟨false,[],[],[],[]⟩=some L149:=by kernel_rfl
def L155:LFunc:=⟨19,2,[.t 4],false,none,[],[],
 (.seq (.ops [o 4 (.mov (ci 0))])
 (.seq (.seq (.ops [mv 6 0,
 o 7 (.len (t 6)),
 o 8 (.mov (ci 0))])
 (.block 0
 (.loop [0,1,7,8]
 (.seq (.ops [o 9 (.bin .lss (t 8) (t 7))])
 (.seq (.cond (t 9)
 .skip
 (.exit 0))
 (.seq (.block 1
 (.seq (.ops [mv 10 8,
 mv 5 10])
 (.seq (.ops [mv 11 1,
 mv 12 0,
 mv 13 5,
 o 14 (.ixa 3 (t 12) (t 13)),
 o 15 (.load (some 3) (t 14)),
 o 16 (.call (t 11) [(t 15)])])
 (.cond (t 16)
 (.seq (.ops [mv 17 5,
 mv 4 17])
 .ret)
 .skip))))
 (.ops [o 18 (.bin .add (t 8) (ci 1)),
 mv 8 18])))))))
 (.seq (.ops [o 4 (.mov (ci (-1)))])
 .ret)))⟩
theorem comp155:compF Tryz.prog 155 Tryz.f155 ⟨false,[],[([],[0,1,7,8])],[],[]⟩=some L155:=by kernel_rfl
def L156:LFunc:=⟨6,1,[.t 2],false,none,[],[],
 (.seq (.ops [o 1 (.box (t 0)),
 o 2 (.mov (cb false))])
 (.seq (.ops [o 3 (.fld (t 1) 0),
 o 4 (.load none (t 3)),
 o 5 (.bin .eql (t 4) (ci 3)),
 mv 2 5])
 .ret))⟩
theorem comp156:compF Tryz.prog 156 Tryz.f156 ⟨false,[],[],[],[]⟩=some L156:=by kernel_rfl
def L157:LFunc:=⟨48,3,[.cell 6 (some 3)],false,none,[],[],
 (.seq (.ops [o 6 (.alloc [.int .i64 0,.int .i64 0,.string ⟨#[]⟩])])
 (.seq (.seq (.ops [mv 8 0])
 (.block 0
 (.seq (.ops [o 10 (.bin .eql (t 8) (.cn (.string ⟨#[43]⟩))),
 mv 9 10])
 (.cond (t 9)
 (.seq (.ops [mv 11 1,
 mv 12 2,
 o 13 (.bin .add (t 11) (t 12)),
 o 14 (.call (.fu 210) [(t 13)]),
 n (.store 3 (t 6) (t 14))])
 .ret)
 (.seq (.ops [o 16 (.bin .eql (t 8) (.cn (.string ⟨#[45]⟩))),
 mv 15 16])
 (.cond (t 15)
 (.seq (.ops [mv 17 1,
 mv 18 2,
 o 19 (.bin .sub (t 17) (t 18)),
 o 20 (.call (.fu 210) [(t 19)]),
 n (.store 3 (t 6) (t 20))])
 .ret)
 (.seq (.ops [o 22 (.bin .eql (t 8) (.cn (.string ⟨#[42]⟩))),
 mv 21 22])
 (.cond (t 21)
 (.seq (.ops [mv 23 1,
 mv 24 2,
 o 25 (.bin .mul (t 23) (t 24)),
 o 26 (.call (.fu 210) [(t 25)]),
 n (.store 3 (t 6) (t 26))])
 .ret)
 .skip))))))))
 (.seq (.seq (.ops [mv 27 2,
 o 28 (.bin .eql (t 27) (ci 0))])
 (.cond (t 28)
 (.seq (.ops [o 29 (.call (.fu 74) [(.cn (.string ⟨#[35,68,73,86]⟩))]),
 n (.store 3 (t 6) (t 29))])
 .ret)
 .skip))
 (.seq (.ops [mv 30 1,
 mv 31 2,
 o 32 (.bin .quo (t 30) (t 31)),
 mv 7 32])
 (.seq (.seq (.ops [mv 33 1,
 mv 34 2,
 o 35 (.bin .rem (t 33) (t 34)),
 o 36 (.bin .neq (t 35) (ci 0)),
 mv 37 36,
 mg 38 37 1,
 og 39 37 (.bin .lss (t 38) (ci 0)),
 mg 40 37 2,
 og 41 37 (.bin .lss (t 40) (ci 0)),
 og 42 37 (.beq true (t 39) (t 41)),
 o 43 (.pick (t 37) (t 42) (cb false))])
 (.cond (t 43)
 (.ops [mv 44 7,
 o 45 (.bin .sub (t 44) (ci 1)),
 mv 7 45])
 .skip))
 (.seq (.ops [mv 46 7,
 o 47 (.call (.fu 210) [(t 46)]),
 n (.store 3 (t 6) (t 47))])
 .ret))))))⟩
theorem comp157:compF Tryz.prog 157 Tryz.f157 ⟨false,[],[],[],[]⟩=some L157:=by kernel_rfl
def L158:LFunc:=⟨29,2,[.t 4],false,none,[],[],
 (.seq (.ops [o 2 (.box (t 0)),
 o 3 (.box (t 1)),
 o 4 (.mov (ci 0))])
 (.seq (.seq (.ops [o 5 (.fld (t 2) 0),
 o 6 (.load none (t 5)),
 o 7 (.bin .neq (t 6) (ci 2)),
 mv 8 7,
 og 9 8 (.fld (t 3) 0),
 og 10 8 (.load none (t 9)),
 og 11 8 (.bin .neq (t 10) (ci 2)),
 o 12 (.pick (t 8) (t 11) (cb false))])
 (.cond (t 12)
 (.seq (.ops [o 13 (.fld (t 2) 1),
 o 14 (.load none (t 13)),
 o 15 (.fld (t 3) 1),
 o 16 (.load none (t 15)),
 o 17 (.bin .sub (t 14) (t 16)),
 mv 4 17])
 .ret)
 .skip))
 (.seq (.seq (.ops [o 18 (.fld (t 2) 0),
 o 19 (.load none (t 18)),
 o 20 (.bin .eql (t 19) (ci 1))])
 (.cond (t 20)
 (.seq (.ops [o 4 (.mov (ci (-1)))])
 .ret)
 .skip))
 (.seq (.seq (.ops [o 21 (.fld (t 3) 0),
 o 22 (.load none (t 21)),
 o 23 (.bin .eql (t 22) (ci 1))])
 (.cond (t 23)
 (.seq (.ops [o 4 (.mov (ci 1))])
 .ret)
 .skip))
 (.seq (.ops [o 24 (.fld (t 2) 2),
 o 25 (.load none (t 24)),
 o 26 (.fld (t 3) 2),
 o 27 (.load none (t 26)),
 o 28 (.call (.fu 211) [(t 25),(t 27)]),
 mv 4 28])
 .ret)))))⟩
theorem comp158:compF Tryz.prog 158 Tryz.f158 ⟨false,[],[],[],[]⟩=some L158:=by kernel_rfl
def L159:LFunc:=⟨7,1,[.cell 2 (some 3)],false,none,[],[],
 (.seq (.ops [o 2 (.alloc [.int .i64 0,.int .i64 0,.string ⟨#[]⟩])])
 (.seq (.ops [mv 3 0,
 o 4 (.call (.fu 73) [(ci 1)]),
 o 5 (.call (.fu 73) [(ci 0)]),
 o 6 (.call (.fu 71) [(t 3),(t 4),(t 5)]),
 n (.store 3 (t 2) (t 6))])
 .ret))⟩
theorem comp159:compF Tryz.prog 159 Tryz.f159 ⟨false,[],[],[],[]⟩=some L159:=by kernel_rfl
def L160:LFunc:=⟨28,1,[.t 2],false,none,[],[],
 (.seq (.ops [o 2 (.mov (.cn (.nilIface)))])
 (.seq (.seq (.ops [mv 3 0])
 (.block 0
 (.seq (.seq (.ops [o 5 (.bin .eql (t 3) (.cn (.string ⟨#[83,85,77]⟩))),
 mv 4 5])
 (.cond (t 4)
 .skip
 (.seq (.ops [o 6 (.bin .eql (t 3) (.cn (.string ⟨#[77,73,78]⟩))),
 mv 4 6])
 (.cond (t 4)
 .skip
 (.seq (.ops [o 7 (.bin .eql (t 3) (.cn (.string ⟨#[77,65,88]⟩))),
 mv 4 7])
 (.cond (t 4)
 .skip
 (.ops [o 8 (.bin .eql (t 3) (.cn (.string ⟨#[67,79,85,78,84]⟩))),
 mv 4 8])))))))
 (.cond (t 4)
 (.seq (.ops [mv 9 0,
 o 10 (.build [.string ⟨#[]⟩] [(0,1,(t 9))]),
 o 11 (.mki 217 (t 10)),
 mv 2 11])
 .ret)
 (.seq (.ops [o 13 (.bin .eql (t 3) (.cn (.string ⟨#[76,69,78]⟩))),
 mv 12 13])
 (.cond (t 12)
 (.seq (.ops [o 14 (.build [] []),
 o 15 (.mki 220 (t 14)),
 mv 2 15])
 .ret)
 (.seq (.ops [o 17 (.bin .eql (t 3) (.cn (.string ⟨#[73,70]⟩))),
 mv 16 17])
 (.cond (t 16)
 (.seq (.ops [o 18 (.build [] []),
 o 19 (.mki 221 (t 18)),
 mv 2 19])
 .ret)
 (.seq (.ops [o 21 (.bin .eql (t 3) (.cn (.string ⟨#[73,78,68,69,88]⟩))),
 mv 20 21])
 (.cond (t 20)
 (.seq (.ops [o 22 (.build [] []),
 o 23 (.mki 223 (t 22)),
 mv 2 23])
 .ret)
 (.seq (.ops [o 25 (.bin .eql (t 3) (.cn (.string ⟨#[70,69,84,67,72]⟩))),
 mv 24 25])
 (.cond (t 24)
 (.seq (.ops [o 26 (.build [] []),
 o 27 (.mki 262 (t 26)),
 mv 2 27])
 .ret)
 .skip))))))))))))
 (.seq (.ops [o 2 (.mov (.cn (.nilIface)))])
 .ret)))⟩
theorem comp160:compF Tryz.prog 160 Tryz.f160 ⟨false,[],[],[],[]⟩=some L160:=by kernel_rfl
def L161:LFunc:=⟨106,3,[.cell 6 (some 3)],false,none,[],[],
 (.seq (.ops [o 6 (.alloc [.int .i64 0,.int .i64 0,.string ⟨#[]⟩])])
 (.seq (.ops [mv 19 0,
 mv 20 2,
 o 21 (.call (.fu 212) [(t 19),(t 20)]),
 mv 18 21,
 o 22 (.ext (t 18) 0),
 o 23 (.ext (t 18) 1),
 mv 7 22,
 mv 8 23])
 (.seq (.seq (.ops [mv 24 1,
 o 25 (.bin .eql (t 24) (.cn (.string ⟨#[67,79,85,78,84]⟩)))])
 (.cond (t 25)
 (.seq (.ops [o 9 (.mov (ci 0))])
 (.seq (.seq (.ops [mv 26 7,
 o 27 (.len (t 26)),
 o 28 (.mov (ci 0))])
 (.block 0
 (.loop [6,9,26,27,28]
 (.seq (.ops [o 29 (.bin .lss (t 28) (t 27))])
 (.seq (.cond (t 29)
 .skip
 (.exit 0))
 (.seq (.block 1
 (.seq (.ops [o 30 (.ixa 3 (t 26) (t 28)),
 o 31 (.load (some 3) (t 30)),
 o 11 (.alloc [.int .i64 0,.int .i64 0,.string ⟨#[]⟩]),
 n (.store 3 (t 11) (t 31))])
 (.ops [mv 32 9,
 o 33 (.fld (t 11) 0),
 o 34 (.load none (t 33)),
 o 35 (.bin .eql (t 34) (ci 1)),
 o 36 (.call (.fu 213) [(t 35),(ci 1),(ci 0)]),
 o 37 (.bin .add (t 32) (t 36)),
 mv 9 37])))
 (.ops [o 38 (.bin .add (t 28) (ci 1)),
 mv 28 38])))))))
 (.seq (.ops [mv 39 9,
 o 40 (.call (.fu 73) [(t 39)]),
 n (.store 3 (t 6) (t 40))])
 .ret)))
 .skip))
 (.seq (.ops [o 12 (.mov (.cn (.slice none 0 0)))])
 (.seq (.seq (.ops [mv 41 7,
 o 42 (.len (t 41)),
 o 43 (.mov (ci 0))])
 (.block 2
 (.pre [.tmp 12 (some 1)] (.loop [1,6,8,12,41,42,43]
 (.seq (.ops [o 44 (.bin .lss (t 43) (t 42))])
 (.seq (.cond (t 44)
 .skip
 (.exit 2))
 (.seq (.block 3
 (.seq (.ops [mv 45 43,
 o 46 (.ixa 3 (t 41) (t 43)),
 o 47 (.load (some 3) (t 46)),
 o 14 (.alloc [.int .i64 0,.int .i64 0,.string ⟨#[]⟩]),
 mv 13 45,
 n (.store 3 (t 14) (t 47))])
 (.block 4
 (.seq (.ops [o 49 (.load (some 3) (t 14)),
 o 50 (.call (.fu 156) [(t 49)]),
 mv 48 50])
 (.cond (t 48)
 (.seq (.ops [o 51 (.load (some 3) (t 14)),
 n (.store 3 (t 6) (t 51))])
 .ret)
 (.seq (.seq (.ops [o 53 (.fld (t 14) 0),
 o 54 (.load none (t 53)),
 o 55 (.bin .eql (t 54) (ci 1)),
 mv 52 55])
 (.cond (t 52)
 .skip
 (.ops [o 56 (.fld (t 14) 0),
 o 57 (.load none (t 56)),
 o 58 (.bin .eql (t 57) (ci 0)),
 mv 59 58,
 mg 60 59 8,
 mg 61 59 13,
 og 62 59 (.ixa 1 (t 60) (t 61)),
 og 63 59 (.load none (t 62)),
 og 64 59 (.un .not (t 63)),
 o 65 (.pick (t 59) (t 64) (cb false)),
 mv 52 65])))
 (.cond (t 52)
 (.ops [mv 66 12,
 o 67 (.fld (t 14) 1),
 o 68 (.load none (t 67)),
 o 69 (.bsl 1 [.int .i64 0] 1 [(0,(t 68))]),
 o 70 (.app 1 8 false (t 66) (t 69)),
 mv 12 70])
 (.seq (.ops [mv 72 8,
 mv 73 13,
 o 74 (.ixa 1 (t 72) (t 73)),
 o 75 (.load none (t 74)),
 o 76 (.un .not (t 75)),
 mv 71 76])
 (.cond (t 71)
 (.seq (.ops [o 77 (.call (.fu 74) [(.cn (.string ⟨#[35,86,65,76]⟩))]),
 n (.store 3 (t 6) (t 77))])
 .ret)
 .skip)))))))))
 (.ops [o 78 (.bin .add (t 43) (ci 1)),
 mv 43 78]))))))))
 (.seq (.seq (.ops [mv 79 12,
 o 80 (.len (t 79)),
 o 81 (.bin .eql (t 80) (ci 0))])
 (.cond (t 81)
 (.seq (.ops [o 82 (.call (.fu 73) [(ci 0)]),
 n (.store 3 (t 6) (t 82))])
 .ret)
 .skip))
 (.seq (.seq (.ops [mv 83 1])
 (.block 5
 (.seq (.ops [o 85 (.bin .eql (t 83) (.cn (.string ⟨#[77,73,78]⟩))),
 mv 84 85])
 (.cond (t 84)
 (.seq (.ops [mv 86 12,
 o 87 (.call (.fu 214) [(t 86)]),
 o 88 (.call (.fu 73) [(t 87)]),
 n (.store 3 (t 6) (t 88))])
 .ret)
 (.seq (.ops [o 90 (.bin .eql (t 83) (.cn (.string ⟨#[77,65,88]⟩))),
 mv 89 90])
 (.cond (t 89)
 (.seq (.ops [mv 91 12,
 o 92 (.call (.fu 215) [(t 91)]),
 o 93 (.call (.fu 73) [(t 92)]),
 n (.store 3 (t 6) (t 93))])
 .ret)
 .skip))))))
 (.seq (.ops [o 15 (.mov (ci 0))])
 (.seq (.seq (.ops [mv 94 12,
 o 95 (.len (t 94)),
 o 96 (.mov (ci 0))])
 (.block 6
 (.loop [6,15,94,95,96]
 (.seq (.ops [o 97 (.bin .lss (t 96) (t 95))])
 (.seq (.cond (t 97)
 .skip
 (.exit 6))
 (.seq (.block 7
 (.seq (.ops [o 98 (.ixa 1 (t 94) (t 96)),
 o 99 (.load none (t 98)),
 mv 17 99])
 (.ops [mv 100 15,
 mv 101 17,
 o 102 (.bin .add (t 100) (t 101)),
 mv 15 102])))
 (.ops [o 103 (.bin .add (t 96) (ci 1)),
 mv 96 103])))))))
 (.seq (.ops [mv 104 15,
 o 105 (.call (.fu 210) [(t 104)]),
 n (.store 3 (t 6) (t 105))])
 .ret))))))))))⟩
theorem comp161:compF Tryz.prog 161 Tryz.f161 ⟨false,[],[([],[6,9,26,27,28]),([.tmp 12 (some 1)],[1,6,8,12,41,42,43]),([],[6,15,94,95,96])],[],[]⟩=some L161:=by kernel_rfl
def L162:LFunc:=⟨34,2,[.cell 4 (some 3)],false,none,[],[],
 (.seq (.ops [o 4 (.alloc [.int .i64 0,.int .i64 0,.string ⟨#[]⟩])])
 (.seq (.ops [mv 6 0,
 mv 7 1,
 o 8 (.ixa 8 (t 7) (ci 0)),
 o 9 (.load (some 8) (t 8)),
 o 10 (.call (.fu 75) [(t 6),(t 9)]),
 o 5 (.alloc [.int .i64 0,.int .i64 0,.string ⟨#[]⟩]),
 n (.store 3 (t 5) (t 10))])
 (.seq (.block 0
 (.seq (.ops [o 12 (.load (some 3) (t 5)),
 o 13 (.call (.fu 156) [(t 12)]),
 mv 11 13])
 (.cond (t 11)
 (.seq (.ops [o 14 (.load (some 3) (t 5)),
 n (.store 3 (t 4) (t 14))])
 .ret)
 (.seq (.ops [o 16 (.fld (t 5) 0),
 o 17 (.load none (t 16)),
 o 18 (.bin .eql (t 17) (ci 2)),
 mv 15 18])
 (.cond (t 15)
 (.seq (.ops [o 19 (.call (.fu 74) [(.cn (.string ⟨#[35,86,65,76]⟩))]),
 n (.store 3 (t 4) (t 19))])
 .ret)
 (.seq (.ops [o 21 (.fld (t 5) 1),
 o 22 (.load none (t 21)),
 o 23 (.bin .neq (t 22) (ci 0)),
 mv 20 23])
 (.cond (t 20)
 (.seq (.ops [mv 24 0,
 mv 25 1,
 o 26 (.ixa 8 (t 25) (ci 1)),
 o 27 (.load (some 8) (t 26)),
 o 28 (.call (.fu 75) [(t 24),(t 27)]),
 n (.store 3 (t 4) (t 28))])
 .ret)
 .skip)))))))
 (.seq (.ops [mv 29 0,
 mv 30 1,
 o 31 (.ixa 8 (t 30) (ci 2)),
 o 32 (.load (some 8) (t 31)),
 o 33 (.call (.fu 75) [(t 29),(t 32)]),
 n (.store 3 (t 4) (t 33))])
 .ret))))⟩
theorem comp162:compF Tryz.prog 162 Tryz.f162 ⟨false,[],[],[],[]⟩=some L162:=by kernel_rfl
def L163:LFunc:=⟨54,2,[.cell 4 (some 3)],false,none,[],[],
 (.seq (.ops [o 2 (.box (t 0)),
 o 4 (.alloc [.int .i64 0,.int .i64 0,.string ⟨#[]⟩])])
 (.seq (.seq (.ops [mv 8 1,
 o 9 (.ixa 8 (t 8) (ci 0)),
 o 10 (.fld (t 9) 0),
 o 11 (.load none (t 10)),
 o 12 (.bin .neq (t 11) (ci 4))])
 (.cond (t 12)
 (.seq (.ops [o 13 (.call (.fu 74) [(.cn (.string ⟨#[35,86,65,76]⟩))]),
 n (.store 3 (t 4) (t 13))])
 .ret)
 .skip))
 (.seq (.draw [o 14 (.load none (t 2)),
 mv 15 1,
 o 16 (.ixa 8 (t 15) (ci 0)),
 o 17 (.load (some 8) (t 16)),
 o 18 (.call (.fu 66) [(t 17)]),
 o 19 (.call (.fu 29) [(t 14),(t 18)])]
 [(0,4)])
 (.seq (.seq (.ops [o 20 (.load none (t 2)),
 o 21 (.nilchk (t 20)),
 o 22 (.fld (t 21) 8),
 o 23 (.load none (t 22))])
 (.cond (t 23)
 (.seq (.ops [o 24 (.build [.int .i64 0,.int .i64 0,.string ⟨#[]⟩] []),
 n (.store 3 (t 4) (t 24))])
 .ret)
 .skip))
 (.seq (.draw [o 25 (.load none (t 2)),
 mv 26 1,
 o 27 (.ixa 8 (t 26) (ci 1)),
 o 28 (.load (some 8) (t 27)),
 o 29 (.call (.fu 75) [(t 25),(t 28)]),
 o 5 (.alloc [.int .i64 0,.int .i64 0,.string ⟨#[]⟩]),
 n (.store 3 (t 5) (t 29))]
 [(0,5),(3,5),(4,5)])
 (.seq (.block 0
 (.seq (.ops [o 31 (.load (some 3) (t 5)),
 o 32 (.call (.fu 156) [(t 31)]),
 mv 30 32])
 (.cond (t 30)
 (.seq (.ops [o 33 (.load (some 3) (t 5)),
 n (.store 3 (t 4) (t 33))])
 .ret)
 (.seq (.ops [o 35 (.fld (t 5) 0),
 o 36 (.load none (t 35)),
 o 37 (.bin .eql (t 36) (ci 2)),
 mv 34 37])
 (.cond (t 34)
 (.seq (.ops [o 38 (.call (.fu 74) [(.cn (.string ⟨#[35,86,65,76]⟩))]),
 n (.store 3 (t 4) (t 38))])
 .ret)
 .skip)))))
 (.seq (.ops [o 6 (.alloc [.int .i64 0]),
 n (.store 1 (t 6) (ci 0))])
 (.seq (.seq (.ops [mv 39 1,
 o 40 (.ixa 8 (t 39) (ci 0)),
 o 41 (.load (some 8) (t 40)),
 o 42 (.call (.fu 124) [(t 41)])])
 (.block 1
 (.pre [.lend 171] (.rfn (t 42) 8364195 [2,4,5,6] [171]))))
 (.seq (.ops [o 53 (.call (.fu 74) [(.cn (.string ⟨#[35,82,69,70]⟩))]),
 n (.store 3 (t 4) (t 53))])
 .ret)))))))))⟩
theorem comp163:compF Tryz.prog 163 Tryz.f163 ⟨false,[],[([.lend 171],[2,4,5,6])],[],[]⟩=some L163:=by kernel_rfl
def L8364195:LFunc:=⟨54,1,[],false,some [43],[],[],
 (.seq (.ops [o 7 (.alloc [.int .i64 0,.int .i64 0]),
 n (.store 2 (t 7) (t 43))])
 (.block 2
 (.seq (.ops [o 44 (.load none (t 6)),
 o 45 (.bin .add (t 44) (ci 1)),
 n (.store 1 (t 6) (t 45))])
 (.seq (.ops [o 46 (.load none (t 6)),
 o 47 (.fld (t 5) 1),
 o 48 (.load none (t 47)),
 o 49 (.bin .eql (t 46) (t 48))])
 (.cond (t 49)
 (.seq (.ops [o 50 (.load none (t 2)),
 o 51 (.load (some 2) (t 7)),
 o 52 (.call (.fu 113) [(t 50),(t 51)]),
 n (.store 3 (t 4) (t 52))])
 .ret)
 .skip)))))⟩
theorem comp8364195:compR Tryz.prog 8364195 ⟨false,[],[],[],[]⟩=some L8364195:=by kernel_rfl
def L171:LFunc:=⟨47,1,[],false,none,[],[],
 (.seq (.ops [o 5 (.fld (t 1) 3),
 o 6 (.fld (t 5) 0),
 o 7 (.load none (t 6)),
 o 8 (.fld (t 1) 5),
 o 9 (.fld (t 8) 0),
 o 10 (.load none (t 9)),
 o 11 (.mn [(t 7),(t 10)]),
 mv 3 11])
 (.block 0
 (.loop [0,1,3]
 (.seq (.seq (.ops [mv 12 3,
 o 13 (.fld (t 1) 3),
 o 14 (.fld (t 13) 0),
 o 15 (.load none (t 14)),
 o 16 (.fld (t 1) 5),
 o 17 (.fld (t 16) 0),
 o 18 (.load none (t 17)),
 o 19 (.mx [(t 15),(t 18)]),
 o 20 (.bin .leq (t 12) (t 19))])
 (.cond (t 20)
 .skip
 (.exit 0)))
 (.seq (.block 1
 (.seq (.ops [o 23 (.fld (t 1) 3),
 o 24 (.fld (t 23) 1),
 o 25 (.load none (t 24)),
 o 26 (.fld (t 1) 5),
 o 27 (.fld (t 26) 1),
 o 28 (.load none (t 27)),
 o 29 (.mn [(t 25),(t 28)]),
 mv 4 29])
 (.block 2
 (.loop [0,1,3,4]
 (.seq (.seq (.ops [mv 30 4,
 o 31 (.fld (t 1) 3),
 o 32 (.fld (t 31) 1),
 o 33 (.load none (t 32)),
 o 34 (.fld (t 1) 5),
 o 35 (.fld (t 34) 1),
 o 36 (.load none (t 35)),
 o 37 (.mx [(t 33),(t 36)]),
 o 38 (.bin .leq (t 30) (t 37))])
 (.cond (t 38)
 .skip
 (.exit 2)))
 (.seq (.block 3
 (.seq (.ops [mv 41 0,
 mv 42 3,
 mv 43 4,
 o 44 (.build [.int .i64 0,.int .i64 0] [(0,1,(t 42)),(1,1,(t 43))]),
 o 45 (.call (t 41) [(t 44)]),
 o 46 (.un .not (t 45))])
 (.cond (t 46)
 .ret
 .skip)))
 (.ops [mv 39 4,
 o 40 (.bin .add (t 39) (ci 1)),
 mv 4 40])))))))
 (.ops [mv 21 3,
 o 22 (.bin .add (t 21) (ci 1)),
 mv 3 22]))))))⟩
theorem comp171:compF Tryz.prog 171 Tryz.f171 ⟨false,[],[([],[0,1,3]),([],[0,1,3,4])],[],[]⟩=some L171:=by kernel_rfl
def L186:LFunc:=⟨143,2,[.t 4],false,none,[],[],
 (.seq (.ops [o 4 (.mov (ci 0))])
 (.seq (.ops [mv 14 1,
 o 15 (.slen (t 14)),
 mv 5 15])
 (.seq (.block 0
 (.seq (.ops [mv 17 5,
 o 18 (.bin .eql (t 17) (ci 0)),
 mv 19 18,
 ⟨some 20,.mov (t 1),(some (19,false))⟩,
 ⟨some 21,.mov (t 0),(some (19,false))⟩,
 ⟨some 22,.bin .eql (t 20) (t 21),(some (19,false))⟩,
 o 23 (.pick (t 19) (cb true) (t 22)),
 mv 16 23])
 (.cond (t 16)
 (.seq (.ops [o 4 (.mov (ci 0))])
 .ret)
 (.seq (.ops [mv 25 5,
 o 26 (.bin .eql (t 25) (ci 1)),
 mv 24 26])
 (.cond (t 24)
 (.seq (.ops [mv 27 0,
 mv 28 1,
 o 29 (.ixs (t 28) (ci 0)),
 o 30 (.call (.fu 237) [(t 27),(t 29)]),
 mv 4 30])
 .ret)
 (.seq (.ops [mv 32 5,
 mv 33 0,
 o 34 (.slen (t 33)),
 o 35 (.bin .geq (t 32) (t 34)),
 mv 31 35])
 (.cond (t 31)
 (.seq (.ops [o 4 (.mov (ci (-1)))])
 .ret)
 (.seq (.ops [mv 37 5,
 o 38 (.load none (.gl 0)),
 o 39 (.bin .leq (t 37) (t 38)),
 mv 40 39,
 mg 41 40 0,
 og 42 40 (.slen (t 41)),
 og 43 40 (.bin .leq (t 42) (ci 64)),
 o 44 (.pick (t 40) (t 43) (cb false)),
 mv 36 44])
 (.cond (t 36)
 (.seq (.ops [mv 45 0,
 mv 46 1,
 o 47 (.call (.fu 238) [(t 45),(t 46)]),
 mv 4 47])
 .ret)
 .skip)))))))))
 (.seq (.ops [mv 48 1,
 o 49 (.ixs (t 48) (ci 0)),
 mv 6 49])
 (.seq (.ops [mv 50 1,
 o 51 (.ixs (t 50) (ci 1)),
 mv 7 51])
 (.seq (.ops [o 8 (.mov (ci 0))])
 (.seq (.ops [mv 52 0,
 o 53 (.slen (t 52)),
 mv 54 5,
 o 55 (.bin .sub (t 53) (t 54)),
 o 56 (.bin .add (t 55) (ci 1)),
 mv 9 56])
 (.seq (.ops [o 10 (.mov (ci 0))])
 (.seq (.block 1
 (.loop [0,1,5,6,7,8,9,10]
 (.seq (.seq (.ops [mv 57 8,
 mv 58 9,
 o 59 (.bin .lss (t 57) (t 58))])
 (.cond (t 59)
 .skip
 (.exit 1)))
 (.block 2
 (.seq (.seq (.ops [mv 60 0,
 mv 61 8,
 o 62 (.ixs (t 60) (t 61)),
 mv 63 6,
 o 64 (.bin .neq (t 62) (t 63))])
 (.cond (t 64)
 (.seq (.ops [mv 65 0,
 mv 66 8,
 o 67 (.bin .add (t 66) (ci 1)),
 mv 68 9,
 o 69 (.slcs (t 65) (some (t 67)) (some (t 68))),
 mv 70 6,
 o 71 (.call (.fu 237) [(t 69),(t 70)]),
 mv 11 71])
 (.seq (.seq (.ops [mv 72 11,
 o 73 (.bin .lss (t 72) (ci 0))])
 (.cond (t 73)
 (.seq (.ops [o 4 (.mov (ci (-1)))])
 .ret)
 .skip))
 (.ops [mv 74 8,
 mv 75 11,
 o 76 (.bin .add (t 75) (ci 1)),
 o 77 (.bin .add (t 74) (t 76)),
 mv 8 77])))
 .skip))
 (.seq (.seq (.ops [mv 78 0,
 mv 79 8,
 o 80 (.bin .add (t 79) (ci 1)),
 o 81 (.ixs (t 78) (t 80)),
 mv 82 7,
 o 83 (.bin .eql (t 81) (t 82)),
 mv 84 83,
 mg 85 84 0,
 mg 86 84 8,
 mg 87 84 8,
 mg 88 84 5,
 og 89 84 (.bin .add (t 87) (t 88)),
 og 90 84 (.slcs (t 85) (some (t 86)) (some (t 89))),
 mg 91 84 1,
 og 92 84 (.bin .eql (t 90) (t 91)),
 o 93 (.pick (t 84) (t 92) (cb false))])
 (.cond (t 93)
 (.seq (.ops [mv 94 8,
 mv 4 94])
 .ret)
 .skip))
 (.seq (.ops [mv 95 8,
 o 96 (.bin .add (t 95) (ci 1)),
 mv 8 96])
 (.seq (.ops [mv 97 10,
 o 98 (.bin .add (t 97) (ci 1)),
 mv 10 98])
 (.seq (.ops [mv 99 5,
 o 100 (.load none (.gl 0)),
 o 101 (.bin .leq (t 99) (t 100)),
 mv 102 101,
 mg 103 102 10,
 mg 104 102 8,
 og 105 102 (.call (.fu 239) [(t 104)]),
 og 106 102 (.bin .gtr (t 103) (t 105)),
 o 107 (.pick (t 102) (t 106) (cb false))])
 (.cond (t 107)
 (.seq (.ops [mv 108 0,
 mv 109 8,
 o 110 (.slcs (t 108) (some (t 109)) none),
 mv 111 1,
 o 112 (.call (.fu 238) [(t 110),(t 111)]),
 mv 12 112])
 (.seq (.seq (.ops [mv 113 12,
 o 114 (.bin .geq (t 113) (ci 0))])
 (.cond (t 114)
 (.seq (.ops [mv 115 12,
 mv 116 8,
 o 117 (.bin .add (t 115) (t 116)),
 mv 4 117])
 .ret)
 .skip))
 (.seq (.ops [o 4 (.mov (ci (-1)))])
 .ret)))
 (.seq (.ops [mv 118 5,
 o 119 (.load none (.gl 0)),
 o 120 (.bin .gtr (t 118) (t 119)),
 mv 121 120,
 mg 122 121 10,
 mg 123 121 8,
 og 124 121 (.bin .shr (t 123) (.cn (.int .u64 4))),
 og 125 121 (.bin .add (ci 4) (t 124)),
 og 126 121 (.bin .geq (t 122) (t 125)),
 o 127 (.pick (t 121) (t 126) (cb false)),
 mv 128 127,
 mg 129 128 8,
 mg 130 128 9,
 og 131 128 (.bin .lss (t 129) (t 130)),
 o 132 (.pick (t 128) (t 131) (cb false))])
 (.cond (t 132)
 (.seq (.ops [mv 133 0,
 mv 134 8,
 o 135 (.slcs (t 133) (some (t 134)) none),
 mv 136 1,
 o 137 (.call (.fu 240) [(t 135),(t 136)]),
 mv 13 137])
 (.seq (.seq (.ops [mv 138 13,
 o 139 (.bin .lss (t 138) (ci 0))])
 (.cond (t 139)
 (.seq (.ops [o 4 (.mov (ci (-1)))])
 .ret)
 .skip))
 (.seq (.ops [mv 140 8,
 mv 141 13,
 o 142 (.bin .add (t 140) (t 141)),
 mv 4 142])
 .ret)))
 .skip))))))))))))
 (.seq (.ops [o 4 (.mov (ci (-1)))])
 .ret))))))))))⟩
theorem comp186:compF Tryz.prog 186 Tryz.f186 ⟨false,[],[([],[0,1,5,6,7,8,9,10])],[],[]⟩=some L186:=by kernel_rfl
def L199:LFunc:=⟨8,1,[.cell 2 (some 8)],false,none,[],[],
 (.seq (.ops [o 2 (.alloc [.int .i64 0,.int .i64 0,.string ⟨#[]⟩,.int .i64 0,.int .i64 0,.int .i64 0,.int .i64 0,.slice none 0 0])])
 (.seq (.ops [mv 3 0,
 mv 4 0,
 o 5 (.mkb 248 [(t 4)]),
 o 6 (.bsl 1 [.string ⟨#[]⟩] 2 [(0,(.cn (.string ⟨#[42]⟩))),(1,(.cn (.string ⟨#[47]⟩)))]),
 o 7 (.call (.fu 147) [(t 3),(t 5),(t 6)]),
 n (.store 8 (t 2) (t 7))])
 .ret))⟩
theorem comp199:compF Tryz.prog 199 Tryz.f199 ⟨false,[],[],[],[]⟩=some L199:=by kernel_rfl
def L200:LFunc:=⟨19,2,[.t 4],false,none,[],[],
 (.seq (.ops [o 4 (.mov (ci 0))])
 (.seq (.seq (.ops [mv 6 0,
 o 7 (.len (t 6)),
 o 8 (.mov (ci 0))])
 (.block 0
 (.loop [0,1,7,8]
 (.seq (.ops [o 9 (.bin .lss (t 8) (t 7))])
 (.seq (.cond (t 9)
 .skip
 (.exit 0))
 (.seq (.block 1
 (.seq (.ops [mv 10 8,
 mv 5 10])
 (.seq (.ops [mv 11 1,
 mv 12 0,
 mv 13 5,
 o 14 (.ixa 1 (t 12) (t 13)),
 o 15 (.load none (t 14)),
 o 16 (.bin .eql (t 11) (t 15))])
 (.cond (t 16)
 (.seq (.ops [mv 17 5,
 mv 4 17])
 .ret)
 .skip))))
 (.ops [o 18 (.bin .add (t 8) (ci 1)),
 mv 8 18])))))))
 (.seq (.ops [o 4 (.mov (ci (-1)))])
 .ret)))⟩
theorem comp200:compF Tryz.prog 200 Tryz.f200 ⟨false,[],[([],[0,1,7,8])],[],[]⟩=some L200:=by kernel_rfl
def L210:LFunc:=⟨9,1,[.cell 2 (some 3)],false,none,[],[],
 (.seq (.ops [o 2 (.alloc [.int .i64 0,.int .i64 0,.string ⟨#[]⟩])])
 (.seq (.ops [mv 3 0,
 o 4 (.call (.fu 72) [(t 3)]),
 mv 5 0,
 o 6 (.call (.fu 73) [(t 5)]),
 o 7 (.call (.fu 74) [(.cn (.string ⟨#[35,78,85,77]⟩))]),
 o 8 (.call (.fu 71) [(t 4),(t 6),(t 7)]),
 n (.store 3 (t 2) (t 8))])
 .ret))⟩
theorem comp210:compF Tryz.prog 210 Tryz.f210 ⟨false,[],[],[],[]⟩=some L210:=by kernel_rfl
def L212:LFunc:=⟨51,2,[.cell 4 none,.cell 5 none],false,none,[],[],
 (.seq (.ops [o 2 (.box (t 0)),
 o 4 (.alloc [.slice none 0 0]),
 o 5 (.alloc [.slice none 0 0])])
 (.seq (.seq (.ops [mv 9 1,
 o 10 (.len (t 9)),
 o 11 (.mov (ci 0))])
 (.block 0
 (.pre [.bx 4 0 (some 3),.bx 5 0 (some 1)] (.loop [2,4,5,9,10,11]
 (.seq (.ops [o 12 (.bin .lss (t 11) (t 10))])
 (.seq (.cond (t 12)
 .skip
 (.exit 0))
 (.seq (.block 1
 (.seq (.ops [o 13 (.ixa 8 (t 9) (t 11)),
 o 14 (.load (some 8) (t 13)),
 o 7 (.alloc [.int .i64 0,.int .i64 0,.string ⟨#[]⟩,.int .i64 0,.int .i64 0,.int .i64 0,.int .i64 0,.slice none 0 0]),
 n (.store 8 (t 7) (t 14))])
 (.seq (.seq (.ops [o 15 (.fld (t 7) 0),
 o 16 (.load none (t 15)),
 o 17 (.bin .neq (t 16) (ci 4))])
 (.cond (t 17)
 (.seq (.draw [o 18 (.load none (t 4)),
 o 19 (.load none (t 2)),
 o 20 (.load (some 8) (t 7)),
 o 21 (.call (.fu 75) [(t 19),(t 20)]),
 o 22 (.bsl 3 [.int .i64 0,.int .i64 0,.string ⟨#[]⟩] 1 [(0,(t 21))]),
 o 23 (.app 3 32 false (t 18) (t 22)),
 o 24 (.load none (t 5)),
 o 25 (.bsl 1 [.bool false] 1 [(0,(cb false))]),
 o 26 (.app 1 1 false (t 24) (t 25)),
 n (.store 1 (t 4) (t 23)),
 n (.store 1 (t 5) (t 26))]
 [(0,3),(0,4),(3,6),(4,6),(5,6),(0,7),(1,7),(2,7),(3,7),(4,7),(5,7),(6,7)])
 (.exit 1))
 .skip))
 (.seq (.draw [o 27 (.load none (t 2)),
 o 28 (.load (some 8) (t 7)),
 o 29 (.call (.fu 66) [(t 28)]),
 o 30 (.bin .add (ci 1) (t 29)),
 o 31 (.call (.fu 29) [(t 27),(t 30)])]
 [(0,2)])
 (.seq (.seq (.ops [o 32 (.load none (t 2)),
 o 33 (.nilchk (t 32)),
 o 34 (.fld (t 33) 8),
 o 35 (.load none (t 34))])
 (.cond (t 35)
 (.seq (.ops [n (.store 1 (t 4) (.cn (.slice none 0 0))),
 n (.store 1 (t 5) (.cn (.slice none 0 0)))])
 .ret)
 .skip))
 (.seq (.ops [o 36 (.load (some 8) (t 7)),
 o 37 (.call (.fu 124) [(t 36)])])
 (.block 2
 (.pre [.bx 4 0 (some 3),.bx 5 0 (some 1),.lend 171] (.rfn (t 37) 221503700 [2,4,5] [171])))))))))
 (.ops [o 48 (.bin .add (t 11) (ci 1)),
 mv 11 48]))))))))
 (.seq (.draw [o 49 (.load none (t 4)),
 o 50 (.load none (t 5)),
 n (.store 1 (t 4) (t 49)),
 n (.store 1 (t 5) (t 50))]
 [(1,2)])
 .ret)))⟩
theorem comp212:compF Tryz.prog 212 Tryz.f212 ⟨false,[],[([.bx 4 0 (some 3),.bx 5 0 (some 1)],[2,4,5,9,10,11]),([.bx 4 0 (some 3),.bx 5 0 (some 1),.lend 171],[2,4,5])],[],[]⟩=some L212:=by kernel_rfl
def L221503700:LFunc:=⟨51,1,[],false,some [38],[.bx 4 0 (some 3),.bx 5 0 (some 1)],[],
 (.seq (.ops [o 8 (.alloc [.int .i64 0,.int .i64 0]),
 n (.store 2 (t 8) (t 38))])
 (.block 3
 (.draw [o 39 (.load none (t 4)),
 o 40 (.load none (t 2)),
 o 41 (.load (some 2) (t 8)),
 o 42 (.call (.fu 113) [(t 40),(t 41)]),
 o 43 (.bsl 3 [.int .i64 0,.int .i64 0,.string ⟨#[]⟩] 1 [(0,(t 42))]),
 o 44 (.app 3 32 false (t 39) (t 43)),
 o 45 (.load none (t 5)),
 o 46 (.bsl 1 [.bool false] 1 [(0,(cb true))]),
 o 47 (.app 1 1 false (t 45) (t 46)),
 n (.store 1 (t 4) (t 44)),
 n (.store 1 (t 5) (t 47))]
 [(0,3),(0,4),(3,6),(4,6),(5,6),(0,7),(1,7),(2,7),(3,7),(4,7),(5,7),(6,7)])))⟩
theorem comp221503700:compR Tryz.prog 221503700 ⟨false,[],[],[.bx 4 0 (some 3),.bx 5 0 (some 1)],[]⟩=some L221503700:=by kernel_rfl
def L213:LFunc:=⟨10,3,[.t 6],false,none,[],[],
 (.seq (.ops [o 6 (.mov (ci 0))])
 (.seq (.seq (.ops [mv 7 0])
 (.cond (t 7)
 (.seq (.ops [mv 8 1,
 mv 6 8])
 .ret)
 .skip))
 (.seq (.ops [mv 9 2,
 mv 6 9])
 .ret)))⟩
theorem comp213:compF Tryz.prog 213 Tryz.f213 ⟨false,[],[],[],[]⟩=some L213:=by kernel_rfl
def L214:LFunc:=⟨25,1,[.t 2],false,none,[],[],
 (.seq (.ops [o 2 (.mov (ci 0))])
 (.seq (.seq (.ops [mv 5 0,
 o 6 (.len (t 5)),
 o 7 (.bin .lss (t 6) (ci 1))])
 (.cond (t 7)
 (.ops [o 8 (.bad),
 n (.bad)])
 .skip))
 (.seq (.ops [mv 9 0,
 o 10 (.ixa 1 (t 9) (ci 0)),
 o 11 (.load none (t 10)),
 mv 3 11])
 (.seq (.seq (.ops [o 4 (.mov (ci 1))])
 (.block 0
 (.loop [0,3,4]
 (.seq (.seq (.ops [mv 12 4,
 mv 13 0,
 o 14 (.len (t 13)),
 o 15 (.bin .lss (t 12) (t 14))])
 (.cond (t 15)
 .skip
 (.exit 0)))
 (.seq (.block 1
 (.ops [mv 18 3,
 mv 19 0,
 mv 20 4,
 o 21 (.ixa 1 (t 19) (t 20)),
 o 22 (.load none (t 21)),
 o 23 (.mn [(t 18),(t 22)]),
 mv 3 23]))
 (.ops [mv 16 4,
 o 17 (.bin .add (t 16) (ci 1)),
 mv 4 17]))))))
 (.seq (.ops [mv 24 3,
 mv 2 24])
 .ret)))))⟩
theorem comp214:compF Tryz.prog 214 Tryz.f214 ⟨false,[],[([],[0,3,4])],[],[]⟩=some L214:=by kernel_rfl
def L215:LFunc:=⟨25,1,[.t 2],false,none,[],[],
 (.seq (.ops [o 2 (.mov (ci 0))])
 (.seq (.seq (.ops [mv 5 0,
 o 6 (.len (t 5)),
 o 7 (.bin .lss (t 6) (ci 1))])
 (.cond (t 7)
 (.ops [o 8 (.bad),
 n (.bad)])
 .skip))
 (.seq (.ops [mv 9 0,
 o 10 (.ixa 1 (t 9) (ci 0)),
 o 11 (.load none (t 10)),
 mv 3 11])
 (.seq (.seq (.ops [o 4 (.mov (ci 1))])
 (.block 0
 (.loop [0,3,4]
 (.seq (.seq (.ops [mv 12 4,
 mv 13 0,
 o 14 (.len (t 13)),
 o 15 (.bin .lss (t 12) (t 14))])
 (.cond (t 15)
 .skip
 (.exit 0)))
 (.seq (.block 1
 (.ops [mv 18 3,
 mv 19 0,
 mv 20 4,
 o 21 (.ixa 1 (t 19) (t 20)),
 o 22 (.load none (t 21)),
 o 23 (.mx [(t 18),(t 22)]),
 mv 3 23]))
 (.ops [mv 16 4,
 o 17 (.bin .add (t 16) (ci 1)),
 mv 4 17]))))))
 (.seq (.ops [mv 24 3,
 mv 2 24])
 .ret)))))⟩
theorem comp215:compF Tryz.prog 215 Tryz.f215 ⟨false,[],[([],[0,3,4])],[],[]⟩=some L215:=by kernel_rfl
def L248:LFunc:=⟨20,1,[.cell 2 (some 8)],false,none,[],[],
 (.seq (.ops [o 2 (.alloc [.int .i64 0,.int .i64 0,.string ⟨#[]⟩,.int .i64 0,.int .i64 0,.int .i64 0,.int .i64 0,.slice none 0 0])])
 (.seq (.seq (.ops [mv 6 0,
 o 7 (.bsl 1 [.string ⟨#[]⟩] 1 [(0,(.cn (.string ⟨#[45]⟩)))]),
 o 8 (.call (.fu 107) [(t 6),(t 7)]),
 mv 5 8,
 o 9 (.ext (t 5) 0),
 o 10 (.ext (t 5) 1),
 mv 3 9,
 mv 4 10])
 (.seq (.ops [mv 11 4])
 (.cond (t 11)
 (.seq (.ops [mv 12 0,
 mv 13 0,
 o 14 (.mkb 248 [(t 13)]),
 o 15 (.call (.fu 271) [(t 12),(t 14)]),
 o 16 (.bsl 8 [.int .i64 0,.int .i64 0,.string ⟨#[]⟩,.int .i64 0,.int .i64 0,.int .i64 0,.int .i64 0,.slice none 0 0] 1 [(0,(t 15))]),
 o 17 (.build [.int .i64 0,.int .i64 0,.string ⟨#[]⟩,.int .i64 0,.int .i64 0,.int .i64 0,.int .i64 0,.slice none 0 0] [(0,1,(ci 5)),(2,1,(.cn (.string ⟨#[45]⟩))),(7,1,(t 16))]),
 n (.store 8 (t 2) (t 17))])
 .ret)
 .skip)))
 (.seq (.ops [mv 18 0,
 o 19 (.call (.fu 272) [(t 18)]),
 n (.store 8 (t 2) (t 19))])
 .ret)))⟩
theorem comp248:compF Tryz.prog 248 Tryz.f248 ⟨false,[],[],[],[]⟩=some L248:=by kernel_rfl
def L271:LFunc:=⟨36,2,[.cell 4 (some 8)],false,none,[],[],
 (.seq (.ops [o 4 (.alloc [.int .i64 0,.int .i64 0,.string ⟨#[]⟩,.int .i64 0,.int .i64 0,.int .i64 0,.int .i64 0,.slice none 0 0])])
 (.seq (.ops [mv 6 0,
 o 7 (.nilchk (t 6)),
 o 8 (.fld (t 7) 1),
 o 9 (.load none (t 8)),
 o 10 (.bin .add (t 9) (ci 1)),
 o 11 (.nilchk (t 6)),
 o 12 (.fld (t 11) 1),
 n (.store 1 (t 12) (t 10))])
 (.seq (.seq (.ops [mv 13 0,
 o 14 (.nilchk (t 13)),
 o 15 (.fld (t 14) 1),
 o 16 (.load none (t 15)),
 o 17 (.bin .gtr (t 16) (ci 32))])
 (.cond (t 17)
 (.ops [mv 18 0,
 o 19 (.nilchk (t 18)),
 o 20 (.fld (t 19) 2),
 n (.store 1 (t 20) (cb true))])
 .skip))
 (.seq (.ops [o 5 (.alloc [.int .i64 0,.int .i64 0,.string ⟨#[]⟩,.int .i64 0,.int .i64 0,.int .i64 0,.int .i64 0,.slice none 0 0])])
 (.seq (.seq (.ops [mv 21 0,
 o 22 (.nilchk (t 21)),
 o 23 (.fld (t 22) 2),
 o 24 (.load none (t 23)),
 o 25 (.un .not (t 24))])
 (.cond (t 25)
 (.ops [mv 26 1,
 o 27 (.call (t 26) []),
 n (.store 8 (t 5) (t 27))])
 .skip))
 (.seq (.ops [mv 28 0,
 o 29 (.nilchk (t 28)),
 o 30 (.fld (t 29) 1),
 o 31 (.load none (t 30)),
 o 32 (.bin .sub (t 31) (ci 1)),
 o 33 (.nilchk (t 28)),
 o 34 (.fld (t 33) 1),
 n (.store 1 (t 34) (t 32))])
 (.seq (.ops [o 35 (.load (some 8) (t 5)),
 n (.store 8 (t 4) (t 35))])
 .ret)))))))⟩
theorem comp271:compF Tryz.prog 271 Tryz.f271 ⟨false,[],[],[],[]⟩=some L271:=by kernel_rfl
def L272:LFunc:=⟨83,1,[.cell 2 (some 8)],false,none,[],[],
 (.seq (.ops [o 2 (.alloc [.int .i64 0,.int .i64 0,.string ⟨#[]⟩,.int .i64 0,.int .i64 0,.int .i64 0,.int .i64 0,.slice none 0 0])])
 (.seq (.seq (.ops [mv 8 0,
 o 9 (.bsl 1 [.string ⟨#[]⟩] 1 [(0,(.cn (.string ⟨#[40]⟩)))]),
 o 10 (.call (.fu 107) [(t 8),(t 9)]),
 mv 7 10,
 o 11 (.ext (t 7) 0),
 o 12 (.ext (t 7) 1),
 mv 3 11,
 mv 4 12])
 (.seq (.ops [mv 13 4])
 (.cond (t 13)
 (.seq (.ops [mv 14 0,
 mv 15 0,
 o 16 (.mkb 62 [(t 15)]),
 o 17 (.call (.fu 271) [(t 14),(t 16)]),
 o 5 (.alloc [.int .i64 0,.int .i64 0,.string ⟨#[]⟩,.int .i64 0,.int .i64 0,.int .i64 0,.int .i64 0,.slice none 0 0]),
 n (.store 8 (t 5) (t 17))])
 (.seq (.ops [mv 18 0,
 o 19 (.call (.fu 280) [(t 18),(.cn (.string ⟨#[41]⟩))])])
 (.seq (.ops [o 20 (.load (some 8) (t 5)),
 n (.store 8 (t 2) (t 20))])
 .ret)))
 .skip)))
 (.seq (.seq (.ops [mv 21 0,
 o 22 (.nilchk (t 21)),
 o 23 (.fld (t 22) 2),
 o 24 (.load none (t 23)),
 mv 25 24,
 ⟨some 26,.mov (t 0),(some (25,false))⟩,
 ⟨some 27,.nilchk (t 26),(some (25,false))⟩,
 ⟨some 28,.fld (t 27) 0,(some (25,false))⟩,
 ⟨some 29,.load none (t 28),(some (25,false))⟩,
 ⟨some 30,.len (t 29),(some (25,false))⟩,
 ⟨some 31,.bin .eql (t 30) (ci 0),(some (25,false))⟩,
 o 32 (.pick (t 25) (cb true) (t 31))])
 (.cond (t 32)
 (.seq (.ops [mv 33 0,
 o 34 (.nilchk (t 33)),
 o 35 (.fld (t 34) 2),
 n (.store 1 (t 35) (cb true))])
 (.seq (.ops [o 36 (.build [.int .i64 0,.int .i64 0,.string ⟨#[]⟩,.int .i64 0,.int .i64 0,.int .i64 0,.int .i64 0,.slice none 0 0] []),
 n (.store 8 (t 2) (t 36))])
 .ret))
 .skip))
 (.seq (.ops [mv 37 0,
 o 38 (.nilchk (t 37)),
 o 39 (.fld (t 38) 0),
 o 40 (.load none (t 39)),
 o 41 (.ixa 5 (t 40) (ci 0)),
 o 42 (.load (some 5) (t 41)),
 o 6 (.alloc [.int .i64 0,.string ⟨#[]⟩,.int .i64 0,.int .i64 0,.int .i64 0]),
 n (.store 5 (t 6) (t 42))])
 (.seq (.ops [mv 43 0,
 mv 44 0,
 o 45 (.nilchk (t 44)),
 o 46 (.fld (t 45) 0),
 o 47 (.load none (t 46)),
 o 48 (.slc 5 (t 47) (some (ci 1)) none none),
 o 49 (.nilchk (t 43)),
 o 50 (.fld (t 49) 0),
 n (.store 1 (t 50) (t 48))])
 (.seq (.seq (.ops [o 51 (.fld (t 6) 0),
 o 52 (.load none (t 51))])
 (.block 0
 (.seq (.ops [o 54 (.bin .eql (t 52) (ci 1)),
 mv 53 54])
 (.cond (t 53)
 (.seq (.ops [o 55 (.fld (t 6) 0),
 o 56 (.load none (t 55)),
 o 57 (.fld (t 6) 2),
 o 58 (.load none (t 57)),
 o 59 (.build [.int .i64 0,.int .i64 0,.string ⟨#[]⟩,.int .i64 0,.int .i64 0,.int .i64 0,.int .i64 0,.slice none 0 0] [(0,1,(t 56)),(1,1,(t 58))]),
 n (.store 8 (t 2) (t 59))])
 .ret)
 (.seq (.ops [o 61 (.bin .eql (t 52) (ci 2)),
 mv 60 61])
 (.cond (t 60)
 (.seq (.ops [o 62 (.fld (t 6) 0),
 o 63 (.load none (t 62)),
 o 64 (.fld (t 6) 1),
 o 65 (.load none (t 64)),
 o 66 (.build [.int .i64 0,.int .i64 0,.string ⟨#[]⟩,.int .i64 0,.int .i64 0,.int .i64 0,.int .i64 0,.slice none 0 0] [(0,1,(t 63)),(2,1,(t 65))]),
 n (.store 8 (t 2) (t 66))])
 .ret)
 (.seq (.ops [o 68 (.bin .eql (t 52) (ci 3)),
 mv 67 68])
 (.cond (t 67)
 (.seq (.ops [mv 69 0,
 o 70 (.fld (t 6) 3),
 o 71 (.load (some 2) (t 70)),
 o 72 (.call (.fu 281) [(t 69),(t 71)]),
 n (.store 8 (t 2) (t 72))])
 .ret)
 (.seq (.ops [o 74 (.bin .eql (t 52) (ci 6)),
 mv 73 74])
 (.cond (t 73)
 (.seq (.ops [mv 75 0,
 o 76 (.fld (t 6) 1),
 o 77 (.load none (t 76)),
 o 78 (.call (.fu 282) [(t 75),(t 77)]),
 n (.store 8 (t 2) (t 78))])
 .ret)
 .skip))))))))))
 (.seq (.ops [mv 79 0,
 o 80 (.nilchk (t 79)),
 o 81 (.fld (t 80) 2),
 n (.store 1 (t 81) (cb true))])
 (.seq (.ops [o 82 (.build [.int .i64 0,.int .i64 0,.string ⟨#[]⟩,.int .i64 0,.int .i64 0,.int .i64 0,.int .i64 0,.slice none 0 0] []),
 n (.store 8 (t 2) (t 82))])
 .ret))))))))⟩
theorem comp272:compF Tryz.prog 272 Tryz.f272 ⟨false,[],[],[],[]⟩=some L272:=by kernel_rfl
def L280:LFunc:=⟨18,2,[],false,none,[],[],
 (.seq (.ops [mv 7 0,
 mv 8 1,
 o 9 (.bsl 1 [.string ⟨#[]⟩] 1 [(0,(t 8))]),
 o 10 (.call (.fu 107) [(t 7),(t 9)]),
 mv 6 10,
 o 11 (.ext (t 6) 0),
 o 12 (.ext (t 6) 1),
 mv 4 11,
 mv 5 12])
 (.seq (.ops [mv 13 5,
 o 14 (.un .not (t 13))])
 (.cond (t 14)
 (.ops [mv 15 0,
 o 16 (.nilchk (t 15)),
 o 17 (.fld (t 16) 2),
 n (.store 1 (t 17) (cb true))])
 .skip)))⟩
theorem comp280:compF Tryz.prog 280 Tryz.f280 ⟨false,[],[],[],[]⟩=some L280:=by kernel_rfl
def L281:LFunc:=⟨62,2,[.cell 4 (some 8)],false,none,[],[],
 (.seq (.ops [o 3 (.box (t 1)),
 o 4 (.alloc [.int .i64 0,.int .i64 0,.string ⟨#[]⟩,.int .i64 0,.int .i64 0,.int .i64 0,.int .i64 0,.slice none 0 0])])
 (.seq (.seq (.ops [mv 9 0,
 o 10 (.bsl 1 [.string ⟨#[]⟩] 1 [(0,(.cn (.string ⟨#[58]⟩)))]),
 o 11 (.call (.fu 107) [(t 9),(t 10)]),
 mv 8 11,
 o 12 (.ext (t 8) 0),
 o 13 (.ext (t 8) 1),
 mv 5 12,
 mv 6 13])
 (.seq (.ops [mv 14 6,
 o 15 (.un .not (t 14))])
 (.cond (t 15)
 (.seq (.ops [o 16 (.load (some 2) (t 3)),
 o 17 (.build [.int .i64 0,.int .i64 0,.string ⟨#[]⟩,.int .i64 0,.int .i64 0,.int .i64 0,.int .i64 0,.slice none 0 0] [(0,1,(ci 3)),(3,2,(t 16))]),
 n (.store 8 (t 4) (t 17))])
 .ret)
 .skip)))
 (.seq (.seq (.ops [mv 18 0,
 o 19 (.nilchk (t 18)),
 o 20 (.fld (t 19) 2),
 o 21 (.load none (t 20)),
 mv 22 21,
 ⟨some 23,.mov (t 0),(some (22,false))⟩,
 ⟨some 24,.nilchk (t 23),(some (22,false))⟩,
 ⟨some 25,.fld (t 24) 0,(some (22,false))⟩,
 ⟨some 26,.load none (t 25),(some (22,false))⟩,
 ⟨some 27,.len (t 26),(some (22,false))⟩,
 ⟨some 28,.bin .eql (t 27) (ci 0),(some (22,false))⟩,
 o 29 (.pick (t 22) (cb true) (t 28)),
 mv 30 29,
 ⟨some 31,.mov (t 0),(some (30,false))⟩,
 ⟨some 32,.nilchk (t 31),(some (30,false))⟩,
 ⟨some 33,.fld (t 32) 0,(some (30,false))⟩,
 ⟨some 34,.load none (t 33),(some (30,false))⟩,
 ⟨some 35,.ixa 5 (t 34) (ci 0),(some (30,false))⟩,
 ⟨some 36,.fld (t 35) 0,(some (30,false))⟩,
 ⟨some 37,.load none (t 36),(some (30,false))⟩,
 ⟨some 38,.bin .neq (t 37) (ci 3),(some (30,false))⟩,
 o 39 (.pick (t 30) (cb true) (t 38))])
 (.cond (t 39)
 (.seq (.ops [mv 40 0,
 o 41 (.nilchk (t 40)),
 o 42 (.fld (t 41) 2),
 n (.store 1 (t 42) (cb true))])
 (.seq (.ops [o 43 (.build [.int .i64 0,.int .i64 0,.string ⟨#[]⟩,.int .i64 0,.int .i64 0,.int .i64 0,.int .i64 0,.slice none 0 0] []),
 n (.store 8 (t 4) (t 43))])
 .ret))
 .skip))
 (.seq (.draw [o 44 (.load (some 2) (t 3)),
 mv 45 0,
 o 46 (.nilchk (t 45)),
 o 47 (.fld (t 46) 0),
 o 48 (.load none (t 47)),
 o 49 (.ixa 5 (t 48) (ci 0)),
 o 50 (.fld (t 49) 3),
 o 51 (.load (some 2) (t 50)),
 o 52 (.build [.int .i64 0,.int .i64 0,.string ⟨#[]⟩,.int .i64 0,.int .i64 0,.int .i64 0,.int .i64 0,.slice none 0 0] [(0,1,(ci 4)),(3,2,(t 44)),(5,2,(t 51))]),
 o 7 (.alloc [.int .i64 0,.int .i64 0,.string ⟨#[]⟩,.int .i64 0,.int .i64 0,.int .i64 0,.int .i64 0,.slice none 0 0]),
 n (.store 8 (t 7) (t 52))]
 [(0,9),(4,9),(7,9)])
 (.seq (.ops [mv 53 0,
 mv 54 0,
 o 55 (.nilchk (t 54)),
 o 56 (.fld (t 55) 0),
 o 57 (.load none (t 56)),
 o 58 (.slc 5 (t 57) (some (ci 1)) none none),
 o 59 (.nilchk (t 53)),
 o 60 (.fld (t 59) 0),
 n (.store 1 (t 60) (t 58))])
 (.seq (.ops [o 61 (.load (some 8) (t 7)),
 n (.store 8 (t 4) (t 61))])
 .ret))))))⟩
theorem comp281:compF Tryz.prog 281 Tryz.f281 ⟨false,[],[],[],[]⟩=some L281:=by kernel_rfl
def L282:LFunc:=⟨52,2,[.cell 4 (some 8)],false,none,[],[],
 (.seq (.ops [o 2 (.box (t 0)),
 o 4 (.alloc [.int .i64 0,.int .i64 0,.string ⟨#[]⟩,.int .i64 0,.int .i64 0,.int .i64 0,.int .i64 0,.slice none 0 0])])
 (.seq (.ops [mv 10 1,
 o 11 (.build [.int .i64 0,.int .i64 0,.string ⟨#[]⟩,.int .i64 0,.int .i64 0,.int .i64 0,.int .i64 0,.slice none 0 0] [(0,1,(ci 6)),(2,1,(t 10))]),
 o 5 (.alloc [.int .i64 0,.int .i64 0,.string ⟨#[]⟩,.int .i64 0,.int .i64 0,.int .i64 0,.int .i64 0,.slice none 0 0]),
 n (.store 8 (t 5) (t 11))])
 (.seq (.seq (.ops [o 13 (.load none (t 2)),
 o 14 (.bsl 1 [.string ⟨#[]⟩] 1 [(0,(.cn (.string ⟨#[40]⟩)))]),
 o 15 (.call (.fu 107) [(t 13),(t 14)]),
 mv 12 15,
 o 16 (.ext (t 12) 0),
 o 17 (.ext (t 12) 1),
 mv 6 16,
 mv 7 17])
 (.seq (.ops [mv 18 7,
 o 19 (.un .not (t 18))])
 (.cond (t 19)
 (.seq (.ops [o 20 (.load none (t 2)),
 o 21 (.nilchk (t 20)),
 o 22 (.fld (t 21) 2),
 n (.store 1 (t 22) (cb true))])
 (.seq (.ops [o 23 (.build [.int .i64 0,.int .i64 0,.string ⟨#[]⟩,.int .i64 0,.int .i64 0,.int .i64 0,.int .i64 0,.slice none 0 0] []),
 n (.store 8 (t 4) (t 23))])
 .ret))
 .skip)))
 (.seq (.seq (.ops [o 25 (.load none (t 2)),
 o 26 (.bsl 1 [.string ⟨#[]⟩] 1 [(0,(.cn (.string ⟨#[41]⟩)))]),
 o 27 (.call (.fu 107) [(t 25),(t 26)]),
 mv 24 27,
 o 28 (.ext (t 24) 0),
 o 29 (.ext (t 24) 1),
 mv 8 28,
 mv 9 29])
 (.seq (.ops [mv 30 9])
 (.cond (t 30)
 (.seq (.draw [o 31 (.load none (t 2)),
 o 32 (.load none (t 2)),
 o 33 (.nilchk (t 32)),
 o 34 (.fld (t 33) 2),
 o 35 (.load none (t 34)),
 mv 36 35,
 ⟨some 37,.load none (t 2),(some (36,false))⟩,
 ⟨some 38,.nilchk (t 37),(some (36,false))⟩,
 ⟨some 39,.fld (t 38) 1,(some (36,false))⟩,
 ⟨some 40,.load none (t 39),(some (36,false))⟩,
 ⟨some 41,.bin .geq (t 40) (ci 32),(some (36,false))⟩,
 o 42 (.pick (t 36) (cb true) (t 41)),
 o 43 (.nilchk (t 31)),
 o 44 (.fld (t 43) 2),
 n (.store 1 (t 44) (t 42))]
 [])
 (.seq (.ops [o 45 (.load (some 8) (t 5)),
 n (.store 8 (t 4) (t 45))])
 .ret))
 .skip)))
 (.seq (.ops [o 46 (.load none (t 2)),
 o 47 (.mkf 286 [(t 5),(t 2)]),
 o 48 (.call (.fu 271) [(t 46),(t 47)])])
 (.seq (.ops [o 49 (.load none (t 2)),
 o 50 (.call (.fu 280) [(t 49),(.cn (.string ⟨#[41]⟩))])])
 (.seq (.ops [o 51 (.load (some 8) (t 5)),
 n (.store 8 (t 4) (t 51))])
 .ret)))))))⟩
theorem comp282:compF Tryz.prog 282 Tryz.f282 ⟨false,[],[],[],[]⟩=some L282:=by kernel_rfl
def L286:LFunc:=⟨23,0,[.cell 2 (some 8)],false,none,[.bx 0 7 (some 8)],[],
 (.seq (.ops [o 2 (.alloc [.int .i64 0,.int .i64 0,.string ⟨#[]⟩,.int .i64 0,.int .i64 0,.int .i64 0,.int .i64 0,.slice none 0 0])])
 (.block 0
 (.pre [.bx 0 7 (some 8)] (.loop [0,1,2]
 (.block 1
 (.seq (.draw [o 5 (.fld (t 0) 7),
 o 6 (.load none (t 5)),
 o 7 (.load none (t 1)),
 o 8 (.call (.fu 62) [(t 7)]),
 o 9 (.len (t 6)),
 o 10 (.bsl 8 [.int .i64 0,.int .i64 0,.string ⟨#[]⟩,.int .i64 0,.int .i64 0,.int .i64 0,.int .i64 0,.slice none 0 0] 1 [(0,(.cn (.agg #[.int .i64 0,.int .i64 0,.string ⟨#[]⟩,.int .i64 0,.int .i64 0,.int .i64 0,.int .i64 0,.slice none 0 0])))]),
 o 11 (.app 8 88 false (t 6) (t 10)),
 o 12 (.ixa 8 (t 11) (t 9)),
 n (.store 8 (t 12) (t 8)),
 o 13 (.fld (t 0) 7),
 n (.store 1 (t 13) (t 11))]
 [(1,3),(1,5),(2,5),(3,5),(8,10)])
 (.seq (.ops [o 15 (.load none (t 1)),
 o 16 (.bsl 1 [.string ⟨#[]⟩] 1 [(0,(.cn (.string ⟨#[44]⟩)))]),
 o 17 (.call (.fu 107) [(t 15),(t 16)]),
 mv 14 17,
 o 18 (.ext (t 14) 0),
 o 19 (.ext (t 14) 1),
 mv 3 18,
 mv 4 19])
 (.seq (.ops [mv 20 4,
 o 21 (.un .not (t 20))])
 (.cond (t 21)
 (.seq (.ops [o 22 (.build [.int .i64 0,.int .i64 0,.string ⟨#[]⟩,.int .i64 0,.int .i64 0,.int .i64 0,.int .i64 0,.slice none 0 0] []),
 n (.store 8 (t 2) (t 22))])
 .ret)
 .skip)))))))))⟩
theorem comp286:compF Tryz.prog 286 Tryz.f286 ⟨false,[],[([.bx 0 7 (some 8)],[0,1,2])],[.bx 0 7 (some 8)],[]⟩=some L286:=by kernel_rfl
def L303:LFunc:=⟨3,1,[.t 2],false,none,[],[],
 (.seq (.ops [o 1 (.box (t 0)),
 o 2 (.mov (ci 0))])
 (.seq (.ops [o 2 (.mov (ci (-1)))])
 .ret))⟩
theorem comp303:compF Tryz.prog 303 Tryz.f303 ⟨false,[],[],[],[]⟩=some L303:=by kernel_rfl
def L304:LFunc:=⟨3,1,[.t 2],false,none,[],[],
 (.seq (.ops [o 1 (.box (t 0)),
 o 2 (.mov (ci 0))])
 (.seq (.ops [o 2 (.mov (ci 1))])
 .ret))⟩
theorem comp304:compF Tryz.prog 304 Tryz.f304 ⟨false,[],[],[],[]⟩=some L304:=by kernel_rfl
def L305:LFunc:=⟨3,1,[.t 2],false,none,[],[],
 (.seq (.ops [o 1 (.box (t 0)),
 o 2 (.mov (ci 0))])
 (.seq (.ops [o 2 (.mov (ci 3))])
 .ret))⟩
theorem comp305:compF Tryz.prog 305 Tryz.f305 ⟨false,[],[],[],[]⟩=some L305:=by kernel_rfl
def L306:LFunc:=⟨3,1,[.t 2],false,none,[],[],
 (.seq (.ops [o 1 (.box (t 0)),
 o 2 (.mov (ci 0))])
 (.seq (.ops [o 2 (.mov (ci 2))])
 .ret))⟩
theorem comp306:compF Tryz.prog 306 Tryz.f306 ⟨false,[],[],[],[]⟩=some L306:=by kernel_rfl
def L309:LFunc:=⟨3,1,[.t 2],false,none,[],[],
 (.seq (.ops [o 1 (.box (t 0)),
 o 2 (.mov (ci 0))])
 (.seq (.ops [o 2 (.mov (ci (-1)))])
 .ret))⟩
theorem comp309:compF Tryz.prog 309 Tryz.f309 ⟨false,[],[],[],[]⟩=some L309:=by kernel_rfl
end Go.Vai
