/-
  The table of the functions.
-/
import Derived.Test.YthaaafdiilahjaaGreatDoorVaWx
import Derived.Test.YthaaafdiilahjaaGreatDoorBShG
set_option linter.unusedVariables false
set_option maxRecDepth 100000
namespace Go.Vai
open Go.Proofs
def Tz : FuncId → Option LFunc := fun f => match f with
 | 3 => some L3
 | 4 => some L4
 | 5 => some L5
 | 6 => some L6
 | 7 => some L7
 | 8 => some L8
 | 9 => some L9
 | 10 => some L10
 | 11 => some L11
 | 12 => some L12
 | 13 => some L13
 | 14 => some L14
 | 15 => some L15
 | 8364047 => some L8364047
 | 16 => some L16
 | 17 => some L17
 | 18 => some L18
 | 19 => some L19
 | 20 => some L20
 | 21 => some L21
 | 22 => some L22
 | 23 => some L23
 | 24 => some L24
 | 25 => some L25
 | 26 => some L26
 | 27 => some L27
 | 28 => some L28
 | 29 => some L29
 | 30 => some L30
 | 31 => some L31
 | 33 => some L33
 | 34 => some L34
 | 36 => some L36
 | 37 => some L37
 | 38 => some L38
 | 39 => some L39
 | 40 => some L40
 | 41 => some L41
 | 42 => some L42
 | 43 => some L43
 | 44 => some L44
 | 45 => some L45
 | 46 => some L46
 | 48 => some L48
 | 49 => some L49
 | 50 => some L50
 | 51 => some L51
 | 52 => some L52
 | 53 => some L53
 | 54 => some L54
 | 55 => some L55
 | 56 => some L56
 | 57 => some L57
 | 58 => some L58
 | 59 => some L59
 | 62 => some L62
 | 63 => some L63
 | 64 => some L64
 | 67 => some L67
 | 68 => some L68
 | 69 => some L69
 | 70 => some L70
 | 71 => some L71
 | 72 => some L72
 | 73 => some L73
 | 75 => some L75
 | 76 => some L76
 | 77 => some L77
 | 78 => some L78
 | 79 => some L79
 | 80 => some L80
 | 81 => some L81
 | 82 => some L82
 | 83 => some L83
 | 499795 => some L499795
 | 84 => some L84
 | 85 => some L85
 | 86 => some L86
 | 87 => some L87
 | 88 => some L88
 | 89 => some L89
 | 90 => some L90
 | 91 => some L91
 | 92 => some L92
 | 93 => some L93
 | 94 => some L94
 | 97 => some L97
 | 100 => some L100
 | 101 => some L101
 | 102 => some L102
 | 103 => some L103
 | 105 => some L105
 | 109 => some L109
 | 111 => some L111
 | 112 => some L112
 | 113 => some L113
 | 114 => some L114
 | 115 => some L115
 | 119 => some L119
 | 120 => some L120
 | 121 => some L121
 | 122 => some L122
 | 123 => some L123
 | 124 => some L124
 | 125 => some L125
 | 126 => some L126
 | 127 => some L127
 | 130 => some L130
 | 145 => some L145
 | 146 => some L146
 | 7053458 => some L7053458
 | 147 => some L147
 | 149 => some L149
 | 150 => some L150
 | 151 => some L151
 | 152 => some L152
 | 153 => some L153
 | 154 => some L154
 | 155 => some L155
 | 156 => some L156
 | 157 => some L157
 | 8364189 => some L8364189
 | 161 => some L161
 | 162 => some L162
 | 184 => some L184
 | 194 => some L194
 | 196 => some L196
 | 221503684 => some L221503684
 | 197 => some L197
 | 198 => some L198
 | 199 => some L199
 | 204 => some L204
 | 226 => some L226
 | 227 => some L227
 | 236 => some L236
 | 237 => some L237
 | 238 => some L238
 | 242 => some L242
 | 259 => some L259
 | 260 => some L260
 | 261 => some L261
 | 262 => some L262
 | 265 => some L265
 | _ => none
theorem tI {P : Program} {f : FuncId} {L L0 : LFunc} {fn : Func} {hh : Hint} (h : some L0 = some L) (a : P.funcs[f]? = some fn) (b : (fn.name == "runtime.NumGoroutine") = false) (c : compF P f fn hh = some L0) : (∃ fn h, P.funcs[f]? = some fn ∧ (fn.name == "runtime.NumGoroutine") = false ∧ compF P f fn h = some L) ∨ ∃ h, compR P f h = some L := by
 injection h with h; subst h; exact .inl ⟨fn, _, a, b, c⟩
theorem tR {P : Program} {f : FuncId} {L L0 : LFunc} {hh} (h : some L0 = some L) (c : compR P f hh = some L0) : (∃ fn h, P.funcs[f]? = some fn ∧ (fn.name == "runtime.NumGoroutine") = false ∧ compF P f fn h = some L) ∨ ∃ h, compR P f h = some L := by
 injection h with h; subst h; exact .inr ⟨_, c⟩
theorem tokz : TOk Tryz.prog Tz := by
 intro f L h
 unfold Tz at h
 split at h
 ·exact tI h Tryz.func3 (by kernel_rfl) comp3
 ·exact tI h Tryz.func4 (by kernel_rfl) comp4
 ·exact tI h Tryz.func5 (by kernel_rfl) comp5
 ·exact tI h Tryz.func6 (by kernel_rfl) comp6
 ·exact tI h Tryz.func7 (by kernel_rfl) comp7
 ·exact tI h Tryz.func8 (by kernel_rfl) comp8
 ·exact tI h Tryz.func9 (by kernel_rfl) comp9
 ·exact tI h Tryz.func10 (by kernel_rfl) comp10
 ·exact tI h Tryz.func11 (by kernel_rfl) comp11
 ·exact tI h Tryz.func12 (by kernel_rfl) comp12
 ·exact tI h Tryz.func13 (by kernel_rfl) comp13
 ·exact tI h Tryz.func14 (by kernel_rfl) comp14
 ·exact tI h Tryz.func15 (by kernel_rfl) comp15
 ·exact tR h comp8364047
 ·exact tI h Tryz.func16 (by kernel_rfl) comp16
 ·exact tI h Tryz.func17 (by kernel_rfl) comp17
 ·exact tI h Tryz.func18 (by kernel_rfl) comp18
 ·exact tI h Tryz.func19 (by kernel_rfl) comp19
 ·exact tI h Tryz.func20 (by kernel_rfl) comp20
 ·exact tI h Tryz.func21 (by kernel_rfl) comp21
 ·exact tI h Tryz.func22 (by kernel_rfl) comp22
 ·exact tI h Tryz.func23 (by kernel_rfl) comp23
 ·exact tI h Tryz.func24 (by kernel_rfl) comp24
 ·exact tI h Tryz.func25 (by kernel_rfl) comp25
 ·exact tI h Tryz.func26 (by kernel_rfl) comp26
 ·exact tI h Tryz.func27 (by kernel_rfl) comp27
 ·exact tI h Tryz.func28 (by kernel_rfl) comp28
 ·exact tI h Tryz.func29 (by kernel_rfl) comp29
 ·exact tI h Tryz.func30 (by kernel_rfl) comp30
 ·exact tI h Tryz.func31 (by kernel_rfl) comp31
 ·exact tI h Tryz.func33 (by kernel_rfl) comp33
 ·exact tI h Tryz.func34 (by kernel_rfl) comp34
 ·exact tI h Tryz.func36 (by kernel_rfl) comp36
 ·exact tI h Tryz.func37 (by kernel_rfl) comp37
 ·exact tI h Tryz.func38 (by kernel_rfl) comp38
 ·exact tI h Tryz.func39 (by kernel_rfl) comp39
 ·exact tI h Tryz.func40 (by kernel_rfl) comp40
 ·exact tI h Tryz.func41 (by kernel_rfl) comp41
 ·exact tI h Tryz.func42 (by kernel_rfl) comp42
 ·exact tI h Tryz.func43 (by kernel_rfl) comp43
 ·exact tI h Tryz.func44 (by kernel_rfl) comp44
 ·exact tI h Tryz.func45 (by kernel_rfl) comp45
 ·exact tI h Tryz.func46 (by kernel_rfl) comp46
 ·exact tI h Tryz.func48 (by kernel_rfl) comp48
 ·exact tI h Tryz.func49 (by kernel_rfl) comp49
 ·exact tI h Tryz.func50 (by kernel_rfl) comp50
 ·exact tI h Tryz.func51 (by kernel_rfl) comp51
 ·exact tI h Tryz.func52 (by kernel_rfl) comp52
 ·exact tI h Tryz.func53 (by kernel_rfl) comp53
 ·exact tI h Tryz.func54 (by kernel_rfl) comp54
 ·exact tI h Tryz.func55 (by kernel_rfl) comp55
 ·exact tI h Tryz.func56 (by kernel_rfl) comp56
 ·exact tI h Tryz.func57 (by kernel_rfl) comp57
 ·exact tI h Tryz.func58 (by kernel_rfl) comp58
 ·exact tI h Tryz.func59 (by kernel_rfl) comp59
 ·exact tI h Tryz.func62 (by kernel_rfl) comp62
 ·exact tI h Tryz.func63 (by kernel_rfl) comp63
 ·exact tI h Tryz.func64 (by kernel_rfl) comp64
 ·exact tI h Tryz.func67 (by kernel_rfl) comp67
 ·exact tI h Tryz.func68 (by kernel_rfl) comp68
 ·exact tI h Tryz.func69 (by kernel_rfl) comp69
 ·exact tI h Tryz.func70 (by kernel_rfl) comp70
 ·exact tI h Tryz.func71 (by kernel_rfl) comp71
 ·exact tI h Tryz.func72 (by kernel_rfl) comp72
 ·exact tI h Tryz.func73 (by kernel_rfl) comp73
 ·exact tI h Tryz.func75 (by kernel_rfl) comp75
 ·exact tI h Tryz.func76 (by kernel_rfl) comp76
 ·exact tI h Tryz.func77 (by kernel_rfl) comp77
 ·exact tI h Tryz.func78 (by kernel_rfl) comp78
 ·exact tI h Tryz.func79 (by kernel_rfl) comp79
 ·exact tI h Tryz.func80 (by kernel_rfl) comp80
 ·exact tI h Tryz.func81 (by kernel_rfl) comp81
 ·exact tI h Tryz.func82 (by kernel_rfl) comp82
 ·exact tI h Tryz.func83 (by kernel_rfl) comp83
 ·exact tR h comp499795
 ·exact tI h Tryz.func84 (by kernel_rfl) comp84
 ·exact tI h Tryz.func85 (by kernel_rfl) comp85
 ·exact tI h Tryz.func86 (by kernel_rfl) comp86
 ·exact tI h Tryz.func87 (by kernel_rfl) comp87
 ·exact tI h Tryz.func88 (by kernel_rfl) comp88
 ·exact tI h Tryz.func89 (by kernel_rfl) comp89
 ·exact tI h Tryz.func90 (by kernel_rfl) comp90
 ·exact tI h Tryz.func91 (by kernel_rfl) comp91
 ·exact tI h Tryz.func92 (by kernel_rfl) comp92
 ·exact tI h Tryz.func93 (by kernel_rfl) comp93
 ·exact tI h Tryz.func94 (by kernel_rfl) comp94
 ·exact tI h Tryz.func97 (by kernel_rfl) comp97
 ·exact tI h Tryz.func100 (by kernel_rfl) comp100
 ·exact tI h Tryz.func101 (by kernel_rfl) comp101
 ·exact tI h Tryz.func102 (by kernel_rfl) comp102
 ·exact tI h Tryz.func103 (by kernel_rfl) comp103
 ·exact tI h Tryz.func105 (by kernel_rfl) comp105
 ·exact tI h Tryz.func109 (by kernel_rfl) comp109
 ·exact tI h Tryz.func111 (by kernel_rfl) comp111
 ·exact tI h Tryz.func112 (by kernel_rfl) comp112
 ·exact tI h Tryz.func113 (by kernel_rfl) comp113
 ·exact tI h Tryz.func114 (by kernel_rfl) comp114
 ·exact tI h Tryz.func115 (by kernel_rfl) comp115
 ·exact tI h Tryz.func119 (by kernel_rfl) comp119
 ·exact tI h Tryz.func120 (by kernel_rfl) comp120
 ·exact tI h Tryz.func121 (by kernel_rfl) comp121
 ·exact tI h Tryz.func122 (by kernel_rfl) comp122
 ·exact tI h Tryz.func123 (by kernel_rfl) comp123
 ·exact tI h Tryz.func124 (by kernel_rfl) comp124
 ·exact tI h Tryz.func125 (by kernel_rfl) comp125
 ·exact tI h Tryz.func126 (by kernel_rfl) comp126
 ·exact tI h Tryz.func127 (by kernel_rfl) comp127
 ·exact tI h Tryz.func130 (by kernel_rfl) comp130
 ·exact tI h Tryz.func145 (by kernel_rfl) comp145
 ·exact tI h Tryz.func146 (by kernel_rfl) comp146
 ·exact tR h comp7053458
 ·exact tI h Tryz.func147 (by kernel_rfl) comp147
 ·exact tI h Tryz.func149 (by kernel_rfl) comp149
 ·exact tI h Tryz.func150 (by kernel_rfl) comp150
 ·exact tI h Tryz.func151 (by kernel_rfl) comp151
 ·exact tI h Tryz.func152 (by kernel_rfl) comp152
 ·exact tI h Tryz.func153 (by kernel_rfl) comp153
 ·exact tI h Tryz.func154 (by kernel_rfl) comp154
 ·exact tI h Tryz.func155 (by kernel_rfl) comp155
 ·exact tI h Tryz.func156 (by kernel_rfl) comp156
 ·exact tI h Tryz.func157 (by kernel_rfl) comp157
 ·exact tR h comp8364189
 ·exact tI h Tryz.func161 (by kernel_rfl) comp161
 ·exact tI h Tryz.func162 (by kernel_rfl) comp162
 ·exact tI h Tryz.func184 (by kernel_rfl) comp184
 ·exact tI h Tryz.func194 (by kernel_rfl) comp194
 ·exact tI h Tryz.func196 (by kernel_rfl) comp196
 ·exact tR h comp221503684
 ·exact tI h Tryz.func197 (by kernel_rfl) comp197
 ·exact tI h Tryz.func198 (by kernel_rfl) comp198
 ·exact tI h Tryz.func199 (by kernel_rfl) comp199
 ·exact tI h Tryz.func204 (by kernel_rfl) comp204
 ·exact tI h Tryz.func226 (by kernel_rfl) comp226
 ·exact tI h Tryz.func227 (by kernel_rfl) comp227
 ·exact tI h Tryz.func236 (by kernel_rfl) comp236
 ·exact tI h Tryz.func237 (by kernel_rfl) comp237
 ·exact tI h Tryz.func238 (by kernel_rfl) comp238
 ·exact tI h Tryz.func242 (by kernel_rfl) comp242
 ·exact tI h Tryz.func259 (by kernel_rfl) comp259
 ·exact tI h Tryz.func260 (by kernel_rfl) comp260
 ·exact tI h Tryz.func261 (by kernel_rfl) comp261
 ·exact tI h Tryz.func262 (by kernel_rfl) comp262
 ·exact tI h Tryz.func265 (by kernel_rfl) comp265
 ·cases h
end Go.Vai
