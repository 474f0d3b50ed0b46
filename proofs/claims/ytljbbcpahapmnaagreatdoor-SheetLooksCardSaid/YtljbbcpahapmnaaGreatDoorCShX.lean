/-
  The table of the functions.
-/
import Derived.Test.YtljbbcpahapmnaaGreatDoorVaWx
import Derived.Test.YtljbbcpahapmnaaGreatDoorCShG
set_option linter.unusedVariables false
set_option maxRecDepth 100000
namespace Go.Vai
open Go.Proofs
def Ty:FuncId→Option LFunc:=fun f => match f with
 | 105 => some L105
 | 106 => some L106
 | 107 => some L107
 | 113 => some L113
 | 114 => some L114
 | 115 => some L115
 | 122 => some L122
 | 123 => some L123
 | 7053435 => some L7053435
 | 124 => some L124
 | 129 => some L129
 | 130 => some L130
 | 131 => some L131
 | 132 => some L132
 | 133 => some L133
 | 135 => some L135
 | 137 => some L137
 | 141 => some L141
 | 142 => some L142
 | 143 => some L143
 | 144 => some L144
 | 145 => some L145
 | 146 => some L146
 | 147 => some L147
 | 148 => some L148
 | 149 => some L149
 | 155 => some L155
 | 156 => some L156
 | 157 => some L157
 | 158 => some L158
 | 159 => some L159
 | 160 => some L160
 | 161 => some L161
 | 162 => some L162
 | 163 => some L163
 | 8364195 => some L8364195
 | 171 => some L171
 | 186 => some L186
 | 199 => some L199
 | 200 => some L200
 | 210 => some L210
 | 212 => some L212
 | 221503700 => some L221503700
 | 213 => some L213
 | 214 => some L214
 | 215 => some L215
 | 248 => some L248
 | 271 => some L271
 | 272 => some L272
 | 280 => some L280
 | 281 => some L281
 | 282 => some L282
 | 286 => some L286
 | 303 => some L303
 | 304 => some L304
 | 305 => some L305
 | 306 => some L306
 | 309 => some L309
 | _ => none
theorem tI {P : Program} {f : FuncId} {L L0 : LFunc} {fn : Func} {hh : Hint} (h : some L0 = some L) (a : P.funcs[f]? = some fn) (b : (fn.name == "runtime.NumGoroutine") = false) (c : compF P f fn hh = some L0) : (∃ fn h, P.funcs[f]? = some fn ∧ (fn.name == "runtime.NumGoroutine") = false ∧ compF P f fn h = some L) ∨ ∃ h, compR P f h = some L := by
 injection h with h; subst h; exact .inl ⟨fn,_,a,b,c⟩
theorem tR {P : Program} {f : FuncId} {L L0 : LFunc} {hh} (h : some L0 = some L) (c : compR P f hh = some L0) : (∃ fn h, P.funcs[f]? = some fn ∧ (fn.name == "runtime.NumGoroutine") = false ∧ compF P f fn h = some L) ∨ ∃ h, compR P f h = some L := by
 injection h with h; subst h; exact .inr ⟨_,c⟩
theorem toky:TOk Tryz.prog Ty:=by
 intro f L h
 unfold Ty at h
 split at h
 ·exact tI h Tryz.func105 (by kernel_rfl) comp105
 ·exact tI h Tryz.func106 (by kernel_rfl) comp106
 ·exact tI h Tryz.func107 (by kernel_rfl) comp107
 ·exact tI h Tryz.func113 (by kernel_rfl) comp113
 ·exact tI h Tryz.func114 (by kernel_rfl) comp114
 ·exact tI h Tryz.func115 (by kernel_rfl) comp115
 ·exact tI h Tryz.func122 (by kernel_rfl) comp122
 ·exact tI h Tryz.func123 (by kernel_rfl) comp123
 ·exact tR h comp7053435
 ·exact tI h Tryz.func124 (by kernel_rfl) comp124
 ·exact tI h Tryz.func129 (by kernel_rfl) comp129
 ·exact tI h Tryz.func130 (by kernel_rfl) comp130
 ·exact tI h Tryz.func131 (by kernel_rfl) comp131
 ·exact tI h Tryz.func132 (by kernel_rfl) comp132
 ·exact tI h Tryz.func133 (by kernel_rfl) comp133
 ·exact tI h Tryz.func135 (by kernel_rfl) comp135
 ·exact tI h Tryz.func137 (by kernel_rfl) comp137
 ·exact tI h Tryz.func141 (by kernel_rfl) comp141
 ·exact tI h Tryz.func142 (by kernel_rfl) comp142
 ·exact tI h Tryz.func143 (by kernel_rfl) comp143
 ·exact tI h Tryz.func144 (by kernel_rfl) comp144
 ·exact tI h Tryz.func145 (by kernel_rfl) comp145
 ·exact tI h Tryz.func146 (by kernel_rfl) comp146
 ·exact tI h Tryz.func147 (by kernel_rfl) comp147
 ·exact tI h Tryz.func148 (by kernel_rfl) comp148
 ·exact tI h Tryz.func149 (by kernel_rfl) comp149
 ·exact tI h Tryz.func155 (by kernel_rfl) comp155
 ·exact tI h Tryz.func156 (by kernel_rfl) comp156
 ·exact tI h Tryz.func157 (by kernel_rfl) comp157
 ·exact tI h Tryz.func158 (by kernel_rfl) comp158
 ·exact tI h Tryz.func159 (by kernel_rfl) comp159
 ·exact tI h Tryz.func160 (by kernel_rfl) comp160
 ·exact tI h Tryz.func161 (by kernel_rfl) comp161
 ·exact tI h Tryz.func162 (by kernel_rfl) comp162
 ·exact tI h Tryz.func163 (by kernel_rfl) comp163
 ·exact tR h comp8364195
 ·exact tI h Tryz.func171 (by kernel_rfl) comp171
 ·exact tI h Tryz.func186 (by kernel_rfl) comp186
 ·exact tI h Tryz.func199 (by kernel_rfl) comp199
 ·exact tI h Tryz.func200 (by kernel_rfl) comp200
 ·exact tI h Tryz.func210 (by kernel_rfl) comp210
 ·exact tI h Tryz.func212 (by kernel_rfl) comp212
 ·exact tR h comp221503700
 ·exact tI h Tryz.func213 (by kernel_rfl) comp213
 ·exact tI h Tryz.func214 (by kernel_rfl) comp214
 ·exact tI h Tryz.func215 (by kernel_rfl) comp215
 ·exact tI h Tryz.func248 (by kernel_rfl) comp248
 ·exact tI h Tryz.func271 (by kernel_rfl) comp271
 ·exact tI h Tryz.func272 (by kernel_rfl) comp272
 ·exact tI h Tryz.func280 (by kernel_rfl) comp280
 ·exact tI h Tryz.func281 (by kernel_rfl) comp281
 ·exact tI h Tryz.func282 (by kernel_rfl) comp282
 ·exact tI h Tryz.func286 (by kernel_rfl) comp286
 ·exact tI h Tryz.func303 (by kernel_rfl) comp303
 ·exact tI h Tryz.func304 (by kernel_rfl) comp304
 ·exact tI h Tryz.func305 (by kernel_rfl) comp305
 ·exact tI h Tryz.func306 (by kernel_rfl) comp306
 ·exact tI h Tryz.func309 (by kernel_rfl) comp309
 ·cases h
def Tz:FuncId→Option LFunc:=fun f => match f with
 | 5 => some L5
 | 7 => some L7
 | 8 => some L8
 | 10 => some L10
 | 12 => some L12
 | 14 => some L14
 | 15 => some L15
 | 20 => some L20
 | 23 => some L23
 | 8364055 => some L8364055
 | 24 => some L24
 | 25 => some L25
 | 26 => some L26
 | 27 => some L27
 | 28 => some L28
 | 29 => some L29
 | 30 => some L30
 | 31 => some L31
 | 32 => some L32
 | 40 => some L40
 | 42 => some L42
 | 499754 => some L499754
 | 46 => some L46
 | 47 => some L47
 | 48 => some L48
 | 49 => some L49
 | 50 => some L50
 | 51 => some L51
 | 52 => some L52
 | 55 => some L55
 | 57 => some L57
 | 58 => some L58
 | 59 => some L59
 | 61 => some L61
 | 62 => some L62
 | 64 => some L64
 | 66 => some L66
 | 67 => some L67
 | 68 => some L68
 | 69 => some L69
 | 70 => some L70
 | 71 => some L71
 | 72 => some L72
 | 73 => some L73
 | 74 => some L74
 | 75 => some L75
 | 88 => some L88
 | 90 => some L90
 | 93 => some L93
 | 94 => some L94
 | 95 => some L95
 | 96 => some L96
 | 97 => some L97
 | 98 => some L98
 | 99 => some L99
 | 100 => some L100
 | 101 => some L101
 | 103 => some L103
 | 104 => some L104
 | _ => Ty f
theorem tokz:TOk Tryz.prog Tz:=by
 intro f L h
 unfold Tz at h
 split at h
 ·exact tI h Tryz.func5 (by kernel_rfl) comp5
 ·exact tI h Tryz.func7 (by kernel_rfl) comp7
 ·exact tI h Tryz.func8 (by kernel_rfl) comp8
 ·exact tI h Tryz.func10 (by kernel_rfl) comp10
 ·exact tI h Tryz.func12 (by kernel_rfl) comp12
 ·exact tI h Tryz.func14 (by kernel_rfl) comp14
 ·exact tI h Tryz.func15 (by kernel_rfl) comp15
 ·exact tI h Tryz.func20 (by kernel_rfl) comp20
 ·exact tI h Tryz.func23 (by kernel_rfl) comp23
 ·exact tR h comp8364055
 ·exact tI h Tryz.func24 (by kernel_rfl) comp24
 ·exact tI h Tryz.func25 (by kernel_rfl) comp25
 ·exact tI h Tryz.func26 (by kernel_rfl) comp26
 ·exact tI h Tryz.func27 (by kernel_rfl) comp27
 ·exact tI h Tryz.func28 (by kernel_rfl) comp28
 ·exact tI h Tryz.func29 (by kernel_rfl) comp29
 ·exact tI h Tryz.func30 (by kernel_rfl) comp30
 ·exact tI h Tryz.func31 (by kernel_rfl) comp31
 ·exact tI h Tryz.func32 (by kernel_rfl) comp32
 ·exact tI h Tryz.func40 (by kernel_rfl) comp40
 ·exact tI h Tryz.func42 (by kernel_rfl) comp42
 ·exact tR h comp499754
 ·exact tI h Tryz.func46 (by kernel_rfl) comp46
 ·exact tI h Tryz.func47 (by kernel_rfl) comp47
 ·exact tI h Tryz.func48 (by kernel_rfl) comp48
 ·exact tI h Tryz.func49 (by kernel_rfl) comp49
 ·exact tI h Tryz.func50 (by kernel_rfl) comp50
 ·exact tI h Tryz.func51 (by kernel_rfl) comp51
 ·exact tI h Tryz.func52 (by kernel_rfl) comp52
 ·exact tI h Tryz.func55 (by kernel_rfl) comp55
 ·exact tI h Tryz.func57 (by kernel_rfl) comp57
 ·exact tI h Tryz.func58 (by kernel_rfl) comp58
 ·exact tI h Tryz.func59 (by kernel_rfl) comp59
 ·exact tI h Tryz.func61 (by kernel_rfl) comp61
 ·exact tI h Tryz.func62 (by kernel_rfl) comp62
 ·exact tI h Tryz.func64 (by kernel_rfl) comp64
 ·exact tI h Tryz.func66 (by kernel_rfl) comp66
 ·exact tI h Tryz.func67 (by kernel_rfl) comp67
 ·exact tI h Tryz.func68 (by kernel_rfl) comp68
 ·exact tI h Tryz.func69 (by kernel_rfl) comp69
 ·exact tI h Tryz.func70 (by kernel_rfl) comp70
 ·exact tI h Tryz.func71 (by kernel_rfl) comp71
 ·exact tI h Tryz.func72 (by kernel_rfl) comp72
 ·exact tI h Tryz.func73 (by kernel_rfl) comp73
 ·exact tI h Tryz.func74 (by kernel_rfl) comp74
 ·exact tI h Tryz.func75 (by kernel_rfl) comp75
 ·exact tI h Tryz.func88 (by kernel_rfl) comp88
 ·exact tI h Tryz.func90 (by kernel_rfl) comp90
 ·exact tI h Tryz.func93 (by kernel_rfl) comp93
 ·exact tI h Tryz.func94 (by kernel_rfl) comp94
 ·exact tI h Tryz.func95 (by kernel_rfl) comp95
 ·exact tI h Tryz.func96 (by kernel_rfl) comp96
 ·exact tI h Tryz.func97 (by kernel_rfl) comp97
 ·exact tI h Tryz.func98 (by kernel_rfl) comp98
 ·exact tI h Tryz.func99 (by kernel_rfl) comp99
 ·exact tI h Tryz.func100 (by kernel_rfl) comp100
 ·exact tI h Tryz.func101 (by kernel_rfl) comp101
 ·exact tI h Tryz.func103 (by kernel_rfl) comp103
 ·exact tI h Tryz.func104 (by kernel_rfl) comp104
 ·exact toky _ _ h
end Go.Vai
