/-
  The table of the functions.
-/
import GoSem.PinnedTables
import Derived.Test.YtfaomcaimppmeaaDoorVaW
import Derived.Test.YtfaomcaimppmeaaDoorVaGp0
import Derived.Test.YtfaomcaimppmeaaDoorVaGp1
set_option linter.unusedVariables false
set_option maxRecDepth 100000
namespace Go.Vai
open Go.Proofs
def Tt : FuncId → Option LFunc := fun f => match f with
  | 12 => some L12
  | 13 => some L13
  | 14 => some L14
  | 15 => some L15
  | 18 => some L18
  | 19 => some L19
  | 20 => some L20
  | 22 => some L22
  | 23 => some L23
  | 24 => some L24
  | 25 => some L25
  | 26 => some L26
  | 27 => some L27
  | 28 => some L28
  | 29 => some L29
  | 30 => some L30
  | 31 => some L31
  | 32 => some L32
  | 33 => some L33
  | 34 => some L34
  | 35 => some L35
  | 39 => some L39
  | 40 => some L40
  | 42 => some L42
  | 44 => some L44
  | 45 => some L45
  | 46 => some L46
  | 47 => some L47
  | 48 => some L48
  | 49 => some L49
  | 50 => some L50
  | 51 => some L51
  | 52 => some L52
  | 53 => some L53
  | 54 => some L54
  | 56 => some L56
  | 57 => some L57
  | 58 => some L58
  | 59 => some L59
  | 60 => some L60
  | 62 => some L62
  | 63 => some L63
  | 64 => some L64
  | 65 => some L65
  | 67 => some L67
  | 68 => some L68
  | 69 => some L69
  | 71 => some L71
  | 72 => some L72
  | 73 => some L73
  | 74 => some L74
  | 75 => some L75
  | 76 => some L76
  | 77 => some L77
  | 78 => some L78
  | 79 => some L79
  | 80 => some L80
  | 81 => some L81
  | 82 => some L82
  | 83 => some L83
  | 84 => some L84
  | 85 => some L85
  | 86 => some L86
  | 87 => some L87
  | 88 => some L88
  | 89 => some L89
  | 90 => some L90
  | 91 => some L91
  | 92 => some L92
  | 93 => some L93
  | 94 => some L94
  | 95 => some L95
  | 97 => some L97
  | 98 => some L98
  | 99 => some L99
  | 100 => some L100
  | 101 => some L101
  | 102 => some L102
  | 103 => some L103
  | _ => none
theorem tok : TOk Tryd.prog Tt := by
  intro f L h
  unfold Tt at h
  split at h
  · injection h with h; subst h; exact ⟨Tryd.f12, _, Tryd.func12, by kernel_rfl, comp12⟩
  · injection h with h; subst h; exact ⟨Tryd.f13, _, Tryd.func13, by kernel_rfl, comp13⟩
  · injection h with h; subst h; exact ⟨Tryd.f14, _, Tryd.func14, by kernel_rfl, comp14⟩
  · injection h with h; subst h; exact ⟨Tryd.f15, _, Tryd.func15, by kernel_rfl, comp15⟩
  · injection h with h; subst h; exact ⟨Tryd.f18, _, Tryd.func18, by kernel_rfl, comp18⟩
  · injection h with h; subst h; exact ⟨Tryd.f19, _, Tryd.func19, by kernel_rfl, comp19⟩
  · injection h with h; subst h; exact ⟨Tryd.f20, _, Tryd.func20, by kernel_rfl, comp20⟩
  · injection h with h; subst h; exact ⟨Tryd.f22, _, Tryd.func22, by kernel_rfl, comp22⟩
  · injection h with h; subst h; exact ⟨Tryd.f23, _, Tryd.func23, by kernel_rfl, comp23⟩
  · injection h with h; subst h; exact ⟨Tryd.f24, _, Tryd.func24, by kernel_rfl, comp24⟩
  · injection h with h; subst h; exact ⟨Tryd.f25, _, Tryd.func25, by kernel_rfl, comp25⟩
  · injection h with h; subst h; exact ⟨Tryd.f26, _, Tryd.func26, by kernel_rfl, comp26⟩
  · injection h with h; subst h; exact ⟨Tryd.f27, _, Tryd.func27, by kernel_rfl, comp27⟩
  · injection h with h; subst h; exact ⟨Tryd.f28, _, Tryd.func28, by kernel_rfl, comp28⟩
  · injection h with h; subst h; exact ⟨Tryd.f29, _, Tryd.func29, by kernel_rfl, comp29⟩
  · injection h with h; subst h; exact ⟨Tryd.f30, _, Tryd.func30, by kernel_rfl, comp30⟩
  · injection h with h; subst h; exact ⟨Tryd.f31, _, Tryd.func31, by kernel_rfl, comp31⟩
  · injection h with h; subst h; exact ⟨Tryd.f32, _, Tryd.func32, by kernel_rfl, comp32⟩
  · injection h with h; subst h; exact ⟨Tryd.f33, _, Tryd.func33, by kernel_rfl, comp33⟩
  · injection h with h; subst h; exact ⟨Tryd.f34, _, Tryd.func34, by kernel_rfl, comp34⟩
  · injection h with h; subst h; exact ⟨Tryd.f35, _, Tryd.func35, by kernel_rfl, comp35⟩
  · injection h with h; subst h; exact ⟨Tryd.f39, _, Tryd.func39, by kernel_rfl, comp39⟩
  · injection h with h; subst h; exact ⟨Tryd.f40, _, Tryd.func40, by kernel_rfl, comp40⟩
  · injection h with h; subst h; exact ⟨Tryd.f42, _, Tryd.func42, by kernel_rfl, comp42⟩
  · injection h with h; subst h; exact ⟨Tryd.f44, _, Tryd.func44, by kernel_rfl, comp44⟩
  · injection h with h; subst h; exact ⟨Tryd.f45, _, Tryd.func45, by kernel_rfl, comp45⟩
  · injection h with h; subst h; exact ⟨Tryd.f46, _, Tryd.func46, by kernel_rfl, comp46⟩
  · injection h with h; subst h; exact ⟨Tryd.f47, _, Tryd.func47, by kernel_rfl, comp47⟩
  · injection h with h; subst h; exact ⟨Tryd.f48, _, Tryd.func48, by kernel_rfl, comp48⟩
  · injection h with h; subst h; exact ⟨Tryd.f49, _, Tryd.func49, by kernel_rfl, comp49⟩
  · injection h with h; subst h; exact ⟨Tryd.f50, _, Tryd.func50, by kernel_rfl, comp50⟩
  · injection h with h; subst h; exact ⟨Tryd.f51, _, Tryd.func51, by kernel_rfl, comp51⟩
  · injection h with h; subst h; exact ⟨Tryd.f52, _, Tryd.func52, by kernel_rfl, comp52⟩
  · injection h with h; subst h; exact ⟨Tryd.f53, _, Tryd.func53, by kernel_rfl, comp53⟩
  · injection h with h; subst h; exact ⟨Tryd.f54, _, Tryd.func54, by kernel_rfl, comp54⟩
  · injection h with h; subst h; exact ⟨Tryd.f56, _, Tryd.func56, by kernel_rfl, comp56⟩
  · injection h with h; subst h; exact ⟨Tryd.f57, _, Tryd.func57, by kernel_rfl, comp57⟩
  · injection h with h; subst h; exact ⟨Tryd.f58, _, Tryd.func58, by kernel_rfl, comp58⟩
  · injection h with h; subst h; exact ⟨Tryd.f59, _, Tryd.func59, by kernel_rfl, comp59⟩
  · injection h with h; subst h; exact ⟨Tryd.f60, _, Tryd.func60, by kernel_rfl, comp60⟩
  · injection h with h; subst h; exact ⟨Tryd.f62, _, Tryd.func62, by kernel_rfl, comp62⟩
  · injection h with h; subst h; exact ⟨Tryd.f63, _, Tryd.func63, by kernel_rfl, comp63⟩
  · injection h with h; subst h; exact ⟨Tryd.f64, _, Tryd.func64, by kernel_rfl, comp64⟩
  · injection h with h; subst h; exact ⟨Tryd.f65, _, Tryd.func65, by kernel_rfl, comp65⟩
  · injection h with h; subst h; exact ⟨Tryd.f67, _, Tryd.func67, by kernel_rfl, comp67⟩
  · injection h with h; subst h; exact ⟨Tryd.f68, _, Tryd.func68, by kernel_rfl, comp68⟩
  · injection h with h; subst h; exact ⟨Tryd.f69, _, Tryd.func69, by kernel_rfl, comp69⟩
  · injection h with h; subst h; exact ⟨Tryd.f71, _, Tryd.func71, by kernel_rfl, comp71⟩
  · injection h with h; subst h; exact ⟨Tryd.f72, _, Tryd.func72, by kernel_rfl, comp72⟩
  · injection h with h; subst h; exact ⟨Tryd.f73, _, Tryd.func73, by kernel_rfl, comp73⟩
  · injection h with h; subst h; exact ⟨Tryd.f74, _, Tryd.func74, by kernel_rfl, comp74⟩
  · injection h with h; subst h; exact ⟨Tryd.f75, _, Tryd.func75, by kernel_rfl, comp75⟩
  · injection h with h; subst h; exact ⟨Tryd.f76, _, Tryd.func76, by kernel_rfl, comp76⟩
  · injection h with h; subst h; exact ⟨Tryd.f77, _, Tryd.func77, by kernel_rfl, comp77⟩
  · injection h with h; subst h; exact ⟨Tryd.f78, _, Tryd.func78, by kernel_rfl, comp78⟩
  · injection h with h; subst h; exact ⟨Tryd.f79, _, Tryd.func79, by kernel_rfl, comp79⟩
  · injection h with h; subst h; exact ⟨Tryd.f80, _, Tryd.func80, by kernel_rfl, comp80⟩
  · injection h with h; subst h; exact ⟨Tryd.f81, _, Tryd.func81, by kernel_rfl, comp81⟩
  · injection h with h; subst h; exact ⟨Tryd.f82, _, Tryd.func82, by kernel_rfl, comp82⟩
  · injection h with h; subst h; exact ⟨Tryd.f83, _, Tryd.func83, by kernel_rfl, comp83⟩
  · injection h with h; subst h; exact ⟨Tryd.f84, _, Tryd.func84, by kernel_rfl, comp84⟩
  · injection h with h; subst h; exact ⟨Tryd.f85, _, Tryd.func85, by kernel_rfl, comp85⟩
  · injection h with h; subst h; exact ⟨Tryd.f86, _, Tryd.func86, by kernel_rfl, comp86⟩
  · injection h with h; subst h; exact ⟨Tryd.f87, _, Tryd.func87, by kernel_rfl, comp87⟩
  · injection h with h; subst h; exact ⟨Tryd.f88, _, Tryd.func88, by kernel_rfl, comp88⟩
  · injection h with h; subst h; exact ⟨Tryd.f89, _, Tryd.func89, by kernel_rfl, comp89⟩
  · injection h with h; subst h; exact ⟨Tryd.f90, _, Tryd.func90, by kernel_rfl, comp90⟩
  · injection h with h; subst h; exact ⟨Tryd.f91, _, Tryd.func91, by kernel_rfl, comp91⟩
  · injection h with h; subst h; exact ⟨Tryd.f92, _, Tryd.func92, by kernel_rfl, comp92⟩
  · injection h with h; subst h; exact ⟨Tryd.f93, _, Tryd.func93, by kernel_rfl, comp93⟩
  · injection h with h; subst h; exact ⟨Tryd.f94, _, Tryd.func94, by kernel_rfl, comp94⟩
  · injection h with h; subst h; exact ⟨Tryd.f95, _, Tryd.func95, by kernel_rfl, comp95⟩
  · injection h with h; subst h; exact ⟨Tryd.f97, _, Tryd.func97, by kernel_rfl, comp97⟩
  · injection h with h; subst h; exact ⟨Tryd.f98, _, Tryd.func98, by kernel_rfl, comp98⟩
  · injection h with h; subst h; exact ⟨Tryd.f99, _, Tryd.func99, by kernel_rfl, comp99⟩
  · injection h with h; subst h; exact ⟨Tryd.f100, _, Tryd.func100, by kernel_rfl, comp100⟩
  · injection h with h; subst h; exact ⟨Tryd.f101, _, Tryd.func101, by kernel_rfl, comp101⟩
  · injection h with h; subst h; exact ⟨Tryd.f102, _, Tryd.func102, by kernel_rfl, comp102⟩
  · injection h with h; subst h; exact ⟨Tryd.f103, _, Tryd.func103, by kernel_rfl, comp103⟩
  · cases h
end Go.Vai
