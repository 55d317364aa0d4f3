/-
  DERIVED: THE SHELF's CONTRACTS AT THIS DUMP,IN PLAIN WORDS (tools/lay-plain.mjs out of 'BrLay.lean',which tools/lay-shelf.mjs wrote): THE SAME DECLARATIONS UNDER THE SAME NAMES: 'import','namespace','open','def','theorem' AND NOTHING ELSE: no command of the shelf's: FOR A HAND-IN. Each laying: the table of numbers ('.._ren') and one theorem,a field a fact of the dump's own or the kernel's comparison; each contract: ONE APPLICATION.
-/
import Derived.Shelf.SlSortCmp.NoneTotal
import Derived.Shelf.SlicesG.Cmp
import Derived.Ground.SlsfProg
import Derived.Ground.SlgcProg
import Derived.Test.YtmgmoedcpndppaaProg
set_option linter.unusedVariables false
set_option linter.unusedSimpArgs false
namespace Go.Proofs
open Go.Shelf
def Try.sortR_ren:Go.Shelf.Ren:=⟨fun | 6=>10 | 15=>15 | 14=>14 | 28=>30 | 29=>31 | 20=>22 | 21=>23 | 22=>24 | 23=>25 | 24=>26 | 25=>27 | 26=>28 | 27=>29 | 46=>40 | 47=>41 | 48=>42 | 49=>43 | 50=>44 | 57=>62 | n=>n,fun | 22=>36 | 24=>39 | 25=>41 | 3=>3 | 39=>48 | 0=>0 | 53=>65 | 55=>67 | 4=>4 | 46=>58 | 45=>57 | 50=>62 | 5=>5 | 9=>9 | 66=>83 | 70=>87 | 76=>108 | 77=>109 | n=>n,fun | n=>n⟩
theorem Try.sortR:Go.Proofs.SlLaysF0.n6 Try.prog Try.sortR_ren:={
  mixed:=by kernel_rfl
  f6:=⟨Try.f10.name,by decide,Try.func10.trans (congrArg some (by kernel_rfl))⟩
  f14:=⟨Try.f14.name,by decide,Try.func14.trans (congrArg some (by kernel_rfl))⟩
  f15:=Try.func15.trans (congrArg some (by kernel_rfl))
  f20:=⟨Try.f22.name,by decide,Try.func22.trans (congrArg some (by kernel_rfl))⟩
  f21:=⟨Try.f23.name,by decide,Try.func23.trans (congrArg some (by kernel_rfl))⟩
  f22:=⟨Try.f24.name,by decide,Try.func24.trans (congrArg some (by kernel_rfl))⟩
  f23:=⟨Try.f25.name,by decide,Try.func25.trans (congrArg some (by kernel_rfl))⟩
  f24:=⟨Try.f26.name,by decide,Try.func26.trans (congrArg some (by kernel_rfl))⟩
  f25:=⟨Try.f27.name,by decide,Try.func27.trans (congrArg some (by kernel_rfl))⟩
  f26:=⟨Try.f28.name,by decide,Try.func28.trans (congrArg some (by kernel_rfl))⟩
  f27:=⟨Try.f29.name,by decide,Try.func29.trans (congrArg some (by kernel_rfl))⟩
  f28:=Try.func30.trans (congrArg some (by kernel_rfl))
  f29:=Try.func31.trans (congrArg some (by kernel_rfl))
  f46:=⟨Try.f40.name,by decide,Try.func40.trans (congrArg some (by kernel_rfl))⟩
  f47:=Try.func41.trans (congrArg some (by kernel_rfl))
  f48:=Try.func42.trans (congrArg some (by kernel_rfl))
  f49:=⟨Try.f43.name,by decide,Try.func43.trans (congrArg some (by kernel_rfl))⟩
  f50:=⟨Try.f44.name,by decide,Try.func44.trans (congrArg some (by kernel_rfl))⟩
  f57:=⟨Try.f62.name,by decide,Try.func62.trans (congrArg some (by kernel_rfl))⟩
  t0:=Try.underlying0
  a0:=Try.isAgg0
  z0:=Try.sizeOf0
  v0:=Try.zeroValue0
  t3:=Try.underlying3
  a3:=Try.isAgg3
  z3:=Try.sizeOf3
  v3:=Try.zeroValue3
  t4:=Try.underlying4
  a4:=Try.isAgg4
  z4:=Try.sizeOf4
  v4:=Try.zeroValue4
  t5:=Try.underlying5
  a5:=Try.isAgg5
  z5:=Try.sizeOf5
  v5:=Try.zeroValue5
  t9:=Try.underlying9
  a9:=Try.isAgg9
  z9:=Try.sizeOf9
  v9:=Try.zeroValue9
  t22:=Try.underlying36
  a22:=Try.isAgg36
  z22:=Try.sizeOf36
  v22:=Try.zeroValue36
  t25:=Try.underlying41
  a25:=Try.isAgg41
  z25:=Try.sizeOf41
  v25:=Try.zeroValue41
  t39:=Try.underlying48
  a39:=Try.isAgg48
  z39:=Try.sizeOf48
  v39:=Try.zeroValue48
  t45:=Try.underlying57
  a45:=Try.isAgg57
  z45:=Try.sizeOf57
  v45:=Try.zeroValue57
  t46:=Try.underlying58
  a46:=Try.isAgg58
  z46:=Try.sizeOf58
  v46:=Try.zeroValue58
  t50:=Try.underlying62
  a50:=Try.isAgg62
  z50:=Try.sizeOf62
  v50:=Try.zeroValue62
  t53:=Try.underlying65
  a53:=Try.isAgg65
  z53:=Try.sizeOf65
  v53:=Try.zeroValue65
  t55:=Try.underlying67
  a55:=Try.isAgg67
  z55:=Try.sizeOf67
  v55:=Try.zeroValue67
  t66:=Try.underlying83
  a66:=Try.isAgg83
  z66:=Try.sizeOf83
  v66:=Try.zeroValue83
  t70:=Try.underlying87
  a70:=Try.isAgg87
  z70:=Try.sizeOf87
  v70:=Try.zeroValue87
  t76:=Try.underlying108
  a76:=Try.isAgg108
  z76:=Try.sizeOf108
  v76:=Try.zeroValue108
  t77:=Try.underlying109
  a77:=Try.isAgg109
  z77:=Try.sizeOf109
  v77:=Try.zeroValue109 }
def Try.cmpInt_ren:Go.Shelf.Ren:=⟨fun | 5=>17 | 7=>32 | n=>n,fun | 22=>3 | 3=>3 | 4=>4 | n=>n,fun | n=>n⟩
theorem Try.cmpInt:Go.Proofs.SlLaysC2.n5 Try.prog Try.cmpInt_ren:={
  mixed:=by kernel_rfl
  f5:=⟨Try.f17.name,by decide,Try.func17.trans (congrArg some (by kernel_rfl))⟩
  f7:=⟨Try.f32.name,by decide,Try.func32.trans (congrArg some (by kernel_rfl))⟩
  t3:=Try.underlying3
  a3:=Try.isAgg3
  z3:=Try.sizeOf3
  v3:=Try.zeroValue3
  t4:=Try.underlying4
  a4:=Try.isAgg4
  z4:=Try.sizeOf4
  v4:=Try.zeroValue4
  t22:=Try.underlying3
  a22:=Try.isAgg3
  z22:=Try.sizeOf3
  v22:=Try.zeroValue3 }
end Go.Proofs
