/-
  DERIVED: THE SHELF's CONTRACTS AT THIS DUMP, IN PLAIN WORDS (tools/lay-plain.mjs out of 'MgLay.lean', which tools/lay-shelf.mjs wrote): THE SAME DECLARATIONS UNDER THE SAME NAMES: 'import', 'namespace', 'open', 'def', 'theorem' AND NOTHING ELSE: no command of the shelf's: FOR A HAND-IN. Each laying: the table of numbers ('.._ren') and one theorem, a field a fact of the dump's own or the kernel's comparison; each contract: ONE APPLICATION.
-/
import Derived.Test.YtgakdmmmljdpjaaDoorTae
import Derived.Shelf.SlSortCmp.NoneTotal
import Derived.Ground.SlsfProg
import Derived.Test.YtgakdmmmljdpjaaDoorProg
namespace Go.Proofs
open Go.Shelf
def Tryd.sortD_ren : Go.Shelf.Ren := ⟨fun | 6 => 50 | 15 => 52 | 14 => 61 | 28 => 70 | 29 => 71 | 20 => 74 | 21 => 75 | 22 => 76 | 23 => 77 | 24 => 78 | 25 => 79 | 26 => 80 | 27 => 81 | 46 => 90 | 47 => 83 | 48 => 84 | 49 => 91 | 50 => 92 | 57 => 96 | n => n, fun | 22 => 35 | 24 => 24 | 25 => 47 | 3 => 3 | 39 => 99 | 0 => 0 | 53 => 118 | 55 => 120 | 4 => 4 | 46 => 111 | 45 => 110 | 50 => 115 | 5 => 5 | 9 => 9 | 66 => 129 | 70 => 133 | 76 => 140 | 77 => 141 | n => n, fun | n => n⟩
def Tryd.sortO_ren : Go.Shelf.Ren := ⟨fun | 6 => 38 | 15 => 52 | 14 => 51 | 28 => 70 | 29 => 71 | 20 => 62 | 21 => 63 | 22 => 64 | 23 => 65 | 24 => 66 | 25 => 67 | 26 => 68 | 27 => 69 | 46 => 82 | 47 => 83 | 48 => 84 | 49 => 85 | 50 => 86 | 57 => 93 | n => n, fun | 22 => 39 | 24 => 46 | 25 => 82 | 3 => 3 | 39 => 99 | 0 => 0 | 53 => 118 | 55 => 120 | 4 => 4 | 46 => 111 | 45 => 110 | 50 => 115 | 5 => 5 | 9 => 9 | 66 => 129 | 70 => 133 | 76 => 140 | 77 => 141 | n => n, fun | n => n⟩
end Go.Proofs
