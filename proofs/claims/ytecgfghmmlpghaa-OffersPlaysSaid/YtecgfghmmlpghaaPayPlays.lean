/- OffersPlays: whatever the input, it returns true; the input reads as it did. No condition. (The library's contracts paid.) -/
import Derived.Test.YtecgfghmmlpghaaRowPlays
import Derived.Test.YtecgfghmmlpghaaShelf
import Derived.Shelf.SortM.Plain
import Derived.Shelf.SortM.SortNone
set_option linter.unusedVariables false
namespace Go.Proofs.Ytecgfghmmlpghaa.O
open Go.Proofs Go.Shelf Go.RowKit Go.Sort
theorem sortC : SortC := ⟨fun blk off cap zs w hH hb hz => AnyM.slices_Sort_int Try.laysSort blk off cap zs w hH hb hz, fun p cap w => AnyM.slices_Sort_int_none Try.laysSort p cap w⟩
end Go.Proofs.Ytecgfghmmlpghaa.O
namespace Go.Proofs.Ytecgfghmmlpghaa
/-- The row, under a short name, for the claim. -/
theorem offersPlays_holds : Rows.OffersPlaysSaid := RowPlays.proved O.sortC
#print axioms offersPlays_holds
end Go.Proofs.Ytecgfghmmlpghaa
