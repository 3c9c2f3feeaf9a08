/- QueuePlays: where what it reads is of bulk at most 1048576, it returns true; the input reads as it did. (The library's contracts paid.) -/
import Derived.Test.YtchhpgnlfofdcaaRowPlays
import Derived.Test.YtchhpgnlfofdcaaShelf
import Derived.Shelf.SortM.Plain
import Derived.Shelf.SortM.SortNone
set_option linter.unusedVariables false
namespace Go.Proofs.Ytchhpgnlfofdcaa.Q
open Go.Proofs Go.Shelf Go.RowKit Go.Sort
theorem sortC : SortC := ⟨fun blk off cap zs w hH hb hz => AnyM.slices_Sort_int Try.laysSort blk off cap zs w hH hb hz, fun p cap w => AnyM.slices_Sort_int_none Try.laysSort p cap w⟩
end Go.Proofs.Ytchhpgnlfofdcaa.Q
namespace Go.Proofs.Ytchhpgnlfofdcaa
/-- The row, under a short name, for the claim. -/
theorem queuePlays_holds : Rows.QueuePlaysUptoSaid := RowPlays.proved Q.sortC
#print axioms queuePlays_holds
end Go.Proofs.Ytchhpgnlfofdcaa
