/- FramesPlays: whatever the input, it returns true; the input reads as it did. No condition. (The library's contracts paid.) -/
import Derived.Test.YtdckcbahfdcafaaRowPlays
import Derived.Test.YtdckcbahfdcafaaShelf
import Derived.Shelf.SortM.Plain
import Derived.Shelf.SortM.SortNone
import Derived.Shelf.SlicesE.DeleteFunc
set_option linter.unusedVariables false
namespace Go.Proofs.Ytdckcbahfdcafaa.F
open Go.Proofs Go.Shelf Go.RowKit Go.Sort
theorem sortC : SortC := ⟨fun blk off cap zs w hH hb hz => AnyM.slices_Sort_int Try.laysSort blk off cap zs w hH hb hz, fun p cap w => AnyM.slices_Sort_int_none Try.laysSort p cap w⟩
theorem delC : DelC := fun p lb blk off cap d w hp hpo hH hsz hcap =>
  AnyE.slices_DeleteFunc Try.laysDel (Value.int .i64) (fun _ => rfl) p 34 lb (enters_of Try.func34 (by kernel_rfl) rfl) 0 (fun w => by kernel_rfl) blk off cap d w hp hpo hH hsz hcap
end Go.Proofs.Ytdckcbahfdcafaa.F
namespace Go.Proofs.Ytdckcbahfdcafaa
/-- The row, under a short name, for the claim. -/
theorem framesPlays_holds : Rows.FramesPlaysSaid := RowPlays.proved F.sortC F.delC
#print axioms framesPlays_holds
end Go.Proofs.Ytdckcbahfdcafaa
