/-
  No cell of these rows narrows 'for every input' (looked for: loops, veiled, ifaces, maps, wideKeys, modest, calm, conditions, laid).
  DERIVED. THE GIVEN ROWS OF THIS SEAT. 3 by the template 'for every input the law returns true; each argument reads behind the call as it read before'; 0 by the template 'total and deterministic' (their statements: YtecgfghmmlpghaaTotals.lean).
  GIVEN WITH THE SEED: the statements are not yours to turn. If you find one false, say at which input.
  Laid BY PROGRAM, IN A SANDBOX (cutbox-rows.mjs): the forced cells as the released guide's own fill.sh prints them over the translation 86ede89eac6e60bd… (all of the seat's roots in one cut). By AI agents, Wed Nov 11 2026. No macro, syntax, notation, axiom, sorry.
-/
import Derived.Test.YtecgfghmmlpghaaChecked
import GoSem.Claim
import GoSem.ClaimJoined
import GoSem.ClaimMapViews
import Derived.JoinedTies
import Derived.KernelRfl
namespace Go.Proofs.Ytecgfghmmlpghaa
/- THE CELL 'sum', in the pinned program and in every row, IS THE sha256 OF THE DUMP (.gsa) THAT YtecgfghmmlpghaaProg.lean LOADS. Nothing in Lean hashes anything: it is a label: what it is worth is what the hold of that sum in a sandbox is worth. -/
noncomputable def Try.pinned : Pinned := { name := "ytecgfghmmlpghaa", sum := "86ede89eac6e60bd54a43b1e41ba7b8b9a7054ce5fb6e31cf6976e46f0252df2", checked := Try.checked }
namespace Rows
def none {H : Type} : Left H := { results := [], args := [] }

/-- 'manciplelaw24.OffersOnce': WHATEVER THE INPUT: true; the input reads as it did. -/
def offersOnceSpec : ChangeSpec := { name := "offersOnce", fn := fun _ => fun
  | [d1, d2] => { results := [.lit (.bool true)], args := [d1, d2] }
  | _ => none }
def offersOnceRow : OpenClaim := { program := "ytecgfghmmlpghaa", sum := "86ede89eac6e60bd54a43b1e41ba7b8b9a7054ce5fb6e31cf6976e46f0252df2", func := "manciple/manciplelaw24.OffersOnce", spec := "offersOnce", recurses := true, apart := false }
def OffersOnceSaid : Prop := offersOnceRow.holds Try.pinned (OpenSpec.ofChange offersOnceSpec)

/-- ITS FALSE NEIGHBOUR: 'it returns false'. Refute it at one input. -/
def offersOnceWrong : ChangeSpec := { name := "offersOnce", fn := fun _ => fun
  | [d1, d2] => { results := [.lit (.bool false)], args := [d1, d2] }
  | _ => none }
def OffersOnceWrongFalsely : Prop := offersOnceRow.holds Try.pinned (OpenSpec.ofChange offersOnceWrong)

/-- 'manciplelaw24.OffersShared': WHATEVER THE INPUT: true; the input reads as it did. -/
def offersSharedSpec : ChangeSpec := { name := "offersShared", fn := fun _ => fun
  | [d] => { results := [.lit (.bool true)], args := [d] }
  | _ => none }
def offersSharedRow : OpenClaim := { program := "ytecgfghmmlpghaa", sum := "86ede89eac6e60bd54a43b1e41ba7b8b9a7054ce5fb6e31cf6976e46f0252df2", func := "manciple/manciplelaw24.OffersShared", spec := "offersShared", recurses := true, apart := false }
def OffersSharedSaid : Prop := offersSharedRow.holds Try.pinned (OpenSpec.ofChange offersSharedSpec)

/-- ITS FALSE NEIGHBOUR: 'it returns false'. Refute it at one input. -/
def offersSharedWrong : ChangeSpec := { name := "offersShared", fn := fun _ => fun
  | [d] => { results := [.lit (.bool false)], args := [d] }
  | _ => none }
def OffersSharedWrongFalsely : Prop := offersSharedRow.holds Try.pinned (OpenSpec.ofChange offersSharedWrong)

/-- 'manciplelaw24.OffersPlays': WHATEVER THE INPUT: true; the input reads as it did. -/
def offersPlaysSpec : ChangeSpec := { name := "offersPlays", fn := fun _ => fun
  | [d1, d2, d3] => { results := [.lit (.bool true)], args := [d1, d2, d3] }
  | _ => none }
def offersPlaysRow : OpenClaim := { program := "ytecgfghmmlpghaa", sum := "86ede89eac6e60bd54a43b1e41ba7b8b9a7054ce5fb6e31cf6976e46f0252df2", func := "manciple/manciplelaw24.OffersPlays", spec := "offersPlays", recurses := true, apart := false }
def OffersPlaysSaid : Prop := offersPlaysRow.holds Try.pinned (OpenSpec.ofChange offersPlaysSpec)

/-- ITS FALSE NEIGHBOUR: 'it returns false'. Refute it at one input. -/
def offersPlaysWrong : ChangeSpec := { name := "offersPlays", fn := fun _ => fun
  | [d1, d2, d3] => { results := [.lit (.bool false)], args := [d1, d2, d3] }
  | _ => none }
def OffersPlaysWrongFalsely : Prop := offersPlaysRow.holds Try.pinned (OpenSpec.ofChange offersPlaysWrong)

/- THE SECOND FORM. 'bulk': how many values and letters a reading holds, each counted each time it is reached (what is shared counts as often as it is met; a slice's spare places count too). A statement '..UptoSaid' is the law's where the arguments, and the package variables that the reading takes, are together of bulk at most 1048576: NARROWER than '..Said'. Prove '..Said' where nothing that the law and all that it calls make is longer than what came in: it says more and counts as full. Else prove '..UptoSaid'. A law counts once. -/
mutual
def uptoBulk {H : Type} : DataW H → Nat
  | .lit (.string bytes) => bytes.length + 1
  | .lit _ => 1
  | .nil => 1
  | .ptr d => uptoBulk d + 1
  | .slice elems spare => uptoBulkAll elems + uptoBulkAll spare + 1
  | .agg parts => uptoBulkAll parts + 1
  | .iface _ d => uptoBulk d + 1
  | .map entries => uptoBulkEntries entries + 1
  | .held _ => 1
def uptoBulkAll {H : Type} : List (DataW H) → Nat
  | [] => 0
  | d :: r => uptoBulk d + uptoBulkAll r
def uptoBulkEntries {H : Type} : List (Lit × DataW H) → Nat
  | [] => 0
  | x :: r => uptoBulkEntry x + uptoBulkEntries r
def uptoBulkEntry {H : Type} : Lit × DataW H → Nat
  | (.string bytes, d) => bytes.length + uptoBulk d + 1
  | (_, d) => uptoBulk d + 1
 end
def uptoSmall : (H : Type) → List (DataW H) → Bool := fun _ ds => decide (uptoBulkAll ds ≤ 1048576)
def OpenSpec.upto (s : _root_.Go.ChangeSpec) : _root_.Go.OpenSpec := { _root_.Go.OpenSpec.ofChange s with cond := some uptoSmall }

/-- 'manciplelaw24.OffersOnce', WHERE WHAT IT READS IS OF BULK AT MOST 1048576: true; the input reads as it did. -/
def offersOnceUptoRow : OpenClaim := { program := "ytecgfghmmlpghaa", sum := "86ede89eac6e60bd54a43b1e41ba7b8b9a7054ce5fb6e31cf6976e46f0252df2", func := "manciple/manciplelaw24.OffersOnce", spec := "offersOnce", recurses := true, apart := false, narrowed := true }
def OffersOnceUptoSaid : Prop := offersOnceUptoRow.holds Try.pinned (OpenSpec.upto offersOnceSpec)

/-- 'manciplelaw24.OffersShared', WHERE WHAT IT READS IS OF BULK AT MOST 1048576: true; the input reads as it did. -/
def offersSharedUptoRow : OpenClaim := { program := "ytecgfghmmlpghaa", sum := "86ede89eac6e60bd54a43b1e41ba7b8b9a7054ce5fb6e31cf6976e46f0252df2", func := "manciple/manciplelaw24.OffersShared", spec := "offersShared", recurses := true, apart := false, narrowed := true }
def OffersSharedUptoSaid : Prop := offersSharedUptoRow.holds Try.pinned (OpenSpec.upto offersSharedSpec)

/-- 'manciplelaw24.OffersPlays', WHERE WHAT IT READS IS OF BULK AT MOST 1048576: true; the input reads as it did. -/
def offersPlaysUptoRow : OpenClaim := { program := "ytecgfghmmlpghaa", sum := "86ede89eac6e60bd54a43b1e41ba7b8b9a7054ce5fb6e31cf6976e46f0252df2", func := "manciple/manciplelaw24.OffersPlays", spec := "offersPlays", recurses := true, apart := false, narrowed := true }
def OffersPlaysUptoSaid : Prop := offersPlaysUptoRow.holds Try.pinned (OpenSpec.upto offersPlaysSpec)

end Rows
end Go.Proofs.Ytecgfghmmlpghaa
