/-
  No cell of these rows narrows 'for every input' (looked for: loops, veiled, ifaces, maps, wideKeys, modest, calm, conditions, laid).
  DERIVED. THE GIVEN ROWS OF THIS SEAT. 6 by the template 'for every input the law returns true; each argument reads behind the call as it read before'; 0 by the template 'total and deterministic' (their statements: YtnjloldhmjadoaaTotals.lean).
  GIVEN WITH THE SEED: the statements are not yours to turn. If you find one false, say at which input.
  Laid BY PROGRAM, IN A SANDBOX (cutbox-rows.mjs): the forced cells as the released guide's own fill.sh prints them over the translation cb1776e500c2e594… (all of the seat's roots in one cut). By AI agents, Wed Nov 11 2026. No macro, syntax, notation, axiom, sorry.
-/
import Derived.Test.YtnjloldhmjadoaaChecked
import GoSem.Claim
import GoSem.ClaimJoined
import GoSem.ClaimMapViews
import Derived.JoinedTies
import Derived.KernelRfl
namespace Go.Proofs.Ytnjloldhmjadoaa
/- THE CELL 'sum', in the pinned program and in every row, IS THE sha256 OF THE DUMP (.gsa) THAT YtnjloldhmjadoaaProg.lean LOADS. Nothing in Lean hashes anything: it is a label: what it is worth is what the hold of that sum in a sandbox is worth. -/
noncomputable def Try.pinned : Pinned := { name := "ytnjloldhmjadoaa", sum := "cb1776e500c2e5943096cec61b8a5cfabe93bbbe0c2d4fced5159d240f6aad53", checked := Try.checked }
namespace Rows
def none {H : Type} : Left H := { results := [], args := [] }

/-- 'posthornlaw15.FramerData': WHATEVER THE INPUT: true; the input reads as it did. -/
def framerDataSpec : ChangeSpec := { name := "framerData", fn := fun _ => fun
  | [d1, d2, d3] => { results := [.lit (.bool true)], args := [d1, d2, d3] }
  | _ => none }
def framerDataRow : OpenClaim := { program := "ytnjloldhmjadoaa", sum := "cb1776e500c2e5943096cec61b8a5cfabe93bbbe0c2d4fced5159d240f6aad53", func := "posthorn/posthornlaw15.FramerData", spec := "framerData", unfollowed := true, recurses := true, apart := false }
def FramerDataSaid : Prop := framerDataRow.holds Try.pinned (OpenSpec.ofChange framerDataSpec)

/-- ITS FALSE NEIGHBOUR: 'it returns false'. Refute it at one input. -/
def framerDataWrong : ChangeSpec := { name := "framerData", fn := fun _ => fun
  | [d1, d2, d3] => { results := [.lit (.bool false)], args := [d1, d2, d3] }
  | _ => none }
def FramerDataWrongFalsely : Prop := framerDataRow.holds Try.pinned (OpenSpec.ofChange framerDataWrong)

/-- 'posthornlaw15.FramerPlays': WHATEVER THE INPUT: true; the input reads as it did. -/
def framerPlaysSpec : ChangeSpec := { name := "framerPlays", fn := fun _ => fun
  | [d1, d2] => { results := [.lit (.bool true)], args := [d1, d2] }
  | _ => none }
def framerPlaysRow : OpenClaim := { program := "ytnjloldhmjadoaa", sum := "cb1776e500c2e5943096cec61b8a5cfabe93bbbe0c2d4fced5159d240f6aad53", func := "posthorn/posthornlaw15.FramerPlays", spec := "framerPlays", unfollowed := true, recurses := true, apart := false }
def FramerPlaysSaid : Prop := framerPlaysRow.holds Try.pinned (OpenSpec.ofChange framerPlaysSpec)

/-- ITS FALSE NEIGHBOUR: 'it returns false'. Refute it at one input. -/
def framerPlaysWrong : ChangeSpec := { name := "framerPlays", fn := fun _ => fun
  | [d1, d2] => { results := [.lit (.bool false)], args := [d1, d2] }
  | _ => none }
def FramerPlaysWrongFalsely : Prop := framerPlaysRow.holds Try.pinned (OpenSpec.ofChange framerPlaysWrong)

/-- 'posthornlaw15.FramerPieces': WHATEVER THE INPUT: true; the input reads as it did. -/
def framerPiecesSpec : ChangeSpec := { name := "framerPieces", fn := fun _ => fun
  | [d] => { results := [.lit (.bool true)], args := [d] }
  | _ => none }
def framerPiecesRow : OpenClaim := { program := "ytnjloldhmjadoaa", sum := "cb1776e500c2e5943096cec61b8a5cfabe93bbbe0c2d4fced5159d240f6aad53", func := "posthorn/posthornlaw15.FramerPieces", spec := "framerPieces", unfollowed := true, recurses := true, apart := false }
def FramerPiecesSaid : Prop := framerPiecesRow.holds Try.pinned (OpenSpec.ofChange framerPiecesSpec)

/-- ITS FALSE NEIGHBOUR: 'it returns false'. Refute it at one input. -/
def framerPiecesWrong : ChangeSpec := { name := "framerPieces", fn := fun _ => fun
  | [d] => { results := [.lit (.bool false)], args := [d] }
  | _ => none }
def FramerPiecesWrongFalsely : Prop := framerPiecesRow.holds Try.pinned (OpenSpec.ofChange framerPiecesWrong)

/-- 'posthornlaw15.FramerLines': WHATEVER THE INPUT: true; the input reads as it did. -/
def framerLinesSpec : ChangeSpec := { name := "framerLines", fn := fun _ => fun
  | [d1, d2, d3] => { results := [.lit (.bool true)], args := [d1, d2, d3] }
  | _ => none }
def framerLinesRow : OpenClaim := { program := "ytnjloldhmjadoaa", sum := "cb1776e500c2e5943096cec61b8a5cfabe93bbbe0c2d4fced5159d240f6aad53", func := "posthorn/posthornlaw15.FramerLines", spec := "framerLines", unfollowed := true, recurses := true, apart := false }
def FramerLinesSaid : Prop := framerLinesRow.holds Try.pinned (OpenSpec.ofChange framerLinesSpec)

/-- ITS FALSE NEIGHBOUR: 'it returns false'. Refute it at one input. -/
def framerLinesWrong : ChangeSpec := { name := "framerLines", fn := fun _ => fun
  | [d1, d2, d3] => { results := [.lit (.bool false)], args := [d1, d2, d3] }
  | _ => none }
def FramerLinesWrongFalsely : Prop := framerLinesRow.holds Try.pinned (OpenSpec.ofChange framerLinesWrong)

/-- 'posthornlaw15.FramerChunks': WHATEVER THE INPUT: true; the input reads as it did. -/
def framerChunksSpec : ChangeSpec := { name := "framerChunks", fn := fun _ => fun
  | [d] => { results := [.lit (.bool true)], args := [d] }
  | _ => none }
def framerChunksRow : OpenClaim := { program := "ytnjloldhmjadoaa", sum := "cb1776e500c2e5943096cec61b8a5cfabe93bbbe0c2d4fced5159d240f6aad53", func := "posthorn/posthornlaw15.FramerChunks", spec := "framerChunks", unfollowed := true, recurses := true, apart := false }
def FramerChunksSaid : Prop := framerChunksRow.holds Try.pinned (OpenSpec.ofChange framerChunksSpec)

/-- ITS FALSE NEIGHBOUR: 'it returns false'. Refute it at one input. -/
def framerChunksWrong : ChangeSpec := { name := "framerChunks", fn := fun _ => fun
  | [d] => { results := [.lit (.bool false)], args := [d] }
  | _ => none }
def FramerChunksWrongFalsely : Prop := framerChunksRow.holds Try.pinned (OpenSpec.ofChange framerChunksWrong)

/-- 'posthornlaw15.FramerWaits': WHATEVER THE INPUT: true; the input reads as it did. -/
def framerWaitsSpec : ChangeSpec := { name := "framerWaits", fn := fun _ => fun
  | [d] => { results := [.lit (.bool true)], args := [d] }
  | _ => none }
def framerWaitsRow : OpenClaim := { program := "ytnjloldhmjadoaa", sum := "cb1776e500c2e5943096cec61b8a5cfabe93bbbe0c2d4fced5159d240f6aad53", func := "posthorn/posthornlaw15.FramerWaits", spec := "framerWaits", unfollowed := true, recurses := true, apart := false }
def FramerWaitsSaid : Prop := framerWaitsRow.holds Try.pinned (OpenSpec.ofChange framerWaitsSpec)

/-- ITS FALSE NEIGHBOUR: 'it returns false'. Refute it at one input. -/
def framerWaitsWrong : ChangeSpec := { name := "framerWaits", fn := fun _ => fun
  | [d] => { results := [.lit (.bool false)], args := [d] }
  | _ => none }
def FramerWaitsWrongFalsely : Prop := framerWaitsRow.holds Try.pinned (OpenSpec.ofChange framerWaitsWrong)

/- THE SECOND FORM. 'bulk': how many values and letters a reading holds, each counted each time it is reached (what is shared counts as often as it is met; a slice's spare places count too). A statement '..UptoSaid' is the law's where the arguments, and the package variables that the reading takes, are together of bulk at most 1048576: NARROWER than '..Said'. Prove '..Said' where nothing that the law and all that it calls make is longer than what came in: it says more and counts as full. Else prove '..UptoSaid'. A law counts once. -/
mutual
def uptoBulk {H : Type} : DataW H → Nat
  | .lit (.string bytes) => bytes.length + 1
  | .lit _ => 1
  | .nil => 1
  | .ptr d => uptoBulk d + 1
  | .slice elems spare => uptoBulkAll elems + uptoBulkAll spare + 1
  | .agg parts => uptoBulkAll parts + 1
  | .iface _ d => uptoBulk d + 1
  | .map entries => uptoBulkEntries entries + 1
  | .held _ => 1
def uptoBulkAll {H : Type} : List (DataW H) → Nat
  | [] => 0
  | d :: r => uptoBulk d + uptoBulkAll r
def uptoBulkEntries {H : Type} : List (Lit × DataW H) → Nat
  | [] => 0
  | x :: r => uptoBulkEntry x + uptoBulkEntries r
def uptoBulkEntry {H : Type} : Lit × DataW H → Nat
  | (.string bytes, d) => bytes.length + uptoBulk d + 1
  | (_, d) => uptoBulk d + 1
 end
def uptoSmall : (H : Type) → List (DataW H) → Bool := fun _ ds => decide (uptoBulkAll ds ≤ 1048576)
def OpenSpec.upto (s : _root_.Go.ChangeSpec) : _root_.Go.OpenSpec := { _root_.Go.OpenSpec.ofChange s with cond := some uptoSmall }

/-- 'posthornlaw15.FramerData', WHERE WHAT IT READS IS OF BULK AT MOST 1048576: true; the input reads as it did. -/
def framerDataUptoRow : OpenClaim := { program := "ytnjloldhmjadoaa", sum := "cb1776e500c2e5943096cec61b8a5cfabe93bbbe0c2d4fced5159d240f6aad53", func := "posthorn/posthornlaw15.FramerData", spec := "framerData", unfollowed := true, recurses := true, apart := false, narrowed := true }
def FramerDataUptoSaid : Prop := framerDataUptoRow.holds Try.pinned (OpenSpec.upto framerDataSpec)

/-- 'posthornlaw15.FramerPlays', WHERE WHAT IT READS IS OF BULK AT MOST 1048576: true; the input reads as it did. -/
def framerPlaysUptoRow : OpenClaim := { program := "ytnjloldhmjadoaa", sum := "cb1776e500c2e5943096cec61b8a5cfabe93bbbe0c2d4fced5159d240f6aad53", func := "posthorn/posthornlaw15.FramerPlays", spec := "framerPlays", unfollowed := true, recurses := true, apart := false, narrowed := true }
def FramerPlaysUptoSaid : Prop := framerPlaysUptoRow.holds Try.pinned (OpenSpec.upto framerPlaysSpec)

/-- 'posthornlaw15.FramerPieces', WHERE WHAT IT READS IS OF BULK AT MOST 1048576: true; the input reads as it did. -/
def framerPiecesUptoRow : OpenClaim := { program := "ytnjloldhmjadoaa", sum := "cb1776e500c2e5943096cec61b8a5cfabe93bbbe0c2d4fced5159d240f6aad53", func := "posthorn/posthornlaw15.FramerPieces", spec := "framerPieces", unfollowed := true, recurses := true, apart := false, narrowed := true }
def FramerPiecesUptoSaid : Prop := framerPiecesUptoRow.holds Try.pinned (OpenSpec.upto framerPiecesSpec)

/-- 'posthornlaw15.FramerLines', WHERE WHAT IT READS IS OF BULK AT MOST 1048576: true; the input reads as it did. -/
def framerLinesUptoRow : OpenClaim := { program := "ytnjloldhmjadoaa", sum := "cb1776e500c2e5943096cec61b8a5cfabe93bbbe0c2d4fced5159d240f6aad53", func := "posthorn/posthornlaw15.FramerLines", spec := "framerLines", unfollowed := true, recurses := true, apart := false, narrowed := true }
def FramerLinesUptoSaid : Prop := framerLinesUptoRow.holds Try.pinned (OpenSpec.upto framerLinesSpec)

/-- 'posthornlaw15.FramerChunks', WHERE WHAT IT READS IS OF BULK AT MOST 1048576: true; the input reads as it did. -/
def framerChunksUptoRow : OpenClaim := { program := "ytnjloldhmjadoaa", sum := "cb1776e500c2e5943096cec61b8a5cfabe93bbbe0c2d4fced5159d240f6aad53", func := "posthorn/posthornlaw15.FramerChunks", spec := "framerChunks", unfollowed := true, recurses := true, apart := false, narrowed := true }
def FramerChunksUptoSaid : Prop := framerChunksUptoRow.holds Try.pinned (OpenSpec.upto framerChunksSpec)

/-- 'posthornlaw15.FramerWaits', WHERE WHAT IT READS IS OF BULK AT MOST 1048576: true; the input reads as it did. -/
def framerWaitsUptoRow : OpenClaim := { program := "ytnjloldhmjadoaa", sum := "cb1776e500c2e5943096cec61b8a5cfabe93bbbe0c2d4fced5159d240f6aad53", func := "posthorn/posthornlaw15.FramerWaits", spec := "framerWaits", unfollowed := true, recurses := true, apart := false, narrowed := true }
def FramerWaitsUptoSaid : Prop := framerWaitsUptoRow.holds Try.pinned (OpenSpec.upto framerWaitsSpec)

end Rows
end Go.Proofs.Ytnjloldhmjadoaa
