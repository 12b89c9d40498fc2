/-
  No cell of these rows narrows 'for every input' (looked for: loops, veiled, ifaces, maps, wideKeys, modest, calm, conditions, laid).
  DERIVED. THE GIVEN ROWS OF THIS SEAT. 6 by the template 'for every input the law returns true; each argument reads behind the call as it read before'; 0 by the template 'total and deterministic' (their statements: YtccmickmcpfapaaTotals.lean).
  GIVEN WITH THE SEED: the statements are not yours to turn. If you find one false, say at which input.
  Laid BY PROGRAM, IN A SANDBOX (cutbox-rows.mjs): the forced cells as the released guide's own fill.sh prints them over the translation 5db2cb9bba8732d9… (all of the seat's roots in one cut). By AI agents, Wed Nov 11 2026. No macro, syntax, notation, axiom, sorry.
-/
import Derived.Test.YtccmickmcpfapaaChecked
import GoSem.Claim
import GoSem.ClaimJoined
import GoSem.ClaimMapViews
import Derived.JoinedTies
import Derived.KernelRfl
namespace Go.Proofs.Ytccmickmcpfapaa
/- THE CELL 'sum', in the pinned program and in every row, IS THE sha256 OF THE DUMP (.gsa) THAT YtccmickmcpfapaaProg.lean LOADS. Nothing in Lean hashes anything: it is a label: what it is worth is what the hold of that sum in a sandbox is worth. -/
noncomputable def Try.pinned : Pinned := { name := "ytccmickmcpfapaa", sum := "5db2cb9bba8732d9828304169a6752f9b467a186994091878656c542340f63df", checked := Try.checked }
namespace Rows
def none {H : Type} : Left H := { results := [], args := [] }

/-- 'posthornlaw13.LinePieces': WHATEVER THE INPUT: true; the input reads as it did. -/
def linePiecesSpec : ChangeSpec := { name := "linePieces", fn := fun _ => fun
  | [d1, d2, d3] => { results := [.lit (.bool true)], args := [d1, d2, d3] }
  | _ => none }
def linePiecesRow : OpenClaim := { program := "ytccmickmcpfapaa", sum := "5db2cb9bba8732d9828304169a6752f9b467a186994091878656c542340f63df", func := "posthorn/posthornlaw13.LinePieces", spec := "linePieces", apart := false }
def LinePiecesSaid : Prop := linePiecesRow.holds Try.pinned (OpenSpec.ofChange linePiecesSpec)

/-- ITS FALSE NEIGHBOUR: 'it returns false'. Refute it at one input. -/
def linePiecesWrong : ChangeSpec := { name := "linePieces", fn := fun _ => fun
  | [d1, d2, d3] => { results := [.lit (.bool false)], args := [d1, d2, d3] }
  | _ => none }
def LinePiecesWrongFalsely : Prop := linePiecesRow.holds Try.pinned (OpenSpec.ofChange linePiecesWrong)

/-- 'posthornlaw13.LineWhole': WHATEVER THE INPUT: true; the input reads as it did. -/
def lineWholeSpec : ChangeSpec := { name := "lineWhole", fn := fun _ => fun
  | [d1, d2, d3] => { results := [.lit (.bool true)], args := [d1, d2, d3] }
  | _ => none }
def lineWholeRow : OpenClaim := { program := "ytccmickmcpfapaa", sum := "5db2cb9bba8732d9828304169a6752f9b467a186994091878656c542340f63df", func := "posthorn/posthornlaw13.LineWhole", spec := "lineWhole", apart := false }
def LineWholeSaid : Prop := lineWholeRow.holds Try.pinned (OpenSpec.ofChange lineWholeSpec)

/-- ITS FALSE NEIGHBOUR: 'it returns false'. Refute it at one input. -/
def lineWholeWrong : ChangeSpec := { name := "lineWhole", fn := fun _ => fun
  | [d1, d2, d3] => { results := [.lit (.bool false)], args := [d1, d2, d3] }
  | _ => none }
def LineWholeWrongFalsely : Prop := lineWholeRow.holds Try.pinned (OpenSpec.ofChange lineWholeWrong)

/-- 'posthornlaw13.LineAlone': WHATEVER THE INPUT: true; the input reads as it did. -/
def lineAloneSpec : ChangeSpec := { name := "lineAlone", fn := fun _ => fun
  | [d1, d2, d3] => { results := [.lit (.bool true)], args := [d1, d2, d3] }
  | _ => none }
def lineAloneRow : OpenClaim := { program := "ytccmickmcpfapaa", sum := "5db2cb9bba8732d9828304169a6752f9b467a186994091878656c542340f63df", func := "posthorn/posthornlaw13.LineAlone", spec := "lineAlone", apart := false }
def LineAloneSaid : Prop := lineAloneRow.holds Try.pinned (OpenSpec.ofChange lineAloneSpec)

/-- ITS FALSE NEIGHBOUR: 'it returns false'. Refute it at one input. -/
def lineAloneWrong : ChangeSpec := { name := "lineAlone", fn := fun _ => fun
  | [d1, d2, d3] => { results := [.lit (.bool false)], args := [d1, d2, d3] }
  | _ => none }
def LineAloneWrongFalsely : Prop := lineAloneRow.holds Try.pinned (OpenSpec.ofChange lineAloneWrong)

/-- 'posthornlaw13.LineTakes': WHATEVER THE INPUT: true; the input reads as it did. -/
def lineTakesSpec : ChangeSpec := { name := "lineTakes", fn := fun _ => fun
  | [d1, d2, d3] => { results := [.lit (.bool true)], args := [d1, d2, d3] }
  | _ => none }
def lineTakesRow : OpenClaim := { program := "ytccmickmcpfapaa", sum := "5db2cb9bba8732d9828304169a6752f9b467a186994091878656c542340f63df", func := "posthorn/posthornlaw13.LineTakes", spec := "lineTakes", apart := false }
def LineTakesSaid : Prop := lineTakesRow.holds Try.pinned (OpenSpec.ofChange lineTakesSpec)

/-- ITS FALSE NEIGHBOUR: 'it returns false'. Refute it at one input. -/
def lineTakesWrong : ChangeSpec := { name := "lineTakes", fn := fun _ => fun
  | [d1, d2, d3] => { results := [.lit (.bool false)], args := [d1, d2, d3] }
  | _ => none }
def LineTakesWrongFalsely : Prop := lineTakesRow.holds Try.pinned (OpenSpec.ofChange lineTakesWrong)

/-- 'posthornlaw13.LineHeld': WHATEVER THE INPUT: true; the input reads as it did. -/
def lineHeldSpec : ChangeSpec := { name := "lineHeld", fn := fun _ => fun
  | [d1, d2, d3] => { results := [.lit (.bool true)], args := [d1, d2, d3] }
  | _ => none }
def lineHeldRow : OpenClaim := { program := "ytccmickmcpfapaa", sum := "5db2cb9bba8732d9828304169a6752f9b467a186994091878656c542340f63df", func := "posthorn/posthornlaw13.LineHeld", spec := "lineHeld", apart := false }
def LineHeldSaid : Prop := lineHeldRow.holds Try.pinned (OpenSpec.ofChange lineHeldSpec)

/-- ITS FALSE NEIGHBOUR: 'it returns false'. Refute it at one input. -/
def lineHeldWrong : ChangeSpec := { name := "lineHeld", fn := fun _ => fun
  | [d1, d2, d3] => { results := [.lit (.bool false)], args := [d1, d2, d3] }
  | _ => none }
def LineHeldWrongFalsely : Prop := lineHeldRow.holds Try.pinned (OpenSpec.ofChange lineHeldWrong)

/-- 'posthornlaw13.LineNil': WHATEVER THE INPUT: true; the input reads as it did. -/
def lineNilSpec : ChangeSpec := { name := "lineNil", fn := fun _ => fun
  | [d] => { results := [.lit (.bool true)], args := [d] }
  | _ => none }
def lineNilRow : OpenClaim := { program := "ytccmickmcpfapaa", sum := "5db2cb9bba8732d9828304169a6752f9b467a186994091878656c542340f63df", func := "posthorn/posthornlaw13.LineNil", spec := "lineNil", apart := false }
def LineNilSaid : Prop := lineNilRow.holds Try.pinned (OpenSpec.ofChange lineNilSpec)

/-- ITS FALSE NEIGHBOUR: 'it returns false'. Refute it at one input. -/
def lineNilWrong : ChangeSpec := { name := "lineNil", fn := fun _ => fun
  | [d] => { results := [.lit (.bool false)], args := [d] }
  | _ => none }
def LineNilWrongFalsely : Prop := lineNilRow.holds Try.pinned (OpenSpec.ofChange lineNilWrong)

/- THE SECOND FORM. 'bulk': how many values and letters a reading holds, each counted each time it is reached (what is shared counts as often as it is met; a slice's spare places count too). A statement '..UptoSaid' is the law's where the arguments, and the package variables that the reading takes, are together of bulk at most 1048576: NARROWER than '..Said'. Prove '..Said' where nothing that the law and all that it calls make is longer than what came in: it says more and counts as full. Else prove '..UptoSaid'. A law counts once. -/
mutual
def uptoBulk {H : Type} : DataW H → Nat
  | .lit (.string bytes) => bytes.length + 1
  | .lit _ => 1
  | .nil => 1
  | .ptr d => uptoBulk d + 1
  | .slice elems spare => uptoBulkAll elems + uptoBulkAll spare + 1
  | .agg parts => uptoBulkAll parts + 1
  | .iface _ d => uptoBulk d + 1
  | .map entries => uptoBulkEntries entries + 1
  | .held _ => 1
def uptoBulkAll {H : Type} : List (DataW H) → Nat
  | [] => 0
  | d :: r => uptoBulk d + uptoBulkAll r
def uptoBulkEntries {H : Type} : List (Lit × DataW H) → Nat
  | [] => 0
  | x :: r => uptoBulkEntry x + uptoBulkEntries r
def uptoBulkEntry {H : Type} : Lit × DataW H → Nat
  | (.string bytes, d) => bytes.length + uptoBulk d + 1
  | (_, d) => uptoBulk d + 1
 end
def uptoSmall : (H : Type) → List (DataW H) → Bool := fun _ ds => decide (uptoBulkAll ds ≤ 1048576)
def OpenSpec.upto (s : _root_.Go.ChangeSpec) : _root_.Go.OpenSpec := { _root_.Go.OpenSpec.ofChange s with cond := some uptoSmall }

/-- 'posthornlaw13.LinePieces', WHERE WHAT IT READS IS OF BULK AT MOST 1048576: true; the input reads as it did. -/
def linePiecesUptoRow : OpenClaim := { program := "ytccmickmcpfapaa", sum := "5db2cb9bba8732d9828304169a6752f9b467a186994091878656c542340f63df", func := "posthorn/posthornlaw13.LinePieces", spec := "linePieces", apart := false, narrowed := true }
def LinePiecesUptoSaid : Prop := linePiecesUptoRow.holds Try.pinned (OpenSpec.upto linePiecesSpec)

/-- 'posthornlaw13.LineWhole', WHERE WHAT IT READS IS OF BULK AT MOST 1048576: true; the input reads as it did. -/
def lineWholeUptoRow : OpenClaim := { program := "ytccmickmcpfapaa", sum := "5db2cb9bba8732d9828304169a6752f9b467a186994091878656c542340f63df", func := "posthorn/posthornlaw13.LineWhole", spec := "lineWhole", apart := false, narrowed := true }
def LineWholeUptoSaid : Prop := lineWholeUptoRow.holds Try.pinned (OpenSpec.upto lineWholeSpec)

/-- 'posthornlaw13.LineAlone', WHERE WHAT IT READS IS OF BULK AT MOST 1048576: true; the input reads as it did. -/
def lineAloneUptoRow : OpenClaim := { program := "ytccmickmcpfapaa", sum := "5db2cb9bba8732d9828304169a6752f9b467a186994091878656c542340f63df", func := "posthorn/posthornlaw13.LineAlone", spec := "lineAlone", apart := false, narrowed := true }
def LineAloneUptoSaid : Prop := lineAloneUptoRow.holds Try.pinned (OpenSpec.upto lineAloneSpec)

/-- 'posthornlaw13.LineTakes', WHERE WHAT IT READS IS OF BULK AT MOST 1048576: true; the input reads as it did. -/
def lineTakesUptoRow : OpenClaim := { program := "ytccmickmcpfapaa", sum := "5db2cb9bba8732d9828304169a6752f9b467a186994091878656c542340f63df", func := "posthorn/posthornlaw13.LineTakes", spec := "lineTakes", apart := false, narrowed := true }
def LineTakesUptoSaid : Prop := lineTakesUptoRow.holds Try.pinned (OpenSpec.upto lineTakesSpec)

/-- 'posthornlaw13.LineHeld', WHERE WHAT IT READS IS OF BULK AT MOST 1048576: true; the input reads as it did. -/
def lineHeldUptoRow : OpenClaim := { program := "ytccmickmcpfapaa", sum := "5db2cb9bba8732d9828304169a6752f9b467a186994091878656c542340f63df", func := "posthorn/posthornlaw13.LineHeld", spec := "lineHeld", apart := false, narrowed := true }
def LineHeldUptoSaid : Prop := lineHeldUptoRow.holds Try.pinned (OpenSpec.upto lineHeldSpec)

/-- 'posthornlaw13.LineNil', WHERE WHAT IT READS IS OF BULK AT MOST 1048576: true; the input reads as it did. -/
def lineNilUptoRow : OpenClaim := { program := "ytccmickmcpfapaa", sum := "5db2cb9bba8732d9828304169a6752f9b467a186994091878656c542340f63df", func := "posthorn/posthornlaw13.LineNil", spec := "lineNil", apart := false, narrowed := true }
def LineNilUptoSaid : Prop := lineNilUptoRow.holds Try.pinned (OpenSpec.upto lineNilSpec)

end Rows
end Go.Proofs.Ytccmickmcpfapaa
