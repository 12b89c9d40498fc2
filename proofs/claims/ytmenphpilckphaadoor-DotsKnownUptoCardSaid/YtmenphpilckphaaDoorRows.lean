/-
  NARROWER THAN 'FOR EVERY INPUT', by the rows' own cells (each row's printed sentence says how): DotsCut: laid · DotsEnd: laid · DotsAgain: laid · DotsChecks: laid · DotsKeeps: laid · DotsKnown: laid · DotsHeld: laid · DotsBack: laid · DotsTakes: laid.
  DERIVED. THE GIVEN ROWS OF THIS SEAT. 9 by the template 'for every input the law returns true; each argument reads behind the call as it read before'; 0 by the template 'total and deterministic' (their statements: YtmenphpilckphaaDoorTotals.lean).
  GIVEN WITH THE SEED: the statements are not yours to turn. If you find one false, say at which input.
  Laid BY PROGRAM, IN A SANDBOX (cutbox-rows.mjs): the forced cells as the released guide's own fill.sh prints them over the translation 55a3a91057611357… (all of the seat's roots in one cut). By AI agents, Wed Nov 11 2026. No macro, syntax, notation, axiom, sorry.
-/
import Derived.Test.YtmenphpilckphaaDoorChecked
import GoSem.PinnedTables
import GoSem.Claim
import GoSem.ClaimJoined
import GoSem.ClaimMapViews
import Derived.JoinedTies
import Derived.KernelRfl
namespace Go.Proofs.YtmenphpilckphaaDoor
/- THE CELL 'sum', in the pinned program and in every row, IS THE sha256 OF THE DUMP (.gsa) THAT YtmenphpilckphaaDoorProg.lean LOADS. Nothing in Lean hashes anything: it is a label: what it is worth is what the hold of that sum in a sandbox is worth. -/
noncomputable def Tryd.pinned : Pinned := { name := "ytmenphpilckphaadoor", sum := "55a3a9105761135701e9f61df2658a48a4963f82391459bb1f91c4a559a6e569", checked := Tryd.checked }
namespace Rows
def none {H : Type} : Left H := { results := [], args := [] }

/- WHAT THE LISTED PACKAGE-LEVEL VARIABLES READ AS WHEN THE CALL BEGINS. Each datum BY PROGRAM (the guide's laid-datum.mjs) off the statement by which the dump's own 'gosem.cut.vars' lays the variable. In a bare row this is a premise. The card (YtmenphpilckphaaDoorCards.lean) ties it to the program's text. -/
def laid_unicode_utf8_acceptRanges {H : Type} : DataW H := .agg [.agg [.lit (.int .u8 128), .lit (.int .u8 191)], .agg [.lit (.int .u8 160), .lit (.int .u8 191)], .agg [.lit (.int .u8 128), .lit (.int .u8 159)], .agg [.lit (.int .u8 144), .lit (.int .u8 191)], .agg [.lit (.int .u8 128), .lit (.int .u8 143)], .agg [.lit (.int .u8 0), .lit (.int .u8 0)], .agg [.lit (.int .u8 0), .lit (.int .u8 0)], .agg [.lit (.int .u8 0), .lit (.int .u8 0)], .agg [.lit (.int .u8 0), .lit (.int .u8 0)], .agg [.lit (.int .u8 0), .lit (.int .u8 0)], .agg [.lit (.int .u8 0), .lit (.int .u8 0)], .agg [.lit (.int .u8 0), .lit (.int .u8 0)], .agg [.lit (.int .u8 0), .lit (.int .u8 0)], .agg [.lit (.int .u8 0), .lit (.int .u8 0)], .agg [.lit (.int .u8 0), .lit (.int .u8 0)], .agg [.lit (.int .u8 0), .lit (.int .u8 0)]]
/-- One of Go's own tables, pinned by name: the form's constant. -/
def laid_unicode_utf8_first : DataW Unit := Go.Pinned.utf8First

/-- 'posthornlaw14.DotsCut': WHATEVER THE INPUT: true; the input reads as it did. -/
def dotsCutSpec : ChangeSpec := { name := "dotsCut", fn := fun _ => fun
  | [d1, d2, d3, d4] => { results := [.lit (.bool true)], args := [d1, d2, d3, d4] }
  | _ => none }
def dotsCutRow : OpenClaim := { program := "ytmenphpilckphaadoor", sum := "55a3a9105761135701e9f61df2658a48a4963f82391459bb1f91c4a559a6e569", func := "posthorn/posthornlaw14.DotsCut", spec := "dotsCut", inPlace := ["internal/bytealg.Count", "internal/bytealg.IndexByte", "internal/bytealg.Index"], named := ["unicode/utf8.first", "unicode/utf8.acceptRanges", "internal/bytealg.MaxLen"], apart := false, laid := [("unicode/utf8.acceptRanges", laid_unicode_utf8_acceptRanges), ("unicode/utf8.first", laid_unicode_utf8_first)] }
def DotsCutSaid : Prop := dotsCutRow.holds Tryd.pinned (OpenSpec.ofChange dotsCutSpec)

/-- ITS FALSE NEIGHBOUR: 'it returns false'. Refute it at one input. -/
def dotsCutWrong : ChangeSpec := { name := "dotsCut", fn := fun _ => fun
  | [d1, d2, d3, d4] => { results := [.lit (.bool false)], args := [d1, d2, d3, d4] }
  | _ => none }
def DotsCutWrongFalsely : Prop := dotsCutRow.holds Tryd.pinned (OpenSpec.ofChange dotsCutWrong)

/-- 'posthornlaw14.DotsEnd': WHATEVER THE INPUT: true; the input reads as it did. -/
def dotsEndSpec : ChangeSpec := { name := "dotsEnd", fn := fun _ => fun
  | [d1, d2] => { results := [.lit (.bool true)], args := [d1, d2] }
  | _ => none }
def dotsEndRow : OpenClaim := { program := "ytmenphpilckphaadoor", sum := "55a3a9105761135701e9f61df2658a48a4963f82391459bb1f91c4a559a6e569", func := "posthorn/posthornlaw14.DotsEnd", spec := "dotsEnd", inPlace := ["internal/bytealg.Count", "internal/bytealg.IndexByte", "internal/bytealg.Index"], named := ["unicode/utf8.first", "unicode/utf8.acceptRanges", "internal/bytealg.MaxLen"], apart := false, laid := [("unicode/utf8.acceptRanges", laid_unicode_utf8_acceptRanges), ("unicode/utf8.first", laid_unicode_utf8_first)] }
def DotsEndSaid : Prop := dotsEndRow.holds Tryd.pinned (OpenSpec.ofChange dotsEndSpec)

/-- ITS FALSE NEIGHBOUR: 'it returns false'. Refute it at one input. -/
def dotsEndWrong : ChangeSpec := { name := "dotsEnd", fn := fun _ => fun
  | [d1, d2] => { results := [.lit (.bool false)], args := [d1, d2] }
  | _ => none }
def DotsEndWrongFalsely : Prop := dotsEndRow.holds Tryd.pinned (OpenSpec.ofChange dotsEndWrong)

/-- 'posthornlaw14.DotsAgain': WHATEVER THE INPUT: true; the input reads as it did. -/
def dotsAgainSpec : ChangeSpec := { name := "dotsAgain", fn := fun _ => fun
  | [d1, d2] => { results := [.lit (.bool true)], args := [d1, d2] }
  | _ => none }
def dotsAgainRow : OpenClaim := { program := "ytmenphpilckphaadoor", sum := "55a3a9105761135701e9f61df2658a48a4963f82391459bb1f91c4a559a6e569", func := "posthorn/posthornlaw14.DotsAgain", spec := "dotsAgain", inPlace := ["internal/bytealg.Count", "internal/bytealg.IndexByte", "internal/bytealg.Index"], named := ["unicode/utf8.first", "unicode/utf8.acceptRanges", "internal/bytealg.MaxLen"], apart := false, laid := [("unicode/utf8.acceptRanges", laid_unicode_utf8_acceptRanges), ("unicode/utf8.first", laid_unicode_utf8_first)] }
def DotsAgainSaid : Prop := dotsAgainRow.holds Tryd.pinned (OpenSpec.ofChange dotsAgainSpec)

/-- ITS FALSE NEIGHBOUR: 'it returns false'. Refute it at one input. -/
def dotsAgainWrong : ChangeSpec := { name := "dotsAgain", fn := fun _ => fun
  | [d1, d2] => { results := [.lit (.bool false)], args := [d1, d2] }
  | _ => none }
def DotsAgainWrongFalsely : Prop := dotsAgainRow.holds Tryd.pinned (OpenSpec.ofChange dotsAgainWrong)

/-- 'posthornlaw14.DotsChecks': WHATEVER THE INPUT: true; the input reads as it did. -/
def dotsChecksSpec : ChangeSpec := { name := "dotsChecks", fn := fun _ => fun
  | [d1, d2] => { results := [.lit (.bool true)], args := [d1, d2] }
  | _ => none }
def dotsChecksRow : OpenClaim := { program := "ytmenphpilckphaadoor", sum := "55a3a9105761135701e9f61df2658a48a4963f82391459bb1f91c4a559a6e569", func := "posthorn/posthornlaw14.DotsChecks", spec := "dotsChecks", inPlace := ["internal/bytealg.Count", "internal/bytealg.IndexByte", "internal/bytealg.Index"], named := ["unicode/utf8.first", "unicode/utf8.acceptRanges", "internal/bytealg.MaxLen"], apart := false, laid := [("unicode/utf8.acceptRanges", laid_unicode_utf8_acceptRanges), ("unicode/utf8.first", laid_unicode_utf8_first)] }
def DotsChecksSaid : Prop := dotsChecksRow.holds Tryd.pinned (OpenSpec.ofChange dotsChecksSpec)

/-- ITS FALSE NEIGHBOUR: 'it returns false'. Refute it at one input. -/
def dotsChecksWrong : ChangeSpec := { name := "dotsChecks", fn := fun _ => fun
  | [d1, d2] => { results := [.lit (.bool false)], args := [d1, d2] }
  | _ => none }
def DotsChecksWrongFalsely : Prop := dotsChecksRow.holds Tryd.pinned (OpenSpec.ofChange dotsChecksWrong)

/-- 'posthornlaw14.DotsKeeps': WHATEVER THE INPUT: true; the input reads as it did. -/
def dotsKeepsSpec : ChangeSpec := { name := "dotsKeeps", fn := fun _ => fun
  | [d1, d2] => { results := [.lit (.bool true)], args := [d1, d2] }
  | _ => none }
def dotsKeepsRow : OpenClaim := { program := "ytmenphpilckphaadoor", sum := "55a3a9105761135701e9f61df2658a48a4963f82391459bb1f91c4a559a6e569", func := "posthorn/posthornlaw14.DotsKeeps", spec := "dotsKeeps", inPlace := ["internal/bytealg.Count", "internal/bytealg.IndexByte", "internal/bytealg.Index"], named := ["unicode/utf8.first", "unicode/utf8.acceptRanges", "internal/bytealg.MaxLen"], apart := false, laid := [("unicode/utf8.acceptRanges", laid_unicode_utf8_acceptRanges), ("unicode/utf8.first", laid_unicode_utf8_first)] }
def DotsKeepsSaid : Prop := dotsKeepsRow.holds Tryd.pinned (OpenSpec.ofChange dotsKeepsSpec)

/-- ITS FALSE NEIGHBOUR: 'it returns false'. Refute it at one input. -/
def dotsKeepsWrong : ChangeSpec := { name := "dotsKeeps", fn := fun _ => fun
  | [d1, d2] => { results := [.lit (.bool false)], args := [d1, d2] }
  | _ => none }
def DotsKeepsWrongFalsely : Prop := dotsKeepsRow.holds Tryd.pinned (OpenSpec.ofChange dotsKeepsWrong)

/-- 'posthornlaw14.DotsKnown': WHATEVER THE INPUT: true; the input reads as it did. -/
def dotsKnownSpec : ChangeSpec := { name := "dotsKnown", fn := fun _ => fun
  | [] => { results := [.lit (.bool true)], args := [] }
  | _ => none }
def dotsKnownRow : OpenClaim := { program := "ytmenphpilckphaadoor", sum := "55a3a9105761135701e9f61df2658a48a4963f82391459bb1f91c4a559a6e569", func := "posthorn/posthornlaw14.DotsKnown", spec := "dotsKnown", inPlace := ["internal/bytealg.Count", "internal/bytealg.IndexByte", "internal/bytealg.Index"], named := ["unicode/utf8.first", "unicode/utf8.acceptRanges", "internal/bytealg.MaxLen"], apart := false, laid := [("unicode/utf8.acceptRanges", laid_unicode_utf8_acceptRanges), ("unicode/utf8.first", laid_unicode_utf8_first)] }
def DotsKnownSaid : Prop := dotsKnownRow.holds Tryd.pinned (OpenSpec.ofChange dotsKnownSpec)

/-- ITS FALSE NEIGHBOUR: 'it returns false'. Refute it at one input. -/
def dotsKnownWrong : ChangeSpec := { name := "dotsKnown", fn := fun _ => fun
  | [] => { results := [.lit (.bool false)], args := [] }
  | _ => none }
def DotsKnownWrongFalsely : Prop := dotsKnownRow.holds Tryd.pinned (OpenSpec.ofChange dotsKnownWrong)

/-- 'posthornlaw14.DotsHeld': WHATEVER THE INPUT: true; the input reads as it did. -/
def dotsHeldSpec : ChangeSpec := { name := "dotsHeld", fn := fun _ => fun
  | [d1, d2] => { results := [.lit (.bool true)], args := [d1, d2] }
  | _ => none }
def dotsHeldRow : OpenClaim := { program := "ytmenphpilckphaadoor", sum := "55a3a9105761135701e9f61df2658a48a4963f82391459bb1f91c4a559a6e569", func := "posthorn/posthornlaw14.DotsHeld", spec := "dotsHeld", inPlace := ["internal/bytealg.Count", "internal/bytealg.IndexByte", "internal/bytealg.Index"], named := ["unicode/utf8.first", "unicode/utf8.acceptRanges", "internal/bytealg.MaxLen"], apart := false, laid := [("unicode/utf8.acceptRanges", laid_unicode_utf8_acceptRanges), ("unicode/utf8.first", laid_unicode_utf8_first)] }
def DotsHeldSaid : Prop := dotsHeldRow.holds Tryd.pinned (OpenSpec.ofChange dotsHeldSpec)

/-- ITS FALSE NEIGHBOUR: 'it returns false'. Refute it at one input. -/
def dotsHeldWrong : ChangeSpec := { name := "dotsHeld", fn := fun _ => fun
  | [d1, d2] => { results := [.lit (.bool false)], args := [d1, d2] }
  | _ => none }
def DotsHeldWrongFalsely : Prop := dotsHeldRow.holds Tryd.pinned (OpenSpec.ofChange dotsHeldWrong)

/-- 'posthornlaw14.DotsBack': WHATEVER THE INPUT: true; the input reads as it did. -/
def dotsBackSpec : ChangeSpec := { name := "dotsBack", fn := fun _ => fun
  | [d1, d2, d3] => { results := [.lit (.bool true)], args := [d1, d2, d3] }
  | _ => none }
def dotsBackRow : OpenClaim := { program := "ytmenphpilckphaadoor", sum := "55a3a9105761135701e9f61df2658a48a4963f82391459bb1f91c4a559a6e569", func := "posthorn/posthornlaw14.DotsBack", spec := "dotsBack", inPlace := ["internal/bytealg.Count", "internal/bytealg.IndexByte", "internal/bytealg.Index"], unfollowed := true, recurses := true, named := ["unicode/utf8.first", "unicode/utf8.acceptRanges", "internal/bytealg.MaxLen"], apart := false, laid := [("unicode/utf8.acceptRanges", laid_unicode_utf8_acceptRanges), ("unicode/utf8.first", laid_unicode_utf8_first)] }
def DotsBackSaid : Prop := dotsBackRow.holds Tryd.pinned (OpenSpec.ofChange dotsBackSpec)

/-- ITS FALSE NEIGHBOUR: 'it returns false'. Refute it at one input. -/
def dotsBackWrong : ChangeSpec := { name := "dotsBack", fn := fun _ => fun
  | [d1, d2, d3] => { results := [.lit (.bool false)], args := [d1, d2, d3] }
  | _ => none }
def DotsBackWrongFalsely : Prop := dotsBackRow.holds Tryd.pinned (OpenSpec.ofChange dotsBackWrong)

/-- 'posthornlaw14.DotsTakes': WHATEVER THE INPUT: true; the input reads as it did. -/
def dotsTakesSpec : ChangeSpec := { name := "dotsTakes", fn := fun _ => fun
  | [d1, d2, d3] => { results := [.lit (.bool true)], args := [d1, d2, d3] }
  | _ => none }
def dotsTakesRow : OpenClaim := { program := "ytmenphpilckphaadoor", sum := "55a3a9105761135701e9f61df2658a48a4963f82391459bb1f91c4a559a6e569", func := "posthorn/posthornlaw14.DotsTakes", spec := "dotsTakes", inPlace := ["internal/bytealg.Count", "internal/bytealg.IndexByte", "internal/bytealg.Index"], named := ["unicode/utf8.first", "unicode/utf8.acceptRanges", "internal/bytealg.MaxLen"], apart := false, laid := [("unicode/utf8.acceptRanges", laid_unicode_utf8_acceptRanges), ("unicode/utf8.first", laid_unicode_utf8_first)] }
def DotsTakesSaid : Prop := dotsTakesRow.holds Tryd.pinned (OpenSpec.ofChange dotsTakesSpec)

/-- ITS FALSE NEIGHBOUR: 'it returns false'. Refute it at one input. -/
def dotsTakesWrong : ChangeSpec := { name := "dotsTakes", fn := fun _ => fun
  | [d1, d2, d3] => { results := [.lit (.bool false)], args := [d1, d2, d3] }
  | _ => none }
def DotsTakesWrongFalsely : Prop := dotsTakesRow.holds Tryd.pinned (OpenSpec.ofChange dotsTakesWrong)

/- THE SECOND FORM. 'bulk': how many values and letters a reading holds, each counted each time it is reached (what is shared counts as often as it is met; a slice's spare places count too). A statement '..UptoSaid' is the law's where the arguments, and the package variables that the reading takes, are together of bulk at most 1048576: NARROWER than '..Said'. Prove '..Said' where nothing that the law and all that it calls make is longer than what came in: it says more and counts as full. Else prove '..UptoSaid'. A law counts once. -/
mutual
def uptoBulk {H : Type} : DataW H → Nat
  | .lit (.string bytes) => bytes.length + 1
  | .lit _ => 1
  | .nil => 1
  | .ptr d => uptoBulk d + 1
  | .slice elems spare => uptoBulkAll elems + uptoBulkAll spare + 1
  | .agg parts => uptoBulkAll parts + 1
  | .iface _ d => uptoBulk d + 1
  | .map entries => uptoBulkEntries entries + 1
  | .held _ => 1
def uptoBulkAll {H : Type} : List (DataW H) → Nat
  | [] => 0
  | d :: r => uptoBulk d + uptoBulkAll r
def uptoBulkEntries {H : Type} : List (Lit × DataW H) → Nat
  | [] => 0
  | x :: r => uptoBulkEntry x + uptoBulkEntries r
def uptoBulkEntry {H : Type} : Lit × DataW H → Nat
  | (.string bytes, d) => bytes.length + uptoBulk d + 1
  | (_, d) => uptoBulk d + 1
 end
def uptoSmall : (H : Type) → List (DataW H) → Bool := fun _ ds => decide (uptoBulkAll ds ≤ 1048576)
def OpenSpec.upto (s : _root_.Go.ChangeSpec) : _root_.Go.OpenSpec := { _root_.Go.OpenSpec.ofChange s with cond := some uptoSmall }

/-- 'posthornlaw14.DotsCut', WHERE WHAT IT READS IS OF BULK AT MOST 1048576: true; the input reads as it did. -/
def dotsCutUptoRow : OpenClaim := { program := "ytmenphpilckphaadoor", sum := "55a3a9105761135701e9f61df2658a48a4963f82391459bb1f91c4a559a6e569", func := "posthorn/posthornlaw14.DotsCut", spec := "dotsCut", inPlace := ["internal/bytealg.Count", "internal/bytealg.IndexByte", "internal/bytealg.Index"], named := ["unicode/utf8.first", "unicode/utf8.acceptRanges", "internal/bytealg.MaxLen"], apart := false, laid := [("unicode/utf8.acceptRanges", laid_unicode_utf8_acceptRanges), ("unicode/utf8.first", laid_unicode_utf8_first)], narrowed := true }
def DotsCutUptoSaid : Prop := dotsCutUptoRow.holds Tryd.pinned (OpenSpec.upto dotsCutSpec)

/-- 'posthornlaw14.DotsEnd', WHERE WHAT IT READS IS OF BULK AT MOST 1048576: true; the input reads as it did. -/
def dotsEndUptoRow : OpenClaim := { program := "ytmenphpilckphaadoor", sum := "55a3a9105761135701e9f61df2658a48a4963f82391459bb1f91c4a559a6e569", func := "posthorn/posthornlaw14.DotsEnd", spec := "dotsEnd", inPlace := ["internal/bytealg.Count", "internal/bytealg.IndexByte", "internal/bytealg.Index"], named := ["unicode/utf8.first", "unicode/utf8.acceptRanges", "internal/bytealg.MaxLen"], apart := false, laid := [("unicode/utf8.acceptRanges", laid_unicode_utf8_acceptRanges), ("unicode/utf8.first", laid_unicode_utf8_first)], narrowed := true }
def DotsEndUptoSaid : Prop := dotsEndUptoRow.holds Tryd.pinned (OpenSpec.upto dotsEndSpec)

/-- 'posthornlaw14.DotsAgain', WHERE WHAT IT READS IS OF BULK AT MOST 1048576: true; the input reads as it did. -/
def dotsAgainUptoRow : OpenClaim := { program := "ytmenphpilckphaadoor", sum := "55a3a9105761135701e9f61df2658a48a4963f82391459bb1f91c4a559a6e569", func := "posthorn/posthornlaw14.DotsAgain", spec := "dotsAgain", inPlace := ["internal/bytealg.Count", "internal/bytealg.IndexByte", "internal/bytealg.Index"], named := ["unicode/utf8.first", "unicode/utf8.acceptRanges", "internal/bytealg.MaxLen"], apart := false, laid := [("unicode/utf8.acceptRanges", laid_unicode_utf8_acceptRanges), ("unicode/utf8.first", laid_unicode_utf8_first)], narrowed := true }
def DotsAgainUptoSaid : Prop := dotsAgainUptoRow.holds Tryd.pinned (OpenSpec.upto dotsAgainSpec)

/-- 'posthornlaw14.DotsChecks', WHERE WHAT IT READS IS OF BULK AT MOST 1048576: true; the input reads as it did. -/
def dotsChecksUptoRow : OpenClaim := { program := "ytmenphpilckphaadoor", sum := "55a3a9105761135701e9f61df2658a48a4963f82391459bb1f91c4a559a6e569", func := "posthorn/posthornlaw14.DotsChecks", spec := "dotsChecks", inPlace := ["internal/bytealg.Count", "internal/bytealg.IndexByte", "internal/bytealg.Index"], named := ["unicode/utf8.first", "unicode/utf8.acceptRanges", "internal/bytealg.MaxLen"], apart := false, laid := [("unicode/utf8.acceptRanges", laid_unicode_utf8_acceptRanges), ("unicode/utf8.first", laid_unicode_utf8_first)], narrowed := true }
def DotsChecksUptoSaid : Prop := dotsChecksUptoRow.holds Tryd.pinned (OpenSpec.upto dotsChecksSpec)

/-- 'posthornlaw14.DotsKeeps', WHERE WHAT IT READS IS OF BULK AT MOST 1048576: true; the input reads as it did. -/
def dotsKeepsUptoRow : OpenClaim := { program := "ytmenphpilckphaadoor", sum := "55a3a9105761135701e9f61df2658a48a4963f82391459bb1f91c4a559a6e569", func := "posthorn/posthornlaw14.DotsKeeps", spec := "dotsKeeps", inPlace := ["internal/bytealg.Count", "internal/bytealg.IndexByte", "internal/bytealg.Index"], named := ["unicode/utf8.first", "unicode/utf8.acceptRanges", "internal/bytealg.MaxLen"], apart := false, laid := [("unicode/utf8.acceptRanges", laid_unicode_utf8_acceptRanges), ("unicode/utf8.first", laid_unicode_utf8_first)], narrowed := true }
def DotsKeepsUptoSaid : Prop := dotsKeepsUptoRow.holds Tryd.pinned (OpenSpec.upto dotsKeepsSpec)

/-- 'posthornlaw14.DotsKnown', WHERE WHAT IT READS IS OF BULK AT MOST 1048576: true; the input reads as it did. -/
def dotsKnownUptoRow : OpenClaim := { program := "ytmenphpilckphaadoor", sum := "55a3a9105761135701e9f61df2658a48a4963f82391459bb1f91c4a559a6e569", func := "posthorn/posthornlaw14.DotsKnown", spec := "dotsKnown", inPlace := ["internal/bytealg.Count", "internal/bytealg.IndexByte", "internal/bytealg.Index"], named := ["unicode/utf8.first", "unicode/utf8.acceptRanges", "internal/bytealg.MaxLen"], apart := false, laid := [("unicode/utf8.acceptRanges", laid_unicode_utf8_acceptRanges), ("unicode/utf8.first", laid_unicode_utf8_first)], narrowed := true }
def DotsKnownUptoSaid : Prop := dotsKnownUptoRow.holds Tryd.pinned (OpenSpec.upto dotsKnownSpec)

/-- 'posthornlaw14.DotsHeld', WHERE WHAT IT READS IS OF BULK AT MOST 1048576: true; the input reads as it did. -/
def dotsHeldUptoRow : OpenClaim := { program := "ytmenphpilckphaadoor", sum := "55a3a9105761135701e9f61df2658a48a4963f82391459bb1f91c4a559a6e569", func := "posthorn/posthornlaw14.DotsHeld", spec := "dotsHeld", inPlace := ["internal/bytealg.Count", "internal/bytealg.IndexByte", "internal/bytealg.Index"], named := ["unicode/utf8.first", "unicode/utf8.acceptRanges", "internal/bytealg.MaxLen"], apart := false, laid := [("unicode/utf8.acceptRanges", laid_unicode_utf8_acceptRanges), ("unicode/utf8.first", laid_unicode_utf8_first)], narrowed := true }
def DotsHeldUptoSaid : Prop := dotsHeldUptoRow.holds Tryd.pinned (OpenSpec.upto dotsHeldSpec)

/-- 'posthornlaw14.DotsBack', WHERE WHAT IT READS IS OF BULK AT MOST 1048576: true; the input reads as it did. -/
def dotsBackUptoRow : OpenClaim := { program := "ytmenphpilckphaadoor", sum := "55a3a9105761135701e9f61df2658a48a4963f82391459bb1f91c4a559a6e569", func := "posthorn/posthornlaw14.DotsBack", spec := "dotsBack", inPlace := ["internal/bytealg.Count", "internal/bytealg.IndexByte", "internal/bytealg.Index"], unfollowed := true, recurses := true, named := ["unicode/utf8.first", "unicode/utf8.acceptRanges", "internal/bytealg.MaxLen"], apart := false, laid := [("unicode/utf8.acceptRanges", laid_unicode_utf8_acceptRanges), ("unicode/utf8.first", laid_unicode_utf8_first)], narrowed := true }
def DotsBackUptoSaid : Prop := dotsBackUptoRow.holds Tryd.pinned (OpenSpec.upto dotsBackSpec)

/-- 'posthornlaw14.DotsTakes', WHERE WHAT IT READS IS OF BULK AT MOST 1048576: true; the input reads as it did. -/
def dotsTakesUptoRow : OpenClaim := { program := "ytmenphpilckphaadoor", sum := "55a3a9105761135701e9f61df2658a48a4963f82391459bb1f91c4a559a6e569", func := "posthorn/posthornlaw14.DotsTakes", spec := "dotsTakes", inPlace := ["internal/bytealg.Count", "internal/bytealg.IndexByte", "internal/bytealg.Index"], named := ["unicode/utf8.first", "unicode/utf8.acceptRanges", "internal/bytealg.MaxLen"], apart := false, laid := [("unicode/utf8.acceptRanges", laid_unicode_utf8_acceptRanges), ("unicode/utf8.first", laid_unicode_utf8_first)], narrowed := true }
def DotsTakesUptoSaid : Prop := dotsTakesUptoRow.holds Tryd.pinned (OpenSpec.upto dotsTakesSpec)

end Rows
end Go.Proofs.YtmenphpilckphaaDoor
