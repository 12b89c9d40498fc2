/-
  No cell of these rows narrows 'for every input' (looked for: loops, veiled, ifaces, maps, wideKeys, modest, calm, conditions, laid).
  DERIVED. THE GIVEN ROWS OF THIS SEAT. 9 by the template 'for every input the law returns true; each argument reads behind the call as it read before'; 0 by the template 'total and deterministic' (their statements: YthhmdlmgjienoaaTotals.lean).
  GIVEN WITH THE SEED: the statements are not yours to turn. If you find one false, say at which input.
  Laid BY PROGRAM, IN A SANDBOX (cutbox-rows.mjs): the forced cells as the released guide's own fill.sh prints them over the translation db0945bc436f95cd… (all of the seat's roots in one cut). By AI agents, Wed Nov 11 2026. No macro, syntax, notation, axiom, sorry.
-/
import Derived.Test.YthhmdlmgjienoaaChecked
import GoSem.Claim
import GoSem.ClaimJoined
import GoSem.ClaimMapViews
import Derived.JoinedTies
import Derived.KernelRfl
namespace Go.Proofs.Ythhmdlmgjienoaa
/- THE CELL 'sum', in the pinned program and in every row, IS THE sha256 OF THE DUMP (.gsa) THAT YthhmdlmgjienoaaProg.lean LOADS. Nothing in Lean hashes anything: it is a label: what it is worth is what the hold of that sum in a sandbox is worth. -/
noncomputable def Try.pinned : Pinned := { name := "ythhmdlmgjienoaa", sum := "db0945bc436f95cdaf0de92b09e11d724125a5111ff7b1f586d1caeb7d4905c7", checked := Try.checked }
namespace Rows
def none {H : Type} : Left H := { results := [], args := [] }

/-- 'posthornlaw21.ScoreWeighs': WHATEVER THE INPUT: true; the input reads as it did. -/
def scoreWeighsSpec : ChangeSpec := { name := "scoreWeighs", fn := fun _ => fun
  | [d1, d2] => { results := [.lit (.bool true)], args := [d1, d2] }
  | _ => none }
def scoreWeighsRow : OpenClaim := { program := "ythhmdlmgjienoaa", sum := "db0945bc436f95cdaf0de92b09e11d724125a5111ff7b1f586d1caeb7d4905c7", func := "posthorn/posthornlaw21.ScoreWeighs", spec := "scoreWeighs", inPlace := ["math.Float64bits", "math.Float64frombits"], apart := false }
def ScoreWeighsSaid : Prop := scoreWeighsRow.holds Try.pinned (OpenSpec.ofChange scoreWeighsSpec)

/-- ITS FALSE NEIGHBOUR: 'it returns false'. Refute it at one input. -/
def scoreWeighsWrong : ChangeSpec := { name := "scoreWeighs", fn := fun _ => fun
  | [d1, d2] => { results := [.lit (.bool false)], args := [d1, d2] }
  | _ => none }
def ScoreWeighsWrongFalsely : Prop := scoreWeighsRow.holds Try.pinned (OpenSpec.ofChange scoreWeighsWrong)

/-- 'posthornlaw21.ScoreSofts': WHATEVER THE INPUT: true; the input reads as it did. -/
def scoreSoftsSpec : ChangeSpec := { name := "scoreSofts", fn := fun _ => fun
  | [d] => { results := [.lit (.bool true)], args := [d] }
  | _ => none }
def scoreSoftsRow : OpenClaim := { program := "ythhmdlmgjienoaa", sum := "db0945bc436f95cdaf0de92b09e11d724125a5111ff7b1f586d1caeb7d4905c7", func := "posthorn/posthornlaw21.ScoreSofts", spec := "scoreSofts", inPlace := ["math.Float64bits", "math.Float64frombits"], apart := false }
def ScoreSoftsSaid : Prop := scoreSoftsRow.holds Try.pinned (OpenSpec.ofChange scoreSoftsSpec)

/-- ITS FALSE NEIGHBOUR: 'it returns false'. Refute it at one input. -/
def scoreSoftsWrong : ChangeSpec := { name := "scoreSofts", fn := fun _ => fun
  | [d] => { results := [.lit (.bool false)], args := [d] }
  | _ => none }
def ScoreSoftsWrongFalsely : Prop := scoreSoftsRow.holds Try.pinned (OpenSpec.ofChange scoreSoftsWrong)

/-- 'posthornlaw21.ScoreSingle': WHATEVER THE INPUT: true; the input reads as it did. -/
def scoreSingleSpec : ChangeSpec := { name := "scoreSingle", fn := fun _ => fun
  | [d1, d2, d3] => { results := [.lit (.bool true)], args := [d1, d2, d3] }
  | _ => none }
def scoreSingleRow : OpenClaim := { program := "ythhmdlmgjienoaa", sum := "db0945bc436f95cdaf0de92b09e11d724125a5111ff7b1f586d1caeb7d4905c7", func := "posthorn/posthornlaw21.ScoreSingle", spec := "scoreSingle", inPlace := ["math.Float64bits", "math.Float64frombits"], apart := false }
def ScoreSingleSaid : Prop := scoreSingleRow.holds Try.pinned (OpenSpec.ofChange scoreSingleSpec)

/-- ITS FALSE NEIGHBOUR: 'it returns false'. Refute it at one input. -/
def scoreSingleWrong : ChangeSpec := { name := "scoreSingle", fn := fun _ => fun
  | [d1, d2, d3] => { results := [.lit (.bool false)], args := [d1, d2, d3] }
  | _ => none }
def ScoreSingleWrongFalsely : Prop := scoreSingleRow.holds Try.pinned (OpenSpec.ofChange scoreSingleWrong)

/-- 'posthornlaw21.ScoreJudges': WHATEVER THE INPUT: true; the input reads as it did. -/
def scoreJudgesSpec : ChangeSpec := { name := "scoreJudges", fn := fun _ => fun
  | [d1, d2] => { results := [.lit (.bool true)], args := [d1, d2] }
  | _ => none }
def scoreJudgesRow : OpenClaim := { program := "ythhmdlmgjienoaa", sum := "db0945bc436f95cdaf0de92b09e11d724125a5111ff7b1f586d1caeb7d4905c7", func := "posthorn/posthornlaw21.ScoreJudges", spec := "scoreJudges", inPlace := ["math.Float64bits", "math.Float64frombits"], apart := false }
def ScoreJudgesSaid : Prop := scoreJudgesRow.holds Try.pinned (OpenSpec.ofChange scoreJudgesSpec)

/-- ITS FALSE NEIGHBOUR: 'it returns false'. Refute it at one input. -/
def scoreJudgesWrong : ChangeSpec := { name := "scoreJudges", fn := fun _ => fun
  | [d1, d2] => { results := [.lit (.bool false)], args := [d1, d2] }
  | _ => none }
def ScoreJudgesWrongFalsely : Prop := scoreJudgesRow.holds Try.pinned (OpenSpec.ofChange scoreJudgesWrong)

/-- 'posthornlaw21.ScoreSoft': WHATEVER THE INPUT: true; the input reads as it did. -/
def scoreSoftSpec : ChangeSpec := { name := "scoreSoft", fn := fun _ => fun
  | [d] => { results := [.lit (.bool true)], args := [d] }
  | _ => none }
def scoreSoftRow : OpenClaim := { program := "ythhmdlmgjienoaa", sum := "db0945bc436f95cdaf0de92b09e11d724125a5111ff7b1f586d1caeb7d4905c7", func := "posthorn/posthornlaw21.ScoreSoft", spec := "scoreSoft", inPlace := ["math.Float64bits", "math.Float64frombits"], apart := false }
def ScoreSoftSaid : Prop := scoreSoftRow.holds Try.pinned (OpenSpec.ofChange scoreSoftSpec)

/-- ITS FALSE NEIGHBOUR: 'it returns false'. Refute it at one input. -/
def scoreSoftWrong : ChangeSpec := { name := "scoreSoft", fn := fun _ => fun
  | [d] => { results := [.lit (.bool false)], args := [d] }
  | _ => none }
def ScoreSoftWrongFalsely : Prop := scoreSoftRow.holds Try.pinned (OpenSpec.ofChange scoreSoftWrong)

/-- 'posthornlaw21.ScoreChecks': WHATEVER THE INPUT: true; the input reads as it did. -/
def scoreChecksSpec : ChangeSpec := { name := "scoreChecks", fn := fun _ => fun
  | [d] => { results := [.lit (.bool true)], args := [d] }
  | _ => none }
def scoreChecksRow : OpenClaim := { program := "ythhmdlmgjienoaa", sum := "db0945bc436f95cdaf0de92b09e11d724125a5111ff7b1f586d1caeb7d4905c7", func := "posthorn/posthornlaw21.ScoreChecks", spec := "scoreChecks", inPlace := ["math.Float64bits", "math.Float64frombits"], apart := false }
def ScoreChecksSaid : Prop := scoreChecksRow.holds Try.pinned (OpenSpec.ofChange scoreChecksSpec)

/-- ITS FALSE NEIGHBOUR: 'it returns false'. Refute it at one input. -/
def scoreChecksWrong : ChangeSpec := { name := "scoreChecks", fn := fun _ => fun
  | [d] => { results := [.lit (.bool false)], args := [d] }
  | _ => none }
def ScoreChecksWrongFalsely : Prop := scoreChecksRow.holds Try.pinned (OpenSpec.ofChange scoreChecksWrong)

/-- 'posthornlaw21.ScoreOrder': WHATEVER THE INPUT: true; the input reads as it did. -/
def scoreOrderSpec : ChangeSpec := { name := "scoreOrder", fn := fun _ => fun
  | [d1, d2, d3] => { results := [.lit (.bool true)], args := [d1, d2, d3] }
  | _ => none }
def scoreOrderRow : OpenClaim := { program := "ythhmdlmgjienoaa", sum := "db0945bc436f95cdaf0de92b09e11d724125a5111ff7b1f586d1caeb7d4905c7", func := "posthorn/posthornlaw21.ScoreOrder", spec := "scoreOrder", inPlace := ["math.Float64bits", "math.Float64frombits"], apart := false }
def ScoreOrderSaid : Prop := scoreOrderRow.holds Try.pinned (OpenSpec.ofChange scoreOrderSpec)

/-- ITS FALSE NEIGHBOUR: 'it returns false'. Refute it at one input. -/
def scoreOrderWrong : ChangeSpec := { name := "scoreOrder", fn := fun _ => fun
  | [d1, d2, d3] => { results := [.lit (.bool false)], args := [d1, d2, d3] }
  | _ => none }
def ScoreOrderWrongFalsely : Prop := scoreOrderRow.holds Try.pinned (OpenSpec.ofChange scoreOrderWrong)

/-- 'posthornlaw21.ScoreLearns': WHATEVER THE INPUT: true; the input reads as it did. -/
def scoreLearnsSpec : ChangeSpec := { name := "scoreLearns", fn := fun _ => fun
  | [d] => { results := [.lit (.bool true)], args := [d] }
  | _ => none }
def scoreLearnsRow : OpenClaim := { program := "ythhmdlmgjienoaa", sum := "db0945bc436f95cdaf0de92b09e11d724125a5111ff7b1f586d1caeb7d4905c7", func := "posthorn/posthornlaw21.ScoreLearns", spec := "scoreLearns", inPlace := ["math.Float64bits", "math.Float64frombits"], apart := false }
def ScoreLearnsSaid : Prop := scoreLearnsRow.holds Try.pinned (OpenSpec.ofChange scoreLearnsSpec)

/-- ITS FALSE NEIGHBOUR: 'it returns false'. Refute it at one input. -/
def scoreLearnsWrong : ChangeSpec := { name := "scoreLearns", fn := fun _ => fun
  | [d] => { results := [.lit (.bool false)], args := [d] }
  | _ => none }
def ScoreLearnsWrongFalsely : Prop := scoreLearnsRow.holds Try.pinned (OpenSpec.ofChange scoreLearnsWrong)

/-- 'posthornlaw21.ScoreTaught': WHATEVER THE INPUT: true; the input reads as it did. -/
def scoreTaughtSpec : ChangeSpec := { name := "scoreTaught", fn := fun _ => fun
  | [d] => { results := [.lit (.bool true)], args := [d] }
  | _ => none }
def scoreTaughtRow : OpenClaim := { program := "ythhmdlmgjienoaa", sum := "db0945bc436f95cdaf0de92b09e11d724125a5111ff7b1f586d1caeb7d4905c7", func := "posthorn/posthornlaw21.ScoreTaught", spec := "scoreTaught", inPlace := ["math.Float64bits", "math.Float64frombits"], apart := false }
def ScoreTaughtSaid : Prop := scoreTaughtRow.holds Try.pinned (OpenSpec.ofChange scoreTaughtSpec)

/-- ITS FALSE NEIGHBOUR: 'it returns false'. Refute it at one input. -/
def scoreTaughtWrong : ChangeSpec := { name := "scoreTaught", fn := fun _ => fun
  | [d] => { results := [.lit (.bool false)], args := [d] }
  | _ => none }
def ScoreTaughtWrongFalsely : Prop := scoreTaughtRow.holds Try.pinned (OpenSpec.ofChange scoreTaughtWrong)

/- THE SECOND FORM. 'bulk': how many values and letters a reading holds, each counted each time it is reached (what is shared counts as often as it is met; a slice's spare places count too). A statement '..UptoSaid' is the law's where the arguments, and the package variables that the reading takes, are together of bulk at most 1048576: NARROWER than '..Said'. Prove '..Said' where nothing that the law and all that it calls make is longer than what came in: it says more and counts as full. Else prove '..UptoSaid'. A law counts once. -/
mutual
def uptoBulk {H : Type} : DataW H → Nat
  | .lit (.string bytes) => bytes.length + 1
  | .lit _ => 1
  | .nil => 1
  | .ptr d => uptoBulk d + 1
  | .slice elems spare => uptoBulkAll elems + uptoBulkAll spare + 1
  | .agg parts => uptoBulkAll parts + 1
  | .iface _ d => uptoBulk d + 1
  | .map entries => uptoBulkEntries entries + 1
  | .held _ => 1
def uptoBulkAll {H : Type} : List (DataW H) → Nat
  | [] => 0
  | d :: r => uptoBulk d + uptoBulkAll r
def uptoBulkEntries {H : Type} : List (Lit × DataW H) → Nat
  | [] => 0
  | x :: r => uptoBulkEntry x + uptoBulkEntries r
def uptoBulkEntry {H : Type} : Lit × DataW H → Nat
  | (.string bytes, d) => bytes.length + uptoBulk d + 1
  | (_, d) => uptoBulk d + 1
 end
def uptoSmall : (H : Type) → List (DataW H) → Bool := fun _ ds => decide (uptoBulkAll ds ≤ 1048576)
def OpenSpec.upto (s : _root_.Go.ChangeSpec) : _root_.Go.OpenSpec := { _root_.Go.OpenSpec.ofChange s with cond := some uptoSmall }

/-- 'posthornlaw21.ScoreWeighs', WHERE WHAT IT READS IS OF BULK AT MOST 1048576: true; the input reads as it did. -/
def scoreWeighsUptoRow : OpenClaim := { program := "ythhmdlmgjienoaa", sum := "db0945bc436f95cdaf0de92b09e11d724125a5111ff7b1f586d1caeb7d4905c7", func := "posthorn/posthornlaw21.ScoreWeighs", spec := "scoreWeighs", inPlace := ["math.Float64bits", "math.Float64frombits"], apart := false, narrowed := true }
def ScoreWeighsUptoSaid : Prop := scoreWeighsUptoRow.holds Try.pinned (OpenSpec.upto scoreWeighsSpec)

/-- 'posthornlaw21.ScoreSofts', WHERE WHAT IT READS IS OF BULK AT MOST 1048576: true; the input reads as it did. -/
def scoreSoftsUptoRow : OpenClaim := { program := "ythhmdlmgjienoaa", sum := "db0945bc436f95cdaf0de92b09e11d724125a5111ff7b1f586d1caeb7d4905c7", func := "posthorn/posthornlaw21.ScoreSofts", spec := "scoreSofts", inPlace := ["math.Float64bits", "math.Float64frombits"], apart := false, narrowed := true }
def ScoreSoftsUptoSaid : Prop := scoreSoftsUptoRow.holds Try.pinned (OpenSpec.upto scoreSoftsSpec)

/-- 'posthornlaw21.ScoreSingle', WHERE WHAT IT READS IS OF BULK AT MOST 1048576: true; the input reads as it did. -/
def scoreSingleUptoRow : OpenClaim := { program := "ythhmdlmgjienoaa", sum := "db0945bc436f95cdaf0de92b09e11d724125a5111ff7b1f586d1caeb7d4905c7", func := "posthorn/posthornlaw21.ScoreSingle", spec := "scoreSingle", inPlace := ["math.Float64bits", "math.Float64frombits"], apart := false, narrowed := true }
def ScoreSingleUptoSaid : Prop := scoreSingleUptoRow.holds Try.pinned (OpenSpec.upto scoreSingleSpec)

/-- 'posthornlaw21.ScoreJudges', WHERE WHAT IT READS IS OF BULK AT MOST 1048576: true; the input reads as it did. -/
def scoreJudgesUptoRow : OpenClaim := { program := "ythhmdlmgjienoaa", sum := "db0945bc436f95cdaf0de92b09e11d724125a5111ff7b1f586d1caeb7d4905c7", func := "posthorn/posthornlaw21.ScoreJudges", spec := "scoreJudges", inPlace := ["math.Float64bits", "math.Float64frombits"], apart := false, narrowed := true }
def ScoreJudgesUptoSaid : Prop := scoreJudgesUptoRow.holds Try.pinned (OpenSpec.upto scoreJudgesSpec)

/-- 'posthornlaw21.ScoreSoft', WHERE WHAT IT READS IS OF BULK AT MOST 1048576: true; the input reads as it did. -/
def scoreSoftUptoRow : OpenClaim := { program := "ythhmdlmgjienoaa", sum := "db0945bc436f95cdaf0de92b09e11d724125a5111ff7b1f586d1caeb7d4905c7", func := "posthorn/posthornlaw21.ScoreSoft", spec := "scoreSoft", inPlace := ["math.Float64bits", "math.Float64frombits"], apart := false, narrowed := true }
def ScoreSoftUptoSaid : Prop := scoreSoftUptoRow.holds Try.pinned (OpenSpec.upto scoreSoftSpec)

/-- 'posthornlaw21.ScoreChecks', WHERE WHAT IT READS IS OF BULK AT MOST 1048576: true; the input reads as it did. -/
def scoreChecksUptoRow : OpenClaim := { program := "ythhmdlmgjienoaa", sum := "db0945bc436f95cdaf0de92b09e11d724125a5111ff7b1f586d1caeb7d4905c7", func := "posthorn/posthornlaw21.ScoreChecks", spec := "scoreChecks", inPlace := ["math.Float64bits", "math.Float64frombits"], apart := false, narrowed := true }
def ScoreChecksUptoSaid : Prop := scoreChecksUptoRow.holds Try.pinned (OpenSpec.upto scoreChecksSpec)

/-- 'posthornlaw21.ScoreOrder', WHERE WHAT IT READS IS OF BULK AT MOST 1048576: true; the input reads as it did. -/
def scoreOrderUptoRow : OpenClaim := { program := "ythhmdlmgjienoaa", sum := "db0945bc436f95cdaf0de92b09e11d724125a5111ff7b1f586d1caeb7d4905c7", func := "posthorn/posthornlaw21.ScoreOrder", spec := "scoreOrder", inPlace := ["math.Float64bits", "math.Float64frombits"], apart := false, narrowed := true }
def ScoreOrderUptoSaid : Prop := scoreOrderUptoRow.holds Try.pinned (OpenSpec.upto scoreOrderSpec)

/-- 'posthornlaw21.ScoreLearns', WHERE WHAT IT READS IS OF BULK AT MOST 1048576: true; the input reads as it did. -/
def scoreLearnsUptoRow : OpenClaim := { program := "ythhmdlmgjienoaa", sum := "db0945bc436f95cdaf0de92b09e11d724125a5111ff7b1f586d1caeb7d4905c7", func := "posthorn/posthornlaw21.ScoreLearns", spec := "scoreLearns", inPlace := ["math.Float64bits", "math.Float64frombits"], apart := false, narrowed := true }
def ScoreLearnsUptoSaid : Prop := scoreLearnsUptoRow.holds Try.pinned (OpenSpec.upto scoreLearnsSpec)

/-- 'posthornlaw21.ScoreTaught', WHERE WHAT IT READS IS OF BULK AT MOST 1048576: true; the input reads as it did. -/
def scoreTaughtUptoRow : OpenClaim := { program := "ythhmdlmgjienoaa", sum := "db0945bc436f95cdaf0de92b09e11d724125a5111ff7b1f586d1caeb7d4905c7", func := "posthorn/posthornlaw21.ScoreTaught", spec := "scoreTaught", inPlace := ["math.Float64bits", "math.Float64frombits"], apart := false, narrowed := true }
def ScoreTaughtUptoSaid : Prop := scoreTaughtUptoRow.holds Try.pinned (OpenSpec.upto scoreTaughtSpec)

end Rows
end Go.Proofs.Ythhmdlmgjienoaa
