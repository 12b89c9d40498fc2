/-
  No cell of these rows narrows 'for every input' (looked for: loops, veiled, ifaces, maps, wideKeys, modest, calm, conditions, laid).
  DERIVED. THE GIVEN ROWS OF THIS SEAT. 10 by the template 'for every input the law returns true; each argument reads behind the call as it read before'; 0 by the template 'total and deterministic' (their statements: YtplkoephgmdgkaaTotals.lean).
  GIVEN WITH THE SEED: the statements are not yours to turn. If you find one false, say at which input.
  Laid BY PROGRAM, IN A SANDBOX (cutbox-rows.mjs): the forced cells as the released guide's own fill.sh prints them over the translation 2b7d7d11f84d87b2… (all of the seat's roots in one cut). By AI agents, Wed Nov 11 2026. No macro, syntax, notation, axiom, sorry.
-/
import Derived.Test.YtplkoephgmdgkaaChecked
import GoSem.Claim
import GoSem.ClaimJoined
import GoSem.ClaimMapViews
import Derived.JoinedTies
import Derived.KernelRfl
namespace Go.Proofs.Ytplkoephgmdgkaa
/- THE CELL 'sum', in the pinned program and in every row, IS THE sha256 OF THE DUMP (.gsa) THAT YtplkoephgmdgkaaProg.lean LOADS. Nothing in Lean hashes anything: it is a label: what it is worth is what the hold of that sum in a sandbox is worth. -/
noncomputable def Try.pinned : Pinned := { name := "ytplkoephgmdgkaa", sum := "2b7d7d11f84d87b27b16b810bfb4a2af303eee9c3f880280168a1bf9146ca8d0", checked := Try.checked }
namespace Rows
def none {H : Type} : Left H := { results := [], args := [] }

/-- 'posthornlaw20.RateWaits': WHATEVER THE INPUT: true; the input reads as it did. -/
def rateWaitsSpec : ChangeSpec := { name := "rateWaits", fn := fun _ => fun
  | [d1, d2, d3, d4, d5] => { results := [.lit (.bool true)], args := [d1, d2, d3, d4, d5] }
  | _ => none }
def rateWaitsRow : OpenClaim := { program := "ytplkoephgmdgkaa", sum := "2b7d7d11f84d87b27b16b810bfb4a2af303eee9c3f880280168a1bf9146ca8d0", func := "posthorn/posthornlaw20.RateWaits", spec := "rateWaits", recurses := true, apart := false }
def RateWaitsSaid : Prop := rateWaitsRow.holds Try.pinned (OpenSpec.ofChange rateWaitsSpec)

/-- ITS FALSE NEIGHBOUR: 'it returns false'. Refute it at one input. -/
def rateWaitsWrong : ChangeSpec := { name := "rateWaits", fn := fun _ => fun
  | [d1, d2, d3, d4, d5] => { results := [.lit (.bool false)], args := [d1, d2, d3, d4, d5] }
  | _ => none }
def RateWaitsWrongFalsely : Prop := rateWaitsRow.holds Try.pinned (OpenSpec.ofChange rateWaitsWrong)

/-- 'posthornlaw20.RatePlays': WHATEVER THE INPUT: true; the input reads as it did. -/
def ratePlaysSpec : ChangeSpec := { name := "ratePlays", fn := fun _ => fun
  | [d1, d2, d3] => { results := [.lit (.bool true)], args := [d1, d2, d3] }
  | _ => none }
def ratePlaysRow : OpenClaim := { program := "ytplkoephgmdgkaa", sum := "2b7d7d11f84d87b27b16b810bfb4a2af303eee9c3f880280168a1bf9146ca8d0", func := "posthorn/posthornlaw20.RatePlays", spec := "ratePlays", inPlace := ["math.Float64bits"], recurses := true, apart := false }
def RatePlaysSaid : Prop := ratePlaysRow.holds Try.pinned (OpenSpec.ofChange ratePlaysSpec)

/-- ITS FALSE NEIGHBOUR: 'it returns false'. Refute it at one input. -/
def ratePlaysWrong : ChangeSpec := { name := "ratePlays", fn := fun _ => fun
  | [d1, d2, d3] => { results := [.lit (.bool false)], args := [d1, d2, d3] }
  | _ => none }
def RatePlaysWrongFalsely : Prop := ratePlaysRow.holds Try.pinned (OpenSpec.ofChange ratePlaysWrong)

/-- 'posthornlaw20.RateFull': WHATEVER THE INPUT: true; the input reads as it did. -/
def rateFullSpec : ChangeSpec := { name := "rateFull", fn := fun _ => fun
  | [d1, d2, d3, d4, d5] => { results := [.lit (.bool true)], args := [d1, d2, d3, d4, d5] }
  | _ => none }
def rateFullRow : OpenClaim := { program := "ytplkoephgmdgkaa", sum := "2b7d7d11f84d87b27b16b810bfb4a2af303eee9c3f880280168a1bf9146ca8d0", func := "posthorn/posthornlaw20.RateFull", spec := "rateFull", inPlace := ["math.Float64bits"], recurses := true, apart := false }
def RateFullSaid : Prop := rateFullRow.holds Try.pinned (OpenSpec.ofChange rateFullSpec)

/-- ITS FALSE NEIGHBOUR: 'it returns false'. Refute it at one input. -/
def rateFullWrong : ChangeSpec := { name := "rateFull", fn := fun _ => fun
  | [d1, d2, d3, d4, d5] => { results := [.lit (.bool false)], args := [d1, d2, d3, d4, d5] }
  | _ => none }
def RateFullWrongFalsely : Prop := rateFullRow.holds Try.pinned (OpenSpec.ofChange rateFullWrong)

/-- 'posthornlaw20.RateFloats': WHATEVER THE INPUT: true; the input reads as it did. -/
def rateFloatsSpec : ChangeSpec := { name := "rateFloats", fn := fun _ => fun
  | [d1, d2, d3, d4] => { results := [.lit (.bool true)], args := [d1, d2, d3, d4] }
  | _ => none }
def rateFloatsRow : OpenClaim := { program := "ytplkoephgmdgkaa", sum := "2b7d7d11f84d87b27b16b810bfb4a2af303eee9c3f880280168a1bf9146ca8d0", func := "posthorn/posthornlaw20.RateFloats", spec := "rateFloats", inPlace := ["math.Float64bits"], recurses := true, apart := false }
def RateFloatsSaid : Prop := rateFloatsRow.holds Try.pinned (OpenSpec.ofChange rateFloatsSpec)

/-- ITS FALSE NEIGHBOUR: 'it returns false'. Refute it at one input. -/
def rateFloatsWrong : ChangeSpec := { name := "rateFloats", fn := fun _ => fun
  | [d1, d2, d3, d4] => { results := [.lit (.bool false)], args := [d1, d2, d3, d4] }
  | _ => none }
def RateFloatsWrongFalsely : Prop := rateFloatsRow.holds Try.pinned (OpenSpec.ofChange rateFloatsWrong)

/-- 'posthornlaw20.RateRefused': WHATEVER THE INPUT: true; the input reads as it did. -/
def rateRefusedSpec : ChangeSpec := { name := "rateRefused", fn := fun _ => fun
  | [d1, d2, d3, d4] => { results := [.lit (.bool true)], args := [d1, d2, d3, d4] }
  | _ => none }
def rateRefusedRow : OpenClaim := { program := "ytplkoephgmdgkaa", sum := "2b7d7d11f84d87b27b16b810bfb4a2af303eee9c3f880280168a1bf9146ca8d0", func := "posthorn/posthornlaw20.RateRefused", spec := "rateRefused", inPlace := ["math.Float64bits"], recurses := true, apart := false }
def RateRefusedSaid : Prop := rateRefusedRow.holds Try.pinned (OpenSpec.ofChange rateRefusedSpec)

/-- ITS FALSE NEIGHBOUR: 'it returns false'. Refute it at one input. -/
def rateRefusedWrong : ChangeSpec := { name := "rateRefused", fn := fun _ => fun
  | [d1, d2, d3, d4] => { results := [.lit (.bool false)], args := [d1, d2, d3, d4] }
  | _ => none }
def RateRefusedWrongFalsely : Prop := rateRefusedRow.holds Try.pinned (OpenSpec.ofChange rateRefusedWrong)

/-- 'posthornlaw20.RateFades': WHATEVER THE INPUT: true; the input reads as it did. -/
def rateFadesSpec : ChangeSpec := { name := "rateFades", fn := fun _ => fun
  | [d1, d2, d3, d4, d5, d6] => { results := [.lit (.bool true)], args := [d1, d2, d3, d4, d5, d6] }
  | _ => none }
def rateFadesRow : OpenClaim := { program := "ytplkoephgmdgkaa", sum := "2b7d7d11f84d87b27b16b810bfb4a2af303eee9c3f880280168a1bf9146ca8d0", func := "posthorn/posthornlaw20.RateFades", spec := "rateFades", inPlace := ["math.Float64bits", "math.Float64frombits"], recurses := true, apart := false }
def RateFadesSaid : Prop := rateFadesRow.holds Try.pinned (OpenSpec.ofChange rateFadesSpec)

/-- ITS FALSE NEIGHBOUR: 'it returns false'. Refute it at one input. -/
def rateFadesWrong : ChangeSpec := { name := "rateFades", fn := fun _ => fun
  | [d1, d2, d3, d4, d5, d6] => { results := [.lit (.bool false)], args := [d1, d2, d3, d4, d5, d6] }
  | _ => none }
def RateFadesWrongFalsely : Prop := rateFadesRow.holds Try.pinned (OpenSpec.ofChange rateFadesWrong)

/-- 'posthornlaw20.RateApart': WHATEVER THE INPUT: true; the input reads as it did. -/
def rateApartSpec : ChangeSpec := { name := "rateApart", fn := fun _ => fun
  | [d1, d2, d3] => { results := [.lit (.bool true)], args := [d1, d2, d3] }
  | _ => none }
def rateApartRow : OpenClaim := { program := "ytplkoephgmdgkaa", sum := "2b7d7d11f84d87b27b16b810bfb4a2af303eee9c3f880280168a1bf9146ca8d0", func := "posthorn/posthornlaw20.RateApart", spec := "rateApart", inPlace := ["math.Float64bits"], recurses := true, apart := false }
def RateApartSaid : Prop := rateApartRow.holds Try.pinned (OpenSpec.ofChange rateApartSpec)

/-- ITS FALSE NEIGHBOUR: 'it returns false'. Refute it at one input. -/
def rateApartWrong : ChangeSpec := { name := "rateApart", fn := fun _ => fun
  | [d1, d2, d3] => { results := [.lit (.bool false)], args := [d1, d2, d3] }
  | _ => none }
def RateApartWrongFalsely : Prop := rateApartRow.holds Try.pinned (OpenSpec.ofChange rateApartWrong)

/-- 'posthornlaw20.RateKnown': WHATEVER THE INPUT: true; the input reads as it did. -/
def rateKnownSpec : ChangeSpec := { name := "rateKnown", fn := fun _ => fun
  | [] => { results := [.lit (.bool true)], args := [] }
  | _ => none }
def rateKnownRow : OpenClaim := { program := "ytplkoephgmdgkaa", sum := "2b7d7d11f84d87b27b16b810bfb4a2af303eee9c3f880280168a1bf9146ca8d0", func := "posthorn/posthornlaw20.RateKnown", spec := "rateKnown", inPlace := ["math.Float64frombits", "math.Float64bits"], recurses := true, apart := false }
def RateKnownSaid : Prop := rateKnownRow.holds Try.pinned (OpenSpec.ofChange rateKnownSpec)

/-- ITS FALSE NEIGHBOUR: 'it returns false'. Refute it at one input. -/
def rateKnownWrong : ChangeSpec := { name := "rateKnown", fn := fun _ => fun
  | [] => { results := [.lit (.bool false)], args := [] }
  | _ => none }
def RateKnownWrongFalsely : Prop := rateKnownRow.holds Try.pinned (OpenSpec.ofChange rateKnownWrong)

/-- 'posthornlaw20.RatePaces': WHATEVER THE INPUT: true; the input reads as it did. -/
def ratePacesSpec : ChangeSpec := { name := "ratePaces", fn := fun _ => fun
  | [d1, d2, d3] => { results := [.lit (.bool true)], args := [d1, d2, d3] }
  | _ => none }
def ratePacesRow : OpenClaim := { program := "ytplkoephgmdgkaa", sum := "2b7d7d11f84d87b27b16b810bfb4a2af303eee9c3f880280168a1bf9146ca8d0", func := "posthorn/posthornlaw20.RatePaces", spec := "ratePaces", inPlace := ["math.archFloor", "math.Float64bits", "math.Float64frombits", "math.archTrunc"], recurses := true, apart := false }
def RatePacesSaid : Prop := ratePacesRow.holds Try.pinned (OpenSpec.ofChange ratePacesSpec)

/-- ITS FALSE NEIGHBOUR: 'it returns false'. Refute it at one input. -/
def ratePacesWrong : ChangeSpec := { name := "ratePaces", fn := fun _ => fun
  | [d1, d2, d3] => { results := [.lit (.bool false)], args := [d1, d2, d3] }
  | _ => none }
def RatePacesWrongFalsely : Prop := ratePacesRow.holds Try.pinned (OpenSpec.ofChange ratePacesWrong)

/-- 'posthornlaw20.RateBetween': WHATEVER THE INPUT: true; the input reads as it did. -/
def rateBetweenSpec : ChangeSpec := { name := "rateBetween", fn := fun _ => fun
  | [d] => { results := [.lit (.bool true)], args := [d] }
  | _ => none }
def rateBetweenRow : OpenClaim := { program := "ytplkoephgmdgkaa", sum := "2b7d7d11f84d87b27b16b810bfb4a2af303eee9c3f880280168a1bf9146ca8d0", func := "posthorn/posthornlaw20.RateBetween", spec := "rateBetween", inPlace := ["math.Float64frombits", "math.Float64bits"], recurses := true, apart := false }
def RateBetweenSaid : Prop := rateBetweenRow.holds Try.pinned (OpenSpec.ofChange rateBetweenSpec)

/-- ITS FALSE NEIGHBOUR: 'it returns false'. Refute it at one input. -/
def rateBetweenWrong : ChangeSpec := { name := "rateBetween", fn := fun _ => fun
  | [d] => { results := [.lit (.bool false)], args := [d] }
  | _ => none }
def RateBetweenWrongFalsely : Prop := rateBetweenRow.holds Try.pinned (OpenSpec.ofChange rateBetweenWrong)

/- THE SECOND FORM. 'bulk': how many values and letters a reading holds, each counted each time it is reached (what is shared counts as often as it is met; a slice's spare places count too). A statement '..UptoSaid' is the law's where the arguments, and the package variables that the reading takes, are together of bulk at most 1048576: NARROWER than '..Said'. Prove '..Said' where nothing that the law and all that it calls make is longer than what came in: it says more and counts as full. Else prove '..UptoSaid'. A law counts once. -/
mutual
def uptoBulk {H : Type} : DataW H → Nat
  | .lit (.string bytes) => bytes.length + 1
  | .lit _ => 1
  | .nil => 1
  | .ptr d => uptoBulk d + 1
  | .slice elems spare => uptoBulkAll elems + uptoBulkAll spare + 1
  | .agg parts => uptoBulkAll parts + 1
  | .iface _ d => uptoBulk d + 1
  | .map entries => uptoBulkEntries entries + 1
  | .held _ => 1
def uptoBulkAll {H : Type} : List (DataW H) → Nat
  | [] => 0
  | d :: r => uptoBulk d + uptoBulkAll r
def uptoBulkEntries {H : Type} : List (Lit × DataW H) → Nat
  | [] => 0
  | x :: r => uptoBulkEntry x + uptoBulkEntries r
def uptoBulkEntry {H : Type} : Lit × DataW H → Nat
  | (.string bytes, d) => bytes.length + uptoBulk d + 1
  | (_, d) => uptoBulk d + 1
 end
def uptoSmall : (H : Type) → List (DataW H) → Bool := fun _ ds => decide (uptoBulkAll ds ≤ 1048576)
def OpenSpec.upto (s : _root_.Go.ChangeSpec) : _root_.Go.OpenSpec := { _root_.Go.OpenSpec.ofChange s with cond := some uptoSmall }

/-- 'posthornlaw20.RateWaits', WHERE WHAT IT READS IS OF BULK AT MOST 1048576: true; the input reads as it did. -/
def rateWaitsUptoRow : OpenClaim := { program := "ytplkoephgmdgkaa", sum := "2b7d7d11f84d87b27b16b810bfb4a2af303eee9c3f880280168a1bf9146ca8d0", func := "posthorn/posthornlaw20.RateWaits", spec := "rateWaits", recurses := true, apart := false, narrowed := true }
def RateWaitsUptoSaid : Prop := rateWaitsUptoRow.holds Try.pinned (OpenSpec.upto rateWaitsSpec)

/-- 'posthornlaw20.RatePlays', WHERE WHAT IT READS IS OF BULK AT MOST 1048576: true; the input reads as it did. -/
def ratePlaysUptoRow : OpenClaim := { program := "ytplkoephgmdgkaa", sum := "2b7d7d11f84d87b27b16b810bfb4a2af303eee9c3f880280168a1bf9146ca8d0", func := "posthorn/posthornlaw20.RatePlays", spec := "ratePlays", inPlace := ["math.Float64bits"], recurses := true, apart := false, narrowed := true }
def RatePlaysUptoSaid : Prop := ratePlaysUptoRow.holds Try.pinned (OpenSpec.upto ratePlaysSpec)

/-- 'posthornlaw20.RateFull', WHERE WHAT IT READS IS OF BULK AT MOST 1048576: true; the input reads as it did. -/
def rateFullUptoRow : OpenClaim := { program := "ytplkoephgmdgkaa", sum := "2b7d7d11f84d87b27b16b810bfb4a2af303eee9c3f880280168a1bf9146ca8d0", func := "posthorn/posthornlaw20.RateFull", spec := "rateFull", inPlace := ["math.Float64bits"], recurses := true, apart := false, narrowed := true }
def RateFullUptoSaid : Prop := rateFullUptoRow.holds Try.pinned (OpenSpec.upto rateFullSpec)

/-- 'posthornlaw20.RateFloats', WHERE WHAT IT READS IS OF BULK AT MOST 1048576: true; the input reads as it did. -/
def rateFloatsUptoRow : OpenClaim := { program := "ytplkoephgmdgkaa", sum := "2b7d7d11f84d87b27b16b810bfb4a2af303eee9c3f880280168a1bf9146ca8d0", func := "posthorn/posthornlaw20.RateFloats", spec := "rateFloats", inPlace := ["math.Float64bits"], recurses := true, apart := false, narrowed := true }
def RateFloatsUptoSaid : Prop := rateFloatsUptoRow.holds Try.pinned (OpenSpec.upto rateFloatsSpec)

/-- 'posthornlaw20.RateRefused', WHERE WHAT IT READS IS OF BULK AT MOST 1048576: true; the input reads as it did. -/
def rateRefusedUptoRow : OpenClaim := { program := "ytplkoephgmdgkaa", sum := "2b7d7d11f84d87b27b16b810bfb4a2af303eee9c3f880280168a1bf9146ca8d0", func := "posthorn/posthornlaw20.RateRefused", spec := "rateRefused", inPlace := ["math.Float64bits"], recurses := true, apart := false, narrowed := true }
def RateRefusedUptoSaid : Prop := rateRefusedUptoRow.holds Try.pinned (OpenSpec.upto rateRefusedSpec)

/-- 'posthornlaw20.RateFades', WHERE WHAT IT READS IS OF BULK AT MOST 1048576: true; the input reads as it did. -/
def rateFadesUptoRow : OpenClaim := { program := "ytplkoephgmdgkaa", sum := "2b7d7d11f84d87b27b16b810bfb4a2af303eee9c3f880280168a1bf9146ca8d0", func := "posthorn/posthornlaw20.RateFades", spec := "rateFades", inPlace := ["math.Float64bits", "math.Float64frombits"], recurses := true, apart := false, narrowed := true }
def RateFadesUptoSaid : Prop := rateFadesUptoRow.holds Try.pinned (OpenSpec.upto rateFadesSpec)

/-- 'posthornlaw20.RateApart', WHERE WHAT IT READS IS OF BULK AT MOST 1048576: true; the input reads as it did. -/
def rateApartUptoRow : OpenClaim := { program := "ytplkoephgmdgkaa", sum := "2b7d7d11f84d87b27b16b810bfb4a2af303eee9c3f880280168a1bf9146ca8d0", func := "posthorn/posthornlaw20.RateApart", spec := "rateApart", inPlace := ["math.Float64bits"], recurses := true, apart := false, narrowed := true }
def RateApartUptoSaid : Prop := rateApartUptoRow.holds Try.pinned (OpenSpec.upto rateApartSpec)

/-- 'posthornlaw20.RateKnown', WHERE WHAT IT READS IS OF BULK AT MOST 1048576: true; the input reads as it did. -/
def rateKnownUptoRow : OpenClaim := { program := "ytplkoephgmdgkaa", sum := "2b7d7d11f84d87b27b16b810bfb4a2af303eee9c3f880280168a1bf9146ca8d0", func := "posthorn/posthornlaw20.RateKnown", spec := "rateKnown", inPlace := ["math.Float64frombits", "math.Float64bits"], recurses := true, apart := false, narrowed := true }
def RateKnownUptoSaid : Prop := rateKnownUptoRow.holds Try.pinned (OpenSpec.upto rateKnownSpec)

/-- 'posthornlaw20.RatePaces', WHERE WHAT IT READS IS OF BULK AT MOST 1048576: true; the input reads as it did. -/
def ratePacesUptoRow : OpenClaim := { program := "ytplkoephgmdgkaa", sum := "2b7d7d11f84d87b27b16b810bfb4a2af303eee9c3f880280168a1bf9146ca8d0", func := "posthorn/posthornlaw20.RatePaces", spec := "ratePaces", inPlace := ["math.archFloor", "math.Float64bits", "math.Float64frombits", "math.archTrunc"], recurses := true, apart := false, narrowed := true }
def RatePacesUptoSaid : Prop := ratePacesUptoRow.holds Try.pinned (OpenSpec.upto ratePacesSpec)

/-- 'posthornlaw20.RateBetween', WHERE WHAT IT READS IS OF BULK AT MOST 1048576: true; the input reads as it did. -/
def rateBetweenUptoRow : OpenClaim := { program := "ytplkoephgmdgkaa", sum := "2b7d7d11f84d87b27b16b810bfb4a2af303eee9c3f880280168a1bf9146ca8d0", func := "posthorn/posthornlaw20.RateBetween", spec := "rateBetween", inPlace := ["math.Float64frombits", "math.Float64bits"], recurses := true, apart := false, narrowed := true }
def RateBetweenUptoSaid : Prop := rateBetweenUptoRow.holds Try.pinned (OpenSpec.upto rateBetweenSpec)

end Rows
end Go.Proofs.Ytplkoephgmdgkaa
