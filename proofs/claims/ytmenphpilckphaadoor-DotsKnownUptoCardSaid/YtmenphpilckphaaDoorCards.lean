/-
  DERIVED. GIVEN WITH THE SEED: THE CARDS: each row of YtmenphpilckphaaDoorRows.lean that lists a variable, with what it lists TIED to the program's text (the seventh form; the later family's looks); each row that meets fmt, with fmt's text TOLD by the authors' own Lean function (tested against real Go, not proved from fmt's source: count such statements apart). THE CARD IS WHAT COUNTS. Prove the row's statement (the work); the ties are given (YtmenphpilckphaaDoorTie.lean); close each card by the builder's one call (the guide's Derived/Test/ToyasCard.lean, 'card_holds'). Laid BY PROGRAM, IN A SANDBOX (cutbox-door.mjs). By AI agents, Wed Nov 11 2026. No macro, syntax, notation, axiom, sorry.
-/
import Derived.Test.YtmenphpilckphaaDoorRows
import GoSem.ClaimSeven
namespace Go.Proofs.YtmenphpilckphaaDoor
namespace Rows

/-- THE TIED CARD OF 'posthornlaw14.DotsCut'. -/
def dotsCutCard : Claim7 := { stood := { row := dotsCutRow, standIns := [], harness := (true, "d30303127d001e98e9603a76d644230a709c9f78a39cba0d8f09e8c7b98eca1b"), looks := false }, kinds := [], alts := [], laidByText := true, laidKinds := [.data, .pinned], laidTests := true, laidLooks := .later }
def DotsCutCardSaid : Prop := Claim7.holds Tryd.pinned (.plain (OpenSpec.ofChange dotsCutSpec)) dotsCutCard

/-- THE TIED CARD OF 'posthornlaw14.DotsEnd'. -/
def dotsEndCard : Claim7 := { stood := { row := dotsEndRow, standIns := [], harness := (true, "d30303127d001e98e9603a76d644230a709c9f78a39cba0d8f09e8c7b98eca1b"), looks := false }, kinds := [], alts := [], laidByText := true, laidKinds := [.data, .pinned], laidTests := true, laidLooks := .later }
def DotsEndCardSaid : Prop := Claim7.holds Tryd.pinned (.plain (OpenSpec.ofChange dotsEndSpec)) dotsEndCard

/-- THE TIED CARD OF 'posthornlaw14.DotsAgain'. -/
def dotsAgainCard : Claim7 := { stood := { row := dotsAgainRow, standIns := [], harness := (true, "d30303127d001e98e9603a76d644230a709c9f78a39cba0d8f09e8c7b98eca1b"), looks := false }, kinds := [], alts := [], laidByText := true, laidKinds := [.data, .pinned], laidTests := true, laidLooks := .later }
def DotsAgainCardSaid : Prop := Claim7.holds Tryd.pinned (.plain (OpenSpec.ofChange dotsAgainSpec)) dotsAgainCard

/-- THE TIED CARD OF 'posthornlaw14.DotsChecks'. -/
def dotsChecksCard : Claim7 := { stood := { row := dotsChecksRow, standIns := [], harness := (true, "d30303127d001e98e9603a76d644230a709c9f78a39cba0d8f09e8c7b98eca1b"), looks := false }, kinds := [], alts := [], laidByText := true, laidKinds := [.data, .pinned], laidTests := true, laidLooks := .later }
def DotsChecksCardSaid : Prop := Claim7.holds Tryd.pinned (.plain (OpenSpec.ofChange dotsChecksSpec)) dotsChecksCard

/-- THE TIED CARD OF 'posthornlaw14.DotsKeeps'. -/
def dotsKeepsCard : Claim7 := { stood := { row := dotsKeepsRow, standIns := [], harness := (true, "d30303127d001e98e9603a76d644230a709c9f78a39cba0d8f09e8c7b98eca1b"), looks := false }, kinds := [], alts := [], laidByText := true, laidKinds := [.data, .pinned], laidTests := true, laidLooks := .later }
def DotsKeepsCardSaid : Prop := Claim7.holds Tryd.pinned (.plain (OpenSpec.ofChange dotsKeepsSpec)) dotsKeepsCard

/-- THE TIED CARD OF 'posthornlaw14.DotsKnown'. -/
def dotsKnownCard : Claim7 := { stood := { row := dotsKnownRow, standIns := [], harness := (true, "d30303127d001e98e9603a76d644230a709c9f78a39cba0d8f09e8c7b98eca1b"), looks := false }, kinds := [], alts := [], laidByText := true, laidKinds := [.data, .pinned], laidTests := true, laidLooks := .later }
def DotsKnownCardSaid : Prop := Claim7.holds Tryd.pinned (.plain (OpenSpec.ofChange dotsKnownSpec)) dotsKnownCard

/-- THE TIED CARD OF 'posthornlaw14.DotsHeld'. -/
def dotsHeldCard : Claim7 := { stood := { row := dotsHeldRow, standIns := [], harness := (true, "d30303127d001e98e9603a76d644230a709c9f78a39cba0d8f09e8c7b98eca1b"), looks := false }, kinds := [], alts := [], laidByText := true, laidKinds := [.data, .pinned], laidTests := true, laidLooks := .later }
def DotsHeldCardSaid : Prop := Claim7.holds Tryd.pinned (.plain (OpenSpec.ofChange dotsHeldSpec)) dotsHeldCard

/-- THE TIED CARD OF 'posthornlaw14.DotsBack'. -/
def dotsBackCard : Claim7 := { stood := { row := dotsBackRow, standIns := [], harness := (true, "d30303127d001e98e9603a76d644230a709c9f78a39cba0d8f09e8c7b98eca1b"), looks := false }, kinds := [], alts := [], laidByText := true, laidKinds := [.data, .pinned], laidTests := true, laidLooks := .later }
def DotsBackCardSaid : Prop := Claim7.holds Tryd.pinned (.plain (OpenSpec.ofChange dotsBackSpec)) dotsBackCard

/-- THE TIED CARD OF 'posthornlaw14.DotsTakes'. -/
def dotsTakesCard : Claim7 := { stood := { row := dotsTakesRow, standIns := [], harness := (true, "d30303127d001e98e9603a76d644230a709c9f78a39cba0d8f09e8c7b98eca1b"), looks := false }, kinds := [], alts := [], laidByText := true, laidKinds := [.data, .pinned], laidTests := true, laidLooks := .later }
def DotsTakesCardSaid : Prop := Claim7.holds Tryd.pinned (.plain (OpenSpec.ofChange dotsTakesSpec)) dotsTakesCard

/-- THE SECOND FORM's CARD OF 'posthornlaw14.DotsCut'. -/
def dotsCutUptoCard : Claim7 := { stood := { row := dotsCutUptoRow, standIns := [], harness := (true, "d30303127d001e98e9603a76d644230a709c9f78a39cba0d8f09e8c7b98eca1b"), looks := false }, kinds := [], alts := [], laidByText := true, laidKinds := [.data, .pinned], laidTests := true, laidLooks := .later }
def DotsCutUptoCardSaid : Prop := Claim7.holds Tryd.pinned (.plain (OpenSpec.upto dotsCutSpec)) dotsCutUptoCard

/-- THE SECOND FORM's CARD OF 'posthornlaw14.DotsEnd'. -/
def dotsEndUptoCard : Claim7 := { stood := { row := dotsEndUptoRow, standIns := [], harness := (true, "d30303127d001e98e9603a76d644230a709c9f78a39cba0d8f09e8c7b98eca1b"), looks := false }, kinds := [], alts := [], laidByText := true, laidKinds := [.data, .pinned], laidTests := true, laidLooks := .later }
def DotsEndUptoCardSaid : Prop := Claim7.holds Tryd.pinned (.plain (OpenSpec.upto dotsEndSpec)) dotsEndUptoCard

/-- THE SECOND FORM's CARD OF 'posthornlaw14.DotsAgain'. -/
def dotsAgainUptoCard : Claim7 := { stood := { row := dotsAgainUptoRow, standIns := [], harness := (true, "d30303127d001e98e9603a76d644230a709c9f78a39cba0d8f09e8c7b98eca1b"), looks := false }, kinds := [], alts := [], laidByText := true, laidKinds := [.data, .pinned], laidTests := true, laidLooks := .later }
def DotsAgainUptoCardSaid : Prop := Claim7.holds Tryd.pinned (.plain (OpenSpec.upto dotsAgainSpec)) dotsAgainUptoCard

/-- THE SECOND FORM's CARD OF 'posthornlaw14.DotsChecks'. -/
def dotsChecksUptoCard : Claim7 := { stood := { row := dotsChecksUptoRow, standIns := [], harness := (true, "d30303127d001e98e9603a76d644230a709c9f78a39cba0d8f09e8c7b98eca1b"), looks := false }, kinds := [], alts := [], laidByText := true, laidKinds := [.data, .pinned], laidTests := true, laidLooks := .later }
def DotsChecksUptoCardSaid : Prop := Claim7.holds Tryd.pinned (.plain (OpenSpec.upto dotsChecksSpec)) dotsChecksUptoCard

/-- THE SECOND FORM's CARD OF 'posthornlaw14.DotsKeeps'. -/
def dotsKeepsUptoCard : Claim7 := { stood := { row := dotsKeepsUptoRow, standIns := [], harness := (true, "d30303127d001e98e9603a76d644230a709c9f78a39cba0d8f09e8c7b98eca1b"), looks := false }, kinds := [], alts := [], laidByText := true, laidKinds := [.data, .pinned], laidTests := true, laidLooks := .later }
def DotsKeepsUptoCardSaid : Prop := Claim7.holds Tryd.pinned (.plain (OpenSpec.upto dotsKeepsSpec)) dotsKeepsUptoCard

/-- THE SECOND FORM's CARD OF 'posthornlaw14.DotsKnown'. -/
def dotsKnownUptoCard : Claim7 := { stood := { row := dotsKnownUptoRow, standIns := [], harness := (true, "d30303127d001e98e9603a76d644230a709c9f78a39cba0d8f09e8c7b98eca1b"), looks := false }, kinds := [], alts := [], laidByText := true, laidKinds := [.data, .pinned], laidTests := true, laidLooks := .later }
def DotsKnownUptoCardSaid : Prop := Claim7.holds Tryd.pinned (.plain (OpenSpec.upto dotsKnownSpec)) dotsKnownUptoCard

/-- THE SECOND FORM's CARD OF 'posthornlaw14.DotsHeld'. -/
def dotsHeldUptoCard : Claim7 := { stood := { row := dotsHeldUptoRow, standIns := [], harness := (true, "d30303127d001e98e9603a76d644230a709c9f78a39cba0d8f09e8c7b98eca1b"), looks := false }, kinds := [], alts := [], laidByText := true, laidKinds := [.data, .pinned], laidTests := true, laidLooks := .later }
def DotsHeldUptoCardSaid : Prop := Claim7.holds Tryd.pinned (.plain (OpenSpec.upto dotsHeldSpec)) dotsHeldUptoCard

/-- THE SECOND FORM's CARD OF 'posthornlaw14.DotsBack'. -/
def dotsBackUptoCard : Claim7 := { stood := { row := dotsBackUptoRow, standIns := [], harness := (true, "d30303127d001e98e9603a76d644230a709c9f78a39cba0d8f09e8c7b98eca1b"), looks := false }, kinds := [], alts := [], laidByText := true, laidKinds := [.data, .pinned], laidTests := true, laidLooks := .later }
def DotsBackUptoCardSaid : Prop := Claim7.holds Tryd.pinned (.plain (OpenSpec.upto dotsBackSpec)) dotsBackUptoCard

/-- THE SECOND FORM's CARD OF 'posthornlaw14.DotsTakes'. -/
def dotsTakesUptoCard : Claim7 := { stood := { row := dotsTakesUptoRow, standIns := [], harness := (true, "d30303127d001e98e9603a76d644230a709c9f78a39cba0d8f09e8c7b98eca1b"), looks := false }, kinds := [], alts := [], laidByText := true, laidKinds := [.data, .pinned], laidTests := true, laidLooks := .later }
def DotsTakesUptoCardSaid : Prop := Claim7.holds Tryd.pinned (.plain (OpenSpec.upto dotsTakesSpec)) dotsTakesUptoCard
end Rows
end Go.Proofs.YtmenphpilckphaaDoor
