/-
  DERIVED. GIVEN WITH THE SEED: THE CARDS: each row of YtlipdmbdohpblaaDoorRows.lean that lists a variable, with what it lists TIED to the program's text (the seventh form; the later family's looks); each row that meets fmt, with fmt's text TOLD by the authors' own Lean function (tested against real Go, not proved from fmt's source: count such statements apart). THE CARD IS WHAT COUNTS. Prove the row's statement (the work); the ties are given (YtlipdmbdohpblaaDoorTie.lean); close each card by the builder's one call (the guide's Derived/Test/ToyasCard.lean, 'card_holds'). Laid BY PROGRAM, IN A SANDBOX (cutbox-door.mjs). By AI agents, Wed Nov 11 2026. No macro, syntax, notation, axiom, sorry.
-/
import Derived.Test.YtlipdmbdohpblaaDoorRows
import GoSem.ClaimSeven
namespace Go.Proofs.YtlipdmbdohpblaaDoor
namespace Rows

/-- THE TIED CARD OF 'torsionlaw03.ModularPrimeMatchesReference'. -/
def modularPrimeMatchesReferenceCard : Claim7 := { stood := { row := modularPrimeMatchesReferenceRow, standIns := [], harness := (true, "99f1a78555fece558d742674245cab8667b02b8fd3c91affc898ed3509df101f"), looks := false }, kinds := [], alts := [], laidByText := true, laidKinds := [.data], laidTests := true, laidLooks := .later }
def ModularPrimeMatchesReferenceCardSaid : Prop := Claim7.holds Tryd.pinned (.plain (OpenSpec.ofChange modularPrimeMatchesReferenceSpec)) modularPrimeMatchesReferenceCard

/-- THE TIED CARD OF 'torsionlaw03.ModularPrimes'. -/
def modularPrimesCard : Claim7 := { stood := { row := modularPrimesRow, standIns := [], harness := (true, "99f1a78555fece558d742674245cab8667b02b8fd3c91affc898ed3509df101f"), looks := false }, kinds := [], alts := [], laidByText := true, laidKinds := [.data], laidTests := true, laidLooks := .later }
def ModularPrimesCardSaid : Prop := Claim7.holds Tryd.pinned (.plain (OpenSpec.ofChange modularPrimesSpec)) modularPrimesCard

/-- THE TIED CARD OF 'torsionlaw03.ModularReduces'. -/
def modularReducesCard : Claim7 := { stood := { row := modularReducesRow, standIns := [], harness := (true, "99f1a78555fece558d742674245cab8667b02b8fd3c91affc898ed3509df101f"), looks := false }, kinds := [], alts := [], laidByText := true, laidKinds := [.data], laidTests := true, laidLooks := .later }
def ModularReducesCardSaid : Prop := Claim7.holds Tryd.pinned (.plain (OpenSpec.ofChange modularReducesSpec)) modularReducesCard

/-- THE TIED CARD OF 'torsionlaw03.ModularMatchesReference'. -/
def modularMatchesReferenceCard : Claim7 := { stood := { row := modularMatchesReferenceRow, standIns := [], harness := (true, "99f1a78555fece558d742674245cab8667b02b8fd3c91affc898ed3509df101f"), looks := false }, kinds := [], alts := [], laidByText := true, laidKinds := [.data], laidTests := true, laidLooks := .later }
def ModularMatchesReferenceCardSaid : Prop := Claim7.holds Tryd.pinned (.plain (OpenSpec.ofChange modularMatchesReferenceSpec)) modularMatchesReferenceCard

/-- THE TIED CARD OF 'torsionlaw03.ModularField'. -/
def modularFieldCard : Claim7 := { stood := { row := modularFieldRow, standIns := [], harness := (true, "99f1a78555fece558d742674245cab8667b02b8fd3c91affc898ed3509df101f"), looks := false }, kinds := [], alts := [], laidByText := true, laidKinds := [.data], laidTests := true, laidLooks := .later }
def ModularFieldCardSaid : Prop := Claim7.holds Tryd.pinned (.plain (OpenSpec.ofChange modularFieldSpec)) modularFieldCard

/-- THE SECOND FORM's CARD OF 'torsionlaw03.ModularPrimeMatchesReference'. -/
def modularPrimeMatchesReferenceUptoCard : Claim7 := { stood := { row := modularPrimeMatchesReferenceUptoRow, standIns := [], harness := (true, "99f1a78555fece558d742674245cab8667b02b8fd3c91affc898ed3509df101f"), looks := false }, kinds := [], alts := [], laidByText := true, laidKinds := [.data], laidTests := true, laidLooks := .later }
def ModularPrimeMatchesReferenceUptoCardSaid : Prop := Claim7.holds Tryd.pinned (.plain (OpenSpec.upto modularPrimeMatchesReferenceSpec)) modularPrimeMatchesReferenceUptoCard

/-- THE SECOND FORM's CARD OF 'torsionlaw03.ModularPrimes'. -/
def modularPrimesUptoCard : Claim7 := { stood := { row := modularPrimesUptoRow, standIns := [], harness := (true, "99f1a78555fece558d742674245cab8667b02b8fd3c91affc898ed3509df101f"), looks := false }, kinds := [], alts := [], laidByText := true, laidKinds := [.data], laidTests := true, laidLooks := .later }
def ModularPrimesUptoCardSaid : Prop := Claim7.holds Tryd.pinned (.plain (OpenSpec.upto modularPrimesSpec)) modularPrimesUptoCard

/-- THE SECOND FORM's CARD OF 'torsionlaw03.ModularReduces'. -/
def modularReducesUptoCard : Claim7 := { stood := { row := modularReducesUptoRow, standIns := [], harness := (true, "99f1a78555fece558d742674245cab8667b02b8fd3c91affc898ed3509df101f"), looks := false }, kinds := [], alts := [], laidByText := true, laidKinds := [.data], laidTests := true, laidLooks := .later }
def ModularReducesUptoCardSaid : Prop := Claim7.holds Tryd.pinned (.plain (OpenSpec.upto modularReducesSpec)) modularReducesUptoCard

/-- THE SECOND FORM's CARD OF 'torsionlaw03.ModularMatchesReference'. -/
def modularMatchesReferenceUptoCard : Claim7 := { stood := { row := modularMatchesReferenceUptoRow, standIns := [], harness := (true, "99f1a78555fece558d742674245cab8667b02b8fd3c91affc898ed3509df101f"), looks := false }, kinds := [], alts := [], laidByText := true, laidKinds := [.data], laidTests := true, laidLooks := .later }
def ModularMatchesReferenceUptoCardSaid : Prop := Claim7.holds Tryd.pinned (.plain (OpenSpec.upto modularMatchesReferenceSpec)) modularMatchesReferenceUptoCard

/-- THE SECOND FORM's CARD OF 'torsionlaw03.ModularField'. -/
def modularFieldUptoCard : Claim7 := { stood := { row := modularFieldUptoRow, standIns := [], harness := (true, "99f1a78555fece558d742674245cab8667b02b8fd3c91affc898ed3509df101f"), looks := false }, kinds := [], alts := [], laidByText := true, laidKinds := [.data], laidTests := true, laidLooks := .later }
def ModularFieldUptoCardSaid : Prop := Claim7.holds Tryd.pinned (.plain (OpenSpec.upto modularFieldSpec)) modularFieldUptoCard
end Rows
end Go.Proofs.YtlipdmbdohpblaaDoor
