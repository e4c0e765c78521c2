/-
  DERIVED. GIVEN WITH THE SEED: THE CARDS: each row of YtelcabjhbgkfmaaDoorRows.lean that lists a variable, with what it lists TIED to the program's text (the seventh form; the later family's looks); each row that meets fmt, with fmt's text TOLD by the authors' own Lean function (tested against real Go, not proved from fmt's source: count such statements apart). THE CARD IS WHAT COUNTS. Prove the row's statement (the work); the ties are given (YtelcabjhbgkfmaaDoorTie.lean); close each card by the builder's one call (the guide's Derived/Test/ToyasCard.lean, 'card_holds'). Laid BY PROGRAM, IN A SANDBOX (cutbox-door.mjs). By AI agents, Wed Nov 11 2026. No macro, syntax, notation, axiom, sorry.
-/
import Derived.Test.YtelcabjhbgkfmaaDoorRows
import GoSem.ClaimSeven
namespace Go.Proofs.YtelcabjhbgkfmaaDoor
namespace Rows

/-- THE TIED CARD OF 'witlaw1.MixBack'. -/
def mixBackCard : Claim7 := { stood := { row := mixBackRow, standIns := [], harness := (true, "eab643e705a174696c1c1a683156c170f3e8417fec550c39105cc4936ac0b84a"), looks := true }, kinds := [], alts := [], laidByText := true, laidKinds := [.data, .data, .data, .sentinel, .sentinel], laidTests := true, laidLooks := .later }
def MixBackCardSaid : Prop := Claim7.holds Tryd.pinned (.plain (OpenSpec.ofChange mixBackSpec)) mixBackCard

/-- THE TIED CARD OF 'witlaw1.MixTells'. -/
def mixTellsCard : Claim7 := { stood := { row := mixTellsRow, standIns := [], harness := (true, "eab643e705a174696c1c1a683156c170f3e8417fec550c39105cc4936ac0b84a"), looks := true }, kinds := [], alts := [], laidByText := true, laidKinds := [.data, .data, .data, .handle, .sentinel, .sentinel], laidTests := true, laidLooks := .later }
def MixTellsCardSaid : Prop := Claim7.holds Tryd.pinned (.plain (OpenSpec.ofChange mixTellsSpec)) mixTellsCard

/-- THE TIED CARD OF 'witlaw1.HeadBack'. -/
def headBackCard : Claim7 := { stood := { row := headBackRow, standIns := [], harness := (true, "eab643e705a174696c1c1a683156c170f3e8417fec550c39105cc4936ac0b84a"), looks := true }, kinds := [], alts := [], laidByText := true, laidKinds := [.data, .data, .data, .data, .sentinel, .sentinel, .pinned], laidTests := true, laidLooks := .later }
def HeadBackCardSaid : Prop := Claim7.holds Tryd.pinned (.plain (OpenSpec.ofChange headBackSpec)) headBackCard

/-- THE TIED CARD OF 'witlaw3.AuditFinds'. -/
def auditFindsCard : Claim7 := { stood := { row := auditFindsRow, standIns := [], harness := (true, "eab643e705a174696c1c1a683156c170f3e8417fec550c39105cc4936ac0b84a"), looks := true }, kinds := [], alts := [], laidByText := true, laidKinds := [.data, .data, .data], laidTests := true, laidLooks := .later }
def AuditFindsCardSaid : Prop := Claim7.holds Tryd.pinned (.plain (OpenSpec.ofChange auditFindsSpec)) auditFindsCard

/-- THE TIED CARD OF 'witlaw3.ForkTells'. -/
def forkTellsCard : Claim7 := { stood := { row := forkTellsRow, standIns := [], harness := (true, "eab643e705a174696c1c1a683156c170f3e8417fec550c39105cc4936ac0b84a"), looks := true }, kinds := [], alts := [], laidByText := true, laidKinds := [.data, .data, .data, .handle], laidTests := true, laidLooks := .later }
def ForkTellsCardSaid : Prop := Claim7.holds Tryd.pinned (.plain (OpenSpec.ofChange forkTellsSpec)) forkTellsCard

/-- THE TIED CARD OF 'witlaw4.ForkOlder'. -/
def forkOlderCard : Claim7 := { stood := { row := forkOlderRow, standIns := [], harness := (true, "eab643e705a174696c1c1a683156c170f3e8417fec550c39105cc4936ac0b84a"), looks := true }, kinds := [], alts := [], laidByText := true, laidKinds := [.data, .data, .data, .handle], laidTests := true, laidLooks := .later }
def ForkOlderCardSaid : Prop := Claim7.holds Tryd.pinned (.plain (OpenSpec.ofChange forkOlderSpec)) forkOlderCard

/-- THE TIED CARD OF 'witlaw3.ForkFinds'. -/
def forkFindsCard : Claim7 := { stood := { row := forkFindsRow, standIns := [], harness := (true, "eab643e705a174696c1c1a683156c170f3e8417fec550c39105cc4936ac0b84a"), looks := true }, kinds := [], alts := [], laidByText := true, laidKinds := [.data, .data, .data, .handle], laidTests := true, laidLooks := .later }
def ForkFindsCardSaid : Prop := Claim7.holds Tryd.pinned (.plain (OpenSpec.ofChange forkFindsSpec)) forkFindsCard

/-- THE TIED CARD OF 'wittop.TopForks'. -/
def topForksCard : Claim7 := { stood := { row := topForksRow, standIns := [], harness := (true, "eab643e705a174696c1c1a683156c170f3e8417fec550c39105cc4936ac0b84a"), looks := true }, kinds := [], alts := [], laidByText := true, laidKinds := [.data, .data, .data], laidTests := true, laidLooks := .later }
def TopForksCardSaid : Prop := Claim7.holds Tryd.pinned (.plain (OpenSpec.ofChange topForksSpec)) topForksCard

/-- THE SECOND FORM's CARD OF 'witlaw1.MixBack'. -/
def mixBackUptoCard : Claim7 := { stood := { row := mixBackUptoRow, standIns := [], harness := (true, "eab643e705a174696c1c1a683156c170f3e8417fec550c39105cc4936ac0b84a"), looks := true }, kinds := [], alts := [], laidByText := true, laidKinds := [.data, .data, .data, .sentinel, .sentinel], laidTests := true, laidLooks := .later }
def MixBackUptoCardSaid : Prop := Claim7.holds Tryd.pinned (.plain (OpenSpec.upto mixBackSpec)) mixBackUptoCard

/-- THE SECOND FORM's CARD OF 'witlaw1.MixTells'. -/
def mixTellsUptoCard : Claim7 := { stood := { row := mixTellsUptoRow, standIns := [], harness := (true, "eab643e705a174696c1c1a683156c170f3e8417fec550c39105cc4936ac0b84a"), looks := true }, kinds := [], alts := [], laidByText := true, laidKinds := [.data, .data, .data, .handle, .sentinel, .sentinel], laidTests := true, laidLooks := .later }
def MixTellsUptoCardSaid : Prop := Claim7.holds Tryd.pinned (.plain (OpenSpec.upto mixTellsSpec)) mixTellsUptoCard

/-- THE SECOND FORM's CARD OF 'witlaw1.HeadBack'. -/
def headBackUptoCard : Claim7 := { stood := { row := headBackUptoRow, standIns := [], harness := (true, "eab643e705a174696c1c1a683156c170f3e8417fec550c39105cc4936ac0b84a"), looks := true }, kinds := [], alts := [], laidByText := true, laidKinds := [.data, .data, .data, .data, .sentinel, .sentinel, .pinned], laidTests := true, laidLooks := .later }
def HeadBackUptoCardSaid : Prop := Claim7.holds Tryd.pinned (.plain (OpenSpec.upto headBackSpec)) headBackUptoCard

/-- THE SECOND FORM's CARD OF 'witlaw3.AuditFinds'. -/
def auditFindsUptoCard : Claim7 := { stood := { row := auditFindsUptoRow, standIns := [], harness := (true, "eab643e705a174696c1c1a683156c170f3e8417fec550c39105cc4936ac0b84a"), looks := true }, kinds := [], alts := [], laidByText := true, laidKinds := [.data, .data, .data], laidTests := true, laidLooks := .later }
def AuditFindsUptoCardSaid : Prop := Claim7.holds Tryd.pinned (.plain (OpenSpec.upto auditFindsSpec)) auditFindsUptoCard

/-- THE SECOND FORM's CARD OF 'witlaw3.ForkTells'. -/
def forkTellsUptoCard : Claim7 := { stood := { row := forkTellsUptoRow, standIns := [], harness := (true, "eab643e705a174696c1c1a683156c170f3e8417fec550c39105cc4936ac0b84a"), looks := true }, kinds := [], alts := [], laidByText := true, laidKinds := [.data, .data, .data, .handle], laidTests := true, laidLooks := .later }
def ForkTellsUptoCardSaid : Prop := Claim7.holds Tryd.pinned (.plain (OpenSpec.upto forkTellsSpec)) forkTellsUptoCard

/-- THE SECOND FORM's CARD OF 'witlaw4.ForkOlder'. -/
def forkOlderUptoCard : Claim7 := { stood := { row := forkOlderUptoRow, standIns := [], harness := (true, "eab643e705a174696c1c1a683156c170f3e8417fec550c39105cc4936ac0b84a"), looks := true }, kinds := [], alts := [], laidByText := true, laidKinds := [.data, .data, .data, .handle], laidTests := true, laidLooks := .later }
def ForkOlderUptoCardSaid : Prop := Claim7.holds Tryd.pinned (.plain (OpenSpec.upto forkOlderSpec)) forkOlderUptoCard

/-- THE SECOND FORM's CARD OF 'witlaw3.ForkFinds'. -/
def forkFindsUptoCard : Claim7 := { stood := { row := forkFindsUptoRow, standIns := [], harness := (true, "eab643e705a174696c1c1a683156c170f3e8417fec550c39105cc4936ac0b84a"), looks := true }, kinds := [], alts := [], laidByText := true, laidKinds := [.data, .data, .data, .handle], laidTests := true, laidLooks := .later }
def ForkFindsUptoCardSaid : Prop := Claim7.holds Tryd.pinned (.plain (OpenSpec.upto forkFindsSpec)) forkFindsUptoCard

/-- THE SECOND FORM's CARD OF 'wittop.TopForks'. -/
def topForksUptoCard : Claim7 := { stood := { row := topForksUptoRow, standIns := [], harness := (true, "eab643e705a174696c1c1a683156c170f3e8417fec550c39105cc4936ac0b84a"), looks := true }, kinds := [], alts := [], laidByText := true, laidKinds := [.data, .data, .data], laidTests := true, laidLooks := .later }
def TopForksUptoCardSaid : Prop := Claim7.holds Tryd.pinned (.plain (OpenSpec.upto topForksSpec)) topForksUptoCard
end Rows
end Go.Proofs.YtelcabjhbgkfmaaDoor
