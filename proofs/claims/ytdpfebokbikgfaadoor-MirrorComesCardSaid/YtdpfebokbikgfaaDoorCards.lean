/-
  DERIVED. GIVEN WITH THE SEED: THE CARDS: each row of YtdpfebokbikgfaaDoorRows.lean that lists a variable, with what it lists TIED to the program's text (the seventh form; the later family's looks); each row that meets fmt, with fmt's text TOLD by the authors' own Lean function (tested against real Go, not proved from fmt's source: count such statements apart). THE CARD IS WHAT COUNTS. Prove the row's statement (the work); the ties are given (YtdpfebokbikgfaaDoorTie.lean); close each card by the builder's one call (the guide's Derived/Test/ToyasCard.lean, 'card_holds'). Laid BY PROGRAM, IN A SANDBOX (cutbox-door.mjs). By AI agents, Wed Nov 11 2026. No macro, syntax, notation, axiom, sorry.
-/
import Derived.Test.YtdpfebokbikgfaaDoorRows
import GoSem.ClaimSeven
namespace Go.Proofs.YtdpfebokbikgfaaDoor
namespace Rows

/-- THE TIED CARD OF 'wittop.TopForks'. -/
def topForksCard : Claim7 := { stood := { row := topForksRow, standIns := [], harness := (true, "d686e8e42601e250e92058b90980255bb6e83aad66fc1a9276fd107d7effec70"), looks := true }, kinds := [], alts := [], laidByText := true, laidKinds := [.data, .data, .data], laidTests := true, laidLooks := .later }
def TopForksCardSaid : Prop := Claim7.holds Tryd.pinned (.plain (OpenSpec.ofChange topForksSpec)) topForksCard

/-- THE TIED CARD OF 'witlaw4.MirrorPages'. -/
def mirrorPagesCard : Claim7 := { stood := { row := mirrorPagesRow, standIns := [], harness := (true, "d686e8e42601e250e92058b90980255bb6e83aad66fc1a9276fd107d7effec70"), looks := true }, kinds := [], alts := [], laidByText := true, laidKinds := [.data, .data, .data], laidTests := true, laidLooks := .later }
def MirrorPagesCardSaid : Prop := Claim7.holds Tryd.pinned (.plain (OpenSpec.ofChange mirrorPagesSpec)) mirrorPagesCard

/-- THE TIED CARD OF 'witlaw2.MirrorTrusts'. -/
def mirrorTrustsCard : Claim7 := { stood := { row := mirrorTrustsRow, standIns := [], harness := (true, "d686e8e42601e250e92058b90980255bb6e83aad66fc1a9276fd107d7effec70"), looks := true }, kinds := [], alts := [], laidByText := true, laidKinds := [.data, .data, .data], laidTests := true, laidLooks := .later }
def MirrorTrustsCardSaid : Prop := Claim7.holds Tryd.pinned (.plain (OpenSpec.ofChange mirrorTrustsSpec)) mirrorTrustsCard

/-- THE TIED CARD OF 'witlaw2.MirrorComes'. -/
def mirrorComesCard : Claim7 := { stood := { row := mirrorComesRow, standIns := [], harness := (true, "d686e8e42601e250e92058b90980255bb6e83aad66fc1a9276fd107d7effec70"), looks := true }, kinds := [], alts := [], laidByText := true, laidKinds := [.data, .data, .data], laidTests := true, laidLooks := .later }
def MirrorComesCardSaid : Prop := Claim7.holds Tryd.pinned (.plain (OpenSpec.ofChange mirrorComesSpec)) mirrorComesCard

/-- THE TIED CARD OF 'witlaw3.ForkFinds'. -/
def forkFindsCard : Claim7 := { stood := { row := forkFindsRow, standIns := [], harness := (true, "d686e8e42601e250e92058b90980255bb6e83aad66fc1a9276fd107d7effec70"), looks := true }, kinds := [], alts := [], laidByText := true, laidKinds := [.data, .data, .data, .handle], laidTests := true, laidLooks := .later }
def ForkFindsCardSaid : Prop := Claim7.holds Tryd.pinned (.plain (OpenSpec.ofChange forkFindsSpec)) forkFindsCard

/-- THE SECOND FORM's CARD OF 'wittop.TopForks'. -/
def topForksUptoCard : Claim7 := { stood := { row := topForksUptoRow, standIns := [], harness := (true, "d686e8e42601e250e92058b90980255bb6e83aad66fc1a9276fd107d7effec70"), looks := true }, kinds := [], alts := [], laidByText := true, laidKinds := [.data, .data, .data], laidTests := true, laidLooks := .later }
def TopForksUptoCardSaid : Prop := Claim7.holds Tryd.pinned (.plain (OpenSpec.upto topForksSpec)) topForksUptoCard

/-- THE SECOND FORM's CARD OF 'witlaw4.MirrorPages'. -/
def mirrorPagesUptoCard : Claim7 := { stood := { row := mirrorPagesUptoRow, standIns := [], harness := (true, "d686e8e42601e250e92058b90980255bb6e83aad66fc1a9276fd107d7effec70"), looks := true }, kinds := [], alts := [], laidByText := true, laidKinds := [.data, .data, .data], laidTests := true, laidLooks := .later }
def MirrorPagesUptoCardSaid : Prop := Claim7.holds Tryd.pinned (.plain (OpenSpec.upto mirrorPagesSpec)) mirrorPagesUptoCard

/-- THE SECOND FORM's CARD OF 'witlaw2.MirrorTrusts'. -/
def mirrorTrustsUptoCard : Claim7 := { stood := { row := mirrorTrustsUptoRow, standIns := [], harness := (true, "d686e8e42601e250e92058b90980255bb6e83aad66fc1a9276fd107d7effec70"), looks := true }, kinds := [], alts := [], laidByText := true, laidKinds := [.data, .data, .data], laidTests := true, laidLooks := .later }
def MirrorTrustsUptoCardSaid : Prop := Claim7.holds Tryd.pinned (.plain (OpenSpec.upto mirrorTrustsSpec)) mirrorTrustsUptoCard

/-- THE SECOND FORM's CARD OF 'witlaw2.MirrorComes'. -/
def mirrorComesUptoCard : Claim7 := { stood := { row := mirrorComesUptoRow, standIns := [], harness := (true, "d686e8e42601e250e92058b90980255bb6e83aad66fc1a9276fd107d7effec70"), looks := true }, kinds := [], alts := [], laidByText := true, laidKinds := [.data, .data, .data], laidTests := true, laidLooks := .later }
def MirrorComesUptoCardSaid : Prop := Claim7.holds Tryd.pinned (.plain (OpenSpec.upto mirrorComesSpec)) mirrorComesUptoCard

/-- THE SECOND FORM's CARD OF 'witlaw3.ForkFinds'. -/
def forkFindsUptoCard : Claim7 := { stood := { row := forkFindsUptoRow, standIns := [], harness := (true, "d686e8e42601e250e92058b90980255bb6e83aad66fc1a9276fd107d7effec70"), looks := true }, kinds := [], alts := [], laidByText := true, laidKinds := [.data, .data, .data, .handle], laidTests := true, laidLooks := .later }
def ForkFindsUptoCardSaid : Prop := Claim7.holds Tryd.pinned (.plain (OpenSpec.upto forkFindsSpec)) forkFindsUptoCard
end Rows
end Go.Proofs.YtdpfebokbikgfaaDoor
