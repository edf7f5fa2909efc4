/-
  DERIVED. GIVEN WITH THE SEED: THE CARDS: each row of YtpbahoapjkmcjaaDoorRows.lean that lists a variable, with what it lists TIED to the program's text (the seventh form; the later family's looks); each row that meets fmt, with fmt's text TOLD by the authors' own Lean function (tested against real Go, not proved from fmt's source: count such statements apart). THE CARD IS WHAT COUNTS. Prove the row's statement (the work); the ties are given (YtpbahoapjkmcjaaDoorTie.lean); close each card by the builder's one call (the guide's Derived/Test/ToyasCard.lean, 'card_holds'). Laid BY PROGRAM, IN A SANDBOX (cutbox-door.mjs). By AI agents, Wed Nov 11 2026. No macro, syntax, notation, axiom, sorry.
-/
import Derived.Test.YtpbahoapjkmcjaaDoorRows
import GoSem.ClaimSeven
namespace Go.Proofs.YtpbahoapjkmcjaaDoor
namespace Rows

/-- THE TIED CARD OF 'tarmaclaw01.ShaTells'. -/
def shaTellsCard : Claim7 := { stood := { row := shaTellsRow, standIns := [], harness := (true, "956aa3e0c7058d9ae28d05a6734efaa921fa24d0dd0cfe156b5ee76f85330d4d"), looks := false }, kinds := [], alts := [], laidByText := true, laidKinds := [.data], laidTests := true, laidLooks := .later }
def ShaTellsCardSaid : Prop := Claim7.holds Tryd.pinned (.plain (OpenSpec.ofChange shaTellsSpec)) shaTellsCard

/-- THE TIED CARD OF 'tarmaclaw01.ShaTexts'. -/
def shaTextsCard : Claim7 := { stood := { row := shaTextsRow, standIns := [], harness := (true, "956aa3e0c7058d9ae28d05a6734efaa921fa24d0dd0cfe156b5ee76f85330d4d"), looks := false }, kinds := [], alts := [], laidByText := true, laidKinds := [.data], laidTests := true, laidLooks := .later }
def ShaTextsCardSaid : Prop := Claim7.holds Tryd.pinned (.plain (OpenSpec.ofChange shaTextsSpec)) shaTextsCard

/-- THE TIED CARD OF 'tarmaclaw01.ShaKnown'. -/
def shaKnownCard : Claim7 := { stood := { row := shaKnownRow, standIns := [], harness := (true, "956aa3e0c7058d9ae28d05a6734efaa921fa24d0dd0cfe156b5ee76f85330d4d"), looks := false }, kinds := [], alts := [], laidByText := true, laidKinds := [.data], laidTests := true, laidLooks := .later }
def ShaKnownCardSaid : Prop := Claim7.holds Tryd.pinned (.plain (OpenSpec.ofChange shaKnownSpec)) shaKnownCard

/-- THE TIED CARD OF 'tarmaclaw01.ShaNil'. -/
def shaNilCard : Claim7 := { stood := { row := shaNilRow, standIns := [], harness := (true, "956aa3e0c7058d9ae28d05a6734efaa921fa24d0dd0cfe156b5ee76f85330d4d"), looks := false }, kinds := [], alts := [], laidByText := true, laidKinds := [.data], laidTests := true, laidLooks := .later }
def ShaNilCardSaid : Prop := Claim7.holds Tryd.pinned (.plain (OpenSpec.ofChange shaNilSpec)) shaNilCard

/-- THE TIED CARD OF 'tarmaclaw01.ShaPieces'. -/
def shaPiecesCard : Claim7 := { stood := { row := shaPiecesRow, standIns := [], harness := (true, "956aa3e0c7058d9ae28d05a6734efaa921fa24d0dd0cfe156b5ee76f85330d4d"), looks := false }, kinds := [], alts := [], laidByText := true, laidKinds := [.data], laidTests := true, laidLooks := .later }
def ShaPiecesCardSaid : Prop := Claim7.holds Tryd.pinned (.plain (OpenSpec.ofChange shaPiecesSpec)) shaPiecesCard

/-- THE TIED CARD OF 'tarmaclaw02.MacKnown'. -/
def macKnownCard : Claim7 := { stood := { row := macKnownRow, standIns := [], harness := (true, "956aa3e0c7058d9ae28d05a6734efaa921fa24d0dd0cfe156b5ee76f85330d4d"), looks := false }, kinds := [], alts := [], laidByText := true, laidKinds := [.data], laidTests := true, laidLooks := .later }
def MacKnownCardSaid : Prop := Claim7.holds Tryd.pinned (.plain (OpenSpec.ofChange macKnownSpec)) macKnownCard

/-- THE TIED CARD OF 'tarmaclaw02.MacNil'. -/
def macNilCard : Claim7 := { stood := { row := macNilRow, standIns := [], harness := (true, "956aa3e0c7058d9ae28d05a6734efaa921fa24d0dd0cfe156b5ee76f85330d4d"), looks := false }, kinds := [], alts := [], laidByText := true, laidKinds := [.data], laidTests := true, laidLooks := .later }
def MacNilCardSaid : Prop := Claim7.holds Tryd.pinned (.plain (OpenSpec.ofChange macNilSpec)) macNilCard

/-- THE TIED CARD OF 'tarmaclaw02.MacPieces'. -/
def macPiecesCard : Claim7 := { stood := { row := macPiecesRow, standIns := [], harness := (true, "956aa3e0c7058d9ae28d05a6734efaa921fa24d0dd0cfe156b5ee76f85330d4d"), looks := false }, kinds := [], alts := [], laidByText := true, laidKinds := [.data], laidTests := true, laidLooks := .later }
def MacPiecesCardSaid : Prop := Claim7.holds Tryd.pinned (.plain (OpenSpec.ofChange macPiecesSpec)) macPiecesCard

/-- THE TIED CARD OF 'tarmaclaw02.MacKeys'. -/
def macKeysCard : Claim7 := { stood := { row := macKeysRow, standIns := [], harness := (true, "956aa3e0c7058d9ae28d05a6734efaa921fa24d0dd0cfe156b5ee76f85330d4d"), looks := false }, kinds := [], alts := [], laidByText := true, laidKinds := [.data], laidTests := true, laidLooks := .later }
def MacKeysCardSaid : Prop := Claim7.holds Tryd.pinned (.plain (OpenSpec.ofChange macKeysSpec)) macKeysCard

/-- THE TIED CARD OF 'tarmaclaw02.MacTells'. -/
def macTellsCard : Claim7 := { stood := { row := macTellsRow, standIns := [], harness := (true, "956aa3e0c7058d9ae28d05a6734efaa921fa24d0dd0cfe156b5ee76f85330d4d"), looks := false }, kinds := [], alts := [], laidByText := true, laidKinds := [.data], laidTests := true, laidLooks := .later }
def MacTellsCardSaid : Prop := Claim7.holds Tryd.pinned (.plain (OpenSpec.ofChange macTellsSpec)) macTellsCard

/-- THE SECOND FORM's CARD OF 'tarmaclaw01.ShaTells'. -/
def shaTellsUptoCard : Claim7 := { stood := { row := shaTellsUptoRow, standIns := [], harness := (true, "956aa3e0c7058d9ae28d05a6734efaa921fa24d0dd0cfe156b5ee76f85330d4d"), looks := false }, kinds := [], alts := [], laidByText := true, laidKinds := [.data], laidTests := true, laidLooks := .later }
def ShaTellsUptoCardSaid : Prop := Claim7.holds Tryd.pinned (.plain (OpenSpec.upto shaTellsSpec)) shaTellsUptoCard

/-- THE SECOND FORM's CARD OF 'tarmaclaw01.ShaTexts'. -/
def shaTextsUptoCard : Claim7 := { stood := { row := shaTextsUptoRow, standIns := [], harness := (true, "956aa3e0c7058d9ae28d05a6734efaa921fa24d0dd0cfe156b5ee76f85330d4d"), looks := false }, kinds := [], alts := [], laidByText := true, laidKinds := [.data], laidTests := true, laidLooks := .later }
def ShaTextsUptoCardSaid : Prop := Claim7.holds Tryd.pinned (.plain (OpenSpec.upto shaTextsSpec)) shaTextsUptoCard

/-- THE SECOND FORM's CARD OF 'tarmaclaw01.ShaKnown'. -/
def shaKnownUptoCard : Claim7 := { stood := { row := shaKnownUptoRow, standIns := [], harness := (true, "956aa3e0c7058d9ae28d05a6734efaa921fa24d0dd0cfe156b5ee76f85330d4d"), looks := false }, kinds := [], alts := [], laidByText := true, laidKinds := [.data], laidTests := true, laidLooks := .later }
def ShaKnownUptoCardSaid : Prop := Claim7.holds Tryd.pinned (.plain (OpenSpec.upto shaKnownSpec)) shaKnownUptoCard

/-- THE SECOND FORM's CARD OF 'tarmaclaw01.ShaNil'. -/
def shaNilUptoCard : Claim7 := { stood := { row := shaNilUptoRow, standIns := [], harness := (true, "956aa3e0c7058d9ae28d05a6734efaa921fa24d0dd0cfe156b5ee76f85330d4d"), looks := false }, kinds := [], alts := [], laidByText := true, laidKinds := [.data], laidTests := true, laidLooks := .later }
def ShaNilUptoCardSaid : Prop := Claim7.holds Tryd.pinned (.plain (OpenSpec.upto shaNilSpec)) shaNilUptoCard

/-- THE SECOND FORM's CARD OF 'tarmaclaw01.ShaPieces'. -/
def shaPiecesUptoCard : Claim7 := { stood := { row := shaPiecesUptoRow, standIns := [], harness := (true, "956aa3e0c7058d9ae28d05a6734efaa921fa24d0dd0cfe156b5ee76f85330d4d"), looks := false }, kinds := [], alts := [], laidByText := true, laidKinds := [.data], laidTests := true, laidLooks := .later }
def ShaPiecesUptoCardSaid : Prop := Claim7.holds Tryd.pinned (.plain (OpenSpec.upto shaPiecesSpec)) shaPiecesUptoCard

/-- THE SECOND FORM's CARD OF 'tarmaclaw02.MacKnown'. -/
def macKnownUptoCard : Claim7 := { stood := { row := macKnownUptoRow, standIns := [], harness := (true, "956aa3e0c7058d9ae28d05a6734efaa921fa24d0dd0cfe156b5ee76f85330d4d"), looks := false }, kinds := [], alts := [], laidByText := true, laidKinds := [.data], laidTests := true, laidLooks := .later }
def MacKnownUptoCardSaid : Prop := Claim7.holds Tryd.pinned (.plain (OpenSpec.upto macKnownSpec)) macKnownUptoCard

/-- THE SECOND FORM's CARD OF 'tarmaclaw02.MacNil'. -/
def macNilUptoCard : Claim7 := { stood := { row := macNilUptoRow, standIns := [], harness := (true, "956aa3e0c7058d9ae28d05a6734efaa921fa24d0dd0cfe156b5ee76f85330d4d"), looks := false }, kinds := [], alts := [], laidByText := true, laidKinds := [.data], laidTests := true, laidLooks := .later }
def MacNilUptoCardSaid : Prop := Claim7.holds Tryd.pinned (.plain (OpenSpec.upto macNilSpec)) macNilUptoCard

/-- THE SECOND FORM's CARD OF 'tarmaclaw02.MacPieces'. -/
def macPiecesUptoCard : Claim7 := { stood := { row := macPiecesUptoRow, standIns := [], harness := (true, "956aa3e0c7058d9ae28d05a6734efaa921fa24d0dd0cfe156b5ee76f85330d4d"), looks := false }, kinds := [], alts := [], laidByText := true, laidKinds := [.data], laidTests := true, laidLooks := .later }
def MacPiecesUptoCardSaid : Prop := Claim7.holds Tryd.pinned (.plain (OpenSpec.upto macPiecesSpec)) macPiecesUptoCard

/-- THE SECOND FORM's CARD OF 'tarmaclaw02.MacKeys'. -/
def macKeysUptoCard : Claim7 := { stood := { row := macKeysUptoRow, standIns := [], harness := (true, "956aa3e0c7058d9ae28d05a6734efaa921fa24d0dd0cfe156b5ee76f85330d4d"), looks := false }, kinds := [], alts := [], laidByText := true, laidKinds := [.data], laidTests := true, laidLooks := .later }
def MacKeysUptoCardSaid : Prop := Claim7.holds Tryd.pinned (.plain (OpenSpec.upto macKeysSpec)) macKeysUptoCard

/-- THE SECOND FORM's CARD OF 'tarmaclaw02.MacTells'. -/
def macTellsUptoCard : Claim7 := { stood := { row := macTellsUptoRow, standIns := [], harness := (true, "956aa3e0c7058d9ae28d05a6734efaa921fa24d0dd0cfe156b5ee76f85330d4d"), looks := false }, kinds := [], alts := [], laidByText := true, laidKinds := [.data], laidTests := true, laidLooks := .later }
def MacTellsUptoCardSaid : Prop := Claim7.holds Tryd.pinned (.plain (OpenSpec.upto macTellsSpec)) macTellsUptoCard
end Rows
end Go.Proofs.YtpbahoapjkmcjaaDoor
