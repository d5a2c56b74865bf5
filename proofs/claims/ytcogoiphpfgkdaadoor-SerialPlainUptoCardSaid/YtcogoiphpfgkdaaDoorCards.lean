/-
  DERIVED. GIVEN WITH THE SEED: THE CARDS: each row of YtcogoiphpfgkdaaDoorRows.lean that lists a variable, with what it lists TIED to the program's text (the seventh form; the later family's looks); each row that meets fmt, with fmt's text TOLD by the authors' own Lean function (tested against real Go, not proved from fmt's source: count such statements apart). THE CARD IS WHAT COUNTS. Prove the row's statement (the work); the ties are given (YtcogoiphpfgkdaaDoorTie.lean); close each card by the builder's one call (the guide's Derived/Test/ToyasCard.lean, 'card_holds'). Laid BY PROGRAM, IN A SANDBOX (cutbox-door.mjs). By AI agents, Wed Nov 11 2026. No macro, syntax, notation, axiom, sorry.
-/
import Derived.Test.YtcogoiphpfgkdaaDoorRows
import GoSem.ClaimSeven
namespace Go.Proofs.YtcogoiphpfgkdaaDoor
namespace Rows

/-- THE TIED CARD OF 'sievelaw24.SerialNames'. -/
def serialNamesCard : Claim7 := { stood := { row := serialNamesRow, standIns := [], harness := (true, "bd2cbd4899ef2a97b4ee098d00c3a107b2cd4e4e3383cbeca841e8cc260944cf"), looks := false }, kinds := [], alts := [], laidByText := true, laidKinds := [.listed, .data, .data], laidTests := true, laidLooks := .later }
def SerialNamesCardSaid : Prop := Claim7.holds Tryd.pinned (.plain (OpenSpec.ofChange serialNamesSpec)) serialNamesCard

/-- THE TIED CARD OF 'sievelaw24.SerialTexts'. -/
def serialTextsCard : Claim7 := { stood := { row := serialTextsRow, standIns := [], harness := (true, "bd2cbd4899ef2a97b4ee098d00c3a107b2cd4e4e3383cbeca841e8cc260944cf"), looks := false }, kinds := [], alts := [], laidByText := true, laidKinds := [.listed, .data, .data], laidTests := true, laidLooks := .later }
def SerialTextsCardSaid : Prop := Claim7.holds Tryd.pinned (.plain (OpenSpec.ofChange serialTextsSpec)) serialTextsCard

/-- THE TIED CARD OF 'sievelaw24.SerialPieces'. -/
def serialPiecesCard : Claim7 := { stood := { row := serialPiecesRow, standIns := [], harness := (true, "bd2cbd4899ef2a97b4ee098d00c3a107b2cd4e4e3383cbeca841e8cc260944cf"), looks := false }, kinds := [], alts := [], laidByText := true, laidKinds := [.listed, .data, .data], laidTests := true, laidLooks := .later }
def SerialPiecesCardSaid : Prop := Claim7.holds Tryd.pinned (.plain (OpenSpec.ofChange serialPiecesSpec)) serialPiecesCard

/-- THE TIED CARD OF 'sievelaw24.SerialParts'. -/
def serialPartsCard : Claim7 := { stood := { row := serialPartsRow, standIns := [], harness := (true, "bd2cbd4899ef2a97b4ee098d00c3a107b2cd4e4e3383cbeca841e8cc260944cf"), looks := false }, kinds := [], alts := [], laidByText := true, laidKinds := [.listed, .data, .data], laidTests := true, laidLooks := .later }
def SerialPartsCardSaid : Prop := Claim7.holds Tryd.pinned (.plain (OpenSpec.ofChange serialPartsSpec)) serialPartsCard

/-- THE TIED CARD OF 'sievelaw24.SerialTags'. -/
def serialTagsCard : Claim7 := { stood := { row := serialTagsRow, standIns := [], harness := (true, "bd2cbd4899ef2a97b4ee098d00c3a107b2cd4e4e3383cbeca841e8cc260944cf"), looks := false }, kinds := [], alts := [], laidByText := true, laidKinds := [.listed, .data, .data], laidTests := true, laidLooks := .later }
def SerialTagsCardSaid : Prop := Claim7.holds Tryd.pinned (.plain (OpenSpec.ofChange serialTagsSpec)) serialTagsCard

/-- THE TIED CARD OF 'sievelaw24.SerialSafe'. -/
def serialSafeCard : Claim7 := { stood := { row := serialSafeRow, standIns := [], harness := (true, "bd2cbd4899ef2a97b4ee098d00c3a107b2cd4e4e3383cbeca841e8cc260944cf"), looks := false }, kinds := [], alts := [], laidByText := true, laidKinds := [.listed, .data, .data], laidTests := true, laidLooks := .later }
def SerialSafeCardSaid : Prop := Claim7.holds Tryd.pinned (.plain (OpenSpec.ofChange serialSafeSpec)) serialSafeCard

/-- THE TIED CARD OF 'sievelaw24.SerialPlain'. -/
def serialPlainCard : Claim7 := { stood := { row := serialPlainRow, standIns := [], harness := (true, "bd2cbd4899ef2a97b4ee098d00c3a107b2cd4e4e3383cbeca841e8cc260944cf"), looks := false }, kinds := [], alts := [], laidByText := true, laidKinds := [.data, .listed, .data, .data, .pinned], laidTests := true, laidLooks := .later }
def SerialPlainCardSaid : Prop := Claim7.holds Tryd.pinned (.plain (OpenSpec.ofChange serialPlainSpec)) serialPlainCard

/-- THE SECOND FORM's CARD OF 'sievelaw24.SerialNames'. -/
def serialNamesUptoCard : Claim7 := { stood := { row := serialNamesUptoRow, standIns := [], harness := (true, "bd2cbd4899ef2a97b4ee098d00c3a107b2cd4e4e3383cbeca841e8cc260944cf"), looks := false }, kinds := [], alts := [], laidByText := true, laidKinds := [.listed, .data, .data], laidTests := true, laidLooks := .later }
def SerialNamesUptoCardSaid : Prop := Claim7.holds Tryd.pinned (.plain (OpenSpec.upto serialNamesSpec)) serialNamesUptoCard

/-- THE SECOND FORM's CARD OF 'sievelaw24.SerialTexts'. -/
def serialTextsUptoCard : Claim7 := { stood := { row := serialTextsUptoRow, standIns := [], harness := (true, "bd2cbd4899ef2a97b4ee098d00c3a107b2cd4e4e3383cbeca841e8cc260944cf"), looks := false }, kinds := [], alts := [], laidByText := true, laidKinds := [.listed, .data, .data], laidTests := true, laidLooks := .later }
def SerialTextsUptoCardSaid : Prop := Claim7.holds Tryd.pinned (.plain (OpenSpec.upto serialTextsSpec)) serialTextsUptoCard

/-- THE SECOND FORM's CARD OF 'sievelaw24.SerialPieces'. -/
def serialPiecesUptoCard : Claim7 := { stood := { row := serialPiecesUptoRow, standIns := [], harness := (true, "bd2cbd4899ef2a97b4ee098d00c3a107b2cd4e4e3383cbeca841e8cc260944cf"), looks := false }, kinds := [], alts := [], laidByText := true, laidKinds := [.listed, .data, .data], laidTests := true, laidLooks := .later }
def SerialPiecesUptoCardSaid : Prop := Claim7.holds Tryd.pinned (.plain (OpenSpec.upto serialPiecesSpec)) serialPiecesUptoCard

/-- THE SECOND FORM's CARD OF 'sievelaw24.SerialParts'. -/
def serialPartsUptoCard : Claim7 := { stood := { row := serialPartsUptoRow, standIns := [], harness := (true, "bd2cbd4899ef2a97b4ee098d00c3a107b2cd4e4e3383cbeca841e8cc260944cf"), looks := false }, kinds := [], alts := [], laidByText := true, laidKinds := [.listed, .data, .data], laidTests := true, laidLooks := .later }
def SerialPartsUptoCardSaid : Prop := Claim7.holds Tryd.pinned (.plain (OpenSpec.upto serialPartsSpec)) serialPartsUptoCard

/-- THE SECOND FORM's CARD OF 'sievelaw24.SerialTags'. -/
def serialTagsUptoCard : Claim7 := { stood := { row := serialTagsUptoRow, standIns := [], harness := (true, "bd2cbd4899ef2a97b4ee098d00c3a107b2cd4e4e3383cbeca841e8cc260944cf"), looks := false }, kinds := [], alts := [], laidByText := true, laidKinds := [.listed, .data, .data], laidTests := true, laidLooks := .later }
def SerialTagsUptoCardSaid : Prop := Claim7.holds Tryd.pinned (.plain (OpenSpec.upto serialTagsSpec)) serialTagsUptoCard

/-- THE SECOND FORM's CARD OF 'sievelaw24.SerialSafe'. -/
def serialSafeUptoCard : Claim7 := { stood := { row := serialSafeUptoRow, standIns := [], harness := (true, "bd2cbd4899ef2a97b4ee098d00c3a107b2cd4e4e3383cbeca841e8cc260944cf"), looks := false }, kinds := [], alts := [], laidByText := true, laidKinds := [.listed, .data, .data], laidTests := true, laidLooks := .later }
def SerialSafeUptoCardSaid : Prop := Claim7.holds Tryd.pinned (.plain (OpenSpec.upto serialSafeSpec)) serialSafeUptoCard

/-- THE SECOND FORM's CARD OF 'sievelaw24.SerialPlain'. -/
def serialPlainUptoCard : Claim7 := { stood := { row := serialPlainUptoRow, standIns := [], harness := (true, "bd2cbd4899ef2a97b4ee098d00c3a107b2cd4e4e3383cbeca841e8cc260944cf"), looks := false }, kinds := [], alts := [], laidByText := true, laidKinds := [.data, .listed, .data, .data, .pinned], laidTests := true, laidLooks := .later }
def SerialPlainUptoCardSaid : Prop := Claim7.holds Tryd.pinned (.plain (OpenSpec.upto serialPlainSpec)) serialPlainUptoCard
end Rows
end Go.Proofs.YtcogoiphpfgkdaaDoor
