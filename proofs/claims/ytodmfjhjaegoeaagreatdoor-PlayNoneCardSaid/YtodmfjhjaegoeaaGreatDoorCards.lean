/-
  DERIVED. GIVEN WITH THE SEED: THE CARDS: each row of YtodmfjhjaegoeaaGreatDoorRows.lean that lists a variable, with what it lists TIED to the program's text (the seventh form; the later family's looks); each row that meets fmt, with fmt's text TOLD by the authors' own Lean function (tested against real Go, not proved from fmt's source: count such statements apart). THE CARD IS WHAT COUNTS. Prove the row's statement (the work); the ties are given (YtodmfjhjaegoeaaGreatDoorTie.lean); close each card by the builder's one call (the guide's Derived/Test/ToyasCard.lean, 'card_holds'). Laid BY PROGRAM, IN A SANDBOX (cutbox-door.mjs). By AI agents, Wed Nov 11 2026. No macro, syntax, notation, axiom, sorry.
-/
import Derived.Test.YtodmfjhjaegoeaaGreatDoorRows
import GoSem.ClaimSeven
namespace Go.Proofs.YtodmfjhjaegoeaaGreatDoor
namespace Rows

/-- THE TIED CARD OF 'bindlelaw28.ArchiveNone'. -/
def archiveNoneCard : Claim7 := { stood := { row := archiveNoneRow, standIns := [], harness := (true, "e50365021307fe4b92fea38eda7ddd5649850478a44cee9ee9b5d4e20f907146"), looks := true }, kinds := [], alts := [], laidByText := true, laidKinds := [.data, .pinned], laidTests := true, laidLooks := .later }
def ArchiveNoneCardSaid : Prop := Claim7.holds Tryz.pinned (.plain (OpenSpec.ofChange archiveNoneSpec)) archiveNoneCard

/-- THE TIED CARD OF 'bindlelaw32.PlayNone'. -/
def playNoneCard : Claim7 := { stood := { row := playNoneRow, standIns := [], harness := (true, "e50365021307fe4b92fea38eda7ddd5649850478a44cee9ee9b5d4e20f907146"), looks := true }, kinds := [], alts := [], laidByText := true, laidKinds := [.data, .pinned], laidTests := true, laidLooks := .later }
def PlayNoneCardSaid : Prop := Claim7.holds Tryz.pinned (.plain (OpenSpec.ofChange playNoneSpec)) playNoneCard

/-- THE SECOND FORM's CARD OF 'bindlelaw28.ArchiveNone'. -/
def archiveNoneUptoCard : Claim7 := { stood := { row := archiveNoneUptoRow, standIns := [], harness := (true, "e50365021307fe4b92fea38eda7ddd5649850478a44cee9ee9b5d4e20f907146"), looks := true }, kinds := [], alts := [], laidByText := true, laidKinds := [.data, .pinned], laidTests := true, laidLooks := .later }
def ArchiveNoneUptoCardSaid : Prop := Claim7.holds Tryz.pinned (.plain (OpenSpec.upto archiveNoneSpec)) archiveNoneUptoCard

/-- THE SECOND FORM's CARD OF 'bindlelaw32.PlayNone'. -/
def playNoneUptoCard : Claim7 := { stood := { row := playNoneUptoRow, standIns := [], harness := (true, "e50365021307fe4b92fea38eda7ddd5649850478a44cee9ee9b5d4e20f907146"), looks := true }, kinds := [], alts := [], laidByText := true, laidKinds := [.data, .pinned], laidTests := true, laidLooks := .later }
def PlayNoneUptoCardSaid : Prop := Claim7.holds Tryz.pinned (.plain (OpenSpec.upto playNoneSpec)) playNoneUptoCard
end Rows
end Go.Proofs.YtodmfjhjaegoeaaGreatDoor
