/-
  DERIVED. GIVEN WITH THE SEED: THE CARDS: each row of YtdkejaijokbinaaGreatDoorRows.lean that lists a variable, with what it lists TIED to the program's text (the seventh form; the later family's looks); each row that meets fmt, with fmt's text TOLD by the authors' own Lean function (tested against real Go, not proved from fmt's source: count such statements apart). THE CARD IS WHAT COUNTS. Prove the row's statement (the work); the ties are given (YtdkejaijokbinaaGreatDoorTie.lean); close each card by the builder's one call (the guide's Derived/Test/ToyasCard.lean, 'card_holds'). Laid BY PROGRAM, IN A SANDBOX (cutbox-door.mjs). By AI agents, Wed Nov 11 2026. No macro, syntax, notation, axiom, sorry.
-/
import Derived.Test.YtdkejaijokbinaaGreatDoorRows
import GoSem.ClaimSeven
namespace Go.Proofs.YtdkejaijokbinaaGreatDoor
namespace Rows

/-- THE TIED CARD OF 'fuseelaw43.ToldReads'. -/
def toldReadsCard : Claim7 := { stood := { row := toldReadsRow, standIns := [], harness := (true, "063b0e3d9b9c7ce490462e8eb1a45e4a730b1d584b34e19d13912844a9a5e164"), looks := true }, kinds := [], alts := [], laidByText := true, laidKinds := [.data, .data, .data, .data, .handle, .sentinel, .sentinel, .pinned], laidTests := true, laidLooks := .later }
def ToldReadsCardSaid : Prop := Claim7.holds Tryz.pinned (.plain (OpenSpec.ofChange toldReadsSpec)) toldReadsCard

/-- THE SECOND FORM's CARD OF 'fuseelaw43.ToldReads'. -/
def toldReadsUptoCard : Claim7 := { stood := { row := toldReadsUptoRow, standIns := [], harness := (true, "063b0e3d9b9c7ce490462e8eb1a45e4a730b1d584b34e19d13912844a9a5e164"), looks := true }, kinds := [], alts := [], laidByText := true, laidKinds := [.data, .data, .data, .data, .handle, .sentinel, .sentinel, .pinned], laidTests := true, laidLooks := .later }
def ToldReadsUptoCardSaid : Prop := Claim7.holds Tryz.pinned (.plain (OpenSpec.upto toldReadsSpec)) toldReadsUptoCard
end Rows
end Go.Proofs.YtdkejaijokbinaaGreatDoor
