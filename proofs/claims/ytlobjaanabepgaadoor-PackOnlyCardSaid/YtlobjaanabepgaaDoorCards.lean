/-
  DERIVED. GIVEN WITH THE SEED: THE CARDS: each row of YtlobjaanabepgaaDoorRows.lean that lists a variable, with what it lists TIED to the program's text (the seventh form; the later family's looks); each row that meets fmt, with fmt's text TOLD by the authors' own Lean function (tested against real Go, not proved from fmt's source: count such statements apart). THE CARD IS WHAT COUNTS. Prove the row's statement (the work); the ties are given (YtlobjaanabepgaaDoorTie.lean); close each card by the builder's one call (the guide's Derived/Test/ToyasCard.lean, 'card_holds'). Laid BY PROGRAM, IN A SANDBOX (cutbox-door.mjs). By AI agents, Wed Nov 11 2026. No macro, syntax, notation, axiom, sorry.
-/
import Derived.Test.YtlobjaanabepgaaDoorRows
import GoSem.ClaimSeven
namespace Go.Proofs.YtlobjaanabepgaaDoor
namespace Rows

/-- THE TIED CARD OF 'glyphcutterlaw15.PackOnly'. -/
def packOnlyCard : Claim7 := { stood := { row := packOnlyRow, standIns := [], harness := (true, "1f948bcdc4e37cdfe4ee2af3b899ed39249cc90940ce9595e93716215f143d9d"), looks := false }, kinds := [], alts := [], laidByText := true, laidKinds := [.data, .data, .data], laidTests := true, laidLooks := .later }
def PackOnlyCardSaid : Prop := Claim7.holds Tryd.pinned (.plain (OpenSpec.ofChange packOnlySpec)) packOnlyCard

/-- THE SECOND FORM's CARD OF 'glyphcutterlaw15.PackOnly'. -/
def packOnlyUptoCard : Claim7 := { stood := { row := packOnlyUptoRow, standIns := [], harness := (true, "1f948bcdc4e37cdfe4ee2af3b899ed39249cc90940ce9595e93716215f143d9d"), looks := false }, kinds := [], alts := [], laidByText := true, laidKinds := [.data, .data, .data], laidTests := true, laidLooks := .later }
def PackOnlyUptoCardSaid : Prop := Claim7.holds Tryd.pinned (.plain (OpenSpec.upto packOnlySpec)) packOnlyUptoCard
end Rows
end Go.Proofs.YtlobjaanabepgaaDoor
