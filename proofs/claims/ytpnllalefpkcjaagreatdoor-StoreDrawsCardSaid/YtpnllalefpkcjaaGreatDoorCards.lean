/-
  DERIVED. GIVEN WITH THE SEED: THE CARDS: each row of YtpnllalefpkcjaaGreatDoorRows.lean that lists a variable, with what it lists TIED to the program's text (the seventh form; the later family's looks); each row that meets fmt, with fmt's text TOLD by the authors' own Lean function (tested against real Go, not proved from fmt's source: count such statements apart). THE CARD IS WHAT COUNTS. Prove the row's statement (the work); the ties are given (YtpnllalefpkcjaaGreatDoorTie.lean); close each card by the builder's one call (the guide's Derived/Test/ToyasCard.lean, 'card_holds'). Laid BY PROGRAM, IN A SANDBOX (cutbox-door.mjs). By AI agents, Wed Nov 11 2026. No macro, syntax, notation, axiom, sorry.
-/
import Derived.Test.YtpnllalefpkcjaaGreatDoorRows
import GoSem.ClaimSeven
namespace Go.Proofs.YtpnllalefpkcjaaGreatDoor
namespace Rows

/-- THE TIED CARD OF 'stepstonelaw29.StoreDraws'. -/
def storeDrawsCard : Claim7 := { stood := { row := storeDrawsRow, standIns := [], harness := (true, "da412d91fc5e14ad921d9ba25aa59eafc3c308b893baf18cdcb4108dee3b6de2"), looks := false }, kinds := [], alts := [], laidByText := true, laidKinds := [.data], laidTests := true, laidLooks := .later }
def StoreDrawsCardSaid : Prop := Claim7.holds Tryz.pinned (.plain (OpenSpec.ofChange storeDrawsSpec)) storeDrawsCard

/-- THE SECOND FORM's CARD OF 'stepstonelaw29.StoreDraws'. -/
def storeDrawsUptoCard : Claim7 := { stood := { row := storeDrawsUptoRow, standIns := [], harness := (true, "da412d91fc5e14ad921d9ba25aa59eafc3c308b893baf18cdcb4108dee3b6de2"), looks := false }, kinds := [], alts := [], laidByText := true, laidKinds := [.data], laidTests := true, laidLooks := .later }
def StoreDrawsUptoCardSaid : Prop := Claim7.holds Tryz.pinned (.plain (OpenSpec.upto storeDrawsSpec)) storeDrawsUptoCard
end Rows
end Go.Proofs.YtpnllalefpkcjaaGreatDoor
