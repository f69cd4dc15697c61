/-
  DERIVED. GIVEN WITH THE SEED: THE CARDS: each row of YtaknmionaibodaaDoorRows.lean that lists a variable, with what it lists TIED to the program's text (the seventh form; the later family's looks); each row that meets fmt, with fmt's text TOLD by the authors' own Lean function (tested against real Go, not proved from fmt's source: count such statements apart). THE CARD IS WHAT COUNTS. Prove the row's statement (the work); the ties are given (YtaknmionaibodaaDoorTie.lean); close each card by the builder's one call (the guide's Derived/Test/ToyasCard.lean, 'card_holds'). Laid BY PROGRAM, IN A SANDBOX (cutbox-door.mjs). By AI agents, Wed Nov 11 2026. No macro, syntax, notation, axiom, sorry.
-/
import Derived.Test.YtaknmionaibodaaDoorRows
import GoSem.ClaimSeven
namespace Go.Proofs.YtaknmionaibodaaDoor
namespace Rows

/-- THE TIED CARD OF 'stepstonelaw29.StorePuts'. -/
def storePutsCard : Claim7 := { stood := { row := storePutsRow, standIns := [], harness := (true, "af7066fd0f4783f1c8ee038e1865ea72c774bcda57ee67fbf885a29989694ff5"), looks := false }, kinds := [], alts := [], laidByText := true, laidKinds := [.data], laidTests := true, laidLooks := .later }
def StorePutsCardSaid : Prop := Claim7.holds Tryd.pinned (.plain (OpenSpec.ofChange storePutsSpec)) storePutsCard

/-- THE TIED CARD OF 'stepstonelaw29.StoreReads'. -/
def storeReadsCard : Claim7 := { stood := { row := storeReadsRow, standIns := [], harness := (true, "af7066fd0f4783f1c8ee038e1865ea72c774bcda57ee67fbf885a29989694ff5"), looks := false }, kinds := [], alts := [], laidByText := true, laidKinds := [.data], laidTests := true, laidLooks := .later }
def StoreReadsCardSaid : Prop := Claim7.holds Tryd.pinned (.plain (OpenSpec.ofChange storeReadsSpec)) storeReadsCard

/-- THE TIED CARD OF 'stepstonelaw29.StoreCut'. -/
def storeCutCard : Claim7 := { stood := { row := storeCutRow, standIns := [], harness := (true, "af7066fd0f4783f1c8ee038e1865ea72c774bcda57ee67fbf885a29989694ff5"), looks := false }, kinds := [], alts := [], laidByText := true, laidKinds := [.data], laidTests := true, laidLooks := .later }
def StoreCutCardSaid : Prop := Claim7.holds Tryd.pinned (.plain (OpenSpec.ofChange storeCutSpec)) storeCutCard

/-- THE TIED CARD OF 'stepstonelaw29.StoreTurned'. -/
def storeTurnedCard : Claim7 := { stood := { row := storeTurnedRow, standIns := [], harness := (true, "af7066fd0f4783f1c8ee038e1865ea72c774bcda57ee67fbf885a29989694ff5"), looks := false }, kinds := [], alts := [], laidByText := true, laidKinds := [.data], laidTests := true, laidLooks := .later }
def StoreTurnedCardSaid : Prop := Claim7.holds Tryd.pinned (.plain (OpenSpec.ofChange storeTurnedSpec)) storeTurnedCard

/-- THE TIED CARD OF 'stepstonelaw29.StoreJoin'. -/
def storeJoinCard : Claim7 := { stood := { row := storeJoinRow, standIns := [], harness := (true, "af7066fd0f4783f1c8ee038e1865ea72c774bcda57ee67fbf885a29989694ff5"), looks := false }, kinds := [], alts := [], laidByText := true, laidKinds := [.data], laidTests := true, laidLooks := .later }
def StoreJoinCardSaid : Prop := Claim7.holds Tryd.pinned (.plain (OpenSpec.ofChange storeJoinSpec)) storeJoinCard

/-- THE SECOND FORM's CARD OF 'stepstonelaw29.StorePuts'. -/
def storePutsUptoCard : Claim7 := { stood := { row := storePutsUptoRow, standIns := [], harness := (true, "af7066fd0f4783f1c8ee038e1865ea72c774bcda57ee67fbf885a29989694ff5"), looks := false }, kinds := [], alts := [], laidByText := true, laidKinds := [.data], laidTests := true, laidLooks := .later }
def StorePutsUptoCardSaid : Prop := Claim7.holds Tryd.pinned (.plain (OpenSpec.upto storePutsSpec)) storePutsUptoCard

/-- THE SECOND FORM's CARD OF 'stepstonelaw29.StoreReads'. -/
def storeReadsUptoCard : Claim7 := { stood := { row := storeReadsUptoRow, standIns := [], harness := (true, "af7066fd0f4783f1c8ee038e1865ea72c774bcda57ee67fbf885a29989694ff5"), looks := false }, kinds := [], alts := [], laidByText := true, laidKinds := [.data], laidTests := true, laidLooks := .later }
def StoreReadsUptoCardSaid : Prop := Claim7.holds Tryd.pinned (.plain (OpenSpec.upto storeReadsSpec)) storeReadsUptoCard

/-- THE SECOND FORM's CARD OF 'stepstonelaw29.StoreCut'. -/
def storeCutUptoCard : Claim7 := { stood := { row := storeCutUptoRow, standIns := [], harness := (true, "af7066fd0f4783f1c8ee038e1865ea72c774bcda57ee67fbf885a29989694ff5"), looks := false }, kinds := [], alts := [], laidByText := true, laidKinds := [.data], laidTests := true, laidLooks := .later }
def StoreCutUptoCardSaid : Prop := Claim7.holds Tryd.pinned (.plain (OpenSpec.upto storeCutSpec)) storeCutUptoCard

/-- THE SECOND FORM's CARD OF 'stepstonelaw29.StoreTurned'. -/
def storeTurnedUptoCard : Claim7 := { stood := { row := storeTurnedUptoRow, standIns := [], harness := (true, "af7066fd0f4783f1c8ee038e1865ea72c774bcda57ee67fbf885a29989694ff5"), looks := false }, kinds := [], alts := [], laidByText := true, laidKinds := [.data], laidTests := true, laidLooks := .later }
def StoreTurnedUptoCardSaid : Prop := Claim7.holds Tryd.pinned (.plain (OpenSpec.upto storeTurnedSpec)) storeTurnedUptoCard

/-- THE SECOND FORM's CARD OF 'stepstonelaw29.StoreJoin'. -/
def storeJoinUptoCard : Claim7 := { stood := { row := storeJoinUptoRow, standIns := [], harness := (true, "af7066fd0f4783f1c8ee038e1865ea72c774bcda57ee67fbf885a29989694ff5"), looks := false }, kinds := [], alts := [], laidByText := true, laidKinds := [.data], laidTests := true, laidLooks := .later }
def StoreJoinUptoCardSaid : Prop := Claim7.holds Tryd.pinned (.plain (OpenSpec.upto storeJoinSpec)) storeJoinUptoCard
end Rows
end Go.Proofs.YtaknmionaibodaaDoor
