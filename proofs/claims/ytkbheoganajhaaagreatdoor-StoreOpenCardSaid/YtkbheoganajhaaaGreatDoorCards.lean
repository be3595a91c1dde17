/-
  DERIVED. GIVEN WITH THE SEED: THE CARDS: each row of YtkbheoganajhaaaGreatDoorRows.lean that lists a variable, with what it lists TIED to the program's text (the seventh form; the later family's looks); each row that meets fmt, with fmt's text TOLD by the authors' own Lean function (tested against real Go, not proved from fmt's source: count such statements apart). THE CARD IS WHAT COUNTS. Prove the row's statement (the work); the ties are given (YtkbheoganajhaaaGreatDoorTie.lean); close each card by the builder's one call (the guide's Derived/Test/ToyasCard.lean, 'card_holds'). Laid BY PROGRAM, IN A SANDBOX (cutbox-door.mjs). By AI agents, Wed Nov 11 2026. No macro, syntax, notation, axiom, sorry.
-/
import Derived.Test.YtkbheoganajhaaaGreatDoorRows
import GoSem.ClaimSeven
namespace Go.Proofs.YtkbheoganajhaaaGreatDoor
namespace Rows

/-- THE TIED CARD OF 'accountinglaw18.StoreOpen'. -/
def storeOpenCard : Claim7 := { stood := { row := storeOpenRow, standIns := [], harness := (true, "d4f8aea7ce48ce70079ff710b744def1ab103b69477bac4aff670b1effdf24de"), looks := true }, kinds := [], alts := [], laidByText := true, laidKinds := [.data], laidTests := true, laidLooks := .later }
def StoreOpenCardSaid : Prop := Claim7.holds Tryz.pinned (.plain (OpenSpec.ofChange storeOpenSpec)) storeOpenCard

/-- THE SECOND FORM's CARD OF 'accountinglaw18.StoreOpen'. -/
def storeOpenUptoCard : Claim7 := { stood := { row := storeOpenUptoRow, standIns := [], harness := (true, "d4f8aea7ce48ce70079ff710b744def1ab103b69477bac4aff670b1effdf24de"), looks := true }, kinds := [], alts := [], laidByText := true, laidKinds := [.data], laidTests := true, laidLooks := .later }
def StoreOpenUptoCardSaid : Prop := Claim7.holds Tryz.pinned (.plain (OpenSpec.upto storeOpenSpec)) storeOpenUptoCard
end Rows
end Go.Proofs.YtkbheoganajhaaaGreatDoor
