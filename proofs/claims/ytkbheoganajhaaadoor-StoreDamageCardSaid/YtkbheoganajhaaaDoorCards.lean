/-
  DERIVED. GIVEN WITH THE SEED: THE CARDS: each row of YtkbheoganajhaaaDoorRows.lean that lists a variable, with what it lists TIED to the program's text (the seventh form; the later family's looks); each row that meets fmt, with fmt's text TOLD by the authors' own Lean function (tested against real Go, not proved from fmt's source: count such statements apart). THE CARD IS WHAT COUNTS. Prove the row's statement (the work); the ties are given (YtkbheoganajhaaaDoorTie.lean); close each card by the builder's one call (the guide's Derived/Test/ToyasCard.lean, 'card_holds'). Laid BY PROGRAM, IN A SANDBOX (cutbox-door.mjs). By AI agents, Wed Nov 11 2026. No macro, syntax, notation, axiom, sorry.
-/
import Derived.Test.YtkbheoganajhaaaDoorRows
import GoSem.ClaimSeven
namespace Go.Proofs.YtkbheoganajhaaaDoor
namespace Rows

/-- THE TIED CARD OF 'accountinglaw18.StoreAppend'. -/
def storeAppendCard : Claim7 := { stood := { row := storeAppendRow, standIns := [], harness := (true, "dab5baafd3f7e2d3dd590dded3ffba4af860eca88e8101f43347723f7eadb8b9"), looks := true }, kinds := [], alts := [], laidByText := true, laidKinds := [.data], laidTests := true, laidLooks := .later }
def StoreAppendCardSaid : Prop := Claim7.holds Tryd.pinned (.plain (OpenSpec.ofChange storeAppendSpec)) storeAppendCard

/-- THE TIED CARD OF 'accountinglaw18.StoreBack'. -/
def storeBackCard : Claim7 := { stood := { row := storeBackRow, standIns := [], harness := (true, "dab5baafd3f7e2d3dd590dded3ffba4af860eca88e8101f43347723f7eadb8b9"), looks := true }, kinds := [], alts := [], laidByText := true, laidKinds := [.data], laidTests := true, laidLooks := .later }
def StoreBackCardSaid : Prop := Claim7.holds Tryd.pinned (.plain (OpenSpec.ofChange storeBackSpec)) storeBackCard

/-- THE TIED CARD OF 'accountinglaw18.StorePrefix'. -/
def storePrefixCard : Claim7 := { stood := { row := storePrefixRow, standIns := [], harness := (true, "dab5baafd3f7e2d3dd590dded3ffba4af860eca88e8101f43347723f7eadb8b9"), looks := true }, kinds := [], alts := [], laidByText := true, laidKinds := [.data], laidTests := true, laidLooks := .later }
def StorePrefixCardSaid : Prop := Claim7.holds Tryd.pinned (.plain (OpenSpec.ofChange storePrefixSpec)) storePrefixCard

/-- THE TIED CARD OF 'accountinglaw18.StoreDamage'. -/
def storeDamageCard : Claim7 := { stood := { row := storeDamageRow, standIns := [], harness := (true, "dab5baafd3f7e2d3dd590dded3ffba4af860eca88e8101f43347723f7eadb8b9"), looks := true }, kinds := [], alts := [], laidByText := true, laidKinds := [.data], laidTests := true, laidLooks := .later }
def StoreDamageCardSaid : Prop := Claim7.holds Tryd.pinned (.plain (OpenSpec.ofChange storeDamageSpec)) storeDamageCard

/-- THE TIED CARD OF 'accountinglaw18.StoreNil'. -/
def storeNilCard : Claim7 := { stood := { row := storeNilRow, standIns := [], harness := (true, "dab5baafd3f7e2d3dd590dded3ffba4af860eca88e8101f43347723f7eadb8b9"), looks := true }, kinds := [], alts := [], laidByText := true, laidKinds := [.data], laidTests := true, laidLooks := .later }
def StoreNilCardSaid : Prop := Claim7.holds Tryd.pinned (.plain (OpenSpec.ofChange storeNilSpec)) storeNilCard

/-- THE SECOND FORM's CARD OF 'accountinglaw18.StoreAppend'. -/
def storeAppendUptoCard : Claim7 := { stood := { row := storeAppendUptoRow, standIns := [], harness := (true, "dab5baafd3f7e2d3dd590dded3ffba4af860eca88e8101f43347723f7eadb8b9"), looks := true }, kinds := [], alts := [], laidByText := true, laidKinds := [.data], laidTests := true, laidLooks := .later }
def StoreAppendUptoCardSaid : Prop := Claim7.holds Tryd.pinned (.plain (OpenSpec.upto storeAppendSpec)) storeAppendUptoCard

/-- THE SECOND FORM's CARD OF 'accountinglaw18.StoreBack'. -/
def storeBackUptoCard : Claim7 := { stood := { row := storeBackUptoRow, standIns := [], harness := (true, "dab5baafd3f7e2d3dd590dded3ffba4af860eca88e8101f43347723f7eadb8b9"), looks := true }, kinds := [], alts := [], laidByText := true, laidKinds := [.data], laidTests := true, laidLooks := .later }
def StoreBackUptoCardSaid : Prop := Claim7.holds Tryd.pinned (.plain (OpenSpec.upto storeBackSpec)) storeBackUptoCard

/-- THE SECOND FORM's CARD OF 'accountinglaw18.StorePrefix'. -/
def storePrefixUptoCard : Claim7 := { stood := { row := storePrefixUptoRow, standIns := [], harness := (true, "dab5baafd3f7e2d3dd590dded3ffba4af860eca88e8101f43347723f7eadb8b9"), looks := true }, kinds := [], alts := [], laidByText := true, laidKinds := [.data], laidTests := true, laidLooks := .later }
def StorePrefixUptoCardSaid : Prop := Claim7.holds Tryd.pinned (.plain (OpenSpec.upto storePrefixSpec)) storePrefixUptoCard

/-- THE SECOND FORM's CARD OF 'accountinglaw18.StoreDamage'. -/
def storeDamageUptoCard : Claim7 := { stood := { row := storeDamageUptoRow, standIns := [], harness := (true, "dab5baafd3f7e2d3dd590dded3ffba4af860eca88e8101f43347723f7eadb8b9"), looks := true }, kinds := [], alts := [], laidByText := true, laidKinds := [.data], laidTests := true, laidLooks := .later }
def StoreDamageUptoCardSaid : Prop := Claim7.holds Tryd.pinned (.plain (OpenSpec.upto storeDamageSpec)) storeDamageUptoCard

/-- THE SECOND FORM's CARD OF 'accountinglaw18.StoreNil'. -/
def storeNilUptoCard : Claim7 := { stood := { row := storeNilUptoRow, standIns := [], harness := (true, "dab5baafd3f7e2d3dd590dded3ffba4af860eca88e8101f43347723f7eadb8b9"), looks := true }, kinds := [], alts := [], laidByText := true, laidKinds := [.data], laidTests := true, laidLooks := .later }
def StoreNilUptoCardSaid : Prop := Claim7.holds Tryd.pinned (.plain (OpenSpec.upto storeNilSpec)) storeNilUptoCard
end Rows
end Go.Proofs.YtkbheoganajhaaaDoor
