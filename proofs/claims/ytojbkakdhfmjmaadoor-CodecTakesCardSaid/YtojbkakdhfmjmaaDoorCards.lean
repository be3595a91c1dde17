/-
  DERIVED. GIVEN WITH THE SEED: THE CARDS: each row of YtojbkakdhfmjmaaDoorRows.lean that lists a variable, with what it lists TIED to the program's text (the seventh form; the later family's looks); each row that meets fmt, with fmt's text TOLD by the authors' own Lean function (tested against real Go, not proved from fmt's source: count such statements apart). THE CARD IS WHAT COUNTS. Prove the row's statement (the work); the ties are given (YtojbkakdhfmjmaaDoorTie.lean); close each card by the builder's one call (the guide's Derived/Test/ToyasCard.lean, 'card_holds'). Laid BY PROGRAM, IN A SANDBOX (cutbox-door.mjs). By AI agents, Wed Nov 11 2026. No macro, syntax, notation, axiom, sorry.
-/
import Derived.Test.YtojbkakdhfmjmaaDoorRows
import GoSem.ClaimSeven
namespace Go.Proofs.YtojbkakdhfmjmaaDoor
namespace Rows

/-- THE TIED CARD OF 'accountinglaw13.CodecApart'. -/
def codecApartCard : Claim7 := { stood := { row := codecApartRow, standIns := [], harness := (true, "18fe2a85ea13b495574270cdddd8fafa6acb4f6bb39cadcbb63d96f3f9f70c0b"), looks := true }, kinds := [], alts := [], laidByText := true, laidKinds := [.data], laidTests := true, laidLooks := .later }
def CodecApartCardSaid : Prop := Claim7.holds Tryd.pinned (.plain (OpenSpec.ofChange codecApartSpec)) codecApartCard

/-- THE TIED CARD OF 'accountinglaw13.CodecTakes'. -/
def codecTakesCard : Claim7 := { stood := { row := codecTakesRow, standIns := [], harness := (true, "18fe2a85ea13b495574270cdddd8fafa6acb4f6bb39cadcbb63d96f3f9f70c0b"), looks := true }, kinds := [], alts := [], laidByText := true, laidKinds := [.data], laidTests := true, laidLooks := .later }
def CodecTakesCardSaid : Prop := Claim7.holds Tryd.pinned (.plain (OpenSpec.ofChange codecTakesSpec)) codecTakesCard

/-- THE TIED CARD OF 'accountinglaw13.CodecEntries'. -/
def codecEntriesCard : Claim7 := { stood := { row := codecEntriesRow, standIns := [], harness := (true, "18fe2a85ea13b495574270cdddd8fafa6acb4f6bb39cadcbb63d96f3f9f70c0b"), looks := true }, kinds := [], alts := [], laidByText := true, laidKinds := [.data], laidTests := true, laidLooks := .later }
def CodecEntriesCardSaid : Prop := Claim7.holds Tryd.pinned (.plain (OpenSpec.ofChange codecEntriesSpec)) codecEntriesCard

/-- THE TIED CARD OF 'accountinglaw13.CodecCut'. -/
def codecCutCard : Claim7 := { stood := { row := codecCutRow, standIns := [], harness := (true, "18fe2a85ea13b495574270cdddd8fafa6acb4f6bb39cadcbb63d96f3f9f70c0b"), looks := true }, kinds := [], alts := [], laidByText := true, laidKinds := [.data], laidTests := true, laidLooks := .later }
def CodecCutCardSaid : Prop := Claim7.holds Tryd.pinned (.plain (OpenSpec.ofChange codecCutSpec)) codecCutCard

/-- THE SECOND FORM's CARD OF 'accountinglaw13.CodecApart'. -/
def codecApartUptoCard : Claim7 := { stood := { row := codecApartUptoRow, standIns := [], harness := (true, "18fe2a85ea13b495574270cdddd8fafa6acb4f6bb39cadcbb63d96f3f9f70c0b"), looks := true }, kinds := [], alts := [], laidByText := true, laidKinds := [.data], laidTests := true, laidLooks := .later }
def CodecApartUptoCardSaid : Prop := Claim7.holds Tryd.pinned (.plain (OpenSpec.upto codecApartSpec)) codecApartUptoCard

/-- THE SECOND FORM's CARD OF 'accountinglaw13.CodecTakes'. -/
def codecTakesUptoCard : Claim7 := { stood := { row := codecTakesUptoRow, standIns := [], harness := (true, "18fe2a85ea13b495574270cdddd8fafa6acb4f6bb39cadcbb63d96f3f9f70c0b"), looks := true }, kinds := [], alts := [], laidByText := true, laidKinds := [.data], laidTests := true, laidLooks := .later }
def CodecTakesUptoCardSaid : Prop := Claim7.holds Tryd.pinned (.plain (OpenSpec.upto codecTakesSpec)) codecTakesUptoCard

/-- THE SECOND FORM's CARD OF 'accountinglaw13.CodecEntries'. -/
def codecEntriesUptoCard : Claim7 := { stood := { row := codecEntriesUptoRow, standIns := [], harness := (true, "18fe2a85ea13b495574270cdddd8fafa6acb4f6bb39cadcbb63d96f3f9f70c0b"), looks := true }, kinds := [], alts := [], laidByText := true, laidKinds := [.data], laidTests := true, laidLooks := .later }
def CodecEntriesUptoCardSaid : Prop := Claim7.holds Tryd.pinned (.plain (OpenSpec.upto codecEntriesSpec)) codecEntriesUptoCard

/-- THE SECOND FORM's CARD OF 'accountinglaw13.CodecCut'. -/
def codecCutUptoCard : Claim7 := { stood := { row := codecCutUptoRow, standIns := [], harness := (true, "18fe2a85ea13b495574270cdddd8fafa6acb4f6bb39cadcbb63d96f3f9f70c0b"), looks := true }, kinds := [], alts := [], laidByText := true, laidKinds := [.data], laidTests := true, laidLooks := .later }
def CodecCutUptoCardSaid : Prop := Claim7.holds Tryd.pinned (.plain (OpenSpec.upto codecCutSpec)) codecCutUptoCard
end Rows
end Go.Proofs.YtojbkakdhfmjmaaDoor
