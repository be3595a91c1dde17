/-
  DERIVED. GIVEN WITH THE SEED: THE CARDS: each row of YtaefaadjncehmaaDoorRows.lean that lists a variable, with what it lists TIED to the program's text (the seventh form; the later family's looks); each row that meets fmt, with fmt's text TOLD by the authors' own Lean function (tested against real Go, not proved from fmt's source: count such statements apart). THE CARD IS WHAT COUNTS. Prove the row's statement (the work); the ties are given (YtaefaadjncehmaaDoorTie.lean); close each card by the builder's one call (the guide's Derived/Test/ToyasCard.lean, 'card_holds'). Laid BY PROGRAM, IN A SANDBOX (cutbox-door.mjs). By AI agents, Wed Nov 11 2026. No macro, syntax, notation, axiom, sorry.
-/
import Derived.Test.YtaefaadjncehmaaDoorRows
import GoSem.ClaimSeven
namespace Go.Proofs.YtaefaadjncehmaaDoor
namespace Rows

/-- THE TIED CARD OF 'accountinglaw53.AuditTexts'. -/
def auditTextsCard : Claim7 := { stood := { row := auditTextsRow, standIns := [], harness := (true, "a8e66e5d231ae20c9f097cecda26fe655fef23ce914fbafb87ce1403bab5afc1"), looks := false }, kinds := [], alts := [], laidByText := true, laidKinds := [.data], laidTests := true, laidLooks := .later }
def AuditTextsCardSaid : Prop := Claim7.holds Tryd.pinned (.plain (OpenSpec.ofChange auditTextsSpec)) auditTextsCard

/-- THE SECOND FORM's CARD OF 'accountinglaw53.AuditTexts'. -/
def auditTextsUptoCard : Claim7 := { stood := { row := auditTextsUptoRow, standIns := [], harness := (true, "a8e66e5d231ae20c9f097cecda26fe655fef23ce914fbafb87ce1403bab5afc1"), looks := false }, kinds := [], alts := [], laidByText := true, laidKinds := [.data], laidTests := true, laidLooks := .later }
def AuditTextsUptoCardSaid : Prop := Claim7.holds Tryd.pinned (.plain (OpenSpec.upto auditTextsSpec)) auditTextsUptoCard
end Rows
end Go.Proofs.YtaefaadjncehmaaDoor
