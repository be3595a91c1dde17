/-
  DERIVED. GIVEN WITH THE SEED: THE CARDS: each row of YtaefaadjncehmaaGreatDoorRows.lean that lists a variable, with what it lists TIED to the program's text (the seventh form; the later family's looks); each row that meets fmt, with fmt's text TOLD by the authors' own Lean function (tested against real Go, not proved from fmt's source: count such statements apart). THE CARD IS WHAT COUNTS. Prove the row's statement (the work); the ties are given (YtaefaadjncehmaaGreatDoorTie.lean); close each card by the builder's one call (the guide's Derived/Test/ToyasCard.lean, 'card_holds'). Laid BY PROGRAM, IN A SANDBOX (cutbox-door.mjs). By AI agents, Wed Nov 11 2026. No macro, syntax, notation, axiom, sorry.
-/
import Derived.Test.YtaefaadjncehmaaGreatDoorRows
import GoSem.ClaimSeven
namespace Go.Proofs.YtaefaadjncehmaaGreatDoor
namespace Rows

/-- THE TIED CARD OF 'accountinglaw53.AuditLogs'. -/
def auditLogsCard : Claim7 := { stood := { row := auditLogsRow, standIns := [], harness := (true, "5b709959a991675c13342b3f3241108472cb4e1cf4717bc52795caddcc8d0588"), looks := true }, kinds := [], alts := [], laidByText := true, laidKinds := [.data, .data], laidTests := true, laidLooks := .later }
def AuditLogsCardSaid : Prop := Claim7.holds Tryz.pinned (.plain (OpenSpec.ofChange auditLogsSpec)) auditLogsCard

/-- THE TIED CARD OF 'accountinglaw53.AuditEntries'. -/
def auditEntriesCard : Claim7 := { stood := { row := auditEntriesRow, standIns := [], harness := (true, "5b709959a991675c13342b3f3241108472cb4e1cf4717bc52795caddcc8d0588"), looks := true }, kinds := [], alts := [], laidByText := true, laidKinds := [.data, .data], laidTests := true, laidLooks := .later }
def AuditEntriesCardSaid : Prop := Claim7.holds Tryz.pinned (.plain (OpenSpec.ofChange auditEntriesSpec)) auditEntriesCard

/-- THE TIED CARD OF 'accountinglaw53.AuditSpoilt'. -/
def auditSpoiltCard : Claim7 := { stood := { row := auditSpoiltRow, standIns := [], harness := (true, "5b709959a991675c13342b3f3241108472cb4e1cf4717bc52795caddcc8d0588"), looks := true }, kinds := [], alts := [], laidByText := true, laidKinds := [.data, .data], laidTests := true, laidLooks := .later }
def AuditSpoiltCardSaid : Prop := Claim7.holds Tryz.pinned (.plain (OpenSpec.ofChange auditSpoiltSpec)) auditSpoiltCard

/-- THE TIED CARD OF 'accountinglaw53.AuditSound'. -/
def auditSoundCard : Claim7 := { stood := { row := auditSoundRow, standIns := [], harness := (true, "5b709959a991675c13342b3f3241108472cb4e1cf4717bc52795caddcc8d0588"), looks := true }, kinds := [], alts := [], laidByText := true, laidKinds := [.data, .data], laidTests := true, laidLooks := .later }
def AuditSoundCardSaid : Prop := Claim7.holds Tryz.pinned (.plain (OpenSpec.ofChange auditSoundSpec)) auditSoundCard

/-- THE SECOND FORM's CARD OF 'accountinglaw53.AuditLogs'. -/
def auditLogsUptoCard : Claim7 := { stood := { row := auditLogsUptoRow, standIns := [], harness := (true, "5b709959a991675c13342b3f3241108472cb4e1cf4717bc52795caddcc8d0588"), looks := true }, kinds := [], alts := [], laidByText := true, laidKinds := [.data, .data], laidTests := true, laidLooks := .later }
def AuditLogsUptoCardSaid : Prop := Claim7.holds Tryz.pinned (.plain (OpenSpec.upto auditLogsSpec)) auditLogsUptoCard

/-- THE SECOND FORM's CARD OF 'accountinglaw53.AuditEntries'. -/
def auditEntriesUptoCard : Claim7 := { stood := { row := auditEntriesUptoRow, standIns := [], harness := (true, "5b709959a991675c13342b3f3241108472cb4e1cf4717bc52795caddcc8d0588"), looks := true }, kinds := [], alts := [], laidByText := true, laidKinds := [.data, .data], laidTests := true, laidLooks := .later }
def AuditEntriesUptoCardSaid : Prop := Claim7.holds Tryz.pinned (.plain (OpenSpec.upto auditEntriesSpec)) auditEntriesUptoCard

/-- THE SECOND FORM's CARD OF 'accountinglaw53.AuditSpoilt'. -/
def auditSpoiltUptoCard : Claim7 := { stood := { row := auditSpoiltUptoRow, standIns := [], harness := (true, "5b709959a991675c13342b3f3241108472cb4e1cf4717bc52795caddcc8d0588"), looks := true }, kinds := [], alts := [], laidByText := true, laidKinds := [.data, .data], laidTests := true, laidLooks := .later }
def AuditSpoiltUptoCardSaid : Prop := Claim7.holds Tryz.pinned (.plain (OpenSpec.upto auditSpoiltSpec)) auditSpoiltUptoCard

/-- THE SECOND FORM's CARD OF 'accountinglaw53.AuditSound'. -/
def auditSoundUptoCard : Claim7 := { stood := { row := auditSoundUptoRow, standIns := [], harness := (true, "5b709959a991675c13342b3f3241108472cb4e1cf4717bc52795caddcc8d0588"), looks := true }, kinds := [], alts := [], laidByText := true, laidKinds := [.data, .data], laidTests := true, laidLooks := .later }
def AuditSoundUptoCardSaid : Prop := Claim7.holds Tryz.pinned (.plain (OpenSpec.upto auditSoundSpec)) auditSoundUptoCard
end Rows
end Go.Proofs.YtaefaadjncehmaaGreatDoor
