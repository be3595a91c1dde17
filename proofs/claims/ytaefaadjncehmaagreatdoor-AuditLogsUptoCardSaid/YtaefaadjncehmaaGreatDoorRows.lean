/-
  NARROWER THAN 'FOR EVERY INPUT', by the rows' own cells (each row's printed sentence says how): AuditLogs: laid · AuditEntries: laid · AuditSpoilt: laid · AuditSound: laid.
  DERIVED. THE GIVEN ROWS OF THIS SEAT. 4 by the template 'for every input the law returns true; each argument reads behind the call as it read before'; 0 by the template 'total and deterministic' (their statements: YtaefaadjncehmaaGreatDoorTotals.lean).
  GIVEN WITH THE SEED: the statements are not yours to turn. If you find one false, say at which input.
  Laid BY PROGRAM, IN A SANDBOX (cutbox-rows.mjs): the forced cells as the released guide's own fill.sh prints them over the translation 8cabd1689f101800… (all of the seat's roots in one cut). By AI agents, Wed Nov 11 2026. No macro, syntax, notation, axiom, sorry.
-/
import Derived.Test.YtaefaadjncehmaaGreatDoorChecked
import GoSem.Claim
import GoSem.ClaimJoined
import GoSem.ClaimMapViews
import Derived.JoinedTies
import Derived.KernelRfl
namespace Go.Proofs.YtaefaadjncehmaaGreatDoor
/- THE CELL 'sum', in the pinned program and in every row, IS THE sha256 OF THE DUMP (.gsa) THAT YtaefaadjncehmaaGreatDoorProg.lean LOADS. Nothing in Lean hashes anything: it is a label: what it is worth is what the hold of that sum in a sandbox is worth. -/
noncomputable def Tryz.pinned : Pinned := { name := "ytaefaadjncehmaagreatdoor", sum := "8cabd1689f101800fe49218685f9ffb42c79ceeb6b34d2666f483f11e5abd478", checked := Tryz.checked }
namespace Rows
def none {H : Type} : Left H := { results := [], args := [] }

/- WHAT THE LISTED PACKAGE-LEVEL VARIABLES READ AS WHEN THE CALL BEGINS. Each datum BY PROGRAM (the guide's laid-datum.mjs) off the statement by which the dump's own 'gosem.cut.vars' lays the variable. In a bare row this is a premise. The card (YtaefaadjncehmaaGreatDoorCards.lean) ties it to the program's text. -/
def laid_accounting_days_lengths {H : Type} : DataW H := .agg [.lit (.int .i64 31), .lit (.int .i64 28), .lit (.int .i64 31), .lit (.int .i64 30), .lit (.int .i64 31), .lit (.int .i64 30), .lit (.int .i64 31), .lit (.int .i64 31), .lit (.int .i64 30), .lit (.int .i64 31), .lit (.int .i64 30), .lit (.int .i64 31)]
def laid_accounting_audit_notations {H : Type} : DataW H := .agg [.lit (.string []), .lit (.string [101, 110, 116, 114, 121]), .lit (.string [111, 114, 100, 101, 114]), .lit (.string [114, 101, 118, 101, 114, 115, 101]), .lit (.string [112, 101, 114, 105, 111, 100]), .lit (.string [98, 97, 108, 97, 110, 99, 101]), .lit (.string [99, 111, 110, 116, 114, 111, 108]), .lit (.string [115, 116, 111, 99, 107]), .lit (.string [97, 115, 115, 101, 116]), .lit (.string [108, 111, 103])]

/-- 'accountinglaw53.AuditLogs': WHATEVER THE INPUT: true; the input reads as it did. -/
def auditLogsSpec : ChangeSpec := { name := "auditLogs", fn := fun _ => fun
  | [d1, d2] => { results := [.lit (.bool true)], args := [d1, d2] }
  | _ => none }
def auditLogsRow : OpenClaim := { program := "ytaefaadjncehmaagreatdoor", sum := "8cabd1689f101800fe49218685f9ffb42c79ceeb6b34d2666f483f11e5abd478", func := "accounting/accountinglaw53.AuditLogs", spec := "auditLogs", inPlace := ["math/bits.Add64"], unfollowed := true, recurses := true, named := ["accounting/audit.notations", "accounting/days.lengths"], plainKeys := false, apart := false, laid := [("accounting/days.lengths", laid_accounting_days_lengths), ("accounting/audit.notations", laid_accounting_audit_notations)] }
def AuditLogsSaid : Prop := auditLogsRow.holds Tryz.pinned (OpenSpec.ofChange auditLogsSpec)

/-- ITS FALSE NEIGHBOUR: 'it returns false'. Refute it at one input. -/
def auditLogsWrong : ChangeSpec := { name := "auditLogs", fn := fun _ => fun
  | [d1, d2] => { results := [.lit (.bool false)], args := [d1, d2] }
  | _ => none }
def AuditLogsWrongFalsely : Prop := auditLogsRow.holds Tryz.pinned (OpenSpec.ofChange auditLogsWrong)

/-- 'accountinglaw53.AuditEntries': WHATEVER THE INPUT: true; the input reads as it did. -/
def auditEntriesSpec : ChangeSpec := { name := "auditEntries", fn := fun _ => fun
  | [d1, d2, d3] => { results := [.lit (.bool true)], args := [d1, d2, d3] }
  | _ => none }
def auditEntriesRow : OpenClaim := { program := "ytaefaadjncehmaagreatdoor", sum := "8cabd1689f101800fe49218685f9ffb42c79ceeb6b34d2666f483f11e5abd478", func := "accounting/accountinglaw53.AuditEntries", spec := "auditEntries", inPlace := ["math/bits.Add64"], unfollowed := true, recurses := true, named := ["accounting/audit.notations", "accounting/days.lengths"], plainKeys := false, apart := false, laid := [("accounting/days.lengths", laid_accounting_days_lengths), ("accounting/audit.notations", laid_accounting_audit_notations)] }
def AuditEntriesSaid : Prop := auditEntriesRow.holds Tryz.pinned (OpenSpec.ofChange auditEntriesSpec)

/-- ITS FALSE NEIGHBOUR: 'it returns false'. Refute it at one input. -/
def auditEntriesWrong : ChangeSpec := { name := "auditEntries", fn := fun _ => fun
  | [d1, d2, d3] => { results := [.lit (.bool false)], args := [d1, d2, d3] }
  | _ => none }
def AuditEntriesWrongFalsely : Prop := auditEntriesRow.holds Tryz.pinned (OpenSpec.ofChange auditEntriesWrong)

/-- 'accountinglaw53.AuditSpoilt': WHATEVER THE INPUT: true; the input reads as it did. -/
def auditSpoiltSpec : ChangeSpec := { name := "auditSpoilt", fn := fun _ => fun
  | [d1, d2, d3] => { results := [.lit (.bool true)], args := [d1, d2, d3] }
  | _ => none }
def auditSpoiltRow : OpenClaim := { program := "ytaefaadjncehmaagreatdoor", sum := "8cabd1689f101800fe49218685f9ffb42c79ceeb6b34d2666f483f11e5abd478", func := "accounting/accountinglaw53.AuditSpoilt", spec := "auditSpoilt", inPlace := ["math/bits.Add64"], unfollowed := true, recurses := true, named := ["accounting/audit.notations", "accounting/days.lengths"], plainKeys := false, apart := false, laid := [("accounting/days.lengths", laid_accounting_days_lengths), ("accounting/audit.notations", laid_accounting_audit_notations)] }
def AuditSpoiltSaid : Prop := auditSpoiltRow.holds Tryz.pinned (OpenSpec.ofChange auditSpoiltSpec)

/-- ITS FALSE NEIGHBOUR: 'it returns false'. Refute it at one input. -/
def auditSpoiltWrong : ChangeSpec := { name := "auditSpoilt", fn := fun _ => fun
  | [d1, d2, d3] => { results := [.lit (.bool false)], args := [d1, d2, d3] }
  | _ => none }
def AuditSpoiltWrongFalsely : Prop := auditSpoiltRow.holds Tryz.pinned (OpenSpec.ofChange auditSpoiltWrong)

/-- 'accountinglaw53.AuditSound': WHATEVER THE INPUT: true; the input reads as it did. -/
def auditSoundSpec : ChangeSpec := { name := "auditSound", fn := fun _ => fun
  | [d1, d2] => { results := [.lit (.bool true)], args := [d1, d2] }
  | _ => none }
def auditSoundRow : OpenClaim := { program := "ytaefaadjncehmaagreatdoor", sum := "8cabd1689f101800fe49218685f9ffb42c79ceeb6b34d2666f483f11e5abd478", func := "accounting/accountinglaw53.AuditSound", spec := "auditSound", inPlace := ["math/bits.Add64"], unfollowed := true, recurses := true, named := ["accounting/audit.notations", "accounting/days.lengths"], plainKeys := false, apart := false, laid := [("accounting/days.lengths", laid_accounting_days_lengths), ("accounting/audit.notations", laid_accounting_audit_notations)] }
def AuditSoundSaid : Prop := auditSoundRow.holds Tryz.pinned (OpenSpec.ofChange auditSoundSpec)

/-- ITS FALSE NEIGHBOUR: 'it returns false'. Refute it at one input. -/
def auditSoundWrong : ChangeSpec := { name := "auditSound", fn := fun _ => fun
  | [d1, d2] => { results := [.lit (.bool false)], args := [d1, d2] }
  | _ => none }
def AuditSoundWrongFalsely : Prop := auditSoundRow.holds Tryz.pinned (OpenSpec.ofChange auditSoundWrong)

/- THE SECOND FORM. 'bulk': how many values and letters a reading holds, each counted each time it is reached (what is shared counts as often as it is met; a slice's spare places count too). A statement '..UptoSaid' is the law's where the arguments, and the package variables that the reading takes, are together of bulk at most 1048576: NARROWER than '..Said'. Prove '..Said' where nothing that the law and all that it calls make is longer than what came in: it says more and counts as full. Else prove '..UptoSaid'. A law counts once. -/
mutual
def uptoBulk {H : Type} : DataW H → Nat
  | .lit (.string bytes) => bytes.length + 1
  | .lit _ => 1
  | .nil => 1
  | .ptr d => uptoBulk d + 1
  | .slice elems spare => uptoBulkAll elems + uptoBulkAll spare + 1
  | .agg parts => uptoBulkAll parts + 1
  | .iface _ d => uptoBulk d + 1
  | .map entries => uptoBulkEntries entries + 1
  | .held _ => 1
def uptoBulkAll {H : Type} : List (DataW H) → Nat
  | [] => 0
  | d :: r => uptoBulk d + uptoBulkAll r
def uptoBulkEntries {H : Type} : List (Lit × DataW H) → Nat
  | [] => 0
  | x :: r => uptoBulkEntry x + uptoBulkEntries r
def uptoBulkEntry {H : Type} : Lit × DataW H → Nat
  | (.string bytes, d) => bytes.length + uptoBulk d + 1
  | (_, d) => uptoBulk d + 1
 end
def uptoSmall : (H : Type) → List (DataW H) → Bool := fun _ ds => decide (uptoBulkAll ds ≤ 1048576)
def OpenSpec.upto (s : _root_.Go.ChangeSpec) : _root_.Go.OpenSpec := { _root_.Go.OpenSpec.ofChange s with cond := some uptoSmall }

/-- 'accountinglaw53.AuditLogs', WHERE WHAT IT READS IS OF BULK AT MOST 1048576: true; the input reads as it did. -/
def auditLogsUptoRow : OpenClaim := { program := "ytaefaadjncehmaagreatdoor", sum := "8cabd1689f101800fe49218685f9ffb42c79ceeb6b34d2666f483f11e5abd478", func := "accounting/accountinglaw53.AuditLogs", spec := "auditLogs", inPlace := ["math/bits.Add64"], unfollowed := true, recurses := true, named := ["accounting/audit.notations", "accounting/days.lengths"], plainKeys := false, apart := false, laid := [("accounting/days.lengths", laid_accounting_days_lengths), ("accounting/audit.notations", laid_accounting_audit_notations)], narrowed := true }
def AuditLogsUptoSaid : Prop := auditLogsUptoRow.holds Tryz.pinned (OpenSpec.upto auditLogsSpec)

/-- 'accountinglaw53.AuditEntries', WHERE WHAT IT READS IS OF BULK AT MOST 1048576: true; the input reads as it did. -/
def auditEntriesUptoRow : OpenClaim := { program := "ytaefaadjncehmaagreatdoor", sum := "8cabd1689f101800fe49218685f9ffb42c79ceeb6b34d2666f483f11e5abd478", func := "accounting/accountinglaw53.AuditEntries", spec := "auditEntries", inPlace := ["math/bits.Add64"], unfollowed := true, recurses := true, named := ["accounting/audit.notations", "accounting/days.lengths"], plainKeys := false, apart := false, laid := [("accounting/days.lengths", laid_accounting_days_lengths), ("accounting/audit.notations", laid_accounting_audit_notations)], narrowed := true }
def AuditEntriesUptoSaid : Prop := auditEntriesUptoRow.holds Tryz.pinned (OpenSpec.upto auditEntriesSpec)

/-- 'accountinglaw53.AuditSpoilt', WHERE WHAT IT READS IS OF BULK AT MOST 1048576: true; the input reads as it did. -/
def auditSpoiltUptoRow : OpenClaim := { program := "ytaefaadjncehmaagreatdoor", sum := "8cabd1689f101800fe49218685f9ffb42c79ceeb6b34d2666f483f11e5abd478", func := "accounting/accountinglaw53.AuditSpoilt", spec := "auditSpoilt", inPlace := ["math/bits.Add64"], unfollowed := true, recurses := true, named := ["accounting/audit.notations", "accounting/days.lengths"], plainKeys := false, apart := false, laid := [("accounting/days.lengths", laid_accounting_days_lengths), ("accounting/audit.notations", laid_accounting_audit_notations)], narrowed := true }
def AuditSpoiltUptoSaid : Prop := auditSpoiltUptoRow.holds Tryz.pinned (OpenSpec.upto auditSpoiltSpec)

/-- 'accountinglaw53.AuditSound', WHERE WHAT IT READS IS OF BULK AT MOST 1048576: true; the input reads as it did. -/
def auditSoundUptoRow : OpenClaim := { program := "ytaefaadjncehmaagreatdoor", sum := "8cabd1689f101800fe49218685f9ffb42c79ceeb6b34d2666f483f11e5abd478", func := "accounting/accountinglaw53.AuditSound", spec := "auditSound", inPlace := ["math/bits.Add64"], unfollowed := true, recurses := true, named := ["accounting/audit.notations", "accounting/days.lengths"], plainKeys := false, apart := false, laid := [("accounting/days.lengths", laid_accounting_days_lengths), ("accounting/audit.notations", laid_accounting_audit_notations)], narrowed := true }
def AuditSoundUptoSaid : Prop := auditSoundUptoRow.holds Tryz.pinned (OpenSpec.upto auditSoundSpec)

end Rows
end Go.Proofs.YtaefaadjncehmaaGreatDoor
