/-
  NARROWER THAN 'FOR EVERY INPUT', by the rows' own cells (each row's printed sentence says how): LocksPlays: laid · LocksTwo: laid · LocksApart: laid · LocksLater: laid · LocksNews: laid · LocksNil: laid.
  DERIVED. THE GIVEN ROWS OF THIS SEAT. 6 by the template 'for every input the law returns true; each argument reads behind the call as it read before'; 0 by the template 'total and deterministic' (their statements: YthgmhlpjbednpaaDoorTotals.lean).
  GIVEN WITH THE SEED: the statements are not yours to turn. If you find one false, say at which input.
  Laid BY PROGRAM, IN A SANDBOX (cutbox-rows.mjs): the forced cells as the released guide's own fill.sh prints them over the translation 099563f845a2c94e… (all of the seat's roots in one cut). By AI agents, Wed Nov 11 2026. No macro, syntax, notation, axiom, sorry.
-/
import Derived.Test.YthgmhlpjbednpaaDoorChecked
import GoSem.Claim
import GoSem.ClaimJoined
import GoSem.ClaimMapViews
import Derived.JoinedTies
import Derived.KernelRfl
namespace Go.Proofs.YthgmhlpjbednpaaDoor
/- THE CELL 'sum', in the pinned program and in every row, IS THE sha256 OF THE DUMP (.gsa) THAT YthgmhlpjbednpaaDoorProg.lean LOADS. Nothing in Lean hashes anything: it is a label: what it is worth is what the hold of that sum in a sandbox is worth. -/
noncomputable def Tryd.pinned : Pinned := { name := "ythgmhlpjbednpaadoor", sum := "099563f845a2c94e2b458e5f05341e307ad37f1ac88cef5ec8138c749962d479", checked := Tryd.checked }
namespace Rows
def none {H : Type} : Left H := { results := [], args := [] }

/- WHAT THE LISTED PACKAGE-LEVEL VARIABLES READ AS WHEN THE CALL BEGINS. Each datum BY PROGRAM (the guide's laid-datum.mjs) off the statement by which the dump's own 'gosem.cut.vars' lays the variable. In a bare row this is a premise. The card (YthgmhlpjbednpaaDoorCards.lean) ties it to the program's text. -/
def laid_accounting_days_lengths {H : Type} : DataW H := .agg [.lit (.int .i64 31), .lit (.int .i64 28), .lit (.int .i64 31), .lit (.int .i64 30), .lit (.int .i64 31), .lit (.int .i64 30), .lit (.int .i64 31), .lit (.int .i64 31), .lit (.int .i64 30), .lit (.int .i64 31), .lit (.int .i64 30), .lit (.int .i64 31)]

/-- 'accountinglaw16.LocksPlays': WHATEVER THE INPUT: true; the input reads as it did. -/
def locksPlaysSpec : ChangeSpec := { name := "locksPlays", fn := fun _ => fun
  | [d1, d2, d3, d4, d5, d6, d7] => { results := [.lit (.bool true)], args := [d1, d2, d3, d4, d5, d6, d7] }
  | _ => none }
def locksPlaysRow : OpenClaim := { program := "ythgmhlpjbednpaadoor", sum := "099563f845a2c94e2b458e5f05341e307ad37f1ac88cef5ec8138c749962d479", func := "accounting/accountinglaw16.LocksPlays", spec := "locksPlays", unfollowed := true, recurses := true, named := ["accounting/days.lengths"], apart := false, laid := [("accounting/days.lengths", laid_accounting_days_lengths)] }
def LocksPlaysSaid : Prop := locksPlaysRow.holds Tryd.pinned (OpenSpec.ofChange locksPlaysSpec)

/-- ITS FALSE NEIGHBOUR: 'it returns false'. Refute it at one input. -/
def locksPlaysWrong : ChangeSpec := { name := "locksPlays", fn := fun _ => fun
  | [d1, d2, d3, d4, d5, d6, d7] => { results := [.lit (.bool false)], args := [d1, d2, d3, d4, d5, d6, d7] }
  | _ => none }
def LocksPlaysWrongFalsely : Prop := locksPlaysRow.holds Tryd.pinned (OpenSpec.ofChange locksPlaysWrong)

/-- 'accountinglaw16.LocksTwo': WHATEVER THE INPUT: true; the input reads as it did. -/
def locksTwoSpec : ChangeSpec := { name := "locksTwo", fn := fun _ => fun
  | [d1, d2, d3, d4] => { results := [.lit (.bool true)], args := [d1, d2, d3, d4] }
  | _ => none }
def locksTwoRow : OpenClaim := { program := "ythgmhlpjbednpaadoor", sum := "099563f845a2c94e2b458e5f05341e307ad37f1ac88cef5ec8138c749962d479", func := "accounting/accountinglaw16.LocksTwo", spec := "locksTwo", unfollowed := true, recurses := true, named := ["accounting/days.lengths"], apart := false, laid := [("accounting/days.lengths", laid_accounting_days_lengths)] }
def LocksTwoSaid : Prop := locksTwoRow.holds Tryd.pinned (OpenSpec.ofChange locksTwoSpec)

/-- ITS FALSE NEIGHBOUR: 'it returns false'. Refute it at one input. -/
def locksTwoWrong : ChangeSpec := { name := "locksTwo", fn := fun _ => fun
  | [d1, d2, d3, d4] => { results := [.lit (.bool false)], args := [d1, d2, d3, d4] }
  | _ => none }
def LocksTwoWrongFalsely : Prop := locksTwoRow.holds Tryd.pinned (OpenSpec.ofChange locksTwoWrong)

/-- 'accountinglaw16.LocksApart': WHATEVER THE INPUT: true; the input reads as it did. -/
def locksApartSpec : ChangeSpec := { name := "locksApart", fn := fun _ => fun
  | [d1, d2, d3, d4, d5] => { results := [.lit (.bool true)], args := [d1, d2, d3, d4, d5] }
  | _ => none }
def locksApartRow : OpenClaim := { program := "ythgmhlpjbednpaadoor", sum := "099563f845a2c94e2b458e5f05341e307ad37f1ac88cef5ec8138c749962d479", func := "accounting/accountinglaw16.LocksApart", spec := "locksApart", unfollowed := true, recurses := true, named := ["accounting/days.lengths"], apart := false, laid := [("accounting/days.lengths", laid_accounting_days_lengths)] }
def LocksApartSaid : Prop := locksApartRow.holds Tryd.pinned (OpenSpec.ofChange locksApartSpec)

/-- ITS FALSE NEIGHBOUR: 'it returns false'. Refute it at one input. -/
def locksApartWrong : ChangeSpec := { name := "locksApart", fn := fun _ => fun
  | [d1, d2, d3, d4, d5] => { results := [.lit (.bool false)], args := [d1, d2, d3, d4, d5] }
  | _ => none }
def LocksApartWrongFalsely : Prop := locksApartRow.holds Tryd.pinned (OpenSpec.ofChange locksApartWrong)

/-- 'accountinglaw16.LocksLater': WHATEVER THE INPUT: true; the input reads as it did. -/
def locksLaterSpec : ChangeSpec := { name := "locksLater", fn := fun _ => fun
  | [d1, d2, d3, d4, d5, d6] => { results := [.lit (.bool true)], args := [d1, d2, d3, d4, d5, d6] }
  | _ => none }
def locksLaterRow : OpenClaim := { program := "ythgmhlpjbednpaadoor", sum := "099563f845a2c94e2b458e5f05341e307ad37f1ac88cef5ec8138c749962d479", func := "accounting/accountinglaw16.LocksLater", spec := "locksLater", unfollowed := true, recurses := true, named := ["accounting/days.lengths"], apart := false, laid := [("accounting/days.lengths", laid_accounting_days_lengths)] }
def LocksLaterSaid : Prop := locksLaterRow.holds Tryd.pinned (OpenSpec.ofChange locksLaterSpec)

/-- ITS FALSE NEIGHBOUR: 'it returns false'. Refute it at one input. -/
def locksLaterWrong : ChangeSpec := { name := "locksLater", fn := fun _ => fun
  | [d1, d2, d3, d4, d5, d6] => { results := [.lit (.bool false)], args := [d1, d2, d3, d4, d5, d6] }
  | _ => none }
def LocksLaterWrongFalsely : Prop := locksLaterRow.holds Tryd.pinned (OpenSpec.ofChange locksLaterWrong)

/-- 'accountinglaw16.LocksNews': WHATEVER THE INPUT: true; the input reads as it did. -/
def locksNewsSpec : ChangeSpec := { name := "locksNews", fn := fun _ => fun
  | [d1, d2, d3] => { results := [.lit (.bool true)], args := [d1, d2, d3] }
  | _ => none }
def locksNewsRow : OpenClaim := { program := "ythgmhlpjbednpaadoor", sum := "099563f845a2c94e2b458e5f05341e307ad37f1ac88cef5ec8138c749962d479", func := "accounting/accountinglaw16.LocksNews", spec := "locksNews", unfollowed := true, recurses := true, named := ["accounting/days.lengths"], apart := false, laid := [("accounting/days.lengths", laid_accounting_days_lengths)] }
def LocksNewsSaid : Prop := locksNewsRow.holds Tryd.pinned (OpenSpec.ofChange locksNewsSpec)

/-- ITS FALSE NEIGHBOUR: 'it returns false'. Refute it at one input. -/
def locksNewsWrong : ChangeSpec := { name := "locksNews", fn := fun _ => fun
  | [d1, d2, d3] => { results := [.lit (.bool false)], args := [d1, d2, d3] }
  | _ => none }
def LocksNewsWrongFalsely : Prop := locksNewsRow.holds Tryd.pinned (OpenSpec.ofChange locksNewsWrong)

/-- 'accountinglaw16.LocksNil': WHATEVER THE INPUT: true; the input reads as it did. -/
def locksNilSpec : ChangeSpec := { name := "locksNil", fn := fun _ => fun
  | [d1, d2, d3, d4, d5] => { results := [.lit (.bool true)], args := [d1, d2, d3, d4, d5] }
  | _ => none }
def locksNilRow : OpenClaim := { program := "ythgmhlpjbednpaadoor", sum := "099563f845a2c94e2b458e5f05341e307ad37f1ac88cef5ec8138c749962d479", func := "accounting/accountinglaw16.LocksNil", spec := "locksNil", unfollowed := true, recurses := true, named := ["accounting/days.lengths"], apart := false, laid := [("accounting/days.lengths", laid_accounting_days_lengths)] }
def LocksNilSaid : Prop := locksNilRow.holds Tryd.pinned (OpenSpec.ofChange locksNilSpec)

/-- ITS FALSE NEIGHBOUR: 'it returns false'. Refute it at one input. -/
def locksNilWrong : ChangeSpec := { name := "locksNil", fn := fun _ => fun
  | [d1, d2, d3, d4, d5] => { results := [.lit (.bool false)], args := [d1, d2, d3, d4, d5] }
  | _ => none }
def LocksNilWrongFalsely : Prop := locksNilRow.holds Tryd.pinned (OpenSpec.ofChange locksNilWrong)

/- THE SECOND FORM. 'bulk': how many values and letters a reading holds, each counted each time it is reached (what is shared counts as often as it is met; a slice's spare places count too). A statement '..UptoSaid' is the law's where the arguments, and the package variables that the reading takes, are together of bulk at most 1048576: NARROWER than '..Said'. Prove '..Said' where nothing that the law and all that it calls make is longer than what came in: it says more and counts as full. Else prove '..UptoSaid'. A law counts once. -/
mutual
def uptoBulk {H : Type} : DataW H → Nat
  | .lit (.string bytes) => bytes.length + 1
  | .lit _ => 1
  | .nil => 1
  | .ptr d => uptoBulk d + 1
  | .slice elems spare => uptoBulkAll elems + uptoBulkAll spare + 1
  | .agg parts => uptoBulkAll parts + 1
  | .iface _ d => uptoBulk d + 1
  | .map entries => uptoBulkEntries entries + 1
  | .held _ => 1
def uptoBulkAll {H : Type} : List (DataW H) → Nat
  | [] => 0
  | d :: r => uptoBulk d + uptoBulkAll r
def uptoBulkEntries {H : Type} : List (Lit × DataW H) → Nat
  | [] => 0
  | x :: r => uptoBulkEntry x + uptoBulkEntries r
def uptoBulkEntry {H : Type} : Lit × DataW H → Nat
  | (.string bytes, d) => bytes.length + uptoBulk d + 1
  | (_, d) => uptoBulk d + 1
 end
def uptoSmall : (H : Type) → List (DataW H) → Bool := fun _ ds => decide (uptoBulkAll ds ≤ 1048576)
def OpenSpec.upto (s : _root_.Go.ChangeSpec) : _root_.Go.OpenSpec := { _root_.Go.OpenSpec.ofChange s with cond := some uptoSmall }

/-- 'accountinglaw16.LocksPlays', WHERE WHAT IT READS IS OF BULK AT MOST 1048576: true; the input reads as it did. -/
def locksPlaysUptoRow : OpenClaim := { program := "ythgmhlpjbednpaadoor", sum := "099563f845a2c94e2b458e5f05341e307ad37f1ac88cef5ec8138c749962d479", func := "accounting/accountinglaw16.LocksPlays", spec := "locksPlays", unfollowed := true, recurses := true, named := ["accounting/days.lengths"], apart := false, laid := [("accounting/days.lengths", laid_accounting_days_lengths)], narrowed := true }
def LocksPlaysUptoSaid : Prop := locksPlaysUptoRow.holds Tryd.pinned (OpenSpec.upto locksPlaysSpec)

/-- 'accountinglaw16.LocksTwo', WHERE WHAT IT READS IS OF BULK AT MOST 1048576: true; the input reads as it did. -/
def locksTwoUptoRow : OpenClaim := { program := "ythgmhlpjbednpaadoor", sum := "099563f845a2c94e2b458e5f05341e307ad37f1ac88cef5ec8138c749962d479", func := "accounting/accountinglaw16.LocksTwo", spec := "locksTwo", unfollowed := true, recurses := true, named := ["accounting/days.lengths"], apart := false, laid := [("accounting/days.lengths", laid_accounting_days_lengths)], narrowed := true }
def LocksTwoUptoSaid : Prop := locksTwoUptoRow.holds Tryd.pinned (OpenSpec.upto locksTwoSpec)

/-- 'accountinglaw16.LocksApart', WHERE WHAT IT READS IS OF BULK AT MOST 1048576: true; the input reads as it did. -/
def locksApartUptoRow : OpenClaim := { program := "ythgmhlpjbednpaadoor", sum := "099563f845a2c94e2b458e5f05341e307ad37f1ac88cef5ec8138c749962d479", func := "accounting/accountinglaw16.LocksApart", spec := "locksApart", unfollowed := true, recurses := true, named := ["accounting/days.lengths"], apart := false, laid := [("accounting/days.lengths", laid_accounting_days_lengths)], narrowed := true }
def LocksApartUptoSaid : Prop := locksApartUptoRow.holds Tryd.pinned (OpenSpec.upto locksApartSpec)

/-- 'accountinglaw16.LocksLater', WHERE WHAT IT READS IS OF BULK AT MOST 1048576: true; the input reads as it did. -/
def locksLaterUptoRow : OpenClaim := { program := "ythgmhlpjbednpaadoor", sum := "099563f845a2c94e2b458e5f05341e307ad37f1ac88cef5ec8138c749962d479", func := "accounting/accountinglaw16.LocksLater", spec := "locksLater", unfollowed := true, recurses := true, named := ["accounting/days.lengths"], apart := false, laid := [("accounting/days.lengths", laid_accounting_days_lengths)], narrowed := true }
def LocksLaterUptoSaid : Prop := locksLaterUptoRow.holds Tryd.pinned (OpenSpec.upto locksLaterSpec)

/-- 'accountinglaw16.LocksNews', WHERE WHAT IT READS IS OF BULK AT MOST 1048576: true; the input reads as it did. -/
def locksNewsUptoRow : OpenClaim := { program := "ythgmhlpjbednpaadoor", sum := "099563f845a2c94e2b458e5f05341e307ad37f1ac88cef5ec8138c749962d479", func := "accounting/accountinglaw16.LocksNews", spec := "locksNews", unfollowed := true, recurses := true, named := ["accounting/days.lengths"], apart := false, laid := [("accounting/days.lengths", laid_accounting_days_lengths)], narrowed := true }
def LocksNewsUptoSaid : Prop := locksNewsUptoRow.holds Tryd.pinned (OpenSpec.upto locksNewsSpec)

/-- 'accountinglaw16.LocksNil', WHERE WHAT IT READS IS OF BULK AT MOST 1048576: true; the input reads as it did. -/
def locksNilUptoRow : OpenClaim := { program := "ythgmhlpjbednpaadoor", sum := "099563f845a2c94e2b458e5f05341e307ad37f1ac88cef5ec8138c749962d479", func := "accounting/accountinglaw16.LocksNil", spec := "locksNil", unfollowed := true, recurses := true, named := ["accounting/days.lengths"], apart := false, laid := [("accounting/days.lengths", laid_accounting_days_lengths)], narrowed := true }
def LocksNilUptoSaid : Prop := locksNilUptoRow.holds Tryd.pinned (OpenSpec.upto locksNilSpec)

end Rows
end Go.Proofs.YthgmhlpjbednpaaDoor
