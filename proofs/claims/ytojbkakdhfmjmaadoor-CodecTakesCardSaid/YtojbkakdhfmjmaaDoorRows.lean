/-
  NARROWER THAN 'FOR EVERY INPUT', by the rows' own cells (each row's printed sentence says how): CodecApart: laid · CodecTakes: laid · CodecEntries: laid · CodecCut: laid.
  DERIVED. THE GIVEN ROWS OF THIS SEAT. 4 by the template 'for every input the law returns true; each argument reads behind the call as it read before'; 0 by the template 'total and deterministic' (their statements: YtojbkakdhfmjmaaDoorTotals.lean).
  GIVEN WITH THE SEED: the statements are not yours to turn. If you find one false, say at which input.
  Laid BY PROGRAM, IN A SANDBOX (cutbox-rows.mjs): the forced cells as the released guide's own fill.sh prints them over the translation 59b926faae0865d1… (all of the seat's roots in one cut). By AI agents, Wed Nov 11 2026. No macro, syntax, notation, axiom, sorry.
-/
import Derived.Test.YtojbkakdhfmjmaaDoorChecked
import GoSem.Claim
import GoSem.ClaimJoined
import GoSem.ClaimMapViews
import Derived.JoinedTies
import Derived.KernelRfl
namespace Go.Proofs.YtojbkakdhfmjmaaDoor
/- THE CELL 'sum', in the pinned program and in every row, IS THE sha256 OF THE DUMP (.gsa) THAT YtojbkakdhfmjmaaDoorProg.lean LOADS. Nothing in Lean hashes anything: it is a label: what it is worth is what the hold of that sum in a sandbox is worth. -/
noncomputable def Tryd.pinned : Pinned := { name := "ytojbkakdhfmjmaadoor", sum := "59b926faae0865d117004e00ace4fde21624ff60979eb8208ad9dd4052012a5b", checked := Tryd.checked }
namespace Rows
def none {H : Type} : Left H := { results := [], args := [] }

/- WHAT THE LISTED PACKAGE-LEVEL VARIABLES READ AS WHEN THE CALL BEGINS. Each datum BY PROGRAM (the guide's laid-datum.mjs) off the statement by which the dump's own 'gosem.cut.vars' lays the variable. In a bare row this is a premise. The card (YtojbkakdhfmjmaaDoorCards.lean) ties it to the program's text. -/
def laid_accounting_days_lengths {H : Type} : DataW H := .agg [.lit (.int .i64 31), .lit (.int .i64 28), .lit (.int .i64 31), .lit (.int .i64 30), .lit (.int .i64 31), .lit (.int .i64 30), .lit (.int .i64 31), .lit (.int .i64 31), .lit (.int .i64 30), .lit (.int .i64 31), .lit (.int .i64 30), .lit (.int .i64 31)]

/-- 'accountinglaw13.CodecApart': WHATEVER THE INPUT: true; the input reads as it did. -/
def codecApartSpec : ChangeSpec := { name := "codecApart", fn := fun _ => fun
  | [d1, d2] => { results := [.lit (.bool true)], args := [d1, d2] }
  | _ => none }
def codecApartRow : OpenClaim := { program := "ytojbkakdhfmjmaadoor", sum := "59b926faae0865d117004e00ace4fde21624ff60979eb8208ad9dd4052012a5b", func := "accounting/accountinglaw13.CodecApart", spec := "codecApart", inPlace := ["math/bits.Add64"], unfollowed := true, recurses := true, named := ["accounting/days.lengths"], apart := false, laid := [("accounting/days.lengths", laid_accounting_days_lengths)] }
def CodecApartSaid : Prop := codecApartRow.holds Tryd.pinned (OpenSpec.ofChange codecApartSpec)

/-- ITS FALSE NEIGHBOUR: 'it returns false'. Refute it at one input. -/
def codecApartWrong : ChangeSpec := { name := "codecApart", fn := fun _ => fun
  | [d1, d2] => { results := [.lit (.bool false)], args := [d1, d2] }
  | _ => none }
def CodecApartWrongFalsely : Prop := codecApartRow.holds Tryd.pinned (OpenSpec.ofChange codecApartWrong)

/-- 'accountinglaw13.CodecTakes': WHATEVER THE INPUT: true; the input reads as it did. -/
def codecTakesSpec : ChangeSpec := { name := "codecTakes", fn := fun _ => fun
  | [d] => { results := [.lit (.bool true)], args := [d] }
  | _ => none }
def codecTakesRow : OpenClaim := { program := "ytojbkakdhfmjmaadoor", sum := "59b926faae0865d117004e00ace4fde21624ff60979eb8208ad9dd4052012a5b", func := "accounting/accountinglaw13.CodecTakes", spec := "codecTakes", inPlace := ["math/bits.Add64"], unfollowed := true, recurses := true, named := ["accounting/days.lengths"], apart := false, laid := [("accounting/days.lengths", laid_accounting_days_lengths)] }
def CodecTakesSaid : Prop := codecTakesRow.holds Tryd.pinned (OpenSpec.ofChange codecTakesSpec)

/-- ITS FALSE NEIGHBOUR: 'it returns false'. Refute it at one input. -/
def codecTakesWrong : ChangeSpec := { name := "codecTakes", fn := fun _ => fun
  | [d] => { results := [.lit (.bool false)], args := [d] }
  | _ => none }
def CodecTakesWrongFalsely : Prop := codecTakesRow.holds Tryd.pinned (OpenSpec.ofChange codecTakesWrong)

/-- 'accountinglaw13.CodecEntries': WHATEVER THE INPUT: true; the input reads as it did. -/
def codecEntriesSpec : ChangeSpec := { name := "codecEntries", fn := fun _ => fun
  | [d1, d2] => { results := [.lit (.bool true)], args := [d1, d2] }
  | _ => none }
def codecEntriesRow : OpenClaim := { program := "ytojbkakdhfmjmaadoor", sum := "59b926faae0865d117004e00ace4fde21624ff60979eb8208ad9dd4052012a5b", func := "accounting/accountinglaw13.CodecEntries", spec := "codecEntries", inPlace := ["math/bits.Add64"], unfollowed := true, recurses := true, named := ["accounting/days.lengths"], apart := false, laid := [("accounting/days.lengths", laid_accounting_days_lengths)] }
def CodecEntriesSaid : Prop := codecEntriesRow.holds Tryd.pinned (OpenSpec.ofChange codecEntriesSpec)

/-- ITS FALSE NEIGHBOUR: 'it returns false'. Refute it at one input. -/
def codecEntriesWrong : ChangeSpec := { name := "codecEntries", fn := fun _ => fun
  | [d1, d2] => { results := [.lit (.bool false)], args := [d1, d2] }
  | _ => none }
def CodecEntriesWrongFalsely : Prop := codecEntriesRow.holds Tryd.pinned (OpenSpec.ofChange codecEntriesWrong)

/-- 'accountinglaw13.CodecCut': WHATEVER THE INPUT: true; the input reads as it did. -/
def codecCutSpec : ChangeSpec := { name := "codecCut", fn := fun _ => fun
  | [d1, d2] => { results := [.lit (.bool true)], args := [d1, d2] }
  | _ => none }
def codecCutRow : OpenClaim := { program := "ytojbkakdhfmjmaadoor", sum := "59b926faae0865d117004e00ace4fde21624ff60979eb8208ad9dd4052012a5b", func := "accounting/accountinglaw13.CodecCut", spec := "codecCut", inPlace := ["math/bits.Add64"], unfollowed := true, recurses := true, named := ["accounting/days.lengths"], apart := false, laid := [("accounting/days.lengths", laid_accounting_days_lengths)] }
def CodecCutSaid : Prop := codecCutRow.holds Tryd.pinned (OpenSpec.ofChange codecCutSpec)

/-- ITS FALSE NEIGHBOUR: 'it returns false'. Refute it at one input. -/
def codecCutWrong : ChangeSpec := { name := "codecCut", fn := fun _ => fun
  | [d1, d2] => { results := [.lit (.bool false)], args := [d1, d2] }
  | _ => none }
def CodecCutWrongFalsely : Prop := codecCutRow.holds Tryd.pinned (OpenSpec.ofChange codecCutWrong)

/- THE SECOND FORM. 'bulk': how many values and letters a reading holds, each counted each time it is reached (what is shared counts as often as it is met; a slice's spare places count too). A statement '..UptoSaid' is the law's where the arguments, and the package variables that the reading takes, are together of bulk at most 1048576: NARROWER than '..Said'. Prove '..Said' where nothing that the law and all that it calls make is longer than what came in: it says more and counts as full. Else prove '..UptoSaid'. A law counts once. -/
mutual
def uptoBulk {H : Type} : DataW H → Nat
  | .lit (.string bytes) => bytes.length + 1
  | .lit _ => 1
  | .nil => 1
  | .ptr d => uptoBulk d + 1
  | .slice elems spare => uptoBulkAll elems + uptoBulkAll spare + 1
  | .agg parts => uptoBulkAll parts + 1
  | .iface _ d => uptoBulk d + 1
  | .map entries => uptoBulkEntries entries + 1
  | .held _ => 1
def uptoBulkAll {H : Type} : List (DataW H) → Nat
  | [] => 0
  | d :: r => uptoBulk d + uptoBulkAll r
def uptoBulkEntries {H : Type} : List (Lit × DataW H) → Nat
  | [] => 0
  | x :: r => uptoBulkEntry x + uptoBulkEntries r
def uptoBulkEntry {H : Type} : Lit × DataW H → Nat
  | (.string bytes, d) => bytes.length + uptoBulk d + 1
  | (_, d) => uptoBulk d + 1
 end
def uptoSmall : (H : Type) → List (DataW H) → Bool := fun _ ds => decide (uptoBulkAll ds ≤ 1048576)
def OpenSpec.upto (s : _root_.Go.ChangeSpec) : _root_.Go.OpenSpec := { _root_.Go.OpenSpec.ofChange s with cond := some uptoSmall }

/-- 'accountinglaw13.CodecApart', WHERE WHAT IT READS IS OF BULK AT MOST 1048576: true; the input reads as it did. -/
def codecApartUptoRow : OpenClaim := { program := "ytojbkakdhfmjmaadoor", sum := "59b926faae0865d117004e00ace4fde21624ff60979eb8208ad9dd4052012a5b", func := "accounting/accountinglaw13.CodecApart", spec := "codecApart", inPlace := ["math/bits.Add64"], unfollowed := true, recurses := true, named := ["accounting/days.lengths"], apart := false, laid := [("accounting/days.lengths", laid_accounting_days_lengths)], narrowed := true }
def CodecApartUptoSaid : Prop := codecApartUptoRow.holds Tryd.pinned (OpenSpec.upto codecApartSpec)

/-- 'accountinglaw13.CodecTakes', WHERE WHAT IT READS IS OF BULK AT MOST 1048576: true; the input reads as it did. -/
def codecTakesUptoRow : OpenClaim := { program := "ytojbkakdhfmjmaadoor", sum := "59b926faae0865d117004e00ace4fde21624ff60979eb8208ad9dd4052012a5b", func := "accounting/accountinglaw13.CodecTakes", spec := "codecTakes", inPlace := ["math/bits.Add64"], unfollowed := true, recurses := true, named := ["accounting/days.lengths"], apart := false, laid := [("accounting/days.lengths", laid_accounting_days_lengths)], narrowed := true }
def CodecTakesUptoSaid : Prop := codecTakesUptoRow.holds Tryd.pinned (OpenSpec.upto codecTakesSpec)

/-- 'accountinglaw13.CodecEntries', WHERE WHAT IT READS IS OF BULK AT MOST 1048576: true; the input reads as it did. -/
def codecEntriesUptoRow : OpenClaim := { program := "ytojbkakdhfmjmaadoor", sum := "59b926faae0865d117004e00ace4fde21624ff60979eb8208ad9dd4052012a5b", func := "accounting/accountinglaw13.CodecEntries", spec := "codecEntries", inPlace := ["math/bits.Add64"], unfollowed := true, recurses := true, named := ["accounting/days.lengths"], apart := false, laid := [("accounting/days.lengths", laid_accounting_days_lengths)], narrowed := true }
def CodecEntriesUptoSaid : Prop := codecEntriesUptoRow.holds Tryd.pinned (OpenSpec.upto codecEntriesSpec)

/-- 'accountinglaw13.CodecCut', WHERE WHAT IT READS IS OF BULK AT MOST 1048576: true; the input reads as it did. -/
def codecCutUptoRow : OpenClaim := { program := "ytojbkakdhfmjmaadoor", sum := "59b926faae0865d117004e00ace4fde21624ff60979eb8208ad9dd4052012a5b", func := "accounting/accountinglaw13.CodecCut", spec := "codecCut", inPlace := ["math/bits.Add64"], unfollowed := true, recurses := true, named := ["accounting/days.lengths"], apart := false, laid := [("accounting/days.lengths", laid_accounting_days_lengths)], narrowed := true }
def CodecCutUptoSaid : Prop := codecCutUptoRow.holds Tryd.pinned (OpenSpec.upto codecCutSpec)

end Rows
end Go.Proofs.YtojbkakdhfmjmaaDoor
