/-
  NARROWER THAN 'FOR EVERY INPUT', by the rows' own cells (each row's printed sentence says how): StoreAppend: laid · StoreBack: laid · StorePrefix: laid · StoreDamage: laid · StoreNil: laid.
  DERIVED. THE GIVEN ROWS OF THIS SEAT. 5 by the template 'for every input the law returns true; each argument reads behind the call as it read before'; 0 by the template 'total and deterministic' (their statements: YtkbheoganajhaaaDoorTotals.lean).
  GIVEN WITH THE SEED: the statements are not yours to turn. If you find one false, say at which input.
  Laid BY PROGRAM, IN A SANDBOX (cutbox-rows.mjs): the forced cells as the released guide's own fill.sh prints them over the translation 34f3cf92c1b68413… (all of the seat's roots in one cut). By AI agents, Wed Nov 11 2026. No macro, syntax, notation, axiom, sorry.
-/
import Derived.Test.YtkbheoganajhaaaDoorChecked
import GoSem.Claim
import GoSem.ClaimJoined
import GoSem.ClaimMapViews
import Derived.JoinedTies
import Derived.KernelRfl
namespace Go.Proofs.YtkbheoganajhaaaDoor
/- THE CELL 'sum', in the pinned program and in every row, IS THE sha256 OF THE DUMP (.gsa) THAT YtkbheoganajhaaaDoorProg.lean LOADS. Nothing in Lean hashes anything: it is a label: what it is worth is what the hold of that sum in a sandbox is worth. -/
noncomputable def Tryd.pinned : Pinned := { name := "ytkbheoganajhaaadoor", sum := "34f3cf92c1b68413b58706a12f05e2137b6d8a2882650eaae6630ad0a46a6467", checked := Tryd.checked }
namespace Rows
def none {H : Type} : Left H := { results := [], args := [] }

/- WHAT THE LISTED PACKAGE-LEVEL VARIABLES READ AS WHEN THE CALL BEGINS. Each datum BY PROGRAM (the guide's laid-datum.mjs) off the statement by which the dump's own 'gosem.cut.vars' lays the variable. In a bare row this is a premise. The card (YtkbheoganajhaaaDoorCards.lean) ties it to the program's text. -/
def laid_accounting_days_lengths {H : Type} : DataW H := .agg [.lit (.int .i64 31), .lit (.int .i64 28), .lit (.int .i64 31), .lit (.int .i64 30), .lit (.int .i64 31), .lit (.int .i64 30), .lit (.int .i64 31), .lit (.int .i64 31), .lit (.int .i64 30), .lit (.int .i64 31), .lit (.int .i64 30), .lit (.int .i64 31)]

/-- 'accountinglaw18.StoreAppend': WHATEVER THE INPUT: true; the input reads as it did. -/
def storeAppendSpec : ChangeSpec := { name := "storeAppend", fn := fun _ => fun
  | [d] => { results := [.lit (.bool true)], args := [d] }
  | _ => none }
def storeAppendRow : OpenClaim := { program := "ytkbheoganajhaaadoor", sum := "34f3cf92c1b68413b58706a12f05e2137b6d8a2882650eaae6630ad0a46a6467", func := "accounting/accountinglaw18.StoreAppend", spec := "storeAppend", inPlace := ["math/bits.Add64"], unfollowed := true, recurses := true, named := ["accounting/days.lengths"], apart := false, laid := [("accounting/days.lengths", laid_accounting_days_lengths)] }
def StoreAppendSaid : Prop := storeAppendRow.holds Tryd.pinned (OpenSpec.ofChange storeAppendSpec)

/-- ITS FALSE NEIGHBOUR: 'it returns false'. Refute it at one input. -/
def storeAppendWrong : ChangeSpec := { name := "storeAppend", fn := fun _ => fun
  | [d] => { results := [.lit (.bool false)], args := [d] }
  | _ => none }
def StoreAppendWrongFalsely : Prop := storeAppendRow.holds Tryd.pinned (OpenSpec.ofChange storeAppendWrong)

/-- 'accountinglaw18.StoreBack': WHATEVER THE INPUT: true; the input reads as it did. -/
def storeBackSpec : ChangeSpec := { name := "storeBack", fn := fun _ => fun
  | [d1, d2] => { results := [.lit (.bool true)], args := [d1, d2] }
  | _ => none }
def storeBackRow : OpenClaim := { program := "ytkbheoganajhaaadoor", sum := "34f3cf92c1b68413b58706a12f05e2137b6d8a2882650eaae6630ad0a46a6467", func := "accounting/accountinglaw18.StoreBack", spec := "storeBack", inPlace := ["math/bits.Add64"], unfollowed := true, recurses := true, named := ["accounting/days.lengths"], apart := false, laid := [("accounting/days.lengths", laid_accounting_days_lengths)] }
def StoreBackSaid : Prop := storeBackRow.holds Tryd.pinned (OpenSpec.ofChange storeBackSpec)

/-- ITS FALSE NEIGHBOUR: 'it returns false'. Refute it at one input. -/
def storeBackWrong : ChangeSpec := { name := "storeBack", fn := fun _ => fun
  | [d1, d2] => { results := [.lit (.bool false)], args := [d1, d2] }
  | _ => none }
def StoreBackWrongFalsely : Prop := storeBackRow.holds Tryd.pinned (OpenSpec.ofChange storeBackWrong)

/-- 'accountinglaw18.StorePrefix': WHATEVER THE INPUT: true; the input reads as it did. -/
def storePrefixSpec : ChangeSpec := { name := "storePrefix", fn := fun _ => fun
  | [d1, d2] => { results := [.lit (.bool true)], args := [d1, d2] }
  | _ => none }
def storePrefixRow : OpenClaim := { program := "ytkbheoganajhaaadoor", sum := "34f3cf92c1b68413b58706a12f05e2137b6d8a2882650eaae6630ad0a46a6467", func := "accounting/accountinglaw18.StorePrefix", spec := "storePrefix", inPlace := ["math/bits.Add64"], unfollowed := true, recurses := true, named := ["accounting/days.lengths"], apart := false, laid := [("accounting/days.lengths", laid_accounting_days_lengths)] }
def StorePrefixSaid : Prop := storePrefixRow.holds Tryd.pinned (OpenSpec.ofChange storePrefixSpec)

/-- ITS FALSE NEIGHBOUR: 'it returns false'. Refute it at one input. -/
def storePrefixWrong : ChangeSpec := { name := "storePrefix", fn := fun _ => fun
  | [d1, d2] => { results := [.lit (.bool false)], args := [d1, d2] }
  | _ => none }
def StorePrefixWrongFalsely : Prop := storePrefixRow.holds Tryd.pinned (OpenSpec.ofChange storePrefixWrong)

/-- 'accountinglaw18.StoreDamage': WHATEVER THE INPUT: true; the input reads as it did. -/
def storeDamageSpec : ChangeSpec := { name := "storeDamage", fn := fun _ => fun
  | [d1, d2, d3] => { results := [.lit (.bool true)], args := [d1, d2, d3] }
  | _ => none }
def storeDamageRow : OpenClaim := { program := "ytkbheoganajhaaadoor", sum := "34f3cf92c1b68413b58706a12f05e2137b6d8a2882650eaae6630ad0a46a6467", func := "accounting/accountinglaw18.StoreDamage", spec := "storeDamage", inPlace := ["math/bits.Add64"], unfollowed := true, recurses := true, named := ["accounting/days.lengths"], apart := false, laid := [("accounting/days.lengths", laid_accounting_days_lengths)] }
def StoreDamageSaid : Prop := storeDamageRow.holds Tryd.pinned (OpenSpec.ofChange storeDamageSpec)

/-- ITS FALSE NEIGHBOUR: 'it returns false'. Refute it at one input. -/
def storeDamageWrong : ChangeSpec := { name := "storeDamage", fn := fun _ => fun
  | [d1, d2, d3] => { results := [.lit (.bool false)], args := [d1, d2, d3] }
  | _ => none }
def StoreDamageWrongFalsely : Prop := storeDamageRow.holds Tryd.pinned (OpenSpec.ofChange storeDamageWrong)

/-- 'accountinglaw18.StoreNil': WHATEVER THE INPUT: true; the input reads as it did. -/
def storeNilSpec : ChangeSpec := { name := "storeNil", fn := fun _ => fun
  | [d] => { results := [.lit (.bool true)], args := [d] }
  | _ => none }
def storeNilRow : OpenClaim := { program := "ytkbheoganajhaaadoor", sum := "34f3cf92c1b68413b58706a12f05e2137b6d8a2882650eaae6630ad0a46a6467", func := "accounting/accountinglaw18.StoreNil", spec := "storeNil", inPlace := ["math/bits.Add64"], unfollowed := true, recurses := true, named := ["accounting/days.lengths"], apart := false, laid := [("accounting/days.lengths", laid_accounting_days_lengths)] }
def StoreNilSaid : Prop := storeNilRow.holds Tryd.pinned (OpenSpec.ofChange storeNilSpec)

/-- ITS FALSE NEIGHBOUR: 'it returns false'. Refute it at one input. -/
def storeNilWrong : ChangeSpec := { name := "storeNil", fn := fun _ => fun
  | [d] => { results := [.lit (.bool false)], args := [d] }
  | _ => none }
def StoreNilWrongFalsely : Prop := storeNilRow.holds Tryd.pinned (OpenSpec.ofChange storeNilWrong)

/- THE SECOND FORM. 'bulk': how many values and letters a reading holds, each counted each time it is reached (what is shared counts as often as it is met; a slice's spare places count too). A statement '..UptoSaid' is the law's where the arguments, and the package variables that the reading takes, are together of bulk at most 1048576: NARROWER than '..Said'. Prove '..Said' where nothing that the law and all that it calls make is longer than what came in: it says more and counts as full. Else prove '..UptoSaid'. A law counts once. -/
mutual
def uptoBulk {H : Type} : DataW H → Nat
  | .lit (.string bytes) => bytes.length + 1
  | .lit _ => 1
  | .nil => 1
  | .ptr d => uptoBulk d + 1
  | .slice elems spare => uptoBulkAll elems + uptoBulkAll spare + 1
  | .agg parts => uptoBulkAll parts + 1
  | .iface _ d => uptoBulk d + 1
  | .map entries => uptoBulkEntries entries + 1
  | .held _ => 1
def uptoBulkAll {H : Type} : List (DataW H) → Nat
  | [] => 0
  | d :: r => uptoBulk d + uptoBulkAll r
def uptoBulkEntries {H : Type} : List (Lit × DataW H) → Nat
  | [] => 0
  | x :: r => uptoBulkEntry x + uptoBulkEntries r
def uptoBulkEntry {H : Type} : Lit × DataW H → Nat
  | (.string bytes, d) => bytes.length + uptoBulk d + 1
  | (_, d) => uptoBulk d + 1
 end
def uptoSmall : (H : Type) → List (DataW H) → Bool := fun _ ds => decide (uptoBulkAll ds ≤ 1048576)
def OpenSpec.upto (s : _root_.Go.ChangeSpec) : _root_.Go.OpenSpec := { _root_.Go.OpenSpec.ofChange s with cond := some uptoSmall }

/-- 'accountinglaw18.StoreAppend', WHERE WHAT IT READS IS OF BULK AT MOST 1048576: true; the input reads as it did. -/
def storeAppendUptoRow : OpenClaim := { program := "ytkbheoganajhaaadoor", sum := "34f3cf92c1b68413b58706a12f05e2137b6d8a2882650eaae6630ad0a46a6467", func := "accounting/accountinglaw18.StoreAppend", spec := "storeAppend", inPlace := ["math/bits.Add64"], unfollowed := true, recurses := true, named := ["accounting/days.lengths"], apart := false, laid := [("accounting/days.lengths", laid_accounting_days_lengths)], narrowed := true }
def StoreAppendUptoSaid : Prop := storeAppendUptoRow.holds Tryd.pinned (OpenSpec.upto storeAppendSpec)

/-- 'accountinglaw18.StoreBack', WHERE WHAT IT READS IS OF BULK AT MOST 1048576: true; the input reads as it did. -/
def storeBackUptoRow : OpenClaim := { program := "ytkbheoganajhaaadoor", sum := "34f3cf92c1b68413b58706a12f05e2137b6d8a2882650eaae6630ad0a46a6467", func := "accounting/accountinglaw18.StoreBack", spec := "storeBack", inPlace := ["math/bits.Add64"], unfollowed := true, recurses := true, named := ["accounting/days.lengths"], apart := false, laid := [("accounting/days.lengths", laid_accounting_days_lengths)], narrowed := true }
def StoreBackUptoSaid : Prop := storeBackUptoRow.holds Tryd.pinned (OpenSpec.upto storeBackSpec)

/-- 'accountinglaw18.StorePrefix', WHERE WHAT IT READS IS OF BULK AT MOST 1048576: true; the input reads as it did. -/
def storePrefixUptoRow : OpenClaim := { program := "ytkbheoganajhaaadoor", sum := "34f3cf92c1b68413b58706a12f05e2137b6d8a2882650eaae6630ad0a46a6467", func := "accounting/accountinglaw18.StorePrefix", spec := "storePrefix", inPlace := ["math/bits.Add64"], unfollowed := true, recurses := true, named := ["accounting/days.lengths"], apart := false, laid := [("accounting/days.lengths", laid_accounting_days_lengths)], narrowed := true }
def StorePrefixUptoSaid : Prop := storePrefixUptoRow.holds Tryd.pinned (OpenSpec.upto storePrefixSpec)

/-- 'accountinglaw18.StoreDamage', WHERE WHAT IT READS IS OF BULK AT MOST 1048576: true; the input reads as it did. -/
def storeDamageUptoRow : OpenClaim := { program := "ytkbheoganajhaaadoor", sum := "34f3cf92c1b68413b58706a12f05e2137b6d8a2882650eaae6630ad0a46a6467", func := "accounting/accountinglaw18.StoreDamage", spec := "storeDamage", inPlace := ["math/bits.Add64"], unfollowed := true, recurses := true, named := ["accounting/days.lengths"], apart := false, laid := [("accounting/days.lengths", laid_accounting_days_lengths)], narrowed := true }
def StoreDamageUptoSaid : Prop := storeDamageUptoRow.holds Tryd.pinned (OpenSpec.upto storeDamageSpec)

/-- 'accountinglaw18.StoreNil', WHERE WHAT IT READS IS OF BULK AT MOST 1048576: true; the input reads as it did. -/
def storeNilUptoRow : OpenClaim := { program := "ytkbheoganajhaaadoor", sum := "34f3cf92c1b68413b58706a12f05e2137b6d8a2882650eaae6630ad0a46a6467", func := "accounting/accountinglaw18.StoreNil", spec := "storeNil", inPlace := ["math/bits.Add64"], unfollowed := true, recurses := true, named := ["accounting/days.lengths"], apart := false, laid := [("accounting/days.lengths", laid_accounting_days_lengths)], narrowed := true }
def StoreNilUptoSaid : Prop := storeNilUptoRow.holds Tryd.pinned (OpenSpec.upto storeNilSpec)

end Rows
end Go.Proofs.YtkbheoganajhaaaDoor
