/-
  No cell of these rows narrows 'for every input' (looked for: loops, veiled, ifaces, maps, wideKeys, modest, calm, conditions, laid).
  DERIVED. THE GIVEN ROWS OF THIS SEAT. 8 by the template 'for every input the law returns true; each argument reads behind the call as it read before'; 0 by the template 'total and deterministic' (their statements: YtinhoindkpaibaaTotals.lean).
  GIVEN WITH THE SEED: the statements are not yours to turn. If you find one false, say at which input.
  Laid BY PROGRAM, IN A SANDBOX (cutbox-rows.mjs): the forced cells as the released guide's own fill.sh prints them over the translation b6ac09d5074468c3… (all of the seat's roots in one cut). By AI agents, Wed Nov 11 2026. No macro, syntax, notation, axiom, sorry.
-/
import Derived.Test.YtinhoindkpaibaaChecked
import GoSem.Claim
import GoSem.ClaimJoined
import GoSem.ClaimMapViews
import Derived.JoinedTies
import Derived.KernelRfl
namespace Go.Proofs.Ytinhoindkpaibaa
/- THE CELL 'sum', in the pinned program and in every row, IS THE sha256 OF THE DUMP (.gsa) THAT YtinhoindkpaibaaProg.lean LOADS. Nothing in Lean hashes anything: it is a label: what it is worth is what the hold of that sum in a sandbox is worth. -/
noncomputable def Try.pinned : Pinned := { name := "ytinhoindkpaibaa", sum := "b6ac09d5074468c3f3ff4bed451483c187c7834092f7a405002b830314b101ea", checked := Try.checked }
namespace Rows
def none {H : Type} : Left H := { results := [], args := [] }

/-- 'accountinglaw14.ChainNextReference': WHATEVER THE INPUT: true; the input reads as it did. -/
def chainNextReferenceSpec : ChangeSpec := { name := "chainNextReference", fn := fun _ => fun
  | [d1, d2] => { results := [.lit (.bool true)], args := [d1, d2] }
  | _ => none }
def chainNextReferenceRow : OpenClaim := { program := "ytinhoindkpaibaa", sum := "b6ac09d5074468c3f3ff4bed451483c187c7834092f7a405002b830314b101ea", func := "accounting/accountinglaw14.ChainNextReference", spec := "chainNextReference", apart := false }
def ChainNextReferenceSaid : Prop := chainNextReferenceRow.holds Try.pinned (OpenSpec.ofChange chainNextReferenceSpec)

/-- ITS FALSE NEIGHBOUR: 'it returns false'. Refute it at one input. -/
def chainNextReferenceWrong : ChangeSpec := { name := "chainNextReference", fn := fun _ => fun
  | [d1, d2] => { results := [.lit (.bool false)], args := [d1, d2] }
  | _ => none }
def ChainNextReferenceWrongFalsely : Prop := chainNextReferenceRow.holds Try.pinned (OpenSpec.ofChange chainNextReferenceWrong)

/-- 'accountinglaw14.ChainAllReference': WHATEVER THE INPUT: true; the input reads as it did. -/
def chainAllReferenceSpec : ChangeSpec := { name := "chainAllReference", fn := fun _ => fun
  | [d] => { results := [.lit (.bool true)], args := [d] }
  | _ => none }
def chainAllReferenceRow : OpenClaim := { program := "ytinhoindkpaibaa", sum := "b6ac09d5074468c3f3ff4bed451483c187c7834092f7a405002b830314b101ea", func := "accounting/accountinglaw14.ChainAllReference", spec := "chainAllReference", apart := false }
def ChainAllReferenceSaid : Prop := chainAllReferenceRow.holds Try.pinned (OpenSpec.ofChange chainAllReferenceSpec)

/-- ITS FALSE NEIGHBOUR: 'it returns false'. Refute it at one input. -/
def chainAllReferenceWrong : ChangeSpec := { name := "chainAllReference", fn := fun _ => fun
  | [d] => { results := [.lit (.bool false)], args := [d] }
  | _ => none }
def ChainAllReferenceWrongFalsely : Prop := chainAllReferenceRow.holds Try.pinned (OpenSpec.ofChange chainAllReferenceWrong)

/-- 'accountinglaw14.ChainCheckReference': WHATEVER THE INPUT: true; the input reads as it did. -/
def chainCheckReferenceSpec : ChangeSpec := { name := "chainCheckReference", fn := fun _ => fun
  | [d1, d2] => { results := [.lit (.bool true)], args := [d1, d2] }
  | _ => none }
def chainCheckReferenceRow : OpenClaim := { program := "ytinhoindkpaibaa", sum := "b6ac09d5074468c3f3ff4bed451483c187c7834092f7a405002b830314b101ea", func := "accounting/accountinglaw14.ChainCheckReference", spec := "chainCheckReference", apart := false }
def ChainCheckReferenceSaid : Prop := chainCheckReferenceRow.holds Try.pinned (OpenSpec.ofChange chainCheckReferenceSpec)

/-- ITS FALSE NEIGHBOUR: 'it returns false'. Refute it at one input. -/
def chainCheckReferenceWrong : ChangeSpec := { name := "chainCheckReference", fn := fun _ => fun
  | [d1, d2] => { results := [.lit (.bool false)], args := [d1, d2] }
  | _ => none }
def ChainCheckReferenceWrongFalsely : Prop := chainCheckReferenceRow.holds Try.pinned (OpenSpec.ofChange chainCheckReferenceWrong)

/-- 'accountinglaw14.ChainContinues': WHATEVER THE INPUT: true; the input reads as it did. -/
def chainContinuesSpec : ChangeSpec := { name := "chainContinues", fn := fun _ => fun
  | [d1, d2] => { results := [.lit (.bool true)], args := [d1, d2] }
  | _ => none }
def chainContinuesRow : OpenClaim := { program := "ytinhoindkpaibaa", sum := "b6ac09d5074468c3f3ff4bed451483c187c7834092f7a405002b830314b101ea", func := "accounting/accountinglaw14.ChainContinues", spec := "chainContinues", apart := false }
def ChainContinuesSaid : Prop := chainContinuesRow.holds Try.pinned (OpenSpec.ofChange chainContinuesSpec)

/-- ITS FALSE NEIGHBOUR: 'it returns false'. Refute it at one input. -/
def chainContinuesWrong : ChangeSpec := { name := "chainContinues", fn := fun _ => fun
  | [d1, d2] => { results := [.lit (.bool false)], args := [d1, d2] }
  | _ => none }
def ChainContinuesWrongFalsely : Prop := chainContinuesRow.holds Try.pinned (OpenSpec.ofChange chainContinuesWrong)

/-- 'accountinglaw14.ChainOneByte': WHATEVER THE INPUT: true; the input reads as it did. -/
def chainOneByteSpec : ChangeSpec := { name := "chainOneByte", fn := fun _ => fun
  | [d] => { results := [.lit (.bool true)], args := [d] }
  | _ => none }
def chainOneByteRow : OpenClaim := { program := "ytinhoindkpaibaa", sum := "b6ac09d5074468c3f3ff4bed451483c187c7834092f7a405002b830314b101ea", func := "accounting/accountinglaw14.ChainOneByte", spec := "chainOneByte", apart := false }
def ChainOneByteSaid : Prop := chainOneByteRow.holds Try.pinned (OpenSpec.ofChange chainOneByteSpec)

/-- ITS FALSE NEIGHBOUR: 'it returns false'. Refute it at one input. -/
def chainOneByteWrong : ChangeSpec := { name := "chainOneByte", fn := fun _ => fun
  | [d] => { results := [.lit (.bool false)], args := [d] }
  | _ => none }
def ChainOneByteWrongFalsely : Prop := chainOneByteRow.holds Try.pinned (OpenSpec.ofChange chainOneByteWrong)

/-- 'accountinglaw14.ChainWrongSum': WHATEVER THE INPUT: true; the input reads as it did. -/
def chainWrongSumSpec : ChangeSpec := { name := "chainWrongSum", fn := fun _ => fun
  | [d1, d2, d3] => { results := [.lit (.bool true)], args := [d1, d2, d3] }
  | _ => none }
def chainWrongSumRow : OpenClaim := { program := "ytinhoindkpaibaa", sum := "b6ac09d5074468c3f3ff4bed451483c187c7834092f7a405002b830314b101ea", func := "accounting/accountinglaw14.ChainWrongSum", spec := "chainWrongSum", apart := false }
def ChainWrongSumSaid : Prop := chainWrongSumRow.holds Try.pinned (OpenSpec.ofChange chainWrongSumSpec)

/-- ITS FALSE NEIGHBOUR: 'it returns false'. Refute it at one input. -/
def chainWrongSumWrong : ChangeSpec := { name := "chainWrongSum", fn := fun _ => fun
  | [d1, d2, d3] => { results := [.lit (.bool false)], args := [d1, d2, d3] }
  | _ => none }
def ChainWrongSumWrongFalsely : Prop := chainWrongSumRow.holds Try.pinned (OpenSpec.ofChange chainWrongSumWrong)

/-- 'accountinglaw14.ChainNotation': WHATEVER THE INPUT: true; the input reads as it did. -/
def chainNotationSpec : ChangeSpec := { name := "chainNotation", fn := fun _ => fun
  | [d1, d2, d3] => { results := [.lit (.bool true)], args := [d1, d2, d3] }
  | _ => none }
def chainNotationRow : OpenClaim := { program := "ytinhoindkpaibaa", sum := "b6ac09d5074468c3f3ff4bed451483c187c7834092f7a405002b830314b101ea", func := "accounting/accountinglaw14.ChainNotation", spec := "chainNotation", apart := false }
def ChainNotationSaid : Prop := chainNotationRow.holds Try.pinned (OpenSpec.ofChange chainNotationSpec)

/-- ITS FALSE NEIGHBOUR: 'it returns false'. Refute it at one input. -/
def chainNotationWrong : ChangeSpec := { name := "chainNotation", fn := fun _ => fun
  | [d1, d2, d3] => { results := [.lit (.bool false)], args := [d1, d2, d3] }
  | _ => none }
def ChainNotationWrongFalsely : Prop := chainNotationRow.holds Try.pinned (OpenSpec.ofChange chainNotationWrong)

/-- 'accountinglaw14.ChainRoundTrip': WHATEVER THE INPUT: true; the input reads as it did. -/
def chainRoundTripSpec : ChangeSpec := { name := "chainRoundTrip", fn := fun _ => fun
  | [d] => { results := [.lit (.bool true)], args := [d] }
  | _ => none }
def chainRoundTripRow : OpenClaim := { program := "ytinhoindkpaibaa", sum := "b6ac09d5074468c3f3ff4bed451483c187c7834092f7a405002b830314b101ea", func := "accounting/accountinglaw14.ChainRoundTrip", spec := "chainRoundTrip", apart := false }
def ChainRoundTripSaid : Prop := chainRoundTripRow.holds Try.pinned (OpenSpec.ofChange chainRoundTripSpec)

/-- ITS FALSE NEIGHBOUR: 'it returns false'. Refute it at one input. -/
def chainRoundTripWrong : ChangeSpec := { name := "chainRoundTrip", fn := fun _ => fun
  | [d] => { results := [.lit (.bool false)], args := [d] }
  | _ => none }
def ChainRoundTripWrongFalsely : Prop := chainRoundTripRow.holds Try.pinned (OpenSpec.ofChange chainRoundTripWrong)

/- THE SECOND FORM. 'bulk': how many values and letters a reading holds, each counted each time it is reached (what is shared counts as often as it is met; a slice's spare places count too). A statement '..UptoSaid' is the law's where the arguments, and the package variables that the reading takes, are together of bulk at most 1048576: NARROWER than '..Said'. Prove '..Said' where nothing that the law and all that it calls make is longer than what came in: it says more and counts as full. Else prove '..UptoSaid'. A law counts once. -/
mutual
def uptoBulk {H : Type} : DataW H → Nat
  | .lit (.string bytes) => bytes.length + 1
  | .lit _ => 1
  | .nil => 1
  | .ptr d => uptoBulk d + 1
  | .slice elems spare => uptoBulkAll elems + uptoBulkAll spare + 1
  | .agg parts => uptoBulkAll parts + 1
  | .iface _ d => uptoBulk d + 1
  | .map entries => uptoBulkEntries entries + 1
  | .held _ => 1
def uptoBulkAll {H : Type} : List (DataW H) → Nat
  | [] => 0
  | d :: r => uptoBulk d + uptoBulkAll r
def uptoBulkEntries {H : Type} : List (Lit × DataW H) → Nat
  | [] => 0
  | x :: r => uptoBulkEntry x + uptoBulkEntries r
def uptoBulkEntry {H : Type} : Lit × DataW H → Nat
  | (.string bytes, d) => bytes.length + uptoBulk d + 1
  | (_, d) => uptoBulk d + 1
 end
def uptoSmall : (H : Type) → List (DataW H) → Bool := fun _ ds => decide (uptoBulkAll ds ≤ 1048576)
def OpenSpec.upto (s : _root_.Go.ChangeSpec) : _root_.Go.OpenSpec := { _root_.Go.OpenSpec.ofChange s with cond := some uptoSmall }

/-- 'accountinglaw14.ChainNextReference', WHERE WHAT IT READS IS OF BULK AT MOST 1048576: true; the input reads as it did. -/
def chainNextReferenceUptoRow : OpenClaim := { program := "ytinhoindkpaibaa", sum := "b6ac09d5074468c3f3ff4bed451483c187c7834092f7a405002b830314b101ea", func := "accounting/accountinglaw14.ChainNextReference", spec := "chainNextReference", apart := false, narrowed := true }
def ChainNextReferenceUptoSaid : Prop := chainNextReferenceUptoRow.holds Try.pinned (OpenSpec.upto chainNextReferenceSpec)

/-- 'accountinglaw14.ChainAllReference', WHERE WHAT IT READS IS OF BULK AT MOST 1048576: true; the input reads as it did. -/
def chainAllReferenceUptoRow : OpenClaim := { program := "ytinhoindkpaibaa", sum := "b6ac09d5074468c3f3ff4bed451483c187c7834092f7a405002b830314b101ea", func := "accounting/accountinglaw14.ChainAllReference", spec := "chainAllReference", apart := false, narrowed := true }
def ChainAllReferenceUptoSaid : Prop := chainAllReferenceUptoRow.holds Try.pinned (OpenSpec.upto chainAllReferenceSpec)

/-- 'accountinglaw14.ChainCheckReference', WHERE WHAT IT READS IS OF BULK AT MOST 1048576: true; the input reads as it did. -/
def chainCheckReferenceUptoRow : OpenClaim := { program := "ytinhoindkpaibaa", sum := "b6ac09d5074468c3f3ff4bed451483c187c7834092f7a405002b830314b101ea", func := "accounting/accountinglaw14.ChainCheckReference", spec := "chainCheckReference", apart := false, narrowed := true }
def ChainCheckReferenceUptoSaid : Prop := chainCheckReferenceUptoRow.holds Try.pinned (OpenSpec.upto chainCheckReferenceSpec)

/-- 'accountinglaw14.ChainContinues', WHERE WHAT IT READS IS OF BULK AT MOST 1048576: true; the input reads as it did. -/
def chainContinuesUptoRow : OpenClaim := { program := "ytinhoindkpaibaa", sum := "b6ac09d5074468c3f3ff4bed451483c187c7834092f7a405002b830314b101ea", func := "accounting/accountinglaw14.ChainContinues", spec := "chainContinues", apart := false, narrowed := true }
def ChainContinuesUptoSaid : Prop := chainContinuesUptoRow.holds Try.pinned (OpenSpec.upto chainContinuesSpec)

/-- 'accountinglaw14.ChainOneByte', WHERE WHAT IT READS IS OF BULK AT MOST 1048576: true; the input reads as it did. -/
def chainOneByteUptoRow : OpenClaim := { program := "ytinhoindkpaibaa", sum := "b6ac09d5074468c3f3ff4bed451483c187c7834092f7a405002b830314b101ea", func := "accounting/accountinglaw14.ChainOneByte", spec := "chainOneByte", apart := false, narrowed := true }
def ChainOneByteUptoSaid : Prop := chainOneByteUptoRow.holds Try.pinned (OpenSpec.upto chainOneByteSpec)

/-- 'accountinglaw14.ChainWrongSum', WHERE WHAT IT READS IS OF BULK AT MOST 1048576: true; the input reads as it did. -/
def chainWrongSumUptoRow : OpenClaim := { program := "ytinhoindkpaibaa", sum := "b6ac09d5074468c3f3ff4bed451483c187c7834092f7a405002b830314b101ea", func := "accounting/accountinglaw14.ChainWrongSum", spec := "chainWrongSum", apart := false, narrowed := true }
def ChainWrongSumUptoSaid : Prop := chainWrongSumUptoRow.holds Try.pinned (OpenSpec.upto chainWrongSumSpec)

/-- 'accountinglaw14.ChainNotation', WHERE WHAT IT READS IS OF BULK AT MOST 1048576: true; the input reads as it did. -/
def chainNotationUptoRow : OpenClaim := { program := "ytinhoindkpaibaa", sum := "b6ac09d5074468c3f3ff4bed451483c187c7834092f7a405002b830314b101ea", func := "accounting/accountinglaw14.ChainNotation", spec := "chainNotation", apart := false, narrowed := true }
def ChainNotationUptoSaid : Prop := chainNotationUptoRow.holds Try.pinned (OpenSpec.upto chainNotationSpec)

/-- 'accountinglaw14.ChainRoundTrip', WHERE WHAT IT READS IS OF BULK AT MOST 1048576: true; the input reads as it did. -/
def chainRoundTripUptoRow : OpenClaim := { program := "ytinhoindkpaibaa", sum := "b6ac09d5074468c3f3ff4bed451483c187c7834092f7a405002b830314b101ea", func := "accounting/accountinglaw14.ChainRoundTrip", spec := "chainRoundTrip", apart := false, narrowed := true }
def ChainRoundTripUptoSaid : Prop := chainRoundTripUptoRow.holds Try.pinned (OpenSpec.upto chainRoundTripSpec)

end Rows
end Go.Proofs.Ytinhoindkpaibaa
