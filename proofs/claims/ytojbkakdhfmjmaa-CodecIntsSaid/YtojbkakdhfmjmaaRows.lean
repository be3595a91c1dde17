/-
  No cell of these rows narrows 'for every input' (looked for: loops, veiled, ifaces, maps, wideKeys, modest, calm, conditions, laid).
  DERIVED. THE GIVEN ROWS OF THIS SEAT. 4 by the template 'for every input the law returns true; each argument reads behind the call as it read before'; 0 by the template 'total and deterministic' (their statements: YtojbkakdhfmjmaaTotals.lean).
  GIVEN WITH THE SEED: the statements are not yours to turn. If you find one false, say at which input.
  Laid BY PROGRAM, IN A SANDBOX (cutbox-rows.mjs): the forced cells as the released guide's own fill.sh prints them over the translation 79581df6a72bb861… (all of the seat's roots in one cut). By AI agents, Wed Nov 11 2026. No macro, syntax, notation, axiom, sorry.
-/
import Derived.Test.YtojbkakdhfmjmaaChecked
import GoSem.Claim
import GoSem.ClaimJoined
import GoSem.ClaimMapViews
import Derived.JoinedTies
import Derived.KernelRfl
namespace Go.Proofs.Ytojbkakdhfmjmaa
/- THE CELL 'sum', in the pinned program and in every row, IS THE sha256 OF THE DUMP (.gsa) THAT YtojbkakdhfmjmaaProg.lean LOADS. Nothing in Lean hashes anything: it is a label: what it is worth is what the hold of that sum in a sandbox is worth. -/
noncomputable def Try.pinned : Pinned := { name := "ytojbkakdhfmjmaa", sum := "79581df6a72bb8610018cea53a5156dce56254e6491a8e2b0f7329afe8176c3e", checked := Try.checked }
namespace Rows
def none {H : Type} : Left H := { results := [], args := [] }

/-- 'accountinglaw13.CodecInts': WHATEVER THE INPUT: true; the input reads as it did. -/
def codecIntsSpec : ChangeSpec := { name := "codecInts", fn := fun _ => fun
  | [d1, d2] => { results := [.lit (.bool true)], args := [d1, d2] }
  | _ => none }
def codecIntsRow : OpenClaim := { program := "ytojbkakdhfmjmaa", sum := "79581df6a72bb8610018cea53a5156dce56254e6491a8e2b0f7329afe8176c3e", func := "accounting/accountinglaw13.CodecInts", spec := "codecInts", unfollowed := true, recurses := true, apart := false }
def CodecIntsSaid : Prop := codecIntsRow.holds Try.pinned (OpenSpec.ofChange codecIntsSpec)

/-- ITS FALSE NEIGHBOUR: 'it returns false'. Refute it at one input. -/
def codecIntsWrong : ChangeSpec := { name := "codecInts", fn := fun _ => fun
  | [d1, d2] => { results := [.lit (.bool false)], args := [d1, d2] }
  | _ => none }
def CodecIntsWrongFalsely : Prop := codecIntsRow.holds Try.pinned (OpenSpec.ofChange codecIntsWrong)

/-- 'accountinglaw13.CodecTakesInt': WHATEVER THE INPUT: true; the input reads as it did. -/
def codecTakesIntSpec : ChangeSpec := { name := "codecTakesInt", fn := fun _ => fun
  | [d] => { results := [.lit (.bool true)], args := [d] }
  | _ => none }
def codecTakesIntRow : OpenClaim := { program := "ytojbkakdhfmjmaa", sum := "79581df6a72bb8610018cea53a5156dce56254e6491a8e2b0f7329afe8176c3e", func := "accounting/accountinglaw13.CodecTakesInt", spec := "codecTakesInt", unfollowed := true, recurses := true, apart := false }
def CodecTakesIntSaid : Prop := codecTakesIntRow.holds Try.pinned (OpenSpec.ofChange codecTakesIntSpec)

/-- ITS FALSE NEIGHBOUR: 'it returns false'. Refute it at one input. -/
def codecTakesIntWrong : ChangeSpec := { name := "codecTakesInt", fn := fun _ => fun
  | [d] => { results := [.lit (.bool false)], args := [d] }
  | _ => none }
def CodecTakesIntWrongFalsely : Prop := codecTakesIntRow.holds Try.pinned (OpenSpec.ofChange codecTakesIntWrong)

/-- 'accountinglaw13.CodecTexts': WHATEVER THE INPUT: true; the input reads as it did. -/
def codecTextsSpec : ChangeSpec := { name := "codecTexts", fn := fun _ => fun
  | [d1, d2] => { results := [.lit (.bool true)], args := [d1, d2] }
  | _ => none }
def codecTextsRow : OpenClaim := { program := "ytojbkakdhfmjmaa", sum := "79581df6a72bb8610018cea53a5156dce56254e6491a8e2b0f7329afe8176c3e", func := "accounting/accountinglaw13.CodecTexts", spec := "codecTexts", unfollowed := true, recurses := true, apart := false }
def CodecTextsSaid : Prop := codecTextsRow.holds Try.pinned (OpenSpec.ofChange codecTextsSpec)

/-- ITS FALSE NEIGHBOUR: 'it returns false'. Refute it at one input. -/
def codecTextsWrong : ChangeSpec := { name := "codecTexts", fn := fun _ => fun
  | [d1, d2] => { results := [.lit (.bool false)], args := [d1, d2] }
  | _ => none }
def CodecTextsWrongFalsely : Prop := codecTextsRow.holds Try.pinned (OpenSpec.ofChange codecTextsWrong)

/-- 'accountinglaw13.CodecTakesText': WHATEVER THE INPUT: true; the input reads as it did. -/
def codecTakesTextSpec : ChangeSpec := { name := "codecTakesText", fn := fun _ => fun
  | [d] => { results := [.lit (.bool true)], args := [d] }
  | _ => none }
def codecTakesTextRow : OpenClaim := { program := "ytojbkakdhfmjmaa", sum := "79581df6a72bb8610018cea53a5156dce56254e6491a8e2b0f7329afe8176c3e", func := "accounting/accountinglaw13.CodecTakesText", spec := "codecTakesText", unfollowed := true, recurses := true, apart := false }
def CodecTakesTextSaid : Prop := codecTakesTextRow.holds Try.pinned (OpenSpec.ofChange codecTakesTextSpec)

/-- ITS FALSE NEIGHBOUR: 'it returns false'. Refute it at one input. -/
def codecTakesTextWrong : ChangeSpec := { name := "codecTakesText", fn := fun _ => fun
  | [d] => { results := [.lit (.bool false)], args := [d] }
  | _ => none }
def CodecTakesTextWrongFalsely : Prop := codecTakesTextRow.holds Try.pinned (OpenSpec.ofChange codecTakesTextWrong)

/- THE SECOND FORM. 'bulk': how many values and letters a reading holds, each counted each time it is reached (what is shared counts as often as it is met; a slice's spare places count too). A statement '..UptoSaid' is the law's where the arguments, and the package variables that the reading takes, are together of bulk at most 1048576: NARROWER than '..Said'. Prove '..Said' where nothing that the law and all that it calls make is longer than what came in: it says more and counts as full. Else prove '..UptoSaid'. A law counts once. -/
mutual
def uptoBulk {H : Type} : DataW H → Nat
  | .lit (.string bytes) => bytes.length + 1
  | .lit _ => 1
  | .nil => 1
  | .ptr d => uptoBulk d + 1
  | .slice elems spare => uptoBulkAll elems + uptoBulkAll spare + 1
  | .agg parts => uptoBulkAll parts + 1
  | .iface _ d => uptoBulk d + 1
  | .map entries => uptoBulkEntries entries + 1
  | .held _ => 1
def uptoBulkAll {H : Type} : List (DataW H) → Nat
  | [] => 0
  | d :: r => uptoBulk d + uptoBulkAll r
def uptoBulkEntries {H : Type} : List (Lit × DataW H) → Nat
  | [] => 0
  | x :: r => uptoBulkEntry x + uptoBulkEntries r
def uptoBulkEntry {H : Type} : Lit × DataW H → Nat
  | (.string bytes, d) => bytes.length + uptoBulk d + 1
  | (_, d) => uptoBulk d + 1
 end
def uptoSmall : (H : Type) → List (DataW H) → Bool := fun _ ds => decide (uptoBulkAll ds ≤ 1048576)
def OpenSpec.upto (s : _root_.Go.ChangeSpec) : _root_.Go.OpenSpec := { _root_.Go.OpenSpec.ofChange s with cond := some uptoSmall }

/-- 'accountinglaw13.CodecInts', WHERE WHAT IT READS IS OF BULK AT MOST 1048576: true; the input reads as it did. -/
def codecIntsUptoRow : OpenClaim := { program := "ytojbkakdhfmjmaa", sum := "79581df6a72bb8610018cea53a5156dce56254e6491a8e2b0f7329afe8176c3e", func := "accounting/accountinglaw13.CodecInts", spec := "codecInts", unfollowed := true, recurses := true, apart := false, narrowed := true }
def CodecIntsUptoSaid : Prop := codecIntsUptoRow.holds Try.pinned (OpenSpec.upto codecIntsSpec)

/-- 'accountinglaw13.CodecTakesInt', WHERE WHAT IT READS IS OF BULK AT MOST 1048576: true; the input reads as it did. -/
def codecTakesIntUptoRow : OpenClaim := { program := "ytojbkakdhfmjmaa", sum := "79581df6a72bb8610018cea53a5156dce56254e6491a8e2b0f7329afe8176c3e", func := "accounting/accountinglaw13.CodecTakesInt", spec := "codecTakesInt", unfollowed := true, recurses := true, apart := false, narrowed := true }
def CodecTakesIntUptoSaid : Prop := codecTakesIntUptoRow.holds Try.pinned (OpenSpec.upto codecTakesIntSpec)

/-- 'accountinglaw13.CodecTexts', WHERE WHAT IT READS IS OF BULK AT MOST 1048576: true; the input reads as it did. -/
def codecTextsUptoRow : OpenClaim := { program := "ytojbkakdhfmjmaa", sum := "79581df6a72bb8610018cea53a5156dce56254e6491a8e2b0f7329afe8176c3e", func := "accounting/accountinglaw13.CodecTexts", spec := "codecTexts", unfollowed := true, recurses := true, apart := false, narrowed := true }
def CodecTextsUptoSaid : Prop := codecTextsUptoRow.holds Try.pinned (OpenSpec.upto codecTextsSpec)

/-- 'accountinglaw13.CodecTakesText', WHERE WHAT IT READS IS OF BULK AT MOST 1048576: true; the input reads as it did. -/
def codecTakesTextUptoRow : OpenClaim := { program := "ytojbkakdhfmjmaa", sum := "79581df6a72bb8610018cea53a5156dce56254e6491a8e2b0f7329afe8176c3e", func := "accounting/accountinglaw13.CodecTakesText", spec := "codecTakesText", unfollowed := true, recurses := true, apart := false, narrowed := true }
def CodecTakesTextUptoSaid : Prop := codecTakesTextUptoRow.holds Try.pinned (OpenSpec.upto codecTakesTextSpec)

end Rows
end Go.Proofs.Ytojbkakdhfmjmaa
