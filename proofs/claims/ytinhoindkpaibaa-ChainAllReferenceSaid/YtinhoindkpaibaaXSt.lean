-- written by xprint.py (a program of this session's, over the kit's print.py). Lean checks it.
import Derived.Test.YtinhoindkpaibaaX2
import Derived.Test.YtinhoindkpaibaaX3
import Derived.Test.YtinhoindkpaibaaX4
import Derived.Test.YtinhoindkpaibaaX6
import Derived.Test.YtinhoindkpaibaaX7
import Derived.WalkKit
import Derived.ProofKit
import Derived.OpenShut
import Derived.ShutString
import Derived.ChangeOld
import Derived.Below
import Derived.SizedLaws
import Derived.Deep.Slices
import Derived.Carry
namespace Go.Proofs.Ytinhoindkpaibaa.X
open Go.RowKit Go.ChangeShapes Go.WideShapes Go.ChangeAt Go.Proofs.YtinhoindkpaibaaW.PrintWords Go.Proofs.YtinhoindkpaibaaW.PrintLast Go.Proofs.YtinhoindkpaibaaW.PrintMore
set_option linter.unusedVariables false

/-- What a reading of type t says, as a kind's word: the value, and what is known of it. -/
def Opn {H : Type} (enc : TypeId × Value → H) (P : Program) {α : Type} (t : TypeId) (d : Kd α) (g : α → Prop) : Prop :=
  ∀ {w : World} {base : Nat} {spare : Nat → Bool} {held : Bool} {fuel : Nat} {cs : List Value} {x : DataW H × List MemPlace}, DataW.trod enc P w base spare held fuel t cs = some x → ∃ y : α, d.K w y cs ∧ g y
section
variable {H : Type} {enc : TypeId × Value → H} {P : Program} {t e : TypeId}
theorem opn_int {k : IntKind} (ht : P.underlying t = some (.int k)) : Opn enc P t (Kd.int k) (fun n => (Lit.int k n).wf = true) := by
  intro w base spare held fuel cs x h
  obtain ⟨n, rfl, _, hw⟩ := DataW.trod_int ht h
  exact ⟨n, rfl, hw⟩
theorem opn_bool (ht : P.underlying t = some .bool) : Opn enc P t Kd.bool (fun _ => True) := by
  intro w base spare held fuel cs x h
  obtain ⟨n, rfl, _⟩ := DataW.trod_bool ht h
  exact ⟨n, rfl, trivial⟩
theorem opn_string (ht : P.underlying t = some .string) : Opn enc P t Kd.string (fun s => s.size ≤ maxLen) := by
  intro w base spare held fuel cs x h
  obtain ⟨s, rfl, _, hw⟩ := DataW.trod_string ht h
  exact ⟨s, rfl, hw⟩
theorem opn_slice {α : Type} {d : Kd α} {g : α → Prop} (ht : P.underlying t = some (.slice e)) (h : Opn enc P e d g) (hC : P.cellsOf e = d.sz) : Opn enc P t (Kd.slice e d) (fun l => l.length ≤ maxLen ∧ ∀ x ∈ l, g x) := by
  intro w base spare held fuel cs x hx
  rcases Deep.open_slice ht hx with ⟨rfl, _⟩ | ⟨a, len, cap, m, n, D, Pl, rfl, _, hl, hc, hm, _, hi⟩
  · exact ⟨[], ⟨none, 0, rfl, Nat.le_refl _, Kd.C_nil _ _⟩, by simp, by simp⟩
  · have hml : len ≤ m := by rw [hm]; split <;> omega
    have hy : ∀ i : Nat, i < len → ∃ y : α, (∃ cs', w.cells? base (a.add (i * P.cellsOf e)) (P.cellsOf e) = some cs' ∧ d.K w y cs') ∧ g y := fun i hlt => by
      obtain ⟨cs', hcs, ht'⟩ := hi i (by omega)
      obtain ⟨y, hK, hg⟩ := h ht'
      exact ⟨y, ⟨cs', hcs, hK⟩, hg⟩
    let f : Fin len → α := fun i => (hy i.1 i.2).choose
    have hf := fun i : Fin len => (hy i.1 i.2).choose_spec
    refine ⟨List.ofFn f, ⟨some a, cap, by simp, by simpa using hl, ?_⟩, by simp; omega, fun z hz => ?_⟩
    · refine ⟨rfl, by simp only [List.length_ofFn]; unfold maxLen at hc; omega, fun _ => ⟨a, rfl, fun j p hj => ?_⟩⟩
      have hjl : j < len := by
        rcases Nat.lt_or_ge j len with h1 | h1
        · exact h1
        · rw [List.getElem?_eq_none (by simpa using h1)] at hj; cases hj
      rw [List.getElem?_eq_getElem (by simpa using hjl)] at hj
      injection hj with hj
      rw [List.getElem_ofFn] at hj
      obtain ⟨⟨cs', hcs, hK⟩, _⟩ := hf ⟨j, hjl⟩
      obtain ⟨_, hcl, hat⟩ := World.cells?_some hcs
      refine ⟨cs', d.K_len hK, hj ▸ hK, fun i u hu => ?_⟩
      have hil : i < cs'.length := by
        rcases Nat.lt_or_ge i cs'.length with h1 | h1
        · exact h1
        · rw [List.getElem?_eq_none h1] at hu; cases hu
      have := hat (i := i) (by rw [← hcl]; exact hil)
      rw [← hC, ← Deep.add_add, this, ← hu]
    · obtain ⟨i, rfl⟩ := List.mem_ofFn.1 hz
      exact (hf i).2
theorem opn_fields {w : World} {base : Nat} {spare : Nat → Bool} {held : Bool} {fuel : Nat} {cs : List Value} {x : DataW H × List MemPlace} {fs : Array Field} (ht : P.underlying t = some (.struct fs)) (h : DataW.trod enc P w base spare held fuel t cs = some x) :
    ∃ n, cs.length = P.cellsOf t ∧ ∀ (i : Nat) (f : Field), fs[i]? = some f → ∃ y, DataW.trod enc P w base spare held n f.type ((cs.drop f.offset).take (P.cellsOf f.type)) = some y := by
  obtain ⟨xs, n, _, _, hl, hx, hf⟩ := DataW.trod_struct ht h
  refine ⟨n, hl, fun i f hi => ?_⟩
  have hil : i < xs.length := by rw [hx]; exact (Array.getElem?_eq_some_iff.1 hi).1
  exact ⟨xs[i], (hf i f hi).trans (List.getElem?_eq_getElem hil)⟩
end
theorem pairK {α β : Type} {a : Kd α} {b : Kd β} {w : World} {cs : List Value} {o n m : Nat} {x : α} {y : β} (ha : a.K w x ((cs.drop o).take n)) (hm : m = o + n) (hb : b.K w y (cs.drop m)) : (Kd.pair a b).K w (x, y) (cs.drop o) :=
  ⟨(cs.drop o).take n, (cs.drop o).drop n, (List.take_append_drop _ _).symm, ha, by rw [List.drop_drop]; exact hm ▸ hb⟩
theorem lastK {α : Type} {a : Kd α} {w : World} {cs : List Value} {o n : Nat} {x : α} (ha : a.K w x ((cs.drop o).take n)) (hl : cs.length ≤ o + n) : a.K w x (cs.drop o) := by
  rwa [List.take_of_length_le (by rw [List.length_drop]; omega)] at ha

/-- The law accountinglaw14_ChainNextReference, over data alone. -/
def accountinglaw14_ChainNextReference.Said : Prop := ∀ (x0 : Int) (x1 : List Int), (Lit.int .u64 x0).wf = true → (x1.length ≤ maxLen ∧ ∀ e0 ∈ x1, (Lit.int .u8 e0).wf = true) → ∃ k, accountinglaw14_ChainNextReference.f k x0 x1 = some true
/-- The law accountinglaw14_ChainAllReference, over data alone. -/
def accountinglaw14_ChainAllReference.Said : Prop := ∀ (x0 : List (List Int)), (x0.length ≤ maxLen ∧ ∀ e0 ∈ x0, (e0.length ≤ maxLen ∧ ∀ e1 ∈ e0, (Lit.int .u8 e1).wf = true)) → ∃ k, accountinglaw14_ChainAllReference.f k x0 = some true
/-- The law accountinglaw14_ChainCheckReference, over data alone. -/
def accountinglaw14_ChainCheckReference.Said : Prop := ∀ (x0 : List (List Int)) (x1 : List Int), (x0.length ≤ maxLen ∧ ∀ e0 ∈ x0, (e0.length ≤ maxLen ∧ ∀ e1 ∈ e0, (Lit.int .u8 e1).wf = true)) → (x1.length ≤ maxLen ∧ ∀ e0 ∈ x1, (Lit.int .u64 e0).wf = true) → ∃ k, accountinglaw14_ChainCheckReference.f k x0 x1 = some true
/-- The law accountinglaw14_ChainWrongSum, over data alone. -/
def accountinglaw14_ChainWrongSum.Said : Prop := ∀ (x0 : List (List Int)) (x1 : Int) (x2 : Int), (x0.length ≤ maxLen ∧ ∀ e0 ∈ x0, (e0.length ≤ maxLen ∧ ∀ e1 ∈ e0, (Lit.int .u8 e1).wf = true)) → (Lit.int .i64 x1).wf = true → (Lit.int .u64 x2).wf = true → ∃ k, accountinglaw14_ChainWrongSum.f k x0 x1 x2 = some true
/-- The law accountinglaw14_ChainNotation, over data alone. -/
def accountinglaw14_ChainNotation.Said : Prop := ∀ (x0 : Int) (x1 : List Int) (x2 : ByteArray), (Lit.int .u64 x0).wf = true → (x1.length ≤ maxLen ∧ ∀ e0 ∈ x1, (Lit.int .u8 e0).wf = true) → x2.size ≤ maxLen → ∃ k, accountinglaw14_ChainNotation.f k x0 x1 x2 = some true
/-- The law accountinglaw14_ChainRoundTrip, over data alone. -/
def accountinglaw14_ChainRoundTrip.Said : Prop := ∀ (x0 : Int), (Lit.int .u64 x0).wf = true → ∃ k, accountinglaw14_ChainRoundTrip.f k x0 = some true
end Go.Proofs.Ytinhoindkpaibaa.X
