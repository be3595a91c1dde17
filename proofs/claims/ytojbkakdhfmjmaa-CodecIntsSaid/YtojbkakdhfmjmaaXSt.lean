-- written by xprint.py (a program of this session's, over the kit's print.py). Lean checks it.
import Derived.Test.YtojbkakdhfmjmaaX3
import Derived.Test.YtojbkakdhfmjmaaX4
import Derived.Test.YtojbkakdhfmjmaaX5
import Derived.WalkKit
import Derived.ProofKit
import Derived.OpenShut
import Derived.ShutString
import Derived.ChangeOld
import Derived.Below
import Derived.SizedLaws
import Derived.Deep.Slices
import Derived.Carry
namespace Go.Proofs.Ytojbkakdhfmjmaa.X
open Go.RowKit Go.ChangeShapes Go.WideShapes Go.ChangeAt Go.Proofs.YtojbkakdhfmjmaaW.PrintWords Go.Proofs.YtojbkakdhfmjmaaW.PrintLast Go.Proofs.YtojbkakdhfmjmaaW.PrintMore
set_option linter.unusedVariables false

theorem below_heap {W W' : World} (h : ∀ k, True → k < W.heap.size → W'.heap[k]? = W.heap[k]?) : Below W.heap.size W { W with heap := W'.heap } :=
  ⟨rfl, rfl, rfl, by
    rcases Nat.eq_zero_or_pos W.heap.size with h0 | h0
    · omega
    · have h1 := h (W.heap.size - 1) trivial (by omega)
      rw [Array.getElem?_eq_getElem (show W.heap.size - 1 < W.heap.size by omega)] at h1
      have := (Array.getElem?_eq_some_iff.1 h1).1
      show W.heap.size ≤ W'.heap.size
      omega, fun k hk => h k trivial hk⟩
/-- What a reading of type t says, as a kind's word: the value, and what is known of it. -/
def Opn {H : Type} (enc : TypeId × Value → H) (P : Program) {α : Type} (t : TypeId) (d : Kd α) (g : α → Prop) : Prop :=
  ∀ {w : World} {base : Nat} {spare : Nat → Bool} {held : Bool} {fuel : Nat} {cs : List Value} {x : DataW H × List MemPlace}, DataW.trod enc P w base spare held fuel t cs = some x → ∃ y : α, d.K w y cs ∧ g y
section
variable {H : Type} {enc : TypeId × Value → H} {P : Program} {t e : TypeId}
theorem opn_int {k : IntKind} (ht : P.underlying t = some (.int k)) : Opn enc P t (Kd.int k) (fun n => (Lit.int k n).wf = true) := by
  intro w base spare held fuel cs x h
  obtain ⟨n, rfl, _, hw⟩ := DataW.trod_int ht h
  exact ⟨n, rfl, hw⟩
theorem opn_bool (ht : P.underlying t = some .bool) : Opn enc P t Kd.bool (fun _ => True) := by
  intro w base spare held fuel cs x h
  obtain ⟨n, rfl, _⟩ := DataW.trod_bool ht h
  exact ⟨n, rfl, trivial⟩
theorem opn_string (ht : P.underlying t = some .string) : Opn enc P t Kd.string (fun s => s.size ≤ maxLen) := by
  intro w base spare held fuel cs x h
  obtain ⟨s, rfl, _, hw⟩ := DataW.trod_string ht h
  exact ⟨s, rfl, hw⟩
theorem opn_slice {α : Type} {d : Kd α} {g : α → Prop} (ht : P.underlying t = some (.slice e)) (h : Opn enc P e d g) (hC : P.cellsOf e = d.sz) : Opn enc P t (Kd.slice e d) (fun l => l.length ≤ maxLen ∧ ∀ x ∈ l, g x) := by
  intro w base spare held fuel cs x hx
  rcases Deep.open_slice ht hx with ⟨rfl, _⟩ | ⟨a, len, cap, m, n, D, Pl, rfl, _, hl, hc, hm, _, hi⟩
  · exact ⟨[], ⟨none, 0, rfl, Nat.le_refl _, Kd.C_nil _ _⟩, by simp, by simp⟩
  · have hml : len ≤ m := by rw [hm]; split <;> omega
    have hy : ∀ i : Nat, i < len → ∃ y : α, (∃ cs', w.cells? base (a.add (i * P.cellsOf e)) (P.cellsOf e) = some cs' ∧ d.K w y cs') ∧ g y := fun i hlt => by
      obtain ⟨cs', hcs, ht'⟩ := hi i (by omega)
      obtain ⟨y, hK, hg⟩ := h ht'
      exact ⟨y, ⟨cs', hcs, hK⟩, hg⟩
    let f : Fin len → α := fun i => (hy i.1 i.2).choose
    have hf := fun i : Fin len => (hy i.1 i.2).choose_spec
    refine ⟨List.ofFn f, ⟨some a, cap, by simp, by simpa using hl, ?_⟩, by simp; omega, fun z hz => ?_⟩
    · refine ⟨rfl, by simp only [List.length_ofFn]; unfold maxLen at hc; omega, fun _ => ⟨a, rfl, fun j p hj => ?_⟩⟩
      have hjl : j < len := by
        rcases Nat.lt_or_ge j len with h1 | h1
        · exact h1
        · rw [List.getElem?_eq_none (by simpa using h1)] at hj; cases hj
      rw [List.getElem?_eq_getElem (by simpa using hjl)] at hj
      injection hj with hj
      rw [List.getElem_ofFn] at hj
      obtain ⟨⟨cs', hcs, hK⟩, _⟩ := hf ⟨j, hjl⟩
      obtain ⟨_, hcl, hat⟩ := World.cells?_some hcs
      refine ⟨cs', d.K_len hK, hj ▸ hK, fun i u hu => ?_⟩
      have hil : i < cs'.length := by
        rcases Nat.lt_or_ge i cs'.length with h1 | h1
        · exact h1
        · rw [List.getElem?_eq_none h1] at hu; cases hu
      have := hat (i := i) (by rw [← hcl]; exact hil)
      rw [← hC, ← Deep.add_add, this, ← hu]
    · obtain ⟨i, rfl⟩ := List.mem_ofFn.1 hz
      exact (hf i).2
theorem opn_fields {w : World} {base : Nat} {spare : Nat → Bool} {held : Bool} {fuel : Nat} {cs : List Value} {x : DataW H × List MemPlace} {fs : Array Field} (ht : P.underlying t = some (.struct fs)) (h : DataW.trod enc P w base spare held fuel t cs = some x) :
    ∃ n, cs.length = P.cellsOf t ∧ ∀ (i : Nat) (f : Field), fs[i]? = some f → ∃ y, DataW.trod enc P w base spare held n f.type ((cs.drop f.offset).take (P.cellsOf f.type)) = some y := by
  obtain ⟨xs, n, _, _, hl, hx, hf⟩ := DataW.trod_struct ht h
  refine ⟨n, hl, fun i f hi => ?_⟩
  have hil : i < xs.length := by rw [hx]; exact (Array.getElem?_eq_some_iff.1 hi).1
  exact ⟨xs[i], (hf i f hi).trans (List.getElem?_eq_getElem hil)⟩
end
theorem pairK {α β : Type} {a : Kd α} {b : Kd β} {w : World} {cs : List Value} {o n m : Nat} {x : α} {y : β} (ha : a.K w x ((cs.drop o).take n)) (hm : m = o + n) (hb : b.K w y (cs.drop m)) : (Kd.pair a b).K w (x, y) (cs.drop o) :=
  ⟨(cs.drop o).take n, (cs.drop o).drop n, (List.take_append_drop _ _).symm, ha, by rw [List.drop_drop]; exact hm ▸ hb⟩
theorem lastK {α : Type} {a : Kd α} {w : World} {cs : List Value} {o n : Nat} {x : α} (ha : a.K w x ((cs.drop o).take n)) (hl : cs.length ≤ o + n) : a.K w x (cs.drop o) := by
  rwa [List.take_of_length_le (by rw [List.length_drop]; omega)] at ha

/-- The law accountinglaw13_CodecInts, over data alone. -/
def accountinglaw13_CodecInts.Said : Prop := ∀ (x0 : Int) (x1 : List Int), (Lit.int .i64 x0).wf = true → (x1.length ≤ maxLen ∧ ∀ e0 ∈ x1, (Lit.int .u8 e0).wf = true) → ∃ k, accountinglaw13_CodecInts.f k x0 x1 = some true
/-- The law accountinglaw13_CodecTakesInt, over data alone. -/
def accountinglaw13_CodecTakesInt.Said : Prop := ∀ (x0 : List Int), (x0.length ≤ maxLen ∧ ∀ e0 ∈ x0, (Lit.int .u8 e0).wf = true) → ∃ k, accountinglaw13_CodecTakesInt.f k x0 = some true
/-- The law accountinglaw13_CodecTexts, over data alone. -/
def accountinglaw13_CodecTexts.Said : Prop := ∀ (x0 : ByteArray) (x1 : List Int), x0.size ≤ maxLen → (x1.length ≤ maxLen ∧ ∀ e0 ∈ x1, (Lit.int .u8 e0).wf = true) → ∃ k, accountinglaw13_CodecTexts.f k x0 x1 = some true
/-- The law accountinglaw13_CodecTakesText, over data alone. -/
def accountinglaw13_CodecTakesText.Said : Prop := ∀ (x0 : List Int), (x0.length ≤ maxLen ∧ ∀ e0 ∈ x0, (Lit.int .u8 e0).wf = true) → ∃ k, accountinglaw13_CodecTakesText.f k x0 = some true
end Go.Proofs.Ytojbkakdhfmjmaa.X
