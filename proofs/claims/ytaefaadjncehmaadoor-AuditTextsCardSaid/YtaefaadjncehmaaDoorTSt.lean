-- written by xprint.py (a program of this session's, over the kit's print.py). Lean checks it.
import Derived.Test.YtaefaadjncehmaaDoorRows
import Derived.LaidMore
import Derived.Stop.Joined
import Derived.MakeChecks
import Derived.Test.YtaefaadjncehmaaDoorT4
import Derived.WalkKit
import Derived.ProofKit
import Derived.OpenShut
import Derived.ShutString
import Derived.ChangeOld
import Derived.Below
import Derived.SizedLaws
import Derived.Deep.Slices
import Derived.Carry
namespace Go.Proofs.YtaefaadjncehmaaDoor.T
open Go.RowKit Go.ChangeShapes Go.WideShapes Go.ChangeAt Go.Proofs.YtaefaadjncehmaaDoorW.PrintWords Go.Proofs.YtaefaadjncehmaaDoorW.PrintLast Go.Proofs.YtaefaadjncehmaaDoorW.PrintMore
set_option linter.unusedVariables false

theorem below_heap {W W' : World} (h : ∀ k, True → k < W.heap.size → W'.heap[k]? = W.heap[k]?) : Below W.heap.size W { W with heap := W'.heap } :=
  ⟨rfl, rfl, rfl, by
    rcases Nat.eq_zero_or_pos W.heap.size with h0 | h0
    · omega
    · have h1 := h (W.heap.size - 1) trivial (by omega)
      rw [Array.getElem?_eq_getElem (show W.heap.size - 1 < W.heap.size by omega)] at h1
      have := (Array.getElem?_eq_some_iff.1 h1).1
      show W.heap.size ≤ W'.heap.size
      omega, fun k hk => h k trivial hk⟩
/-- What a reading of type t says, as a kind's word: the value, and what is known of it. -/
def Opn {H : Type} (enc : TypeId × Value → H) (P : Program) {α : Type} (t : TypeId) (d : Kd α) (g : α → Prop) : Prop :=
  ∀ {w : World} {base : Nat} {spare : Nat → Bool} {held : Bool} {fuel : Nat} {cs : List Value} {x : DataW H × List MemPlace}, DataW.trod enc P w base spare held fuel t cs = some x → (∀ n ∈ x.1.weights P t, n ≤ reachBytes) → ∃ y : α, d.K w y cs ∧ g y
section
variable {H : Type} {enc : TypeId × Value → H} {P : Program} {t e : TypeId}
theorem opn_int {k : IntKind} (ht : P.underlying t = some (.int k)) : Opn enc P t (Kd.int k) (fun n => (Lit.int k n).wf = true) := by
  intro w base spare held fuel cs x h _
  obtain ⟨n, rfl, _, hw⟩ := DataW.trod_int ht h
  exact ⟨n, rfl, hw⟩
theorem opn_bool (ht : P.underlying t = some .bool) : Opn enc P t Kd.bool (fun _ => True) := by
  intro w base spare held fuel cs x h _
  obtain ⟨n, rfl, _⟩ := DataW.trod_bool ht h
  exact ⟨n, rfl, trivial⟩
theorem opn_string (ht : P.underlying t = some .string) : Opn enc P t Kd.string (fun s => s.size ≤ reachBytes) := by
  intro w base spare held fuel cs x h hR
  obtain ⟨s, rfl, hx, _⟩ := DataW.trod_string ht h
  exact ⟨s, rfl, by have := hR s.data.toList.length (by rw [hx]; simp [DataW.weights]); rwa [Array.length_toList] at this⟩
theorem weightsAll_mem {l : List (DataW H)} {d : DataW H} {n : Nat} (hd : d ∈ l) (hn : n ∈ d.weights P e) : n ∈ DataW.weightsAll P e l := by
  induction l with
  | nil => cases hd
  | cons a r ih =>
    simp only [DataW.weightsAll, List.mem_append]
    rcases List.mem_cons.1 hd with rfl | h
    · exact .inl hn
    · exact .inr (ih h)
theorem opn_slice {α : Type} {d : Kd α} {g : α → Prop} (ht : P.underlying t = some (.slice e)) (h : Opn enc P e d g) (hC : P.cellsOf e = d.sz) : Opn enc P t (Kd.slice e d) (fun l => l.length ≤ maxLen ∧ ∀ x ∈ l, g x) := by
  intro w base spare held fuel cs x hx hR
  rcases Deep.open_slice ht hx with ⟨rfl, _⟩ | ⟨a, len, cap, m, n, D, Pl, rfl, _, hl, hc, hm, rfl, hi⟩
  · exact ⟨[], ⟨none, 0, rfl, Nat.le_refl _, Kd.C_nil _ _⟩, by simp, by simp⟩
  · have hml : len ≤ m := by rw [hm]; split <;> omega
    have hRe : ∀ i, i < len → ∀ n ∈ (D i).weights P e, n ≤ reachBytes := fun i hlt n hn => hR n (by
      simp only [DataW.weights, ht, List.mem_cons, List.mem_append]
      exact .inr (.inl (weightsAll_mem (List.mem_map.2 ⟨i, List.mem_range.2 hlt, rfl⟩) hn)))
    have hy : ∀ i : Nat, i < len → ∃ y : α, (∃ cs', w.cells? base (a.add (i * P.cellsOf e)) (P.cellsOf e) = some cs' ∧ d.K w y cs') ∧ g y := fun i hlt => by
      obtain ⟨cs', hcs, ht'⟩ := hi i (by omega)
      obtain ⟨y, hK, hg⟩ := h ht' (hRe i hlt)
      exact ⟨y, ⟨cs', hcs, hK⟩, hg⟩
    let f : Fin len → α := fun i => (hy i.1 i.2).choose
    have hf := fun i : Fin len => (hy i.1 i.2).choose_spec
    refine ⟨List.ofFn f, ⟨some a, cap, by simp, by simpa using hl, ?_⟩, by simp; omega, fun z hz => ?_⟩
    · refine ⟨rfl, by simp only [List.length_ofFn]; unfold maxLen at hc; omega, fun _ => ⟨a, rfl, fun j p hj => ?_⟩⟩
      have hjl : j < len := by
        rcases Nat.lt_or_ge j len with h1 | h1
        · exact h1
        · rw [List.getElem?_eq_none (by simpa using h1)] at hj; cases hj
      rw [List.getElem?_eq_getElem (by simpa using hjl)] at hj
      injection hj with hj
      rw [List.getElem_ofFn] at hj
      obtain ⟨⟨cs', hcs, hK⟩, _⟩ := hf ⟨j, hjl⟩
      obtain ⟨_, hcl, hat⟩ := World.cells?_some hcs
      refine ⟨cs', d.K_len hK, hj ▸ hK, fun i u hu => ?_⟩
      have hil : i < cs'.length := by
        rcases Nat.lt_or_ge i cs'.length with h1 | h1
        · exact h1
        · rw [List.getElem?_eq_none h1] at hu; cases hu
      have := hat (i := i) (by rw [← hcl]; exact hil)
      rw [← hC, ← Deep.add_add, this, ← hu]
    · obtain ⟨i, rfl⟩ := List.mem_ofFn.1 hz
      exact (hf i).2
theorem opn_fields {w : World} {base : Nat} {spare : Nat → Bool} {held : Bool} {fuel : Nat} {cs : List Value} {x : DataW H × List MemPlace} {fs : Array Field} (ht : P.underlying t = some (.struct fs)) (h : DataW.trod enc P w base spare held fuel t cs = some x) (hR : ∀ n ∈ x.1.weights P t, n ≤ reachBytes) :
    ∃ n, cs.length = P.cellsOf t ∧ ∀ (i : Nat) (f : Field), fs[i]? = some f → ∃ y, DataW.trod enc P w base spare held n f.type ((cs.drop f.offset).take (P.cellsOf f.type)) = some y ∧ ∀ n ∈ y.1.weights P f.type, n ≤ reachBytes := by
  obtain ⟨xs, n, _, hx0, hl, hx, hf⟩ := DataW.trod_struct ht h
  refine ⟨n, hl, fun i f hi => ?_⟩
  have hil : i < xs.length := by rw [hx]; exact (Array.getElem?_eq_some_iff.1 hi).1
  refine ⟨xs[i], (hf i f hi).trans (List.getElem?_eq_getElem hil), fun n hn => hR n ?_⟩
  rw [hx0]
  simp only [DataW.weights, ht]
  exact DataW.weights_mem_each (ts := fs.toList.map (·.type)) (ds := xs.map (·.1)) (t := f.type) (d := xs[i].1) (j := i) (by rw [List.getElem?_map, Array.getElem?_toList, hi]; rfl) (by rw [List.getElem?_map, List.getElem?_eq_getElem hil]; rfl) n hn
end
theorem pairK {α β : Type} {a : Kd α} {b : Kd β} {w : World} {cs : List Value} {o n m : Nat} {x : α} {y : β} (ha : a.K w x ((cs.drop o).take n)) (hm : m = o + n) (hb : b.K w y (cs.drop m)) : (Kd.pair a b).K w (x, y) (cs.drop o) :=
  ⟨(cs.drop o).take n, (cs.drop o).drop n, (List.take_append_drop _ _).symm, ha, by rw [List.drop_drop]; exact hm ▸ hb⟩
theorem lastK {α : Type} {a : Kd α} {w : World} {cs : List Value} {o n : Nat} {x : α} (ha : a.K w x ((cs.drop o).take n)) (hl : cs.length ≤ o + n) : a.K w x (cs.drop o) := by
  rwa [List.take_of_length_le (by rw [List.length_drop]; omega)] at ha

def g26 (x : S26) : Prop := (Lit.int .i64 x.f0).wf = true ∧ (Lit.int .i64 x.f1).wf = true ∧ x.f2.size ≤ reachBytes
theorem opn26 {H : Type} {enc : TypeId × Value → H} : Opn enc Tryd.prog 26 k26 g26 := by
  intro w base spare held fuel cs x h hR
  obtain ⟨n, hl, hf⟩ := opn_fields Tryd.underlying26 h hR
  obtain ⟨y0, t0, w0⟩ := hf 0 _ rfl
  obtain ⟨x0, K0, g0⟩ := (opn_int Tryd.underlying3) t0 w0
  obtain ⟨y1, t1, w1⟩ := hf 1 _ rfl
  obtain ⟨x1, K1, g1⟩ := (opn_int Tryd.underlying3) t1 w1
  obtain ⟨y2, t2, w2⟩ := hf 2 _ rfl
  obtain ⟨x2, K2, g2⟩ := (opn_string Tryd.underlying9) t2 w2
  exact ⟨⟨x0, x1, x2⟩, (pairK (o := 0) (m := 1) K0 (by kernel_rfl) (pairK (o := 1) (m := 2) K1 (by kernel_rfl) (lastK K2 (by rw [hl]; exact Nat.le_of_eq (by kernel_rfl))))), g0, g1, g2⟩
/-! ### what the statement lays of the listed variable: its cells -/
theorem gNotes : Tryd.prog.globalNamed "accounting/audit.notations" = some 0 := by kernel_rfl
theorem tNotes : (Tryd.prog.globals[0]?).map (·.type) = some 30 := by kernel_rfl
theorem Gl.of_laid {W : World} (h : laidMetH Tryd.prog Rows.auditTextsRow.laid W) : Gl W := by
  rw [MakeChecks.laidMetH_plain _ _ _ (by kernel_rfl)] at h
  obtain ⟨ps, ⟨g0, t0, cs0, f0, p0, q0, hg0, ht0, hv0, hd0, _, _⟩, _, _⟩ := h
  obtain rfl := Option.some.inj (gNotes.symm.trans hg0)
  obtain rfl := Option.some.inj (tNotes.symm.trans ht0)
  obtain ⟨xs, m1, rfl, hx1, hlen, hn3, hel⟩ := DataW.trod_array Tryd.underlying30 hd0
  have c9 : Tryd.prog.cellsOf 9 = 1 := by kernel_rfl
  have c30 : Tryd.prog.cellsOf 30 = 10 := by kernel_rfl
  rw [c30] at hlen
  intro i s hi
  have hil : i < 10 := (List.getElem?_eq_some_iff.1 hi).1
  have h1 := hel i hil
  rw [c9, Nat.mul_one, List.getElem?_eq_getElem (by omega)] at h1
  obtain ⟨z, e1, e2, _⟩ := DataW.trod_string Tryd.underlying9 h1
  simp only [Prod.mk.injEq] at hx1
  have hd := hx1.1
  have e3 : (Rows.laid_accounting_audit_notations : DataW Unit) = .agg (notesT.map fun s => .lit (.string s.data.toList)) := rfl
  have hd2 : (Rows.laid_accounting_audit_notations : DataW Unit) = .agg (xs.map (·.1)) := hd
  rw [e3] at hd2
  injection hd2 with hd2
  have h4 := congrArg (fun l => l[i]?) hd2
  simp only [List.getElem?_map, hi, Option.map_some] at h4
  rw [List.getElem?_eq_getElem (show i < xs.length by omega), Option.map_some, e2] at h4
  have hz : s = z := by
    injection h4 with h4
    injection h4 with h4
    injection h4 with h4
    exact ByteArray.ext (Array.ext' h4)
  subst hz
  have h5 := World.var?_cell hg0 hv0 i
  have h6 : cs0[i]? = some (.string s) := by
    have h7 := congrArg List.head? e1
    rw [List.head?_take, if_neg (by decide), List.head?_drop, Array.getElem?_toList] at h7
    exact h7
  rw [h6] at h5
  exact h5

/-- The law accountinglaw53_AuditTexts, over data alone. -/
def accountinglaw53_AuditTexts.Said : Prop := ∀ (x0 : List (S26)) (x1 : Int) (x2 : Int), (x0.length ≤ maxLen ∧ ∀ e0 ∈ x0, g26 e0) → (Lit.int .i64 x1).wf = true → (Lit.int .i64 x2).wf = true → ∃ k, accountinglaw53_AuditTexts.f k x0 x1 x2 = some true
end Go.Proofs.YtaefaadjncehmaaDoor.T
