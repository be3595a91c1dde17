/- Proved here: what the opening of an entry says. Conditions: none. -/
import Derived.Test.YtkbheoganajhaaaDoorVr1
import Derived.Test.YtkbheoganajhaaaDoorVl0
set_option linter.unusedVariables false
set_option linter.unusedSimpArgs false
namespace Go.Proofs.YtkbheoganajhaaaDoor.Vm
open Go.ChangeShapes Go.WideShapes Go.ChangeAt Go.RowKit Go.Proofs
theorem RepPs.last {P : Program} {p : Pr} {cs : List Value} {o n : Nat} {xs : List V} (ha : RepPs P p xs ((cs.drop o).take n)) (hl : cs.length ≤ o + n) : RepPs P p xs (cs.drop o) := by
  rwa [List.take_of_length_le (by rw [List.length_drop]; omega)] at ha
def gT (t : Tag) : Prop := t.n.size ≤ reachBytes ∧ t.v.size ≤ reachBytes
section
variable {H : Type} {enc : TypeId × Value → H}
theorem opTag : OpV enc Tryd.prog 97 encT gT := by
  intro w base spare held fuel cs x h hR
  obtain ⟨n, hl, hf⟩ := opV_fields Tryd.underlying97 h hR
  have hl : cs.length = 2 := hl.trans (by kernel_rfl)
  obtain ⟨y0, t0, w0⟩ := hf 0 _ rfl
  obtain ⟨x0, K0, o0, g0⟩ := opV_string Tryd.underlying9 t0 w0
  obtain ⟨y1, t1, w1⟩ := hf 1 _ rfl
  obtain ⟨x1, K1, o1, g1⟩ := opV_string Tryd.underlying9 t1 w1
  refine ⟨⟨x0, x1⟩, ?_, rfl, g0, g1⟩
  exact RepPs.step (o := 0) (m := 1) K0 (by kernel_rfl) (RepPs.last K1 (by rw [hl]; exact Nat.le_of_eq (by kernel_rfl)))
def gL (l : Line) : Prop := l.tr = false ∧ l.acc.size ≤ reachBytes ∧ l.cur.size ≤ reachBytes ∧ (Lit.int .i64 l.amt).wf = true ∧ (Lit.int .i64 l.base).wf = true ∧ l.par.size ≤ reachBytes ∧ l.pty.size ≤ reachBytes ∧ l.tags.length ≤ reachBytes ∧ ∀ t ∈ l.tags, gT t
theorem encT_len (t : Tag) : (encT t).cells.length = 2 := rfl
theorem encL_len (l : Line) : (encL l).cells.length = 7 := rfl
theorem opTags : OpV enc Tryd.prog 59 (fun (l : List Tag) => V.list 97 (l.map encT) 0) (fun (l : List Tag) => l.length ≤ reachBytes ∧ ∀ x ∈ l, gT x) :=
  opV_slice Tryd.underlying59 opTag (s := 2) (by kernel_rfl) (by kernel_rfl) encT_len (of_decide_eq_true (by kernel_rfl))
theorem opLine : OpV enc Tryd.prog 61 encL gL := by
  intro w base spare held fuel cs x h hR
  obtain ⟨n, hl, hf⟩ := opV_fields Tryd.underlying61 h hR
  have hl : cs.length = 7 := hl.trans (by kernel_rfl)
  obtain ⟨y0, t0, w0⟩ := hf 0 _ rfl
  obtain ⟨x0, K0, o0, g0⟩ := opV_string Tryd.underlying9 t0 w0
  obtain ⟨y1, t1, w1⟩ := hf 1 _ rfl
  obtain ⟨x1, K1, o1, g1⟩ := opV_string Tryd.underlying9 t1 w1
  obtain ⟨y2, t2, w2⟩ := hf 2 _ rfl
  obtain ⟨x2, K2, o2, g2⟩ := opV_int Tryd.underlying3 t2 w2
  obtain ⟨y3, t3, w3⟩ := hf 3 _ rfl
  obtain ⟨x3, K3, o3, g3⟩ := opV_int Tryd.underlying3 t3 w3
  obtain ⟨y4, t4, w4⟩ := hf 4 _ rfl
  obtain ⟨x4, K4, o4, g4⟩ := opV_string Tryd.underlying9 t4 w4
  obtain ⟨y5, t5, w5⟩ := hf 5 _ rfl
  obtain ⟨x5, K5, o5, g5⟩ := opV_string Tryd.underlying9 t5 w5
  obtain ⟨y6, t6, w6⟩ := hf 6 _ rfl
  obtain ⟨x6, K6, o6, g6⟩ := opTags t6 w6
  refine ⟨⟨x0, x1, x2, x3, x4, x5, x6, false⟩, ?_, rfl, rfl, g0, g1, g2, g3, g4, g5, g6.1, g6.2⟩
  exact RepPs.step (o := 0) (m := 1) K0 (by kernel_rfl) (RepPs.step (o := 1) (m := 2) K1 (by kernel_rfl) (RepPs.step (o := 2) (m := 3) K2 (by kernel_rfl) (RepPs.step (o := 3) (m := 4) K3 (by kernel_rfl) (RepPs.step (o := 4) (m := 5) K4 (by kernel_rfl) (RepPs.step (o := 5) (m := 6) K5 (by kernel_rfl) (RepPs.last K6 (by rw [hl]; exact Nat.le_of_eq (by kernel_rfl))))))))
def gE (e : Entry) : Prop := e.lr = false ∧ (Lit.int .i64 e.no).wf = true ∧ e.ent.size ≤ reachBytes ∧ (Lit.int .i64 e.book).wf = true ∧ (Lit.int .i64 e.val).wf = true ∧ (Lit.int .i64 e.kind).wf = true ∧ e.ref.size ≤ reachBytes ∧ e.who.size ≤ reachBytes ∧ (Lit.int .i64 e.rev).wf = true ∧ e.lines.length ≤ reachBytes ∧ ∀ l ∈ e.lines, gL l
theorem opLines : OpV enc Tryd.prog 29 (fun (l : List Line) => V.list 61 (l.map encL) 0) (fun (l : List Line) => l.length ≤ reachBytes ∧ ∀ x ∈ l, gL x) :=
  opV_slice Tryd.underlying29 opLine (s := 7) (by kernel_rfl) (by kernel_rfl) encL_len (of_decide_eq_true (by kernel_rfl))
theorem opEntry : OpV enc Tryd.prog 31 encE gE := by
  intro w base spare held fuel cs x h hR
  obtain ⟨n, hl, hf⟩ := opV_fields Tryd.underlying31 h hR
  have hl : cs.length = 9 := hl.trans (by kernel_rfl)
  obtain ⟨y0, t0, w0⟩ := hf 0 _ rfl
  obtain ⟨x0, K0, o0, g0⟩ := opV_int Tryd.underlying3 t0 w0
  obtain ⟨y1, t1, w1⟩ := hf 1 _ rfl
  obtain ⟨x1, K1, o1, g1⟩ := opV_string Tryd.underlying9 t1 w1
  obtain ⟨y2, t2, w2⟩ := hf 2 _ rfl
  obtain ⟨x2, K2, o2, g2⟩ := opV_int Tryd.underlying3 t2 w2
  obtain ⟨y3, t3, w3⟩ := hf 3 _ rfl
  obtain ⟨x3, K3, o3, g3⟩ := opV_int Tryd.underlying3 t3 w3
  obtain ⟨y4, t4, w4⟩ := hf 4 _ rfl
  obtain ⟨x4, K4, o4, g4⟩ := opV_int Tryd.underlying3 t4 w4
  obtain ⟨y5, t5, w5⟩ := hf 5 _ rfl
  obtain ⟨x5, K5, o5, g5⟩ := opV_string Tryd.underlying9 t5 w5
  obtain ⟨y6, t6, w6⟩ := hf 6 _ rfl
  obtain ⟨x6, K6, o6, g6⟩ := opV_string Tryd.underlying9 t6 w6
  obtain ⟨y7, t7, w7⟩ := hf 7 _ rfl
  obtain ⟨x7, K7, o7, g7⟩ := opV_int Tryd.underlying3 t7 w7
  obtain ⟨y8, t8, w8⟩ := hf 8 _ rfl
  obtain ⟨x8, K8, o8, g8⟩ := opLines t8 w8
  refine ⟨⟨x0, x1, x2, x3, x4, x5, x6, x7, x8, false⟩, ?_, rfl, rfl, g0, g1, g2, g3, g4, g5, g6, g7, g8.1, g8.2⟩
  exact RepPs.step (o := 0) (m := 1) K0 (by kernel_rfl) (RepPs.step (o := 1) (m := 2) K1 (by kernel_rfl) (RepPs.step (o := 2) (m := 3) K2 (by kernel_rfl) (RepPs.step (o := 3) (m := 4) K3 (by kernel_rfl) (RepPs.step (o := 4) (m := 5) K4 (by kernel_rfl) (RepPs.step (o := 5) (m := 6) K5 (by kernel_rfl) (RepPs.step (o := 6) (m := 7) K6 (by kernel_rfl) (RepPs.step (o := 7) (m := 8) K7 (by kernel_rfl) (RepPs.last K8 (by rw [hl]; exact Nat.le_of_eq (by kernel_rfl))))))))))
end
theorem small_of {s : ByteArray} (h : s.size ≤ reachBytes) : small s := by unfold small; have : reachBytes = 140737488351232 := rfl; omega
theorem wf_r {a : Int} (h : (Lit.int .i64 a).wf = true) : i64r a := by
  have h1 : IntKind.i64.min = -9223372036854775808 := rfl
  have h2 : IntKind.i64.max = 9223372036854775807 := rfl
  simp only [Lit.wf, Bool.and_eq_true, decide_eq_true_eq] at h
  unfold i64r; omega
theorem gL_small {l : Line} (h : gL l) : smallL l := by
  have hr : reachBytes = 140737488351232 := rfl
  obtain ⟨hn, h⟩ := h
  exact ⟨small_of h.1, small_of h.2.1, small_of h.2.2.2.2.1, small_of h.2.2.2.2.2.1, fun t ht => ⟨small_of (h.2.2.2.2.2.2.2 t ht).1, small_of (h.2.2.2.2.2.2.2 t ht).2⟩, by have := h.2.2.2.2.2.2.1; omega, fun h2 => by rw [hn] at h2; cases h2⟩
theorem gE_small {e : Entry} (h : gE e) : smallE e := by
  have hr : reachBytes = 140737488351232 := rfl
  obtain ⟨hn, h0, h1, h2, h3, h4, h5, h6, h7, h8, h9⟩ := h
  exact ⟨small_of h1, small_of h5, small_of h6, fun l hl => gL_small (h9 l hl), by omega, fun h2 => by rw [hn] at h2; cases h2⟩
theorem gE_range {e : Entry} (h : gE e) : rangeE e := by
  obtain ⟨hn, h0, h1, h2, h3, h4, h5, h6, h7, h8, h9⟩ := h
  exact ⟨wf_r h0, wf_r h2, wf_r h3, wf_r h4, wf_r h7, fun l hl => ⟨wf_r (h9 l hl).2.2.2.1, wf_r (h9 l hl).2.2.2.2.1⟩⟩
end Go.Proofs.YtkbheoganajhaaaDoor.Vm
