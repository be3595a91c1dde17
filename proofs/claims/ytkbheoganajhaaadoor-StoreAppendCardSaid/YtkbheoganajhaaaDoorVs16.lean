/- Proved here: the guard of chapter 13's statements has an answer; the chapter's examples hold. Conditions: none. -/
import Derived.Test.YtkbheoganajhaaaDoorVs15
import Derived.Test.YtkbheoganajhaaaDoorVp2
set_option maxRecDepth 10000
set_option linter.unusedVariables false
set_option linter.unusedSimpArgs false
namespace Go.Proofs.YtkbheoganajhaaaDoor.Vm
open Go Go.Proofs
/-! ### A valid entry's texts are plain -/
theorem ch_pr (b : UInt8) (h : isCh b = true) : isPr b = true := by
  simp only [isCh, isLet, isDig, isPr, Bool.or_eq_true, Bool.and_eq_true, decide_eq_true_eq] at h ⊢; omega
theorem code_plain {s : ByteArray} (h : codeS s = true) : plainS s = true := by
  simp only [codeS, Bool.and_eq_true, decide_eq_true_eq] at h
  simp only [plainS, Bool.and_eq_true, decide_eq_true_eq]
  refine ⟨by omega, ?_⟩
  rw [List.all_eq_true] at h ⊢
  exact fun b hb => ch_pr b (h.2 b hb)
theorem empty_plain {s : ByteArray} (h : s.size = 0) : plainS s = true := by
  rw [size_zero.mpr h]; rfl
theorem opt_plain {s : ByteArray} (h : optS s = true) : plainS s = true := by
  simp only [optS, Bool.or_eq_true, decide_eq_true_eq] at h
  rcases h with h | h
  · exact empty_plain h
  · exact code_plain h
theorem cur_plain {s : ByteArray} (h : curS s = true) : plainS s = true := by
  simp only [curS, Bool.and_eq_true, decide_eq_true_eq] at h
  simp only [plainS, Bool.and_eq_true, decide_eq_true_eq]
  refine ⟨by omega, ?_⟩
  rw [List.all_eq_true] at h ⊢
  intro b hb
  have := h.2 b hb
  simp only [isUp, isPr, Bool.and_eq_true, decide_eq_true_eq] at this ⊢; omega
theorem line_plain {l : Line} (h : lineS l = 0) (ha : i64r l.amt ∧ i64r l.base) (hn : nilL l) : plainL l := by
  unfold lineS at h
  split at h
  · cases h
  split at h
  · cases h
  split at h
  · cases h
  split at h
  · cases h
  split at h
  · cases h
  rename_i h1 h2 h3 h4 h5
  simp only [Bool.not_eq_false, Bool.and_eq_true] at h1 h2 h3 h5
  simp only [rightS, Bool.and_eq_true, decide_eq_true_eq] at h5
  refine ⟨code_plain h1.1.1, cur_plain h2, ha.1, ha.2, opt_plain h1.1.2, opt_plain h1.2, fun t ht => ?_, by omega, hn⟩
  obtain ⟨j, hj, rfl⟩ := List.getElem_of_mem ht
  have h6 := List.all_eq_true.mp h5.2 j (List.mem_range.mpr hj)
  simp only [tagAt, List.getElem?_eq_getElem hj, Bool.and_eq_true, tagS] at h6
  exact ⟨code_plain h6.1.1, code_plain h6.1.2⟩
theorem first_all : ∀ (l : List Line) (k : Nat), firstS l k = none → ∀ x ∈ l, lineS x = 0
  | [], _, _ => by simp
  | y :: r, k, h => by
    unfold firstS at h
    split at h
    · rename_i h0
      intro x hx
      rcases List.mem_cons.mp hx with rfl | hx
      · exact h0
      · exact first_all r (k + 1) h x hx
    · cases h
structure rangeE (e : Entry) : Prop where
  no : i64r e.no
  book : i64r e.book
  val : i64r e.val
  kind : i64r e.kind
  rev : i64r e.rev
  amts : amts e.lines
theorem check_plain {e : Entry} (h : (checkS e).2 = 0) (hr : rangeE e) (hn : nilE e) : plainE e := by
  unfold checkS at h
  split at h
  · rename_i h0
    have hfn : firstS e.lines 0 = none := by
      split at h
      · rename_i i er hf
        exfalso
        have : ∀ (l : List Line) (k : Nat), firstS l k = some (i, er) → ¬ er = 0 := by
          intro l
          induction l with
          | nil => intro k h; cases h
          | cons y r ih =>
            intro k h
            unfold firstS at h
            split at h
            · exact ih _ h
            · rename_i hy; simp only [Option.some.injEq, Prod.mk.injEq] at h; rw [← h.2]; exact hy
        exact this _ _ hf h
      · assumption
    have hl := first_all _ _ hfn
    unfold headS at h0
    split at h0
    · cases h0
    split at h0
    · cases h0
    split at h0
    · cases h0
    split at h0
    · cases h0
    split at h0
    · cases h0
    split at h0
    · cases h0
    split at h0
    · cases h0
    rename_i h1 h2 h3 h4 h5 h6 h7
    simp only [Bool.not_eq_false, Bool.and_eq_true] at h2 h5
    exact ⟨hr.no, code_plain h2.1, hr.book, hr.val, hr.kind, h5, code_plain h2.2, hr.rev, fun l hl2 => line_plain (hl l hl2) (hr.amts l hl2) (hn.2 l hl2), by omega, hn.1⟩
  · rename_i h0; exact absurd h h0
end Go.Proofs.YtkbheoganajhaaaDoor.Vm
