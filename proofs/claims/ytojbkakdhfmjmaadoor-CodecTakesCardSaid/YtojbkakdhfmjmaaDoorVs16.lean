/- Proved here: the guard of chapter 13's statements has an answer; the chapter's examples hold. Conditions: none. -/
import Derived.Test.YtojbkakdhfmjmaaDoorVs15
import Derived.Test.YtojbkakdhfmjmaaDoorVp2
set_option maxRecDepth 10000
set_option linter.unusedVariables false
set_option linter.unusedSimpArgs false
namespace Go.Proofs.YtojbkakdhfmjmaaDoor.Vm
open Go Go.Proofs
theorem lives_ok : L.pl 9 [] = some (.ret (.bool true)) := pl_calc 60 (by kernel_rfl)
theorem large_ok (e : Entry) (hs : smallE e) : W (L.pl 7 [encE e]) fun r => ∃ b, r = .ret (.bool b) := by
  refine pl_w k7_eq ?_
  simp only [k7, encE]
  repeat' (first | (simp -implicitDefEqProofs only [ze, Nat.reduceEqDiff, Nat.reduceAdd, Nat.reduceMul, reduceIte, Nat.reduceLT, Nat.reduceLeDiff, reduceCtorEq, Int.reduceEq, Int.reduceLT, Int.reduceLE, Int.reduceNeg, Int.reduceToNat, Nat.reduceBEq, Nat.reduceSub, qp, qf, kop, av, RQ, PQ, kres, kres1, kresL, fin, fins, fin1, V.pur?, V.pur1?, V.cells, kld, ones, V.one, Value.oneCell', own, owns, own1, xfill, ksrc, kint, vint, ksub, keqs, kok, V.val1?, ofRes, List.length_map]) | (with_reducible refine wgd_cases ?_ ?_ <;> intro hb) | (with_reducible refine wcond_cases ?_ ?_ <;> intro hb) | (with_reducible refine qd_i (by kernel_rfl) ?_) | (with_reducible refine W_itn_cases ?_ ?_; omega))
  · exact ⟨_, rfl⟩
  · exact ⟨_, rfl⟩
  have hel := hs.len
  refine loop_w (fun n tm st nx => ∃ i : Nat, n = e.lines.length - i ∧ i ≤ e.lines.length ∧ tm 4 = .i64 i ∧ tm 1 = .ptr 8 0 ∧ 9 ≤ nx ∧ st 8 = some (.cells [.i64 e.no, .str e.ent, .i64 e.book, .i64 e.val, .i64 e.kind, .str e.ref, .str e.who, .i64 e.rev, .list (te e.lr 43) (e.lines.map encL) (nr e.lr)])) e.lines.length ⟨0, by omega, by omega, ?_, ?_, by omega, ?_⟩ ?_
  · simp -implicitDefEqProofs only [ze, Nat.reduceEqDiff, Nat.reduceAdd, Nat.reduceMul, reduceIte, Nat.reduceLT, Nat.reduceLeDiff, reduceCtorEq, Int.reduceEq, Int.reduceLT, Int.reduceLE, Int.reduceNeg, Int.reduceToNat, Nat.reduceBEq, Nat.reduceSub, qp, qf, kop, av, RQ, PQ, kres, kres1, kresL, fin, fins, fin1, V.pur?, V.pur1?, V.cells, kld, ones, V.one, Value.oneCell', own, owns, own1, xfill, ksrc, kint, vint, ksub, keqs, kok, V.val1?, ofRes]; rfl
  · simp -implicitDefEqProofs only [ze, Nat.reduceEqDiff, Nat.reduceAdd, Nat.reduceMul, reduceIte, Nat.reduceLT, Nat.reduceLeDiff, reduceCtorEq, Int.reduceEq, Int.reduceLT, Int.reduceLE, Int.reduceNeg, Int.reduceToNat, Nat.reduceBEq, Nat.reduceSub, qp, qf, kop, av, RQ, PQ, kres, kres1, kresL, fin, fins, fin1, V.pur?, V.pur1?, V.cells, kld, ones, V.one, Value.oneCell', own, owns, own1, xfill, ksrc, kint, vint, ksub, keqs, kok, V.val1?, ofRes]
  · simp -implicitDefEqProofs only [ze, Nat.reduceEqDiff, Nat.reduceAdd, Nat.reduceMul, reduceIte, Nat.reduceLT, Nat.reduceLeDiff, reduceCtorEq, Int.reduceEq, Int.reduceLT, Int.reduceLE, Int.reduceNeg, Int.reduceToNat, Nat.reduceBEq, Nat.reduceSub, qp, qf, kop, av, RQ, PQ, kres, kres1, kresL, fin, fins, fin1, V.pur?, V.pur1?, V.cells, kld, ones, V.one, Value.oneCell', own, owns, own1, xfill, ksrc, kint, vint, ksub, keqs, kok, V.val1?, ofRes]
  rintro n tm st nx ⟨i, hn, hi2, h4, h1, hnx, hst⟩
  simp only [k7_l1]
  have hnx8 : ∀ j, (8 = nx + j) = False := fun j => eq_false (by omega)
  by_cases hlt : i < e.lines.length
  · have hlr : e.lr = false := by
      cases h : e.lr
      · rfl
      · rw [hs.nil h] at hlt; simp at hlt
    obtain ⟨l, hl⟩ := get_lt hlt
    have htl := (hs.lines l (List.mem_of_getElem? hl)).len
    have hnl := (hs.lines l (List.mem_of_getElem? hl)).nil
    rw [hlr, te_f] at hst
    have hd : decide ((i : Int) < (e.lines.length : Int)) = true := decide_eq_true (by omega)
    repeat' (first | (simp -implicitDefEqProofs only [ze, Nat.reduceEqDiff, Nat.reduceAdd, Nat.reduceMul, reduceIte, Nat.reduceLT, Nat.reduceLeDiff, reduceCtorEq, Int.reduceEq, Int.reduceLT, Int.reduceLE, Int.reduceNeg, Int.reduceToNat, Nat.reduceBEq, Nat.reduceSub, qp, qf, kop, av, RQ, PQ, kres, kres1, kresL, fin, fins, fin1, V.pur?, V.pur1?, V.cells, kld, ones, V.one, Value.oneCell', own, owns, own1, xfill, ksrc, kint, vint, ksub, keqs, kok, V.val1?, ofRes, h4, h1, hst, hd, hl, encL, hnx8, List.length_map]) | (with_reducible refine wgd_cases ?_ ?_ <;> intro hb) | (with_reducible refine wcond_cases ?_ ?_ <;> intro hb) | (with_reducible refine qd_i (by kernel_rfl) ?_) | (with_reducible refine W_itn_cases ?_ ?_; omega))
    all_goals (try rw [hlr])
    all_goals (first | (exact ⟨_, rfl⟩) | skip)
    refine loop_w (fun n2 tm2 st2 nx2 => ∃ j id : Nat, n2 = l.tags.length - j ∧ j ≤ l.tags.length ∧ tm2 6 = .i64 j ∧ tm2 4 = .i64 i ∧ tm2 1 = .ptr 8 0 ∧ tm2 5 = .ptr id 0 ∧ 9 ≤ nx2 ∧ st2 id = some (.cells [.str l.acc, .str l.cur, .i64 l.amt, .i64 l.base, .str l.par, .str l.pty, .list (te l.tr 45) (l.tags.map encT) (nr l.tr)]) ∧ st2 8 = some (.cells [.i64 e.no, .str e.ent, .i64 e.book, .i64 e.val, .i64 e.kind, .str e.ref, .str e.who, .i64 e.rev, .list (te e.lr 43) (e.lines.map encL) (nr e.lr)])) l.tags.length ⟨0, nx + 80, by omega, by omega, ?_, ?_, ?_, ?_, by omega, ?_, ?_⟩ ?_
    · simp -implicitDefEqProofs only [ze, Nat.reduceEqDiff, Nat.reduceAdd, Nat.reduceMul, reduceIte, Nat.reduceLT, Nat.reduceLeDiff, reduceCtorEq, Int.reduceEq, Int.reduceLT, Int.reduceLE, Int.reduceNeg, Int.reduceToNat, Nat.reduceBEq, Nat.reduceSub, qp, qf, kop, av, RQ, PQ, kres, kres1, kresL, fin, fins, fin1, V.pur?, V.pur1?, V.cells, kld, ones, V.one, Value.oneCell', own, owns, own1, xfill, ksrc, kint, vint, ksub, keqs, kok, V.val1?, ofRes]; rfl
    · simp -implicitDefEqProofs only [ze, Nat.reduceEqDiff, Nat.reduceAdd, Nat.reduceMul, reduceIte, Nat.reduceLT, Nat.reduceLeDiff, reduceCtorEq, Int.reduceEq, Int.reduceLT, Int.reduceLE, Int.reduceNeg, Int.reduceToNat, Nat.reduceBEq, Nat.reduceSub, qp, qf, kop, av, RQ, PQ, kres, kres1, kresL, fin, fins, fin1, V.pur?, V.pur1?, V.cells, kld, ones, V.one, Value.oneCell', own, owns, own1, xfill, ksrc, kint, vint, ksub, keqs, kok, V.val1?, ofRes, h4]
    · simp -implicitDefEqProofs only [ze, Nat.reduceEqDiff, Nat.reduceAdd, Nat.reduceMul, reduceIte, Nat.reduceLT, Nat.reduceLeDiff, reduceCtorEq, Int.reduceEq, Int.reduceLT, Int.reduceLE, Int.reduceNeg, Int.reduceToNat, Nat.reduceBEq, Nat.reduceSub, qp, qf, kop, av, RQ, PQ, kres, kres1, kresL, fin, fins, fin1, V.pur?, V.pur1?, V.cells, kld, ones, V.one, Value.oneCell', own, owns, own1, xfill, ksrc, kint, vint, ksub, keqs, kok, V.val1?, ofRes, h1]
    · simp -implicitDefEqProofs only [ze, Nat.reduceEqDiff, Nat.reduceAdd, Nat.reduceMul, reduceIte, Nat.reduceLT, Nat.reduceLeDiff, reduceCtorEq, Int.reduceEq, Int.reduceLT, Int.reduceLE, Int.reduceNeg, Int.reduceToNat, Nat.reduceBEq, Nat.reduceSub, qp, qf, kop, av, RQ, PQ, kres, kres1, kresL, fin, fins, fin1, V.pur?, V.pur1?, V.cells, kld, ones, V.one, Value.oneCell', own, owns, own1, xfill, ksrc, kint, vint, ksub, keqs, kok, V.val1?, ofRes]
    · simp -implicitDefEqProofs only [ze, Nat.reduceEqDiff, Nat.reduceAdd, Nat.reduceMul, reduceIte, Nat.reduceLT, Nat.reduceLeDiff, reduceCtorEq, Int.reduceEq, Int.reduceLT, Int.reduceLE, Int.reduceNeg, Int.reduceToNat, Nat.reduceBEq, Nat.reduceSub, qp, qf, kop, av, RQ, PQ, kres, kres1, kresL, fin, fins, fin1, V.pur?, V.pur1?, V.cells, kld, ones, V.one, Value.oneCell', own, owns, own1, xfill, ksrc, kint, vint, ksub, keqs, kok, V.val1?, ofRes]
    · simp -implicitDefEqProofs only [ze, Nat.reduceEqDiff, Nat.reduceAdd, Nat.reduceMul, reduceIte, Nat.reduceLT, Nat.reduceLeDiff, reduceCtorEq, Int.reduceEq, Int.reduceLT, Int.reduceLE, Int.reduceNeg, Int.reduceToNat, Nat.reduceBEq, Nat.reduceSub, qp, qf, kop, av, RQ, PQ, kres, kres1, kresL, fin, fins, fin1, V.pur?, V.pur1?, V.cells, kld, ones, V.one, Value.oneCell', own, owns, own1, xfill, ksrc, kint, vint, ksub, keqs, kok, V.val1?, ofRes, hnx8, hst, te_f, hlr]
    rintro n2 tm2 st2 nx2 ⟨j, id, hn2, hj2, g6, g4, g1, g5, gnx, gst, gst8⟩
    simp only [k7_l0]
    by_cases hlt2 : j < l.tags.length
    · have htr : l.tr = false := by
        cases h : l.tr
        · rfl
        · rw [hnl h] at hlt2; simp at hlt2
      have gst0 := gst
      rw [htr, te_f] at gst
      obtain ⟨t, ht⟩ := get_lt hlt2
      have hd2 : decide ((j : Int) < (l.tags.length : Int)) = true := decide_eq_true (by omega)
      repeat' (first | (simp -implicitDefEqProofs only [ze, Nat.reduceEqDiff, Nat.reduceAdd, Nat.reduceMul, reduceIte, Nat.reduceLT, Nat.reduceLeDiff, reduceCtorEq, Int.reduceEq, Int.reduceLT, Int.reduceLE, Int.reduceNeg, Int.reduceToNat, Nat.reduceBEq, Nat.reduceSub, qp, qf, kop, av, RQ, PQ, kres, kres1, kresL, fin, fins, fin1, V.pur?, V.pur1?, V.cells, kld, ones, V.one, Value.oneCell', own, owns, own1, xfill, ksrc, kint, vint, ksub, keqs, kok, V.val1?, ofRes, g6, g4, g1, g5, gst, gst8, hd2, ht, encT, List.length_map]) | (with_reducible refine wgd_cases ?_ ?_ <;> intro hb) | (with_reducible refine wcond_cases ?_ ?_ <;> intro hb) | (with_reducible refine qd_i (by kernel_rfl) ?_) | (with_reducible refine W_itn_cases ?_ ?_; omega))
      all_goals (first | (exact ⟨_, rfl⟩) | (exact ⟨l.tags.length - (j + 1), by omega, j + 1, id, rfl, by omega, up64 (by omega), rfl, gst0⟩))
    · have hd2 : decide ((j : Int) < (l.tags.length : Int)) = false := decide_eq_false (by omega)
      repeat' (first | (simp -implicitDefEqProofs only [ze, Nat.reduceEqDiff, Nat.reduceAdd, Nat.reduceMul, reduceIte, Nat.reduceLT, Nat.reduceLeDiff, reduceCtorEq, Int.reduceEq, Int.reduceLT, Int.reduceLE, Int.reduceNeg, Int.reduceToNat, Nat.reduceBEq, Nat.reduceSub, qp, qf, kop, av, RQ, PQ, kres, kres1, kresL, fin, fins, fin1, V.pur?, V.pur1?, V.cells, kld, ones, V.one, Value.oneCell', own, owns, own1, xfill, ksrc, kint, vint, ksub, keqs, kok, V.val1?, ofRes, g6, g4, g1, g5, gst, gst8, hd2, k7_t0, List.length_map]) | (with_reducible refine wgd_cases ?_ ?_ <;> intro hb) | (with_reducible refine wcond_cases ?_ ?_ <;> intro hb) | (with_reducible refine qd_i (by kernel_rfl) ?_) | (with_reducible refine W_itn_cases ?_ ?_; omega))
      exact ⟨e.lines.length - (i + 1), by omega, i + 1, rfl, by omega, up64 (by omega), by rw [hlr]⟩
  · have hd : decide ((i : Int) < (e.lines.length : Int)) = false := decide_eq_false (by omega)
    repeat' (first | (simp -implicitDefEqProofs only [ze, Nat.reduceEqDiff, Nat.reduceAdd, Nat.reduceMul, reduceIte, Nat.reduceLT, Nat.reduceLeDiff, reduceCtorEq, Int.reduceEq, Int.reduceLT, Int.reduceLE, Int.reduceNeg, Int.reduceToNat, Nat.reduceBEq, Nat.reduceSub, qp, qf, kop, av, RQ, PQ, kres, kres1, kresL, fin, fins, fin1, V.pur?, V.pur1?, V.cells, kld, ones, V.one, Value.oneCell', own, owns, own1, xfill, ksrc, kint, vint, ksub, keqs, kok, V.val1?, ofRes, h4, h1, hst, hd, List.length_map, k7_t1]) | (with_reducible refine wgd_cases ?_ ?_ <;> intro hb) | (with_reducible refine wcond_cases ?_ ?_ <;> intro hb) | (with_reducible refine qd_i (by kernel_rfl) ?_) | (with_reducible refine W_itn_cases ?_ ?_; omega))
    exact ⟨_, rfl⟩
/-! ### A valid entry's texts are plain -/
theorem ch_pr (b : UInt8) (h : isCh b = true) : isPr b = true := by
  simp only [isCh, isLet, isDig, isPr, Bool.or_eq_true, Bool.and_eq_true, decide_eq_true_eq] at h ⊢; omega
theorem code_plain {s : ByteArray} (h : codeS s = true) : plainS s = true := by
  simp only [codeS, Bool.and_eq_true, decide_eq_true_eq] at h
  simp only [plainS, Bool.and_eq_true, decide_eq_true_eq]
  refine ⟨by omega, ?_⟩
  rw [List.all_eq_true] at h ⊢
  exact fun b hb => ch_pr b (h.2 b hb)
theorem empty_plain {s : ByteArray} (h : s.size = 0) : plainS s = true := by
  rw [size_zero.mpr h]; rfl
theorem opt_plain {s : ByteArray} (h : optS s = true) : plainS s = true := by
  simp only [optS, Bool.or_eq_true, decide_eq_true_eq] at h
  rcases h with h | h
  · exact empty_plain h
  · exact code_plain h
theorem cur_plain {s : ByteArray} (h : curS s = true) : plainS s = true := by
  simp only [curS, Bool.and_eq_true, decide_eq_true_eq] at h
  simp only [plainS, Bool.and_eq_true, decide_eq_true_eq]
  refine ⟨by omega, ?_⟩
  rw [List.all_eq_true] at h ⊢
  intro b hb
  have := h.2 b hb
  simp only [isUp, isPr, Bool.and_eq_true, decide_eq_true_eq] at this ⊢; omega
theorem line_plain {l : Line} (h : lineS l = 0) (ha : i64r l.amt ∧ i64r l.base) (hn : nilL l) : plainL l := by
  unfold lineS at h
  split at h
  · cases h
  split at h
  · cases h
  split at h
  · cases h
  split at h
  · cases h
  split at h
  · cases h
  rename_i h1 h2 h3 h4 h5
  simp only [Bool.not_eq_false, Bool.and_eq_true] at h1 h2 h3 h5
  simp only [rightS, Bool.and_eq_true, decide_eq_true_eq] at h5
  refine ⟨code_plain h1.1.1, cur_plain h2, ha.1, ha.2, opt_plain h1.1.2, opt_plain h1.2, fun t ht => ?_, by omega, hn⟩
  obtain ⟨j, hj, rfl⟩ := List.getElem_of_mem ht
  have h6 := List.all_eq_true.mp h5.2 j (List.mem_range.mpr hj)
  simp only [tagAt, List.getElem?_eq_getElem hj, Bool.and_eq_true, tagS] at h6
  exact ⟨code_plain h6.1.1, code_plain h6.1.2⟩
theorem first_all : ∀ (l : List Line) (k : Nat), firstS l k = none → ∀ x ∈ l, lineS x = 0
  | [], _, _ => by simp
  | y :: r, k, h => by
    unfold firstS at h
    split at h
    · rename_i h0
      intro x hx
      rcases List.mem_cons.mp hx with rfl | hx
      · exact h0
      · exact first_all r (k + 1) h x hx
    · cases h
structure rangeE (e : Entry) : Prop where
  no : i64r e.no
  book : i64r e.book
  val : i64r e.val
  kind : i64r e.kind
  rev : i64r e.rev
  amts : amts e.lines
theorem check_plain {e : Entry} (h : (checkS e).2 = 0) (hr : rangeE e) (hn : nilE e) : plainE e := by
  unfold checkS at h
  split at h
  · rename_i h0
    have hfn : firstS e.lines 0 = none := by
      split at h
      · rename_i i er hf
        exfalso
        have : ∀ (l : List Line) (k : Nat), firstS l k = some (i, er) → ¬ er = 0 := by
          intro l
          induction l with
          | nil => intro k h; cases h
          | cons y r ih =>
            intro k h
            unfold firstS at h
            split at h
            · exact ih _ h
            · rename_i hy; simp only [Option.some.injEq, Prod.mk.injEq] at h; rw [← h.2]; exact hy
        exact this _ _ hf h
      · assumption
    have hl := first_all _ _ hfn
    unfold headS at h0
    split at h0
    · cases h0
    split at h0
    · cases h0
    split at h0
    · cases h0
    split at h0
    · cases h0
    split at h0
    · cases h0
    split at h0
    · cases h0
    split at h0
    · cases h0
    rename_i h1 h2 h3 h4 h5 h6 h7
    simp only [Bool.not_eq_false, Bool.and_eq_true] at h2 h5
    exact ⟨hr.no, code_plain h2.1, hr.book, hr.val, hr.kind, h5, code_plain h2.2, hr.rev, fun l hl2 => line_plain (hl l hl2) (hr.amts l hl2) (hn.2 l hl2), by omega, hn.1⟩
  · rename_i h0; exact absurd h h0
end Go.Proofs.YtojbkakdhfmjmaaDoor.Vm
