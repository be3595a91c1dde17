/- Proved here: what the functions on lists of tags return. Conditions: none. -/
import Derived.Test.YtkbheoganajhaaaDoorVs2
set_option maxRecDepth 10000
set_option linter.unusedVariables false
set_option linter.unusedSimpArgs false
namespace Go.Proofs.YtkbheoganajhaaaDoor.Vm
open Go Go.Proofs
def tagAt (l : List Tag) (i : Nat) : Bool := match l[i]? with
  | some t => tagS t && (decide (i = 0) || match l[i - 1]? with | some a => lessS a.n t.n | none => false)
  | none => true
def rightS (l : List Tag) : Bool := decide (l.length ≤ 6) && (List.range l.length).all (tagAt l)
theorem right_true {l : List Tag} (h : ∀ j, j < l.length → tagAt l j = true) : (List.range l.length).all (tagAt l) = true := by
  rw [List.all_eq_true]; intro j hj; exact h j (List.mem_range.mp hj)
theorem right_false {l : List Tag} {j : Nat} (hj : j < l.length) (h : tagAt l j = false) : rightS l = false := by
  have : (List.range l.length).all (tagAt l) = false := by rw [List.all_eq_false]; exact ⟨j, List.mem_range.mpr hj, by simp [h]⟩
  simp [rightS, this]
theorem less_irrefl : ∀ a : List UInt8, Op.bytesLess a a = false
  | [] => rfl
  | a :: r => by simp [Op.bytesLess, less_irrefl r]
theorem less_tri : ∀ a b : List UInt8, Op.bytesLess a b = !(Op.bytesLess b a || decide (a = b))
  | [], [] => by simp [Op.bytesLess]
  | [], _ :: _ => by simp [Op.bytesLess]
  | _ :: _, [] => by simp [Op.bytesLess]
  | a :: x, b :: y => by
    have ih := less_tri x y
    simp only [Op.bytesLess, List.cons.injEq]
    rw [ih]
    by_cases h1 : a = b
    · subst h1
      have : ¬ a < a := UInt8.lt_irrefl a
      simp [this]
    · have h2 : ¬ b = a := fun e => h1 e.symm
      by_cases h3 : a < b
      · have : ¬ b < a := UInt8.lt_asymm h3
        simp [h1, h2, h3, this]
      · have : b < a := by
          have h4 : a.toNat ≠ b.toNat := fun e => h1 (UInt8.toNat_inj.mp e)
          have h5 : ¬ a.toNat < b.toNat := fun e => h3 (UInt8.lt_iff_toNat_lt.mpr e)
          exact UInt8.lt_iff_toNat_lt.mpr (by omega)
        simp [h1, h2, h3, this]
theorem lessS_tri (a b : ByteArray) : lessS a b = !(lessS b a || decide (b = a)) := by
  unfold lessS
  rw [less_tri]
  congr 2
  by_cases h : a = b
  · subst h; simp
  · have h1 : ¬ b = a := fun e => h e.symm
    have h2 : ¬ a.data.toList = b.data.toList := fun e => h (ba_inj e)
    rw [decide_eq_false h1, decide_eq_false h2]
theorem codes_ok (t : Tag) : L.pl 91 [.agg [.str t.n, .str t.v]] = some (.ret (.bool (tagS t))) := by
  refine W_of (pl_w k91_eq ?_)
  simp only [k91]
  repeat' (first | (simp -implicitDefEqProofs only [ze, Nat.reduceEqDiff, Nat.reduceAdd, Nat.reduceMul, reduceIte, Nat.reduceLT, Nat.reduceLeDiff, reduceCtorEq, Int.reduceEq, Int.reduceLT, Int.reduceLE, Int.reduceNeg, Int.reduceToNat, Nat.reduceBEq, Nat.reduceSub, qp, qf, kop, av, RQ, PQ, kres, kres1, kresL, fin, fins, fin1, V.pur?, V.pur1?, V.cells, kld, ones, V.one, Value.oneCell', own, owns, own1, xfill, ksrc, kint, vint, ksub, keqs, kok, V.val1?, ofRes, code_ok]) | (with_reducible refine wgd_cases ?_ ?_ <;> intro hb) | (with_reducible refine wcond_cases ?_ ?_ <;> intro hb) | (with_reducible refine qd_i (by kernel_rfl) ?_) | (with_reducible refine W_itn_cases ?_ ?_; omega))
  all_goals (refine ret_b ?_; simp_all [tagS])
theorem named_ok (t : Tag) (h1 : small t.n) (h2 : small t.v) : L.pl 64 [.agg [.str t.n, .str t.v]] = some (.ret (.bool (tagS t))) := by
  refine W_of (pl_w k64_eq ?_)
  simp only [k64]
  repeat' (first | (simp -implicitDefEqProofs only [ze, Nat.reduceEqDiff, Nat.reduceAdd, Nat.reduceMul, reduceIte, Nat.reduceLT, Nat.reduceLeDiff, reduceCtorEq, Int.reduceEq, Int.reduceLT, Int.reduceLE, Int.reduceNeg, Int.reduceToNat, Nat.reduceBEq, Nat.reduceSub, qp, qf, kop, av, RQ, PQ, kres, kres1, kresL, fin, fins, fin1, V.pur?, V.pur1?, V.cells, kld, ones, V.one, Value.oneCell', own, owns, own1, xfill, ksrc, kint, vint, ksub, keqs, kok, V.val1?, ofRes, rcode_ok t.n h1, rcode_ok t.v h2]) | (with_reducible refine wgd_cases ?_ ?_ <;> intro hb) | (with_reducible refine wcond_cases ?_ ?_ <;> intro hb) | (with_reducible refine qd_i (by kernel_rfl) ?_) | (with_reducible refine W_itn_cases ?_ ?_; omega))
  all_goals (refine ret_b ?_; simp_all [tagS])
theorem dims_ok (l : List Tag) (r : Nat) : L.pl 72 [.list 97 (l.map encT) r] = some (.ret (.bool (rightS l))) := by
  refine W_of (pl_w k72_eq ?_)
  simp only [k72, k72_t0]
  repeat' (first | (simp -implicitDefEqProofs only [ze, Nat.reduceEqDiff, Nat.reduceAdd, Nat.reduceMul, reduceIte, Nat.reduceLT, Nat.reduceLeDiff, reduceCtorEq, Int.reduceEq, Int.reduceLT, Int.reduceLE, Int.reduceNeg, Int.reduceToNat, Nat.reduceBEq, Nat.reduceSub, qp, qf, kop, av, RQ, PQ, kres, kres1, kresL, fin, fins, fin1, V.pur?, V.pur1?, V.cells, kld, ones, V.one, Value.oneCell', own, owns, own1, xfill, ksrc, kint, vint, ksub, keqs, kok, V.val1?, ofRes, List.length_map]) | (with_reducible refine wgd_cases ?_ ?_ <;> intro hb) | (with_reducible refine wcond_cases ?_ ?_ <;> intro hb) | (with_reducible refine qd_i (by kernel_rfl) ?_) | (with_reducible refine W_itn_cases ?_ ?_; omega))
  · have h6 : ¬ l.length ≤ 6 := by simp only [decide_eq_true_eq] at hb; omega
    exact ret_b (by simp [rightS, h6])
  · have h6 : l.length ≤ 6 := by simp only [decide_eq_false_iff_not] at hb; omega
    refine loop_w (fun n tm st nx => ∃ i : Nat, n = l.length - i ∧ i ≤ l.length ∧ tm 10 = .i64 i ∧ tm 9 = .i64 l.length ∧ tm 8 = .list 97 (l.map encT) r ∧ tm 0 = .list 97 (l.map encT) r ∧ ∀ j, j < i → tagAt l j = true) l.length ⟨0, by omega, by omega, ?_, ?_, ?_, ?_, by omega⟩ ?_
    · simp -implicitDefEqProofs only [ze, Nat.reduceEqDiff, Nat.reduceAdd, Nat.reduceMul, reduceIte, Nat.reduceLT, Nat.reduceLeDiff, reduceCtorEq, Int.reduceEq, Int.reduceLT, Int.reduceLE, Int.reduceNeg, Int.reduceToNat, Nat.reduceBEq, Nat.reduceSub, qp, qf, kop, av, RQ, PQ, kres, kres1, kresL, fin, fins, fin1, V.pur?, V.pur1?, V.cells, kld, ones, V.one, Value.oneCell', own, owns, own1, xfill, ksrc, kint, vint, ksub, keqs, kok, V.val1?, ofRes]; rfl
    · simp -implicitDefEqProofs only [ze, Nat.reduceEqDiff, Nat.reduceAdd, Nat.reduceMul, reduceIte, Nat.reduceLT, Nat.reduceLeDiff, reduceCtorEq, Int.reduceEq, Int.reduceLT, Int.reduceLE, Int.reduceNeg, Int.reduceToNat, Nat.reduceBEq, Nat.reduceSub, qp, qf, kop, av, RQ, PQ, kres, kres1, kresL, fin, fins, fin1, V.pur?, V.pur1?, V.cells, kld, ones, V.one, Value.oneCell', own, owns, own1, xfill, ksrc, kint, vint, ksub, keqs, kok, V.val1?, ofRes]
    · simp -implicitDefEqProofs only [ze, Nat.reduceEqDiff, Nat.reduceAdd, Nat.reduceMul, reduceIte, Nat.reduceLT, Nat.reduceLeDiff, reduceCtorEq, Int.reduceEq, Int.reduceLT, Int.reduceLE, Int.reduceNeg, Int.reduceToNat, Nat.reduceBEq, Nat.reduceSub, qp, qf, kop, av, RQ, PQ, kres, kres1, kresL, fin, fins, fin1, V.pur?, V.pur1?, V.cells, kld, ones, V.one, Value.oneCell', own, owns, own1, xfill, ksrc, kint, vint, ksub, keqs, kok, V.val1?, ofRes]
    · simp -implicitDefEqProofs only [ze, Nat.reduceEqDiff, Nat.reduceAdd, Nat.reduceMul, reduceIte, Nat.reduceLT, Nat.reduceLeDiff, reduceCtorEq, Int.reduceEq, Int.reduceLT, Int.reduceLE, Int.reduceNeg, Int.reduceToNat, Nat.reduceBEq, Nat.reduceSub, qp, qf, kop, av, RQ, PQ, kres, kres1, kresL, fin, fins, fin1, V.pur?, V.pur1?, V.cells, kld, ones, V.one, Value.oneCell', own, owns, own1, xfill, ksrc, kint, vint, ksub, keqs, kok, V.val1?, ofRes]
    · rintro n tm st nx ⟨i, hi, hi2, h10, h9, h8, h0, hp⟩
      simp only [k72_l0]
      by_cases hlt : i < l.length
      · obtain ⟨t, ht⟩ := get_lt hlt
        have hd : decide ((i : Int) < (l.length : Int)) = true := decide_eq_true (by omega)
        have hup : tagAt l i = true → ∃ m, m < l.length - i ∧ ∃ i' : Nat, m = l.length - i' ∧ i' ≤ l.length ∧ V.sc (.int .i64 (IntKind.i64.wrap (i + 1))) = .i64 i' ∧ ∀ j, j < i' → tagAt l j = true := fun hpb => by
          refine ⟨l.length - (i + 1), by omega, i + 1, rfl, by omega, up64 (by omega), fun j hj => ?_⟩
          rcases Nat.lt_succ_iff_lt_or_eq.mp hj with h | rfl
          · exact hp j h
          · exact hpb
        subst hi
        rcases Nat.eq_zero_or_pos i with rfl | hpos
        · have hz : decide ((0 : Int) < ((0 : Nat) : Int)) = false := rfl
          repeat' (first | (simp -implicitDefEqProofs only [ze, Nat.reduceEqDiff, Nat.reduceAdd, Nat.reduceMul, reduceIte, Nat.reduceLT, Nat.reduceLeDiff, reduceCtorEq, Int.reduceEq, Int.reduceLT, Int.reduceLE, Int.reduceNeg, Int.reduceToNat, Nat.reduceBEq, Nat.reduceSub, qp, qf, kop, av, RQ, PQ, kres, kres1, kresL, fin, fins, fin1, V.pur?, V.pur1?, V.cells, kld, ones, V.one, Value.oneCell', own, owns, own1, xfill, ksrc, kint, vint, ksub, keqs, kok, V.val1?, ofRes, h10, h9, h8, h0, hd, hz, ht, encT, codes_ok]) | (with_reducible refine wgd_cases ?_ ?_ <;> intro hb) | (with_reducible refine wcond_cases ?_ ?_ <;> intro hb) | (with_reducible refine qd_i (by kernel_rfl) ?_) | (with_reducible refine W_itn_cases ?_ ?_; omega))
          · exact ret_b (right_false hlt (by simp_all [tagAt])).symm
          · exact hup (by simp_all [tagAt])
        · obtain ⟨k, rfl⟩ : ∃ k, i = k + 1 := ⟨i - 1, by omega⟩
          obtain ⟨a, ha⟩ := get_lt (l := l) (i := k) (by omega)
          have hw : IntKind.i64.wrap (((k + 1 : Nat) : Int) - 1) = (k : Int) := by rw [wrap_i64 (by omega) (by omega)]; omega
          have hz : decide ((0 : Int) < ((k + 1 : Nat) : Int)) = true := decide_eq_true (by omega)
          have hta : tagAt l (k + 1) = (tagS t && lessS a.n t.n) := by simp [tagAt, ht, ha]
          repeat' (first | (simp -implicitDefEqProofs only [ze, Nat.reduceEqDiff, Nat.reduceAdd, Nat.reduceMul, reduceIte, Nat.reduceLT, Nat.reduceLeDiff, reduceCtorEq, Int.reduceEq, Int.reduceLT, Int.reduceLE, Int.reduceNeg, Int.reduceToNat, Nat.reduceBEq, Nat.reduceSub, qp, qf, kop, av, RQ, PQ, kres, kres1, kresL, fin, fins, fin1, V.pur?, V.pur1?, V.cells, kld, ones, V.one, Value.oneCell', own, owns, own1, xfill, ksrc, kint, vint, ksub, keqs, kok, V.val1?, ofRes, h10, h9, h8, h0, hd, hz, hw, ht, ha, encT, codes_ok]) | (with_reducible refine wgd_cases ?_ ?_ <;> intro hb) | (with_reducible refine wcond_cases ?_ ?_ <;> intro hb) | (with_reducible refine qd_i (by kernel_rfl) ?_) | (with_reducible refine W_itn_cases ?_ ?_; omega))
          · exact ret_b (right_false hlt (by simp_all)).symm
          · exact ret_b (right_false hlt (by simp_all [lessS])).symm
          · exact hup (by simp_all [lessS])
      · have hd : decide ((i : Int) < (l.length : Int)) = false := decide_eq_false (by omega)
        repeat' (first | (simp -implicitDefEqProofs only [ze, Nat.reduceEqDiff, Nat.reduceAdd, Nat.reduceMul, reduceIte, Nat.reduceLT, Nat.reduceLeDiff, reduceCtorEq, Int.reduceEq, Int.reduceLT, Int.reduceLE, Int.reduceNeg, Int.reduceToNat, Nat.reduceBEq, Nat.reduceSub, qp, qf, kop, av, RQ, PQ, kres, kres1, kresL, fin, fins, fin1, V.pur?, V.pur1?, V.cells, kld, ones, V.one, Value.oneCell', own, owns, own1, xfill, ksrc, kint, vint, ksub, keqs, kok, V.val1?, ofRes, h10, h9, h8, h0, hd]) | (with_reducible refine wgd_cases ?_ ?_ <;> intro hb) | (with_reducible refine wcond_cases ?_ ?_ <;> intro hb) | (with_reducible refine qd_i (by kernel_rfl) ?_) | (with_reducible refine W_itn_cases ?_ ?_; omega))
        exact ret_b (by simp [rightS, h6, right_true fun j hj => hp j (by omega)])
theorem rdims_ok (l : List Tag) (r : Nat) (hs : ∀ t ∈ l, small t.n ∧ small t.v) (hl : l.length < 4611686018427387904) : L.pl 42 [.list 97 (l.map encT) r] = some (.ret (.bool (rightS l))) := by
  refine W_of (pl_w k42_eq ?_)
  simp only [k42, k42_t0]
  repeat' (first | (simp -implicitDefEqProofs only [ze, Nat.reduceEqDiff, Nat.reduceAdd, Nat.reduceMul, reduceIte, Nat.reduceLT, Nat.reduceLeDiff, reduceCtorEq, Int.reduceEq, Int.reduceLT, Int.reduceLE, Int.reduceNeg, Int.reduceToNat, Nat.reduceBEq, Nat.reduceSub, qp, qf, kop, av, RQ, PQ, kres, kres1, kresL, fin, fins, fin1, V.pur?, V.pur1?, V.cells, kld, ones, V.one, Value.oneCell', own, owns, own1, xfill, ksrc, kint, vint, ksub, keqs, kok, V.val1?, ofRes, List.length_map]) | (with_reducible refine wgd_cases ?_ ?_ <;> intro hb) | (with_reducible refine wcond_cases ?_ ?_ <;> intro hb) | (with_reducible refine qd_i (by kernel_rfl) ?_) | (with_reducible refine W_itn_cases ?_ ?_; omega))
  refine loop_w (fun n tm st nx => ∃ i : Nat, n = l.length - i ∧ i ≤ l.length ∧ tm 3 = .i64 i ∧ tm 0 = .list 97 (l.map encT) r ∧ ∀ j, j < i → tagAt l j = true) l.length ⟨0, by omega, by omega, ?_, ?_, by omega⟩ ?_
  · simp -implicitDefEqProofs only [ze, Nat.reduceEqDiff, Nat.reduceAdd, Nat.reduceMul, reduceIte, Nat.reduceLT, Nat.reduceLeDiff, reduceCtorEq, Int.reduceEq, Int.reduceLT, Int.reduceLE, Int.reduceNeg, Int.reduceToNat, Nat.reduceBEq, Nat.reduceSub, qp, qf, kop, av, RQ, PQ, kres, kres1, kresL, fin, fins, fin1, V.pur?, V.pur1?, V.cells, kld, ones, V.one, Value.oneCell', own, owns, own1, xfill, ksrc, kint, vint, ksub, keqs, kok, V.val1?, ofRes]; rfl
  · simp -implicitDefEqProofs only [ze, Nat.reduceEqDiff, Nat.reduceAdd, Nat.reduceMul, reduceIte, Nat.reduceLT, Nat.reduceLeDiff, reduceCtorEq, Int.reduceEq, Int.reduceLT, Int.reduceLE, Int.reduceNeg, Int.reduceToNat, Nat.reduceBEq, Nat.reduceSub, qp, qf, kop, av, RQ, PQ, kres, kres1, kresL, fin, fins, fin1, V.pur?, V.pur1?, V.cells, kld, ones, V.one, Value.oneCell', own, owns, own1, xfill, ksrc, kint, vint, ksub, keqs, kok, V.val1?, ofRes]
  · rintro n tm st nx ⟨i, hi, hi2, h3, h0, hp⟩
    simp only [k42_l0]
    by_cases hlt : i < l.length
    · obtain ⟨t, ht⟩ := get_lt hlt
      have hst := hs t (List.mem_of_getElem? ht)
      have hd : decide ((i : Int) < (l.length : Int)) = true := decide_eq_true (by omega)
      have hup : tagAt l i = true → ∃ m, m < l.length - i ∧ ∃ i' : Nat, m = l.length - i' ∧ i' ≤ l.length ∧ V.sc (.int .i64 (IntKind.i64.wrap (i + 1))) = .i64 i' ∧ ∀ j, j < i' → tagAt l j = true := fun hpb => by
        refine ⟨l.length - (i + 1), by omega, i + 1, rfl, by omega, up64 (by omega), fun j hj => ?_⟩
        rcases Nat.lt_succ_iff_lt_or_eq.mp hj with h | rfl
        · exact hp j h
        · exact hpb
      subst hi
      rcases Nat.eq_zero_or_pos i with rfl | hpos
      · have hz : decide ((0 : Int) < ((0 : Nat) : Int)) = false := rfl
        repeat' (first | (simp -implicitDefEqProofs only [ze, Nat.reduceEqDiff, Nat.reduceAdd, Nat.reduceMul, reduceIte, Nat.reduceLT, Nat.reduceLeDiff, reduceCtorEq, Int.reduceEq, Int.reduceLT, Int.reduceLE, Int.reduceNeg, Int.reduceToNat, Nat.reduceBEq, Nat.reduceSub, qp, qf, kop, av, RQ, PQ, kres, kres1, kresL, fin, fins, fin1, V.pur?, V.pur1?, V.cells, kld, ones, V.one, Value.oneCell', own, owns, own1, xfill, ksrc, kint, vint, ksub, keqs, kok, V.val1?, ofRes, h3, h0, hd, hz, ht, encT, named_ok t hst.1 hst.2, List.length_map]) | (with_reducible refine wgd_cases ?_ ?_ <;> intro hb) | (with_reducible refine wcond_cases ?_ ?_ <;> intro hb) | (with_reducible refine qd_i (by kernel_rfl) ?_) | (with_reducible refine W_itn_cases ?_ ?_; omega))
        · exact ret_b (right_false hlt (by simp_all [tagAt])).symm
        · exact hup (by simp_all [tagAt])
      · obtain ⟨k, rfl⟩ : ∃ k, i = k + 1 := ⟨i - 1, by omega⟩
        obtain ⟨a, ha⟩ := get_lt (l := l) (i := k) (by omega)
        have hw : IntKind.i64.wrap (((k + 1 : Nat) : Int) - 1) = (k : Int) := by rw [wrap_i64 (by omega) (by omega)]; omega
        have hz : decide ((0 : Int) < ((k + 1 : Nat) : Int)) = true := decide_eq_true (by omega)
        have hta : tagAt l (k + 1) = (tagS t && lessS a.n t.n) := by simp [tagAt, ht, ha]
        rw [lessS_tri] at hta
        repeat' (first | (simp -implicitDefEqProofs only [ze, Nat.reduceEqDiff, Nat.reduceAdd, Nat.reduceMul, reduceIte, Nat.reduceLT, Nat.reduceLeDiff, reduceCtorEq, Int.reduceEq, Int.reduceLT, Int.reduceLE, Int.reduceNeg, Int.reduceToNat, Nat.reduceBEq, Nat.reduceSub, qp, qf, kop, av, RQ, PQ, kres, kres1, kresL, fin, fins, fin1, V.pur?, V.pur1?, V.cells, kld, ones, V.one, Value.oneCell', own, owns, own1, xfill, ksrc, kint, vint, ksub, keqs, kok, V.val1?, ofRes, h3, h0, hd, hz, hw, ht, ha, encT, named_ok t hst.1 hst.2, List.length_map]) | (with_reducible refine wgd_cases ?_ ?_ <;> intro hb) | (with_reducible refine wcond_cases ?_ ?_ <;> intro hb) | (with_reducible refine qd_i (by kernel_rfl) ?_) | (with_reducible refine W_itn_cases ?_ ?_; omega))
        · exact ret_b (right_false hlt (by simp_all)).symm
        · exact ret_b (right_false hlt (by simp_all [lessS])).symm
        · exact hup (by simp_all [lessS])
    · have hd : decide ((i : Int) < (l.length : Int)) = false := decide_eq_false (by omega)
      repeat' (first | (simp -implicitDefEqProofs only [ze, Nat.reduceEqDiff, Nat.reduceAdd, Nat.reduceMul, reduceIte, Nat.reduceLT, Nat.reduceLeDiff, reduceCtorEq, Int.reduceEq, Int.reduceLT, Int.reduceLE, Int.reduceNeg, Int.reduceToNat, Nat.reduceBEq, Nat.reduceSub, qp, qf, kop, av, RQ, PQ, kres, kres1, kresL, fin, fins, fin1, V.pur?, V.pur1?, V.cells, kld, ones, V.one, Value.oneCell', own, owns, own1, xfill, ksrc, kint, vint, ksub, keqs, kok, V.val1?, ofRes, h3, h0, hd, List.length_map]) | (with_reducible refine wgd_cases ?_ ?_ <;> intro hb) | (with_reducible refine wcond_cases ?_ ?_ <;> intro hb) | (with_reducible refine qd_i (by kernel_rfl) ?_) | (with_reducible refine W_itn_cases ?_ ?_; omega))
      exact ret_b (Bool.eq_iff_iff.mpr (by simp [rightS, right_true fun j hj => hp j (by omega)]; omega))
theorem dims_te (l : List Tag) (b : Bool) (h : b = true → l = []) : L.pl 72 [.list (te b 97) (l.map encT) (nr b)] = some (.ret (.bool (rightS l))) := by
  cases b
  · exact dims_ok l 0
  · rw [h rfl]
    exact pl_calc 20 (by kernel_rfl)
theorem rdims_te (l : List Tag) (b : Bool) (h : b = true → l = []) (hs : ∀ t ∈ l, small t.n ∧ small t.v) (hl : l.length < 4611686018427387904) : L.pl 42 [.list (te b 97) (l.map encT) (nr b)] = some (.ret (.bool (rightS l))) := by
  cases b
  · exact rdims_ok l 0 hs hl
  · rw [h rfl]
    exact pl_calc 20 (by kernel_rfl)
end Go.Proofs.YtkbheoganajhaaaDoor.Vm
