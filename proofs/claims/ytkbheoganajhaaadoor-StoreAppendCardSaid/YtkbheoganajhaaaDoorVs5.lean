/- Proved here: what the functions on days return: a number is a day if it is in range. Conditions: none. -/
import Derived.Test.YtkbheoganajhaaaDoorVs4
set_option maxRecDepth 10000
set_option linter.unusedVariables false
set_option linter.unusedSimpArgs false
namespace Go.Proofs.YtkbheoganajhaaaDoor.Vm
open Go Go.Proofs
def dayS (n : Int) : Bool := decide (0 ≤ n) && decide (n ≤ 109572)
def leapZ (y : Int) : Bool := (decide (y % 4 = 0) && !decide (y % 100 = 0)) || decide (y % 400 = 0)
def befZ (y : Int) : Int := 365 * (y - 1900) + ((y - 1) / 4 - (y - 1) / 100 + (y - 1) / 400 - 474 + 18 - 4)
def lp (y : Int) : Int := if leapZ y then 1 else 0
def lenM (y : Int) : Nat → Int
  | 1 => 31 | 2 => 28 + lp y | 3 => 31 | 4 => 30 | 5 => 31 | 6 => 30 | 7 => 31 | 8 => 31 | 9 => 30 | 10 => 31 | 11 => 30 | 12 => 31 | _ => 0
def remM (y : Int) : Nat → Int
  | 1 => 365 + lp y | 2 => 334 + lp y | 3 => 306 | 4 => 275 | 5 => 245 | 6 => 214 | 7 => 184 | 8 => 153 | 9 => 122 | 10 => 92 | 11 => 61 | 12 => 31 | _ => 0
theorem lp_le (y : Int) : 0 ≤ lp y ∧ lp y ≤ 1 := by unfold lp; split <;> omega
theorem bef_next (y : Int) (h : 1900 ≤ y) : befZ (y + 1) = befZ y + 365 + lp y := by
  unfold lp
  cases hl : leapZ y with
  | true =>
    simp only [leapZ, Bool.or_eq_true, Bool.and_eq_true, decide_eq_true_eq, Bool.not_eq_true', decide_eq_false_iff_not] at hl
    simp only [befZ, if_true]; omega
  | false =>
    simp only [leapZ, Bool.or_eq_false_iff, Bool.and_eq_false_iff, decide_eq_false_iff_not, Bool.not_eq_false', decide_eq_true_eq] at hl
    simp only [befZ, Bool.false_eq_true, if_false]; omega
theorem is_ok (n : Int) : L.pl 99 [.i64 n] = some (.ret (.bool (dayS n))) := by
  refine W_of (pl_w k99_eq ?_)
  simp only [k99]
  repeat' (first | (simp -implicitDefEqProofs only [ze, Nat.reduceEqDiff, Nat.reduceAdd, Nat.reduceMul, reduceIte, Nat.reduceLT, Nat.reduceLeDiff, reduceCtorEq, Int.reduceEq, Int.reduceLT, Int.reduceLE, Int.reduceNeg, Int.reduceToNat, Nat.reduceBEq, Nat.reduceSub, qp, qf, kop, av, RQ, PQ, kres, kres1, kresL, fin, fins, fin1, V.pur?, V.pur1?, V.cells, kld, ones, V.one, Value.oneCell', own, owns, own1, xfill, ksrc, kint, vint, ksub, keqs, kok, V.val1?, ofRes]) | (with_reducible refine wgd_cases ?_ ?_ <;> intro hb) | (with_reducible refine wcond_cases ?_ ?_ <;> intro hb) | (with_reducible refine qd_i (by kernel_rfl) ?_) | (with_reducible refine W_itn_cases ?_ ?_; omega))
  all_goals (refine ret_b (Bool.eq_iff_iff.mpr ?_); simp_all [dayS]; try omega)
theorem rday_ok (n : Int) : L.pl 37 [.i64 n] = some (.ret (.bool (dayS n))) := by
  refine W_of (pl_w k37_eq ?_)
  simp only [k37]
  repeat' (first | (simp -implicitDefEqProofs only [ze, Nat.reduceEqDiff, Nat.reduceAdd, Nat.reduceMul, reduceIte, Nat.reduceLT, Nat.reduceLeDiff, reduceCtorEq, Int.reduceEq, Int.reduceLT, Int.reduceLE, Int.reduceNeg, Int.reduceToNat, Nat.reduceBEq, Nat.reduceSub, qp, qf, kop, av, RQ, PQ, kres, kres1, kresL, fin, fins, fin1, V.pur?, V.pur1?, V.cells, kld, ones, V.one, Value.oneCell', own, owns, own1, xfill, ksrc, kint, vint, ksub, keqs, kok, V.val1?, ofRes]) | (with_reducible refine wgd_cases ?_ ?_ <;> intro hb) | (with_reducible refine wcond_cases ?_ ?_ <;> intro hb) | (with_reducible refine qd_i (by kernel_rfl) ?_) | (with_reducible refine W_itn_cases ?_ ?_; omega))
  all_goals (refine ret_b (Bool.eq_iff_iff.mpr ?_); simp_all [dayS]; try omega)
theorem leap_ok (y : Int) (h : 1900 ≤ y) : L.pl 106 [.i64 y] = some (.ret (.bool (leapZ y))) := by
  refine W_of (pl_w k106_eq ?_)
  simp only [k106]
  have h4 : y.tmod 4 = y % 4 := Int.tmod_eq_emod_of_nonneg (by omega)
  have h100 : y.tmod 100 = y % 100 := Int.tmod_eq_emod_of_nonneg (by omega)
  have h400 : y.tmod 400 = y % 400 := Int.tmod_eq_emod_of_nonneg (by omega)
  repeat' (first | (simp -implicitDefEqProofs only [ze, Nat.reduceEqDiff, Nat.reduceAdd, Nat.reduceMul, reduceIte, Nat.reduceLT, Nat.reduceLeDiff, reduceCtorEq, Int.reduceEq, Int.reduceLT, Int.reduceLE, Int.reduceNeg, Int.reduceToNat, Nat.reduceBEq, Nat.reduceSub, qp, qf, kop, av, RQ, PQ, kres, kres1, kresL, fin, fins, fin1, V.pur?, V.pur1?, V.cells, kld, ones, V.one, Value.oneCell', own, owns, own1, xfill, ksrc, kint, vint, ksub, keqs, kok, V.val1?, ofRes, h4, h100, h400]) | (with_reducible refine wgd_cases ?_ ?_ <;> intro hb) | (with_reducible refine wcond_cases ?_ ?_ <;> intro hb) | (with_reducible refine qd_i (by kernel_rfl) ?_) | (with_reducible refine W_itn_cases ?_ ?_; omega))
  all_goals (refine ret_b ?_; simp_all [leapZ])
theorem before_ok (y : Int) (h : 1900 ≤ y) (h2 : y ≤ 2200) : L.pl 100 [.i64 y] = some (.ret (.i64 (befZ y))) := by
  refine W_of (pl_w k100_eq ?_)
  simp only [k100]
  have w1 : IntKind.i64.wrap (y - 1) = y - 1 := wrap_i64 (by omega) (by omega)
  have d4 : (y - 1).tdiv 4 = (y - 1) / 4 := Int.tdiv_eq_ediv_of_nonneg (by omega)
  have d100 : (y - 1).tdiv 100 = (y - 1) / 100 := Int.tdiv_eq_ediv_of_nonneg (by omega)
  have d400 : (y - 1).tdiv 400 = (y - 1) / 400 := Int.tdiv_eq_ediv_of_nonneg (by omega)
  have w2 : IntKind.i64.wrap ((y - 1) / 4) = (y - 1) / 4 := wrap_i64 (by omega) (by omega)
  have w3 : IntKind.i64.wrap ((y - 1) / 100) = (y - 1) / 100 := wrap_i64 (by omega) (by omega)
  have w4 : IntKind.i64.wrap ((y - 1) / 400) = (y - 1) / 400 := wrap_i64 (by omega) (by omega)
  have w5 : IntKind.i64.wrap ((y - 1) / 4 - (y - 1) / 100) = (y - 1) / 4 - (y - 1) / 100 := wrap_i64 (by omega) (by omega)
  have w6 : IntKind.i64.wrap ((y - 1) / 4 - (y - 1) / 100 + (y - 1) / 400) = (y - 1) / 4 - (y - 1) / 100 + (y - 1) / 400 := wrap_i64 (by omega) (by omega)
  have w7 : IntKind.i64.wrap ((y - 1) / 4 - (y - 1) / 100 + (y - 1) / 400 - 474) = (y - 1) / 4 - (y - 1) / 100 + (y - 1) / 400 - 474 := wrap_i64 (by omega) (by omega)
  have w8 : IntKind.i64.wrap ((y - 1) / 4 - (y - 1) / 100 + (y - 1) / 400 - 474 + 18) = (y - 1) / 4 - (y - 1) / 100 + (y - 1) / 400 - 474 + 18 := wrap_i64 (by omega) (by omega)
  have w9 : IntKind.i64.wrap ((y - 1) / 4 - (y - 1) / 100 + (y - 1) / 400 - 474 + 18 - 4) = (y - 1) / 4 - (y - 1) / 100 + (y - 1) / 400 - 474 + 18 - 4 := wrap_i64 (by omega) (by omega)
  have w10 : IntKind.i64.wrap (y - 1900) = y - 1900 := wrap_i64 (by omega) (by omega)
  have w11 : IntKind.i64.wrap (365 * (y - 1900)) = 365 * (y - 1900) := wrap_i64 (by omega) (by omega)
  have w12 : IntKind.i64.wrap (365 * (y - 1900) + ((y - 1) / 4 - (y - 1) / 100 + (y - 1) / 400 - 474 + 18 - 4)) = 365 * (y - 1900) + ((y - 1) / 4 - (y - 1) / 100 + (y - 1) / 400 - 474 + 18 - 4) := wrap_i64 (by omega) (by omega)
  repeat' (first | (simp -implicitDefEqProofs only [ze, Nat.reduceEqDiff, Nat.reduceAdd, Nat.reduceMul, reduceIte, Nat.reduceLT, Nat.reduceLeDiff, reduceCtorEq, Int.reduceEq, Int.reduceLT, Int.reduceLE, Int.reduceNeg, Int.reduceToNat, Nat.reduceBEq, Nat.reduceSub, qp, qf, kop, av, RQ, PQ, kres, kres1, kresL, fin, fins, fin1, V.pur?, V.pur1?, V.cells, kld, ones, V.one, Value.oneCell', own, owns, own1, xfill, ksrc, kint, vint, ksub, keqs, kok, V.val1?, ofRes, w1, d4, d100, d400, w2, w3, w4, w5, w6, w7, w8, w9, w10, w11, w12]) | (with_reducible refine wgd_cases ?_ ?_ <;> intro hb) | (with_reducible refine wcond_cases ?_ ?_ <;> intro hb) | (with_reducible refine qd_i (by kernel_rfl) ?_) | (with_reducible refine W_itn_cases ?_ ?_; omega))
  rfl
theorem length_ok (y : Int) (h : 1900 ≤ y) (m : Nat) (hm : 1 ≤ m) (hm2 : m ≤ 13) : L.pl 101 [.i64 y, .i64 m] = some (.ret (.i64 (lenM y m))) := by
  refine W_of (pl_w k101_eq ?_)
  simp only [k101]
  have hw : IntKind.i64.wrap ((m : Int) - 1) = ((m - 1 : Nat) : Int) := by rw [wrap_i64 (by omega) (by omega)]; omega
  have c12 : m = 1 ∨ m = 2 ∨ m = 3 ∨ m = 4 ∨ m = 5 ∨ m = 6 ∨ m = 7 ∨ m = 8 ∨ m = 9 ∨ m = 10 ∨ m = 11 ∨ m = 12 ∨ m = 13 := by omega
  have tab : m ≤ 12 → (m = 2 → leapZ y = false) → (List.drop ((m - 1) * 1) [V.sc (Value.int IntKind.i64 31), V.sc (Value.int IntKind.i64 28), V.sc (Value.int IntKind.i64 31), V.sc (Value.int IntKind.i64 30), V.sc (Value.int IntKind.i64 31), V.sc (Value.int IntKind.i64 30), V.sc (Value.int IntKind.i64 31), V.sc (Value.int IntKind.i64 31), V.sc (Value.int IntKind.i64 30), V.sc (Value.int IntKind.i64 31), V.sc (Value.int IntKind.i64 30), V.sc (Value.int IntKind.i64 31)])[0]? = some (.sc (.int .i64 (lenM y m))) := fun hm3 hl => by
    rcases c12 with rfl | rfl | rfl | rfl | rfl | rfl | rfl | rfl | rfl | rfl | rfl | rfl | rfl <;> first | rfl | omega | skip
    have := hl rfl
    simp [lenM, lp, this]
  repeat' (first | (simp -implicitDefEqProofs only [ze, Nat.reduceEqDiff, Nat.reduceAdd, Nat.reduceMul, reduceIte, Nat.reduceLT, Nat.reduceLeDiff, reduceCtorEq, Int.reduceEq, Int.reduceLT, Int.reduceLE, Int.reduceNeg, Int.reduceToNat, Nat.reduceBEq, Nat.reduceSub, qp, qf, kop, av, RQ, PQ, kres, kres1, kresL, fin, fins, fin1, V.pur?, V.pur1?, V.cells, kld, ones, V.one, Value.oneCell', own, owns, own1, xfill, ksrc, kint, vint, ksub, keqs, kok, V.val1?, ofRes, leap_ok y h, hw]) | (with_reducible refine wgd_cases ?_ ?_ <;> intro hb) | (with_reducible refine wcond_cases ?_ ?_ <;> intro hb) | (with_reducible refine qd_i (by kernel_rfl) ?_) | (with_reducible refine W_itn_cases ?_ ?_; omega))
  · simp only [decide_eq_true_eq] at hb; omega
  · simp only [decide_eq_true_eq] at hb
    have : m = 13 := by omega
    subst this; rfl
  · rename_i h2
    simp only [decide_eq_true_eq] at h2
    have : m = 2 := by omega
    subst this
    have hl : leapZ y = true := by assumption
    refine ret_i ?_; simp [lenM, lp, hl]
  · rename_i h12 h2
    simp only [decide_eq_false_iff_not, decide_eq_true_eq] at h12 h2
    refine W_itn_cases ⟨by omega, by omega⟩ ?_
    repeat' (first | (simp -implicitDefEqProofs only [ze, Nat.reduceEqDiff, Nat.reduceAdd, Nat.reduceMul, reduceIte, Nat.reduceLT, Nat.reduceLeDiff, reduceCtorEq, Int.reduceEq, Int.reduceLT, Int.reduceLE, Int.reduceNeg, Int.reduceToNat, Nat.reduceBEq, Nat.reduceSub, qp, qf, kop, av, RQ, PQ, kres, kres1, kresL, fin, fins, fin1, V.pur?, V.pur1?, V.cells, kld, ones, V.one, Value.oneCell', own, owns, own1, xfill, ksrc, kint, vint, ksub, keqs, kok, V.val1?, ofRes, tab (by omega) (fun _ => hb)]) | (with_reducible refine wgd_cases ?_ ?_ <;> intro hb) | (with_reducible refine wcond_cases ?_ ?_ <;> intro hb) | (with_reducible refine qd_i (by kernel_rfl) ?_) | (with_reducible refine W_itn_cases ?_ ?_; omega))
  · rename_i h1 h12
    simp only [decide_eq_false_iff_not] at h12 hb
    refine W_itn_cases ⟨by omega, by omega⟩ ?_
    repeat' (first | (simp -implicitDefEqProofs only [ze, Nat.reduceEqDiff, Nat.reduceAdd, Nat.reduceMul, reduceIte, Nat.reduceLT, Nat.reduceLeDiff, reduceCtorEq, Int.reduceEq, Int.reduceLT, Int.reduceLE, Int.reduceNeg, Int.reduceToNat, Nat.reduceBEq, Nat.reduceSub, qp, qf, kop, av, RQ, PQ, kres, kres1, kresL, fin, fins, fin1, V.pur?, V.pur1?, V.cells, kld, ones, V.one, Value.oneCell', own, owns, own1, xfill, ksrc, kint, vint, ksub, keqs, kok, V.val1?, ofRes, tab (by omega) (fun e => absurd (by rw [e]; rfl) hb)]) | (with_reducible refine wgd_cases ?_ ?_ <;> intro hb) | (with_reducible refine wcond_cases ?_ ?_ <;> intro hb) | (with_reducible refine qd_i (by kernel_rfl) ?_) | (with_reducible refine W_itn_cases ?_ ?_; omega))
theorem date_ok (n : Int) (h : dayS n = true) : ∃ d m y, L.pl 89 [.i64 n] = some (.ret (.tup [.agg [.i64 y, .i64 m, .i64 d], .i64 0])) := by
  have hn : 0 ≤ n ∧ n ≤ 109572 := by simpa [dayS] using h
  suffices hs : W (L.pl 89 [.i64 n]) (fun r => ∃ d m y, r = .ret (.tup [.agg [.i64 y, .i64 m, .i64 d], .i64 0])) by
    obtain ⟨r, h1, d, m, y, rfl⟩ := hs; exact ⟨d, m, y, h1⟩
  refine pl_w k89_eq ?_
  simp only [k89]
  have q1 : n.tdiv 366 = n / 366 := Int.tdiv_eq_ediv_of_nonneg hn.1
  have w1 : IntKind.i64.wrap (n / 366) = n / 366 := wrap_i64 (by omega) (by omega)
  have w2 : IntKind.i64.wrap (1900 + n / 366) = 1900 + n / 366 := wrap_i64 (by omega) (by omega)
  repeat' (first | (simp -implicitDefEqProofs only [ze, Nat.reduceEqDiff, Nat.reduceAdd, Nat.reduceMul, reduceIte, Nat.reduceLT, Nat.reduceLeDiff, reduceCtorEq, Int.reduceEq, Int.reduceLT, Int.reduceLE, Int.reduceNeg, Int.reduceToNat, Nat.reduceBEq, Nat.reduceSub, qp, qf, kop, av, RQ, PQ, kres, kres1, kresL, fin, fins, fin1, V.pur?, V.pur1?, V.cells, kld, ones, V.one, Value.oneCell', own, owns, own1, xfill, ksrc, kint, vint, ksub, keqs, kok, V.val1?, ofRes, is_ok, h, q1, w1, w2]) | (with_reducible refine wgd_cases ?_ ?_ <;> intro hb) | (with_reducible refine wcond_cases ?_ ?_ <;> intro hb) | (with_reducible refine qd_i (by kernel_rfl) ?_) | (with_reducible refine W_itn_cases ?_ ?_; omega))
  refine loop_w (fun k tm st nx => ∃ y : Int, k = (2199 - y).toNat ∧ 1900 ≤ y ∧ y ≤ 2199 ∧ tm 0 = .i64 n ∧ tm 2 = .ptr 8 0 ∧ st 8 = some (.cells [.i64 y, .i64 0, .i64 0]) ∧ 9 ≤ nx) _ ⟨1900 + n / 366, rfl, by omega, by omega, ?_, ?_, ?_, by omega⟩ ?_
  · simp -implicitDefEqProofs only [ze, Nat.reduceEqDiff, Nat.reduceAdd, Nat.reduceMul, reduceIte, Nat.reduceLT, Nat.reduceLeDiff, reduceCtorEq, Int.reduceEq, Int.reduceLT, Int.reduceLE, Int.reduceNeg, Int.reduceToNat, Nat.reduceBEq, Nat.reduceSub, qp, qf, kop, av, RQ, PQ, kres, kres1, kresL, fin, fins, fin1, V.pur?, V.pur1?, V.cells, kld, ones, V.one, Value.oneCell', own, owns, own1, xfill, ksrc, kint, vint, ksub, keqs, kok, V.val1?, ofRes]
  · simp -implicitDefEqProofs only [ze, Nat.reduceEqDiff, Nat.reduceAdd, Nat.reduceMul, reduceIte, Nat.reduceLT, Nat.reduceLeDiff, reduceCtorEq, Int.reduceEq, Int.reduceLT, Int.reduceLE, Int.reduceNeg, Int.reduceToNat, Nat.reduceBEq, Nat.reduceSub, qp, qf, kop, av, RQ, PQ, kres, kres1, kresL, fin, fins, fin1, V.pur?, V.pur1?, V.cells, kld, ones, V.one, Value.oneCell', own, owns, own1, xfill, ksrc, kint, vint, ksub, keqs, kok, V.val1?, ofRes]
  · simp -implicitDefEqProofs only [ze, Nat.reduceEqDiff, Nat.reduceAdd, Nat.reduceMul, reduceIte, Nat.reduceLT, Nat.reduceLeDiff, reduceCtorEq, Int.reduceEq, Int.reduceLT, Int.reduceLE, Int.reduceNeg, Int.reduceToNat, Nat.reduceBEq, Nat.reduceSub, qp, qf, kop, av, RQ, PQ, kres, kres1, kresL, fin, fins, fin1, V.pur?, V.pur1?, V.cells, kld, ones, V.one, Value.oneCell', own, owns, own1, xfill, ksrc, kint, vint, ksub, keqs, kok, V.val1?, ofRes]
  rintro k tm st nx ⟨y, hk, hy1, hy2, h0, h2, hst, hnx⟩
  simp only [k89_l0]
  have wy : IntKind.i64.wrap (y + 1) = y + 1 := wrap_i64 (by omega) (by omega)
  have tail : ∀ (tm : Nat → V) (st : St) (nx : Nat), n < befZ (y + 1) → tm 0 = .i64 n → tm 2 = .ptr 8 0 → st 8 = some (.cells [.i64 y, .i64 0, .i64 0]) →
      wc Tryd.prog L k89_t1 (RQ [.c 2 (some 3), .t 3] (PQ fun r => ∃ d m y, r = .ret (.tup [.agg [.i64 y, .i64 m, .i64 d], .i64 0]))) ⟨tm, st, nx⟩ := by
    intro tm st nx hx h0 h2 hst
    have hbn := bef_next y hy1
    have hbb : befZ y ≤ 120000 ∧ 0 ≤ befZ y := by unfold befZ; omega
    have w3 : IntKind.i64.wrap (n - befZ y) = n - befZ y := wrap_i64 (by omega) (by omega)
    have hlp := lp_le y
    simp only [k89_t1, k89_t0]
    repeat' (first | (simp -implicitDefEqProofs only [ze, Nat.reduceEqDiff, Nat.reduceAdd, Nat.reduceMul, reduceIte, Nat.reduceLT, Nat.reduceLeDiff, reduceCtorEq, Int.reduceEq, Int.reduceLT, Int.reduceLE, Int.reduceNeg, Int.reduceToNat, Nat.reduceBEq, Nat.reduceSub, qp, qf, kop, av, RQ, PQ, kres, kres1, kresL, fin, fins, fin1, V.pur?, V.pur1?, V.cells, kld, ones, V.one, Value.oneCell', own, owns, own1, xfill, ksrc, kint, vint, ksub, keqs, kok, V.val1?, ofRes, h0, h2, hst, before_ok y hy1 (by omega), w3]) | (with_reducible refine wgd_cases ?_ ?_ <;> intro hb) | (with_reducible refine wcond_cases ?_ ?_ <;> intro hb) | (with_reducible refine qd_i (by kernel_rfl) ?_) | (with_reducible refine W_itn_cases ?_ ?_; omega))
    refine loop_w (fun k tm st nx => ∃ (m : Nat) (x : Int), k = 13 - m ∧ 1 ≤ m ∧ m ≤ 13 ∧ x < remM y m ∧ -200000 ≤ x ∧ x ≤ 200000 ∧ tm 0 = .i64 x ∧ tm 2 = .ptr 8 0 ∧ st 8 = some (.cells [.i64 y, .i64 m, .i64 0])) _ ⟨1, n - befZ y, rfl, by omega, by omega, by simp only [remM]; omega, by omega, by omega, ?_, ?_, ?_⟩ ?_
    · simp -implicitDefEqProofs only [ze, Nat.reduceEqDiff, Nat.reduceAdd, Nat.reduceMul, reduceIte, Nat.reduceLT, Nat.reduceLeDiff, reduceCtorEq, Int.reduceEq, Int.reduceLT, Int.reduceLE, Int.reduceNeg, Int.reduceToNat, Nat.reduceBEq, Nat.reduceSub, qp, qf, kop, av, RQ, PQ, kres, kres1, kresL, fin, fins, fin1, V.pur?, V.pur1?, V.cells, kld, ones, V.one, Value.oneCell', own, owns, own1, xfill, ksrc, kint, vint, ksub, keqs, kok, V.val1?, ofRes]
    · simp -implicitDefEqProofs only [ze, Nat.reduceEqDiff, Nat.reduceAdd, Nat.reduceMul, reduceIte, Nat.reduceLT, Nat.reduceLeDiff, reduceCtorEq, Int.reduceEq, Int.reduceLT, Int.reduceLE, Int.reduceNeg, Int.reduceToNat, Nat.reduceBEq, Nat.reduceSub, qp, qf, kop, av, RQ, PQ, kres, kres1, kresL, fin, fins, fin1, V.pur?, V.pur1?, V.cells, kld, ones, V.one, Value.oneCell', own, owns, own1, xfill, ksrc, kint, vint, ksub, keqs, kok, V.val1?, ofRes]; exact h2
    · simp -implicitDefEqProofs only [ze, Nat.reduceEqDiff, Nat.reduceAdd, Nat.reduceMul, reduceIte, Nat.reduceLT, Nat.reduceLeDiff, reduceCtorEq, Int.reduceEq, Int.reduceLT, Int.reduceLE, Int.reduceNeg, Int.reduceToNat, Nat.reduceBEq, Nat.reduceSub, qp, qf, kop, av, RQ, PQ, kres, kres1, kresL, fin, fins, fin1, V.pur?, V.pur1?, V.cells, kld, ones, V.one, Value.oneCell', own, owns, own1, xfill, ksrc, kint, vint, ksub, keqs, kok, V.val1?, ofRes]; rfl
    rintro k tm st nx ⟨m, x, hk, hm, hm2, hxr, hx1, hx2, h0, h2, hst⟩
    simp only [k89_l1]
    have hlen := length_ok y hy1 m hm hm2
    have c12 : m = 1 ∨ m = 2 ∨ m = 3 ∨ m = 4 ∨ m = 5 ∨ m = 6 ∨ m = 7 ∨ m = 8 ∨ m = 9 ∨ m = 10 ∨ m = 11 ∨ m = 12 ∨ m = 13 := by omega
    have hrem : m ≤ 12 → remM y m = lenM y m + remM y (m + 1) := fun h => by
      rcases c12 with rfl | rfl | rfl | rfl | rfl | rfl | rfl | rfl | rfl | rfl | rfl | rfl | rfl <;> simp only [remM, lenM] <;> omega
    have hlb : 0 ≤ lenM y m ∧ lenM y m ≤ 31 := by
      rcases c12 with rfl | rfl | rfl | rfl | rfl | rfl | rfl | rfl | rfl | rfl | rfl | rfl | rfl <;> simp only [lenM] <;> omega
    have w4 : IntKind.i64.wrap (x - lenM y m) = x - lenM y m := wrap_i64 (by omega) (by omega)
    have w5 : IntKind.i64.wrap (x + 1) = x + 1 := wrap_i64 (by omega) (by omega)
    by_cases hc : lenM y m ≤ x
    · have hd : decide (lenM y m ≤ x) = true := decide_eq_true hc
      have hm3 : m ≤ 12 := by
        rcases Nat.lt_or_ge 12 m with h | h
        · have : m = 13 := by omega
          subst this; simp only [remM, lenM] at hxr hc; omega
        · exact h
      have hr2 := hrem hm3
      repeat' (first | (simp -implicitDefEqProofs only [ze, Nat.reduceEqDiff, Nat.reduceAdd, Nat.reduceMul, reduceIte, Nat.reduceLT, Nat.reduceLeDiff, reduceCtorEq, Int.reduceEq, Int.reduceLT, Int.reduceLE, Int.reduceNeg, Int.reduceToNat, Nat.reduceBEq, Nat.reduceSub, qp, qf, kop, av, RQ, PQ, kres, kres1, kresL, fin, fins, fin1, V.pur?, V.pur1?, V.cells, kld, ones, V.one, Value.oneCell', own, owns, own1, xfill, ksrc, kint, vint, ksub, keqs, kok, V.val1?, ofRes, h0, h2, hst, hlen, hd, w4]) | (with_reducible refine wgd_cases ?_ ?_ <;> intro hb) | (with_reducible refine wcond_cases ?_ ?_ <;> intro hb) | (with_reducible refine qd_i (by kernel_rfl) ?_) | (with_reducible refine W_itn_cases ?_ ?_; omega))
      exact ⟨12 - m, by omega, m + 1, x - lenM y m, by omega, by omega, by omega, by omega, by omega, by omega, rfl, by rw [up64 (by omega)]⟩
    · have hd : decide (lenM y m ≤ x) = false := decide_eq_false hc
      repeat' (first | (simp -implicitDefEqProofs only [ze, Nat.reduceEqDiff, Nat.reduceAdd, Nat.reduceMul, reduceIte, Nat.reduceLT, Nat.reduceLeDiff, reduceCtorEq, Int.reduceEq, Int.reduceLT, Int.reduceLE, Int.reduceNeg, Int.reduceToNat, Nat.reduceBEq, Nat.reduceSub, qp, qf, kop, av, RQ, PQ, kres, kres1, kresL, fin, fins, fin1, V.pur?, V.pur1?, V.cells, kld, ones, V.one, Value.oneCell', own, owns, own1, xfill, ksrc, kint, vint, ksub, keqs, kok, V.val1?, ofRes, h0, h2, hst, hlen, hd, w5]) | (with_reducible refine wgd_cases ?_ ?_ <;> intro hb) | (with_reducible refine wcond_cases ?_ ?_ <;> intro hb) | (with_reducible refine qd_i (by kernel_rfl) ?_) | (with_reducible refine W_itn_cases ?_ ?_; omega))
      exact ⟨_, _, _, rfl⟩
  by_cases hc1 : y < 2199
  · have hd1 : decide (y < 2199) = true := decide_eq_true hc1
    by_cases hc2 : befZ (y + 1) ≤ n
    · have hd2 : decide (befZ (y + 1) ≤ n) = true := decide_eq_true hc2
      repeat' (first | (simp -implicitDefEqProofs only [ze, Nat.reduceEqDiff, Nat.reduceAdd, Nat.reduceMul, reduceIte, Nat.reduceLT, Nat.reduceLeDiff, reduceCtorEq, Int.reduceEq, Int.reduceLT, Int.reduceLE, Int.reduceNeg, Int.reduceToNat, Nat.reduceBEq, Nat.reduceSub, qp, qf, kop, av, RQ, PQ, kres, kres1, kresL, fin, fins, fin1, V.pur?, V.pur1?, V.cells, kld, ones, V.one, Value.oneCell', own, owns, own1, xfill, ksrc, kint, vint, ksub, keqs, kok, V.val1?, ofRes, h0, h2, hst, wy, before_ok (y + 1) (by omega) (by omega), hd1, hd2]) | (with_reducible refine wgd_cases ?_ ?_ <;> intro hb) | (with_reducible refine wcond_cases ?_ ?_ <;> intro hb) | (with_reducible refine qd_i (by kernel_rfl) ?_) | (with_reducible refine W_itn_cases ?_ ?_; omega))
      exact ⟨(2199 - (y + 1)).toNat, by omega, y + 1, rfl, by omega, by omega, rfl⟩
    · have hd2 : decide (befZ (y + 1) ≤ n) = false := decide_eq_false hc2
      repeat' (first | (simp -implicitDefEqProofs only [ze, Nat.reduceEqDiff, Nat.reduceAdd, Nat.reduceMul, reduceIte, Nat.reduceLT, Nat.reduceLeDiff, reduceCtorEq, Int.reduceEq, Int.reduceLT, Int.reduceLE, Int.reduceNeg, Int.reduceToNat, Nat.reduceBEq, Nat.reduceSub, qp, qf, kop, av, RQ, PQ, kres, kres1, kresL, fin, fins, fin1, V.pur?, V.pur1?, V.cells, kld, ones, V.one, Value.oneCell', own, owns, own1, xfill, ksrc, kint, vint, ksub, keqs, kok, V.val1?, ofRes, h0, h2, hst, wy, before_ok (y + 1) (by omega) (by omega), hd1, hd2]) | (with_reducible refine wgd_cases ?_ ?_ <;> intro hb) | (with_reducible refine wcond_cases ?_ ?_ <;> intro hb) | (with_reducible refine qd_i (by kernel_rfl) ?_) | (with_reducible refine W_itn_cases ?_ ?_; omega))
      refine tail _ _ _ (by omega) ?_ ?_ hst
      · simp -implicitDefEqProofs only [ze, Nat.reduceEqDiff, Nat.reduceAdd, Nat.reduceMul, reduceIte, Nat.reduceLT, Nat.reduceLeDiff, reduceCtorEq, Int.reduceEq, Int.reduceLT, Int.reduceLE, Int.reduceNeg, Int.reduceToNat, Nat.reduceBEq, Nat.reduceSub, qp, qf, kop, av, RQ, PQ, kres, kres1, kresL, fin, fins, fin1, V.pur?, V.pur1?, V.cells, kld, ones, V.one, Value.oneCell', own, owns, own1, xfill, ksrc, kint, vint, ksub, keqs, kok, V.val1?, ofRes]; exact h0
      · simp -implicitDefEqProofs only [ze, Nat.reduceEqDiff, Nat.reduceAdd, Nat.reduceMul, reduceIte, Nat.reduceLT, Nat.reduceLeDiff, reduceCtorEq, Int.reduceEq, Int.reduceLT, Int.reduceLE, Int.reduceNeg, Int.reduceToNat, Nat.reduceBEq, Nat.reduceSub, qp, qf, kop, av, RQ, PQ, kres, kres1, kresL, fin, fins, fin1, V.pur?, V.pur1?, V.cells, kld, ones, V.one, Value.oneCell', own, owns, own1, xfill, ksrc, kint, vint, ksub, keqs, kok, V.val1?, ofRes]; exact h2
  · have hd1 : decide (y < 2199) = false := decide_eq_false hc1
    repeat' (first | (simp -implicitDefEqProofs only [ze, Nat.reduceEqDiff, Nat.reduceAdd, Nat.reduceMul, reduceIte, Nat.reduceLT, Nat.reduceLeDiff, reduceCtorEq, Int.reduceEq, Int.reduceLT, Int.reduceLE, Int.reduceNeg, Int.reduceToNat, Nat.reduceBEq, Nat.reduceSub, qp, qf, kop, av, RQ, PQ, kres, kres1, kresL, fin, fins, fin1, V.pur?, V.pur1?, V.cells, kld, ones, V.one, Value.oneCell', own, owns, own1, xfill, ksrc, kint, vint, ksub, keqs, kok, V.val1?, ofRes, h0, h2, hst, hd1]) | (with_reducible refine wgd_cases ?_ ?_ <;> intro hb) | (with_reducible refine wcond_cases ?_ ?_ <;> intro hb) | (with_reducible refine qd_i (by kernel_rfl) ?_) | (with_reducible refine W_itn_cases ?_ ?_; omega))
    have hy : y = 2199 := by omega
    refine tail _ _ _ (by subst hy; unfold befZ; omega) ?_ ?_ hst
    · simp -implicitDefEqProofs only [ze, Nat.reduceEqDiff, Nat.reduceAdd, Nat.reduceMul, reduceIte, Nat.reduceLT, Nat.reduceLeDiff, reduceCtorEq, Int.reduceEq, Int.reduceLT, Int.reduceLE, Int.reduceNeg, Int.reduceToNat, Nat.reduceBEq, Nat.reduceSub, qp, qf, kop, av, RQ, PQ, kres, kres1, kresL, fin, fins, fin1, V.pur?, V.pur1?, V.cells, kld, ones, V.one, Value.oneCell', own, owns, own1, xfill, ksrc, kint, vint, ksub, keqs, kok, V.val1?, ofRes]; exact h0
    · simp -implicitDefEqProofs only [ze, Nat.reduceEqDiff, Nat.reduceAdd, Nat.reduceMul, reduceIte, Nat.reduceLT, Nat.reduceLeDiff, reduceCtorEq, Int.reduceEq, Int.reduceLT, Int.reduceLE, Int.reduceNeg, Int.reduceToNat, Nat.reduceBEq, Nat.reduceSub, qp, qf, kop, av, RQ, PQ, kres, kres1, kresL, fin, fins, fin1, V.pur?, V.pur1?, V.cells, kld, ones, V.one, Value.oneCell', own, owns, own1, xfill, ksrc, kint, vint, ksub, keqs, kok, V.val1?, ofRes]; exact h2
theorem isDay_ok (n : Int) : L.pl 67 [.i64 n] = some (.ret (.bool (dayS n))) := by
  refine W_of (pl_w k67_eq ?_)
  simp only [k67]
  cases h : dayS n with
  | true =>
    obtain ⟨d, m, y, hd⟩ := date_ok n h
    repeat' (first | (simp -implicitDefEqProofs only [ze, Nat.reduceEqDiff, Nat.reduceAdd, Nat.reduceMul, reduceIte, Nat.reduceLT, Nat.reduceLeDiff, reduceCtorEq, Int.reduceEq, Int.reduceLT, Int.reduceLE, Int.reduceNeg, Int.reduceToNat, Nat.reduceBEq, Nat.reduceSub, qp, qf, kop, av, RQ, PQ, kres, kres1, kresL, fin, fins, fin1, V.pur?, V.pur1?, V.cells, kld, ones, V.one, Value.oneCell', own, owns, own1, xfill, ksrc, kint, vint, ksub, keqs, kok, V.val1?, ofRes, hd]) | (with_reducible refine wgd_cases ?_ ?_ <;> intro hb) | (with_reducible refine wcond_cases ?_ ?_ <;> intro hb) | (with_reducible refine qd_i (by kernel_rfl) ?_) | (with_reducible refine W_itn_cases ?_ ?_; omega))
  | false =>
    have hd : L.pl 89 [.i64 n] = some (.ret (.tup [.agg [.i64 0, .i64 0, .i64 0], .i64 11])) := by
      refine W_of (pl_w k89_eq ?_)
      simp only [k89]
      repeat' (first | (simp -implicitDefEqProofs only [ze, Nat.reduceEqDiff, Nat.reduceAdd, Nat.reduceMul, reduceIte, Nat.reduceLT, Nat.reduceLeDiff, reduceCtorEq, Int.reduceEq, Int.reduceLT, Int.reduceLE, Int.reduceNeg, Int.reduceToNat, Nat.reduceBEq, Nat.reduceSub, qp, qf, kop, av, RQ, PQ, kres, kres1, kresL, fin, fins, fin1, V.pur?, V.pur1?, V.cells, kld, ones, V.one, Value.oneCell', own, owns, own1, xfill, ksrc, kint, vint, ksub, keqs, kok, V.val1?, ofRes, is_ok, h]) | (with_reducible refine wgd_cases ?_ ?_ <;> intro hb) | (with_reducible refine wcond_cases ?_ ?_ <;> intro hb) | (with_reducible refine qd_i (by kernel_rfl) ?_) | (with_reducible refine W_itn_cases ?_ ?_; omega))
    repeat' (first | (simp -implicitDefEqProofs only [ze, Nat.reduceEqDiff, Nat.reduceAdd, Nat.reduceMul, reduceIte, Nat.reduceLT, Nat.reduceLeDiff, reduceCtorEq, Int.reduceEq, Int.reduceLT, Int.reduceLE, Int.reduceNeg, Int.reduceToNat, Nat.reduceBEq, Nat.reduceSub, qp, qf, kop, av, RQ, PQ, kres, kres1, kresL, fin, fins, fin1, V.pur?, V.pur1?, V.cells, kld, ones, V.one, Value.oneCell', own, owns, own1, xfill, ksrc, kint, vint, ksub, keqs, kok, V.val1?, ofRes, hd]) | (with_reducible refine wgd_cases ?_ ?_ <;> intro hb) | (with_reducible refine wcond_cases ?_ ?_ <;> intro hb) | (with_reducible refine qd_i (by kernel_rfl) ?_) | (with_reducible refine W_itn_cases ?_ ?_; omega))
end Go.Proofs.YtkbheoganajhaaaDoor.Vm
