/- Proved here: what the reference's decoders of integers and texts return. Conditions: none. -/
import Derived.Test.YtojbkakdhfmjmaaDoorVt1
set_option maxRecDepth 10000
set_option linter.unusedVariables false
set_option linter.unusedSimpArgs false
namespace Go.Proofs.YtojbkakdhfmjmaaDoor.Vm
open Go Go.Proofs
theorem rfin_odd (y : Int) (h0 : 0 ≤ y) (h1 : y < 18446744073709551616) (h : y.tmod 2 = 1) : IntKind.i64.wrap (IntKind.i64.wrap (0 - IntKind.i64.wrap (IntKind.u64.wrap (y.tdiv 2))) - 1) = Co.fin y := by
  rw [Int.tdiv_eq_ediv_of_nonneg h0]
  rw [Int.tmod_eq_emod_of_nonneg h0] at h
  rw [Co.u64_small (by omega) (by omega), wrap_i64 (n := y / 2) (by omega) (by omega), wrap_i64 (n := 0 - y / 2) (by omega) (by omega), wrap_i64 (n := 0 - y / 2 - 1) (by omega) (by omega), Co.fin, if_pos h]
  omega
theorem rfin_even (y : Int) (h0 : 0 ≤ y) (h1 : y < 18446744073709551616) (h : ¬ y.tmod 2 = 1) : IntKind.i64.wrap (IntKind.u64.wrap (y.tdiv 2)) = Co.fin y := by
  rw [Int.tdiv_eq_ediv_of_nonneg h0]
  rw [Int.tmod_eq_emod_of_nonneg h0] at h
  rw [Co.u64_small (by omega) (by omega), wrap_i64 (n := y / 2) (by omega) (by omega), Co.fin, if_neg h]
theorem pow_next (i : Nat) (h : i + 1 < 10) : IntKind.u64.wrap ((128 : Int) ^ i * 128) = 128 ^ (i + 1) := by
  rw [← Int.pow_succ]
  obtain h | h | h | h | h | h | h | h | h : i = 0 ∨ i = 1 ∨ i = 2 ∨ i = 3 ∨ i = 4 ∨ i = 5 ∨ i = 6 ∨ i = 7 ∨ i = 8 := by omega
  all_goals (subst h; decide)
set_option maxHeartbeats 1000000 in
theorem rtakeint_ok (bs : List Int) (hbs : bOK bs) (hl : bs.length < 4611686018427387904) (r : Nat) : L.pl 42 [.list 5 (bv bs) r] = some (.ret (.tup [.i64 (Co.tS bs 0 0).1, .i64 (Co.tS bs 0 0).2.1, .i64 (Co.tS bs 0 0).2.2])) := by
  refine W_of (pl_w k42_eq ?_)
  simp only [k42]
  repeat' (first | (simp -implicitDefEqProofs only [ze, Nat.reduceEqDiff, Nat.reduceAdd, Nat.reduceMul, reduceIte, Nat.reduceLT, Nat.reduceLeDiff, reduceCtorEq, Int.reduceEq, Int.reduceLT, Int.reduceLE, Int.reduceNeg, Int.reduceToNat, Nat.reduceBEq, Nat.reduceSub, qp, qf, kop, av, RQ, PQ, kres, kres1, kresL, fin, fins, fin1, V.pur?, V.pur1?, V.cells, kld, ones, V.one, Value.oneCell', own, owns, own1, xfill, ksrc, kint, vint, ksub, keqs, kok, V.val1?, ofRes]) | (with_reducible refine wgd_cases ?_ ?_ <;> intro hb) | (with_reducible refine wcond_cases ?_ ?_ <;> intro hb) | (with_reducible refine qd_i (by kernel_rfl) ?_) | (with_reducible refine W_itn_cases ?_ ?_; omega))
  refine loop_w (fun n tm st nx => ∃ (i : Nat) (x f : Int), n = 10 - i ∧ i ≤ 10 ∧ i ≤ bs.length ∧ 0 ≤ x ∧ x < 128 ^ i ∧ Co.tS (bs.drop i) i x = Co.tS bs 0 0 ∧ tm 7 = .i64 i ∧ tm 5 = .sc (.int .u64 x) ∧ tm 6 = .sc (.int .u64 f) ∧ (i < 10 → f = 128 ^ i) ∧ tm 0 = .list 5 (bv bs) r) 10 ⟨0, 0, 1, by omega, by omega, by omega, by omega, by decide, rfl, ?_, ?_, ?_, fun _ => rfl, ?_⟩ ?_
  · simp -implicitDefEqProofs only [ze, Nat.reduceEqDiff, Nat.reduceAdd, Nat.reduceMul, reduceIte, Nat.reduceLT, Nat.reduceLeDiff, reduceCtorEq, Int.reduceEq, Int.reduceLT, Int.reduceLE, Int.reduceNeg, Int.reduceToNat, Nat.reduceBEq, Nat.reduceSub, qp, qf, kop, av, RQ, PQ, kres, kres1, kresL, fin, fins, fin1, V.pur?, V.pur1?, V.cells, kld, ones, V.one, Value.oneCell', own, owns, own1, xfill, ksrc, kint, vint, ksub, keqs, kok, V.val1?, ofRes]; rfl
  · simp -implicitDefEqProofs only [ze, Nat.reduceEqDiff, Nat.reduceAdd, Nat.reduceMul, reduceIte, Nat.reduceLT, Nat.reduceLeDiff, reduceCtorEq, Int.reduceEq, Int.reduceLT, Int.reduceLE, Int.reduceNeg, Int.reduceToNat, Nat.reduceBEq, Nat.reduceSub, qp, qf, kop, av, RQ, PQ, kres, kres1, kresL, fin, fins, fin1, V.pur?, V.pur1?, V.cells, kld, ones, V.one, Value.oneCell', own, owns, own1, xfill, ksrc, kint, vint, ksub, keqs, kok, V.val1?, ofRes]
  · simp -implicitDefEqProofs only [ze, Nat.reduceEqDiff, Nat.reduceAdd, Nat.reduceMul, reduceIte, Nat.reduceLT, Nat.reduceLeDiff, reduceCtorEq, Int.reduceEq, Int.reduceLT, Int.reduceLE, Int.reduceNeg, Int.reduceToNat, Nat.reduceBEq, Nat.reduceSub, qp, qf, kop, av, RQ, PQ, kres, kres1, kresL, fin, fins, fin1, V.pur?, V.pur1?, V.cells, kld, ones, V.one, Value.oneCell', own, owns, own1, xfill, ksrc, kint, vint, ksub, keqs, kok, V.val1?, ofRes]
  · simp -implicitDefEqProofs only [ze, Nat.reduceEqDiff, Nat.reduceAdd, Nat.reduceMul, reduceIte, Nat.reduceLT, Nat.reduceLeDiff, reduceCtorEq, Int.reduceEq, Int.reduceLT, Int.reduceLE, Int.reduceNeg, Int.reduceToNat, Nat.reduceBEq, Nat.reduceSub, qp, qf, kop, av, RQ, PQ, kres, kres1, kresL, fin, fins, fin1, V.pur?, V.pur1?, V.cells, kld, ones, V.one, Value.oneCell', own, owns, own1, xfill, ksrc, kint, vint, ksub, keqs, kok, V.val1?, ofRes]
  rintro n tm st nx ⟨i, x, f, hn, hi, hil, hx0, hx1, hts, h8, h5, h6, hf, h0⟩
  simp only [k42_l0, k42_t0]
  by_cases hlt : i < 10
  · have hd : decide ((i : Int) < 10) = true := decide_eq_true (by omega)
    by_cases hend : i = bs.length
    · have hd2 : decide ((bs.length : Int) ≤ (i : Int)) = true := decide_eq_true (by omega)
      have e : bs.drop i = [] := List.drop_eq_nil_of_le (by omega)
      rw [e] at hts
      simp only [Co.tS, if_pos hlt] at hts
      repeat' (first | (simp -implicitDefEqProofs only [ze, Nat.reduceEqDiff, Nat.reduceAdd, Nat.reduceMul, reduceIte, Nat.reduceLT, Nat.reduceLeDiff, reduceCtorEq, Int.reduceEq, Int.reduceLT, Int.reduceLE, Int.reduceNeg, Int.reduceToNat, Nat.reduceBEq, Nat.reduceSub, qp, qf, kop, av, RQ, PQ, kres, kres1, kresL, fin, fins, fin1, V.pur?, V.pur1?, V.cells, kld, ones, V.one, Value.oneCell', own, owns, own1, xfill, ksrc, kint, vint, ksub, keqs, kok, V.val1?, ofRes, h8, h5, h0, hd, bv_len, hd2, ← hts]) | (with_reducible refine wgd_cases ?_ ?_ <;> intro hb) | (with_reducible refine wcond_cases ?_ ?_ <;> intro hb) | (with_reducible refine qd_i (by kernel_rfl) ?_) | (with_reducible refine W_itn_cases ?_ ?_; omega))
    · have hd2 : decide ((bs.length : Int) ≤ (i : Int)) = false := decide_eq_false (by omega)
      obtain ⟨b, hb1⟩ := get_lt (l := bs) (i := i) (by omega)
      obtain ⟨hb2, hb3⟩ := hbs b (List.mem_of_getElem? hb1)
      have e : bs.drop i = b :: bs.drop (i + 1) := by rw [List.drop_eq_getElem_cons (by omega)]; rw [List.getElem?_eq_getElem (by omega)] at hb1; rw [Option.some.inj hb1]
      rw [e] at hts
      simp only [Co.tS, if_pos hlt] at hts
      have hup : IntKind.i64.wrap ((i : Int) + 1) = ((i + 1 : Nat) : Int) := wrap_i64 (by omega) (by omega)
      have t1 : b.tmod 128 = b % 128 := Int.tmod_eq_emod_of_nonneg hb2
      have t5 : ((128 : Int) = 0) = False := eq_false (by decide)
      have t6 : ((2 : Int) = 0) = False := eq_false (by decide)
      have hgo : Co.badS i b = false → ∃ y, IntKind.u64.wrap (x + IntKind.u64.wrap (IntKind.u64.wrap (b % 128) * f)) = y ∧ y = x + b % 128 * 128 ^ i ∧ 0 ≤ y ∧ y < 18446744073709551616 ∧ y < 128 ^ (i + 1) := fun h => by
        obtain ⟨g1, g2⟩ := Co.bad_no h
        obtain ⟨s1, s2, s3⟩ := Co.step_bound i x b hlt hx0 hx1 hb2 hb3 g1
        refine ⟨x + b % 128 * 128 ^ i, ?_, rfl, by omega, s2, s3⟩
        have hp : (0 : Int) < 128 ^ i := Int.pow_pos (by decide)
        have hq : 0 ≤ b % 128 * 128 ^ i := Int.mul_nonneg (by omega) (by omega)
        rw [hf hlt, Co.u64_small (by omega) (by omega : b % 128 < 18446744073709551616), Co.u64_small hq (by omega), Co.u64_small (by omega) s2]
      repeat' (first | (simp -implicitDefEqProofs only [ze, Nat.reduceEqDiff, Nat.reduceAdd, Nat.reduceMul, reduceIte, Nat.reduceLT, Nat.reduceLeDiff, reduceCtorEq, Int.reduceEq, Int.reduceLT, Int.reduceLE, Int.reduceNeg, Int.reduceToNat, Nat.reduceBEq, Nat.reduceSub, qp, qf, kop, av, RQ, PQ, kres, kres1, kresL, fin, fins, fin1, V.pur?, V.pur1?, V.cells, kld, ones, V.one, Value.oneCell', own, owns, own1, xfill, ksrc, kint, vint, ksub, keqs, kok, V.val1?, ofRes, h8, h5, h6, h0, hd, hd2, bv_len, bv_get, hb1, hup, t1, t5, t6, ne_eq, not_true_eq_false, gt_iff_lt]) | (with_reducible refine wgd_cases ?_ ?_ <;> intro hb) | (with_reducible refine wcond_cases ?_ ?_ <;> intro hb) | (with_reducible refine qd_i (by kernel_rfl) ?_) | (with_reducible refine W_itn_cases ?_ ?_; omega))
      all_goals (simp only [decide_eq_true_eq, decide_eq_false_iff_not] at *)
      all_goals first
        | (exfalso; omega)
        | (have hB : Co.badS i b = true := by (simp only [Co.badS, Bool.or_eq_true, Bool.and_eq_true, decide_eq_true_eq]; omega)
           rw [if_pos hB] at hts; rw [← hts])
        | (have hB : Co.badS i b = false := by (simp only [Co.badS, Bool.or_eq_false_iff, Bool.and_eq_false_iff, decide_eq_false_iff_not]; omega)
           obtain ⟨y, hy1, hy2, hy3, hy4, hy5⟩ := hgo hB
           rw [if_neg (by rw [hB]; simp), ← hy2] at hts
           simp only [hy1] at *
           first
           | (rw [if_pos (by assumption)] at hts; rw [← hts, rfin_odd y hy3 hy4 (by assumption)])
           | (rw [if_pos (by assumption)] at hts; rw [← hts, rfin_even y hy3 hy4 (by assumption)])
           | (rw [if_neg (by assumption)] at hts; exact ⟨10 - (i + 1), by omega, i + 1, y, _, rfl, by omega, by omega, hy3, hy5, hts, rfl, rfl, rfl, fun h9 => by rw [hf hlt]; exact pow_next i h9⟩))
  · have : i = 10 := by omega
    subst this
    have hd : decide (((10 : Nat) : Int) < 10) = false := by decide
    rw [tS_10] at hts
    repeat' (first | (simp -implicitDefEqProofs only [ze, Nat.reduceEqDiff, Nat.reduceAdd, Nat.reduceMul, reduceIte, Nat.reduceLT, Nat.reduceLeDiff, reduceCtorEq, Int.reduceEq, Int.reduceLT, Int.reduceLE, Int.reduceNeg, Int.reduceToNat, Nat.reduceBEq, Nat.reduceSub, qp, qf, kop, av, RQ, PQ, kres, kres1, kresL, fin, fins, fin1, V.pur?, V.pur1?, V.cells, kld, ones, V.one, Value.oneCell', own, owns, own1, xfill, ksrc, kint, vint, ksub, keqs, kok, V.val1?, ofRes, h8, h5, h0, hd, ← hts]) | (with_reducible refine wgd_cases ?_ ?_ <;> intro hb) | (with_reducible refine wcond_cases ?_ ?_ <;> intro hb) | (with_reducible refine qd_i (by kernel_rfl) ?_) | (with_reducible refine W_itn_cases ?_ ?_; omega))
end Go.Proofs.YtojbkakdhfmjmaaDoor.Vm
