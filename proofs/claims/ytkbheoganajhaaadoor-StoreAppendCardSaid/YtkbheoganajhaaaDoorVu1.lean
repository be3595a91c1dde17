/- Proved here: what the reference's exact sum returns. Conditions: none. -/
import Derived.Test.YtkbheoganajhaaaDoorVs15
set_option maxRecDepth 10000
set_option linter.unusedVariables false
set_option linter.unusedSimpArgs false
namespace Go.Proofs.YtkbheoganajhaaaDoor.Vm
open Go Go.Proofs
theorem i64_mask32 (n : Int) : Go.bits .and .i64 n 4294967295 = n % 4294967296 := by
  have h1 : (BitVec.ofInt 64 4294967295).toNat = 2 ^ 32 - 1 := by decide
  have key : (BitVec.ofInt 64 n &&& BitVec.ofInt 64 4294967295).toNat = (n % ((2 ^ 64 : Nat) : Int)).toNat % 2 ^ 32 := by
    rw [BitVec.toNat_and, BitVec.toNat_ofInt, h1, Nat.and_two_pow_sub_one_eq_mod]
  show IntKind.i64.wrap ((BitVec.ofInt 64 n &&& BitVec.ofInt 64 4294967295).toNat : Nat) = n % 4294967296
  rw [key, IntKind.wrap_i64]
  omega
theorem rsum_ok (l : List Int) (r : Nat) (hi : ∀ x ∈ l, i64r x) (hl : l.length < 1000000) : L.pl 65 [.list 3 (iv l) r] = some (.ret (.tup [.i64 (if inI64 l.sum = true then l.sum else 0), .bool (inI64 l.sum)])) := by
  refine W_of (pl_w k65_eq ?_)
  simp only [k65]
  repeat' (first | (simp -implicitDefEqProofs only [ze, Nat.reduceEqDiff, Nat.reduceAdd, Nat.reduceMul, reduceIte, Nat.reduceLT, Nat.reduceLeDiff, reduceCtorEq, Int.reduceEq, Int.reduceLT, Int.reduceLE, Int.reduceNeg, Int.reduceToNat, Nat.reduceBEq, Nat.reduceSub, qp, qf, kop, av, RQ, PQ, kres, kres1, kresL, fin, fins, fin1, V.pur?, V.pur1?, V.cells, kld, ones, V.one, Value.oneCell', own, owns, own1, xfill, ksrc, kint, vint, ksub, keqs, kok, V.val1?, ofRes, iv_len]) | (with_reducible refine wgd_cases ?_ ?_ <;> intro hb) | (with_reducible refine wcond_cases ?_ ?_ <;> intro hb) | (with_reducible refine qd_i (by kernel_rfl) ?_) | (with_reducible refine W_itn_cases ?_ ?_; omega))
  refine loop_w (fun n tm st nx => ∃ (i : Nat) (H O : Int), n = l.length - i ∧ i ≤ l.length ∧ tm 6 = .i64 i ∧ tm 4 = .i64 H ∧ tm 5 = .i64 O ∧ tm 0 = .list 3 (iv l) r ∧ H * 4294967296 + O = (l.take i).sum ∧ -(2147483648 * (i : Int)) ≤ H ∧ H ≤ 2147483648 * (i : Int) ∧ 0 ≤ O ∧ O ≤ 4294967296 * (i : Int)) l.length ⟨0, 0, 0, by omega, by omega, ?_, ?_, ?_, ?_, by simp, by omega, by omega, by omega, by omega⟩ ?_
  · simp -implicitDefEqProofs only [ze, Nat.reduceEqDiff, Nat.reduceAdd, Nat.reduceMul, reduceIte, Nat.reduceLT, Nat.reduceLeDiff, reduceCtorEq, Int.reduceEq, Int.reduceLT, Int.reduceLE, Int.reduceNeg, Int.reduceToNat, Nat.reduceBEq, Nat.reduceSub, qp, qf, kop, av, RQ, PQ, kres, kres1, kresL, fin, fins, fin1, V.pur?, V.pur1?, V.cells, kld, ones, V.one, Value.oneCell', own, owns, own1, xfill, ksrc, kint, vint, ksub, keqs, kok, V.val1?, ofRes]; rfl
  · simp -implicitDefEqProofs only [ze, Nat.reduceEqDiff, Nat.reduceAdd, Nat.reduceMul, reduceIte, Nat.reduceLT, Nat.reduceLeDiff, reduceCtorEq, Int.reduceEq, Int.reduceLT, Int.reduceLE, Int.reduceNeg, Int.reduceToNat, Nat.reduceBEq, Nat.reduceSub, qp, qf, kop, av, RQ, PQ, kres, kres1, kresL, fin, fins, fin1, V.pur?, V.pur1?, V.cells, kld, ones, V.one, Value.oneCell', own, owns, own1, xfill, ksrc, kint, vint, ksub, keqs, kok, V.val1?, ofRes]
  · simp -implicitDefEqProofs only [ze, Nat.reduceEqDiff, Nat.reduceAdd, Nat.reduceMul, reduceIte, Nat.reduceLT, Nat.reduceLeDiff, reduceCtorEq, Int.reduceEq, Int.reduceLT, Int.reduceLE, Int.reduceNeg, Int.reduceToNat, Nat.reduceBEq, Nat.reduceSub, qp, qf, kop, av, RQ, PQ, kres, kres1, kresL, fin, fins, fin1, V.pur?, V.pur1?, V.cells, kld, ones, V.one, Value.oneCell', own, owns, own1, xfill, ksrc, kint, vint, ksub, keqs, kok, V.val1?, ofRes]
  · simp -implicitDefEqProofs only [ze, Nat.reduceEqDiff, Nat.reduceAdd, Nat.reduceMul, reduceIte, Nat.reduceLT, Nat.reduceLeDiff, reduceCtorEq, Int.reduceEq, Int.reduceLT, Int.reduceLE, Int.reduceNeg, Int.reduceToNat, Nat.reduceBEq, Nat.reduceSub, qp, qf, kop, av, RQ, PQ, kres, kres1, kresL, fin, fins, fin1, V.pur?, V.pur1?, V.cells, kld, ones, V.one, Value.oneCell', own, owns, own1, xfill, ksrc, kint, vint, ksub, keqs, kok, V.val1?, ofRes]
  rintro n tm st nx ⟨i, H, O, hn, hi2, h6, h4, h5, h0, hS, b1, b2, b3, b4⟩
  simp only [k65_l0]
  by_cases hlt : i < l.length
  · obtain ⟨x, hx⟩ := get_lt hlt
    have hxr := hi x (List.mem_of_getElem? hx)
    simp only [i64r] at hxr
    have hd : decide ((i : Int) < (l.length : Int)) = true := decide_eq_true (by omega)
    have hs2 := sum_take l i x hx
    have hix : (iv l)[i]? = some (V.i64 x) := by simp [iv, hx]
    have hsh := shr_eq x (Nat.min 32 IntKind.i64.bits) 4294967296 (by decide)
    have w1 : IntKind.i64.wrap (H + x / 4294967296) = H + x / 4294967296 := wrap_i64 (by omega) (by omega)
    have w2 : IntKind.i64.wrap (O + x % 4294967296) = O + x % 4294967296 := wrap_i64 (by omega) (by omega)
    repeat' (first | (simp -implicitDefEqProofs only [ze, Nat.reduceEqDiff, Nat.reduceAdd, Nat.reduceMul, reduceIte, Nat.reduceLT, Nat.reduceLeDiff, reduceCtorEq, Int.reduceEq, Int.reduceLT, Int.reduceLE, Int.reduceNeg, Int.reduceToNat, Nat.reduceBEq, Nat.reduceSub, qp, qf, kop, av, RQ, PQ, kres, kres1, kresL, fin, fins, fin1, V.pur?, V.pur1?, V.cells, kld, ones, V.one, Value.oneCell', own, owns, own1, xfill, ksrc, kint, vint, ksub, keqs, kok, V.val1?, ofRes, h6, h4, h5, h0, hd, hix, iv_len, hsh, i64_mask32, w1, w2]) | (with_reducible refine wgd_cases ?_ ?_ <;> intro hb) | (with_reducible refine wcond_cases ?_ ?_ <;> intro hb) | (with_reducible refine qd_i (by kernel_rfl) ?_) | (with_reducible refine W_itn_cases ?_ ?_; omega))
    exact ⟨l.length - (i + 1), by omega, i + 1, _, _, rfl, by omega, up64 (by omega), rfl, rfl, by rw [hs2]; omega, by omega, by omega, by omega, by omega⟩
  · have hd : decide ((i : Int) < (l.length : Int)) = false := decide_eq_false (by omega)
    have hie : i = l.length := by omega
    rw [hie, List.take_length] at hS
    have hsh := shr_eq O (Nat.min 32 IntKind.i64.bits) 4294967296 (by decide)
    have w1 : IntKind.i64.wrap (H + O / 4294967296) = H + O / 4294967296 := wrap_i64 (by omega) (by omega)
    have hsum : (H + O / 4294967296) * 4294967296 + O % 4294967296 = l.sum := by omega
    by_cases hin : inI64 l.sum = true
    · have hin2 : -9223372036854775808 ≤ l.sum ∧ l.sum < 9223372036854775808 := by simpa [inI64] using hin
      have d1 : decide (H + O / 4294967296 < -2147483648) = false := decide_eq_false (by omega)
      have d2 : decide (2147483647 < H + O / 4294967296) = false := decide_eq_false (by omega)
      have w3 : IntKind.i64.wrap ((H + O / 4294967296) * 2 ^ (Nat.min 32 IntKind.i64.bits)) = (H + O / 4294967296) * 4294967296 := wrap_i64 (by show -9223372036854775808 ≤ (H + O / 4294967296) * 4294967296; omega) (by show (H + O / 4294967296) * 4294967296 < 9223372036854775808; omega)
      have w4 : IntKind.i64.wrap ((H + O / 4294967296) * 4294967296 + O % 4294967296) = l.sum := by rw [hsum]; exact wrap_i64 hin2.1 hin2.2
      repeat' (first | (simp -implicitDefEqProofs only [ze, Nat.reduceEqDiff, Nat.reduceAdd, Nat.reduceMul, reduceIte, Nat.reduceLT, Nat.reduceLeDiff, reduceCtorEq, Int.reduceEq, Int.reduceLT, Int.reduceLE, Int.reduceNeg, Int.reduceToNat, Nat.reduceBEq, Nat.reduceSub, qp, qf, kop, av, RQ, PQ, kres, kres1, kresL, fin, fins, fin1, V.pur?, V.pur1?, V.cells, kld, ones, V.one, Value.oneCell', own, owns, own1, xfill, ksrc, kint, vint, ksub, keqs, kok, V.val1?, ofRes, h6, h4, h5, h0, hd, iv_len, hsh, i64_mask32, w1, w3, w4, d1, d2, k65_t0]) | (with_reducible refine wgd_cases ?_ ?_ <;> intro hb) | (with_reducible refine wcond_cases ?_ ?_ <;> intro hb) | (with_reducible refine qd_i (by kernel_rfl) ?_) | (with_reducible refine W_itn_cases ?_ ?_; omega))
      simp [hin]
    · have hin3 : inI64 l.sum = false := by simpa using hin
      have hin2 : ¬ (-9223372036854775808 ≤ l.sum ∧ l.sum < 9223372036854775808) := fun h => hin (by simpa [inI64] using h)
      by_cases hneg : H + O / 4294967296 < -2147483648
      · have d1 : decide (H + O / 4294967296 < -2147483648) = true := decide_eq_true hneg
        repeat' (first | (simp -implicitDefEqProofs only [ze, Nat.reduceEqDiff, Nat.reduceAdd, Nat.reduceMul, reduceIte, Nat.reduceLT, Nat.reduceLeDiff, reduceCtorEq, Int.reduceEq, Int.reduceLT, Int.reduceLE, Int.reduceNeg, Int.reduceToNat, Nat.reduceBEq, Nat.reduceSub, qp, qf, kop, av, RQ, PQ, kres, kres1, kresL, fin, fins, fin1, V.pur?, V.pur1?, V.cells, kld, ones, V.one, Value.oneCell', own, owns, own1, xfill, ksrc, kint, vint, ksub, keqs, kok, V.val1?, ofRes, h6, h4, h5, h0, hd, iv_len, hsh, i64_mask32, w1, d1, k65_t0]) | (with_reducible refine wgd_cases ?_ ?_ <;> intro hb) | (with_reducible refine wcond_cases ?_ ?_ <;> intro hb) | (with_reducible refine qd_i (by kernel_rfl) ?_) | (with_reducible refine W_itn_cases ?_ ?_; omega))
        simp [hin3]
      · have d1 : decide (H + O / 4294967296 < -2147483648) = false := decide_eq_false hneg
        have d2 : decide (2147483647 < H + O / 4294967296) = true := decide_eq_true (by omega)
        repeat' (first | (simp -implicitDefEqProofs only [ze, Nat.reduceEqDiff, Nat.reduceAdd, Nat.reduceMul, reduceIte, Nat.reduceLT, Nat.reduceLeDiff, reduceCtorEq, Int.reduceEq, Int.reduceLT, Int.reduceLE, Int.reduceNeg, Int.reduceToNat, Nat.reduceBEq, Nat.reduceSub, qp, qf, kop, av, RQ, PQ, kres, kres1, kresL, fin, fins, fin1, V.pur?, V.pur1?, V.cells, kld, ones, V.one, Value.oneCell', own, owns, own1, xfill, ksrc, kint, vint, ksub, keqs, kok, V.val1?, ofRes, h6, h4, h5, h0, hd, iv_len, hsh, i64_mask32, w1, d1, d2, k65_t0]) | (with_reducible refine wgd_cases ?_ ?_ <;> intro hb) | (with_reducible refine wcond_cases ?_ ?_ <;> intro hb) | (with_reducible refine qd_i (by kernel_rfl) ?_) | (with_reducible refine W_itn_cases ?_ ?_; omega))
        simp [hin3]
end Go.Proofs.YtkbheoganajhaaaDoor.Vm
