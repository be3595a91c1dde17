/- Proved here: what the exact sums return. Conditions: none. -/
import Derived.Test.YtkbheoganajhaaaDoorVs10
set_option maxRecDepth 10000
set_option linter.unusedVariables false
set_option linter.unusedSimpArgs false
namespace Go.Proofs.YtkbheoganajhaaaDoor.Vm
open Go Go.Proofs
def iv (l : List Int) : List V := l.map V.i64
theorem iv_len (l : List Int) : (iv l).length = l.length := by simp [iv]
def inI64 (x : Int) : Bool := decide (-9223372036854775808 ≤ x) && decide (x < 9223372036854775808)
theorem reck_add64 (x y : Int) (hx : 0 ≤ x) (hy : 0 ≤ y) (k : Int) (hk0 : 0 ≤ k) (hk : k ≤ 1) : reck Tryd.prog (callFunc 107 #[.int .u64 x, .int .u64 y, .int .u64 k]) =
    some (.value (.tuple #[.int .u64 ((x + y + k) % 18446744073709551616), .int .u64 ((x + y + k) / 18446744073709551616)])) := by
  have key : ∀ k : Nat, k ≤ 1 → reck Tryd.prog (callFunc 107 #[.int .u64 x, .int .u64 y, .int .u64 (k : Int)]) =
      some (.value (Extern.MathBitsCarry.pair ((x.toNat + y.toNat + k) % Extern.MathBitsCarry.m64) ((x.toNat + y.toNat + k) / Extern.MathBitsCarry.m64))) := by
    intro k hk
    have : k = 0 ∨ k = 1 := by omega
    rcases this with rfl | rfl
    · show _ = _; kernel_rfl
    · show _ = _; kernel_rfl
  obtain ⟨k, rfl⟩ := Int.eq_ofNat_of_zero_le hk0
  rw [key k (by omega)]
  obtain ⟨X, rfl⟩ := Int.eq_ofNat_of_zero_le hx
  obtain ⟨Y, rfl⟩ := Int.eq_ofNat_of_zero_le hy
  simp only [Extern.MathBitsCarry.pair, Extern.MathBitsCarry.m64, Int.toNat_natCast]
  congr 5 <;> simp <;> omega
theorem sum_take (l : List Int) (i : Nat) (x : Int) (h : l[i]? = some x) : (l.take (i + 1)).sum = (l.take i).sum + x := by
  rw [List.take_add_one, h, List.sum_append]; simp
theorem sum_bound (l : List Int) (h : ∀ x ∈ l, i64r x) : -(9223372036854775808 * (l.length : Int)) ≤ l.sum ∧ l.sum ≤ 9223372036854775808 * (l.length : Int) := by
  induction l with
  | nil => simp
  | cons a r ih =>
    have h1 := h a (by simp)
    have h2 := ih fun x hx => h x (by simp [hx])
    simp only [i64r] at h1
    simp only [List.sum_cons, List.length_cons]
    omega
theorem numsum_ok (l : List Int) (r : Nat) (hi : ∀ x ∈ l, i64r x) (hl : l.length < 1073741824) : L.pl 102 [.list 3 (iv l) r] = some (.ret (.tup [.i64 (if inI64 l.sum = true then l.sum else 0), .bool (inI64 l.sum)])) := by
  refine W_of (pl_w k102_eq ?_)
  simp only [k102]
  repeat' (first | (simp -implicitDefEqProofs only [ze, Nat.reduceEqDiff, Nat.reduceAdd, Nat.reduceMul, reduceIte, Nat.reduceLT, Nat.reduceLeDiff, reduceCtorEq, Int.reduceEq, Int.reduceLT, Int.reduceLE, Int.reduceNeg, Int.reduceToNat, Nat.reduceBEq, Nat.reduceSub, qp, qf, kop, av, RQ, PQ, kres, kres1, kresL, fin, fins, fin1, V.pur?, V.pur1?, V.cells, kld, ones, V.one, Value.oneCell', own, owns, own1, xfill, ksrc, kint, vint, ksub, keqs, kok, V.val1?, ofRes, iv_len]) | (with_reducible refine wgd_cases ?_ ?_ <;> intro hb) | (with_reducible refine wcond_cases ?_ ?_ <;> intro hb) | (with_reducible refine qd_i (by kernel_rfl) ?_) | (with_reducible refine W_itn_cases ?_ ?_; omega))
  refine loop_w (fun n tm st nx => ∃ i : Nat, n = l.length - i ∧ i ≤ l.length ∧ tm 11 = .i64 i ∧ tm 10 = .i64 l.length ∧ tm 9 = .list 3 (iv l) r ∧ tm 5 = .sc (.int .u64 ((l.take i).sum % 18446744073709551616)) ∧ tm 4 = .sc (.int .u64 ((l.take i).sum / 18446744073709551616 % 18446744073709551616))) l.length ⟨0, by omega, by omega, ?_, ?_, ?_, ?_, ?_⟩ ?_
  · simp -implicitDefEqProofs only [ze, Nat.reduceEqDiff, Nat.reduceAdd, Nat.reduceMul, reduceIte, Nat.reduceLT, Nat.reduceLeDiff, reduceCtorEq, Int.reduceEq, Int.reduceLT, Int.reduceLE, Int.reduceNeg, Int.reduceToNat, Nat.reduceBEq, Nat.reduceSub, qp, qf, kop, av, RQ, PQ, kres, kres1, kresL, fin, fins, fin1, V.pur?, V.pur1?, V.cells, kld, ones, V.one, Value.oneCell', own, owns, own1, xfill, ksrc, kint, vint, ksub, keqs, kok, V.val1?, ofRes]; rfl
  · simp -implicitDefEqProofs only [ze, Nat.reduceEqDiff, Nat.reduceAdd, Nat.reduceMul, reduceIte, Nat.reduceLT, Nat.reduceLeDiff, reduceCtorEq, Int.reduceEq, Int.reduceLT, Int.reduceLE, Int.reduceNeg, Int.reduceToNat, Nat.reduceBEq, Nat.reduceSub, qp, qf, kop, av, RQ, PQ, kres, kres1, kresL, fin, fins, fin1, V.pur?, V.pur1?, V.cells, kld, ones, V.one, Value.oneCell', own, owns, own1, xfill, ksrc, kint, vint, ksub, keqs, kok, V.val1?, ofRes]
  · simp -implicitDefEqProofs only [ze, Nat.reduceEqDiff, Nat.reduceAdd, Nat.reduceMul, reduceIte, Nat.reduceLT, Nat.reduceLeDiff, reduceCtorEq, Int.reduceEq, Int.reduceLT, Int.reduceLE, Int.reduceNeg, Int.reduceToNat, Nat.reduceBEq, Nat.reduceSub, qp, qf, kop, av, RQ, PQ, kres, kres1, kresL, fin, fins, fin1, V.pur?, V.pur1?, V.cells, kld, ones, V.one, Value.oneCell', own, owns, own1, xfill, ksrc, kint, vint, ksub, keqs, kok, V.val1?, ofRes]
  · simp -implicitDefEqProofs only [ze, Nat.reduceEqDiff, Nat.reduceAdd, Nat.reduceMul, reduceIte, Nat.reduceLT, Nat.reduceLeDiff, reduceCtorEq, Int.reduceEq, Int.reduceLT, Int.reduceLE, Int.reduceNeg, Int.reduceToNat, Nat.reduceBEq, Nat.reduceSub, qp, qf, kop, av, RQ, PQ, kres, kres1, kresL, fin, fins, fin1, V.pur?, V.pur1?, V.cells, kld, ones, V.one, Value.oneCell', own, owns, own1, xfill, ksrc, kint, vint, ksub, keqs, kok, V.val1?, ofRes]; rfl
  · simp -implicitDefEqProofs only [ze, Nat.reduceEqDiff, Nat.reduceAdd, Nat.reduceMul, reduceIte, Nat.reduceLT, Nat.reduceLeDiff, reduceCtorEq, Int.reduceEq, Int.reduceLT, Int.reduceLE, Int.reduceNeg, Int.reduceToNat, Nat.reduceBEq, Nat.reduceSub, qp, qf, kop, av, RQ, PQ, kres, kres1, kresL, fin, fins, fin1, V.pur?, V.pur1?, V.cells, kld, ones, V.one, Value.oneCell', own, owns, own1, xfill, ksrc, kint, vint, ksub, keqs, kok, V.val1?, ofRes]; rfl
  rintro n tm st nx ⟨i, hn, hi2, h11, h10, h9, h5, h4⟩
  simp only [k102_l0]
  generalize hS : (l.take i).sum = S at *
  by_cases hlt : i < l.length
  · obtain ⟨x, hx⟩ := get_lt hlt
    have hxr := hi x (List.mem_of_getElem? hx)
    simp only [i64r] at hxr
    have hd : decide ((i : Int) < (l.length : Int)) = true := decide_eq_true (by omega)
    have hs2 := sum_take l i x hx
    rw [hS] at hs2
    have hix : (iv l)[i]? = some (V.i64 x) := by simp [iv, hx]
    have hw : IntKind.u64.wrap x = x % 18446744073709551616 := by rw [IntKind.wrap_u64]
    have hsh := shr_eq x (Nat.min 63 IntKind.i64.bits) 9223372036854775808 (by decide)
    have hw2 : IntKind.u64.wrap (x / 9223372036854775808) = x / 9223372036854775808 % 18446744073709551616 := by rw [IntKind.wrap_u64]
    have ha := reck_add64 (S % 18446744073709551616) (x % 18446744073709551616) (by omega) (by omega) 0 (by omega) (by omega)
    have hb := reck_add64 (S / 18446744073709551616 % 18446744073709551616) (x / 9223372036854775808 % 18446744073709551616) (by omega) (by omega) ((S % 18446744073709551616 + x % 18446744073709551616 + 0) / 18446744073709551616) (by omega) (by omega)
    repeat' (first | (simp -implicitDefEqProofs only [ze, Nat.reduceEqDiff, Nat.reduceAdd, Nat.reduceMul, reduceIte, Nat.reduceLT, Nat.reduceLeDiff, reduceCtorEq, Int.reduceEq, Int.reduceLT, Int.reduceLE, Int.reduceNeg, Int.reduceToNat, Nat.reduceBEq, Nat.reduceSub, qp, qf, kop, av, RQ, PQ, kres, kres1, kresL, fin, fins, fin1, V.pur?, V.pur1?, V.cells, kld, ones, V.one, Value.oneCell', own, owns, own1, xfill, ksrc, kint, vint, ksub, keqs, kok, V.val1?, ofRes, h11, h10, h9, h5, h4, hd, hix, hw, hsh, hw2, ha, hb]) | (with_reducible refine wgd_cases ?_ ?_ <;> intro hb) | (with_reducible refine wcond_cases ?_ ?_ <;> intro hb) | (with_reducible refine qd_i (by kernel_rfl) ?_) | (with_reducible refine W_itn_cases ?_ ?_; omega))
    exact ⟨l.length - (i + 1), by omega, i + 1, rfl, by omega, up64 (by omega), by rw [hs2]; congr 2; omega, by rw [hs2]; congr 2; omega⟩
  · have hd : decide ((i : Int) < (l.length : Int)) = false := decide_eq_false (by omega)
    repeat' (first | (simp -implicitDefEqProofs only [ze, Nat.reduceEqDiff, Nat.reduceAdd, Nat.reduceMul, reduceIte, Nat.reduceLT, Nat.reduceLeDiff, reduceCtorEq, Int.reduceEq, Int.reduceLT, Int.reduceLE, Int.reduceNeg, Int.reduceToNat, Nat.reduceBEq, Nat.reduceSub, qp, qf, kop, av, RQ, PQ, kres, kres1, kresL, fin, fins, fin1, V.pur?, V.pur1?, V.cells, kld, ones, V.one, Value.oneCell', own, owns, own1, xfill, ksrc, kint, vint, ksub, keqs, kok, V.val1?, ofRes, h11, h10, h9, h5, h4, hd, k102_t0]) | (with_reducible refine wgd_cases ?_ ?_ <;> intro hb) | (with_reducible refine wcond_cases ?_ ?_ <;> intro hb) | (with_reducible refine qd_i (by kernel_rfl) ?_) | (with_reducible refine W_itn_cases ?_ ?_; omega))
    all_goals
      have hie : i = l.length := by omega
      rw [hie, List.take_length] at hS
      have hbd := sum_bound l hi
      rw [hS] at hbd ⊢
      have hw1 : IntKind.i64.wrap (S % 18446744073709551616) = (if S % 18446744073709551616 < 9223372036854775808 then S % 18446744073709551616 else S % 18446744073709551616 - 18446744073709551616) := by
        rw [IntKind.wrap_i64]; split <;> omega
      have hsh := shr_eq (IntKind.i64.wrap (S % 18446744073709551616)) (Nat.min 63 IntKind.i64.bits) 9223372036854775808 (by decide)
      rw [hsh, IntKind.wrap_u64, hw1] at hb
    · have hin : inI64 S = false := by
        simp only [Bool.not_eq_true', decide_eq_false_iff_not] at hb
        simp only [inI64, Bool.and_eq_false_iff, decide_eq_false_iff_not]
        split at hb <;> omega
      rw [hin]; rfl
    · have hin : inI64 S = true ∧ S = (if S % 18446744073709551616 < 9223372036854775808 then S % 18446744073709551616 else S % 18446744073709551616 - 18446744073709551616) := by
        simp only [Bool.not_eq_false', decide_eq_true_eq] at hb
        simp only [inI64, Bool.and_eq_true, decide_eq_true_eq]
        split at hb <;> split <;> omega
      rw [hw1, hin.1, ← hin.2]; rfl
end Go.Proofs.YtkbheoganajhaaaDoor.Vm
