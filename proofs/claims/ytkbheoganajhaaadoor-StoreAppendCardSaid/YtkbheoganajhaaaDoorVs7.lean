/- Proved here: what the encoders of integers and texts return. Conditions: none. -/
import Derived.Test.YtkbheoganajhaaaDoorVp1
set_option maxRecDepth 10000
set_option linter.unusedVariables false
set_option linter.unusedSimpArgs false
namespace Go.Proofs.YtkbheoganajhaaaDoor.Vm
open Go Go.Proofs
/-- Bytes as a list of the machine. -/
def bv (l : List Int) : List V := l.map fun b => V.sc (.int .u8 b)
theorem bv_app (a b : List Int) : bv (a ++ b) = bv a ++ bv b := by simp [bv]
theorem bv_len (a : List Int) : (bv a).length = a.length := by simp [bv]
def i64r (n : Int) : Prop := -9223372036854775808 ≤ n ∧ n < 9223372036854775808
/-- A list that its holder may add to: the literal nil, or one with a right. -/
def Grow (st : St) (nx : Nat) (e : Nat) (xs : List V) (v : V) : Prop := (xs = [] ∧ v = .list 0 [] 1) ∨ ∃ r, 8 ≤ r ∧ r < nx ∧ v = .list e xs r ∧ st r = some (.tok xs.length e)
theorem putint_ok (n : Int) (hn : i64r n) : L.pl 76 [.i64 n] = some (.ret (.list 5 (bv (Co.putS n)) (8 + 5))) := by
  refine W_of (pl_w k76_eq ?_)
  simp only [k76]
  have hz := Co.zz_xor n hn.1 hn.2
  have hr := Co.zz_range n hn.1 hn.2
  repeat' (first | (simp -implicitDefEqProofs only [ze, Nat.reduceEqDiff, Nat.reduceAdd, Nat.reduceMul, reduceIte, Nat.reduceLT, Nat.reduceLeDiff, reduceCtorEq, Int.reduceEq, Int.reduceLT, Int.reduceLE, Int.reduceNeg, Int.reduceToNat, Nat.reduceBEq, Nat.reduceSub, qp, qf, kop, av, RQ, PQ, kres, kres1, kresL, fin, fins, fin1, V.pur?, V.pur1?, V.cells, kld, ones, V.one, Value.oneCell', own, owns, own1, xfill, ksrc, kint, vint, ksub, keqs, kok, V.val1?, ofRes]) | (with_reducible refine wgd_cases ?_ ?_ <;> intro hb) | (with_reducible refine wcond_cases ?_ ?_ <;> intro hb) | (with_reducible refine qd_i (by kernel_rfl) ?_) | (with_reducible refine W_itn_cases ?_ ?_; omega))
  refine loop_w (fun k tm st nx => ∃ (out : List Int) (x : Int) (v : V), k < 10 ∧ out.length + k ≤ 9 ∧ 0 ≤ x ∧ x < 128 ^ (k + 1) ∧ out ++ Co.vL (k + 1) x = Co.putS n ∧ tm 3 = .sc (.int .u64 x) ∧ tm 2 = v ∧ Grow st nx 5 (bv out) v) 9 ⟨[], Co.zz n, _, by omega, by simp, hr.1, ?_, rfl, ?_, rfl, .inl ⟨rfl, ?_⟩⟩ ?_
  · have : (128 : Int) ^ (9 + 1) = 1180591620717411303424 := by decide
    omega
  · simp -implicitDefEqProofs only [ze, Nat.reduceEqDiff, Nat.reduceAdd, Nat.reduceMul, reduceIte, Nat.reduceLT, Nat.reduceLeDiff, reduceCtorEq, Int.reduceEq, Int.reduceLT, Int.reduceLE, Int.reduceNeg, Int.reduceToNat, Nat.reduceBEq, Nat.reduceSub, qp, qf, kop, av, RQ, PQ, kres, kres1, kresL, fin, fins, fin1, V.pur?, V.pur1?, V.cells, kld, ones, V.one, Value.oneCell', own, owns, own1, xfill, ksrc, kint, vint, ksub, keqs, kok, V.val1?, ofRes]
    rw [shr_eq n _ 9223372036854775808 (by decide)]
    refine congrArg _ (congrArg _ ?_)
    rw [← hz]
    rfl
  · simp -implicitDefEqProofs only [ze, Nat.reduceEqDiff, Nat.reduceAdd, Nat.reduceMul, reduceIte, Nat.reduceLT, Nat.reduceLeDiff, reduceCtorEq, Int.reduceEq, Int.reduceLT, Int.reduceLE, Int.reduceNeg, Int.reduceToNat, Nat.reduceBEq, Nat.reduceSub, qp, qf, kop, av, RQ, PQ, kres, kres1, kresL, fin, fins, fin1, V.pur?, V.pur1?, V.cells, kld, ones, V.one, Value.oneCell', own, owns, own1, xfill, ksrc, kint, vint, ksub, keqs, kok, V.val1?, ofRes]
  rintro k tm st nx ⟨out, x, v, hk, hk2, hx0, hx1, ho, h3, h2, hg⟩
  simp only [k76_l0]
  have hw8 : IntKind.u8.wrap x = x % 256 := by rw [IntKind.wrap_u8]
  have hor : Go.bits .or .u8 (x % 256) 128 = x % 128 + 128 := by rw [Co.or8 _ (by omega) (by omega)]; omega
  have hsh : x.fdiv (2 ^ Nat.min 7 IntKind.u64.bits) = x / 128 := shr_eq x _ 128 (by decide)
  have hlen := bv_len out
  by_cases hc : 128 ≤ x
  · have hd : decide ((128 : Int) ≤ x) = true := decide_eq_true hc
    have hk0 : 0 < k := by
      rcases Nat.eq_zero_or_pos k with rfl | h
      · simp at hx1; omega
      · exact h
    obtain ⟨k, rfl⟩ : ∃ j, k = j + 1 := ⟨k - 1, by omega⟩
    have hnext : (out ++ [x % 128 + 128]) ++ Co.vL (k + 1) (x / 128) = Co.putS n := by
      rw [← ho]; conv => rhs; rw [Co.vL, if_pos hc]
      simp
    have hbnd := Co.div_lt_pow hx1
    rcases hg with ⟨hb, rfl⟩ | ⟨r, hr8, hrn, rfl, hst⟩
    · have hout : out = [] := by simpa [bv] using hb
      subst hout
      repeat' (first | (simp -implicitDefEqProofs only [ze, Nat.reduceEqDiff, Nat.reduceAdd, Nat.reduceMul, reduceIte, Nat.reduceLT, Nat.reduceLeDiff, reduceCtorEq, Int.reduceEq, Int.reduceLT, Int.reduceLE, Int.reduceNeg, Int.reduceToNat, Nat.reduceBEq, Nat.reduceSub, qp, qf, kop, av, RQ, PQ, kres, kres1, kresL, fin, fins, fin1, V.pur?, V.pur1?, V.cells, kld, ones, V.one, Value.oneCell', own, owns, own1, xfill, ksrc, kint, vint, ksub, keqs, kok, V.val1?, ofRes, h3, h2, hd, hw8, hor, hsh]) | (with_reducible refine wgd_cases ?_ ?_ <;> intro hb) | (with_reducible refine wcond_cases ?_ ?_ <;> intro hb) | (with_reducible refine qd_i (by kernel_rfl) ?_) | (with_reducible refine W_itn_cases ?_ ?_; omega))
      exact ⟨k, by omega, [x % 128 + 128], x / 128, _, by omega, by simp at hk2 ⊢; omega, by omega, hbnd, hnext, rfl, rfl, .inr ⟨nx + 56, by omega, by omega, rfl, by rw [upd_at, if_pos rfl]; rfl⟩⟩
    · have hr0 : (r = 0) = False := eq_false (by omega)
      have hr1 : (r = 1) = False := eq_false (by omega)
      have hrx : ∀ j, (r = nx + j) = False := fun j => eq_false (by omega)
      repeat' (first | (simp -implicitDefEqProofs only [ze, Nat.reduceEqDiff, Nat.reduceAdd, Nat.reduceMul, reduceIte, Nat.reduceLT, Nat.reduceLeDiff, reduceCtorEq, Int.reduceEq, Int.reduceLT, Int.reduceLE, Int.reduceNeg, Int.reduceToNat, Nat.reduceBEq, Nat.reduceSub, qp, qf, kop, av, RQ, PQ, kres, kres1, kresL, fin, fins, fin1, V.pur?, V.pur1?, V.cells, kld, ones, V.one, Value.oneCell', own, owns, own1, xfill, ksrc, kint, vint, ksub, keqs, kok, V.val1?, ofRes, h3, h2, hd, hr0, hr1, hrx, hst, bv_len, hw8, hor, hsh]) | (with_reducible refine wgd_cases ?_ ?_ <;> intro hb) | (with_reducible refine wcond_cases ?_ ?_ <;> intro hb) | (with_reducible refine qd_i (by kernel_rfl) ?_) | (with_reducible refine W_itn_cases ?_ ?_; omega))
      exact ⟨k, by omega, out ++ [x % 128 + 128], x / 128, _, by omega, by simp; omega, by omega, hbnd, hnext, rfl, rfl, .inr ⟨r, hr8, by omega, by rw [bv_app]; rfl, by rw [upd_at, if_pos rfl, bv_len]; simp⟩⟩
  · have hd : decide ((128 : Int) ≤ x) = false := decide_eq_false hc
    have hx2 : x % 256 = x := by omega
    have hlast : out ++ [x] = Co.putS n := by rw [← ho, Co.vL, if_neg hc]
    rcases hg with ⟨hb, rfl⟩ | ⟨r, hr8, hrn, rfl, hst⟩
    · have hout : out = [] := by simpa [bv] using hb
      subst hout
      have hnx : ∀ j, 8 ≤ j → (nx + j < 8) = False := fun j h => eq_false (by omega)
      repeat' (first | (simp -implicitDefEqProofs only [ze, Nat.reduceEqDiff, Nat.reduceAdd, Nat.reduceMul, reduceIte, Nat.reduceLT, Nat.reduceLeDiff, reduceCtorEq, Int.reduceEq, Int.reduceLT, Int.reduceLE, Int.reduceNeg, Int.reduceToNat, Nat.reduceBEq, Nat.reduceSub, qp, qf, kop, av, RQ, PQ, kres, kres1, kresL, fin, fins, fin1, V.pur?, V.pur1?, V.cells, kld, ones, V.one, Value.oneCell', own, owns, own1, xfill, ksrc, kint, vint, ksub, keqs, kok, V.val1?, ofRes, h3, h2, hd, hw8, hx2, k76_t0, hnx 48 (by omega)]) | (with_reducible refine wgd_cases ?_ ?_ <;> intro hb) | (with_reducible refine wcond_cases ?_ ?_ <;> intro hb) | (with_reducible refine qd_i (by kernel_rfl) ?_) | (with_reducible refine W_itn_cases ?_ ?_; omega))
      rw [← hlast]; rfl
    · have hr0 : (r = 0) = False := eq_false (by omega)
      have hr1 : (r = 1) = False := eq_false (by omega)
      have hr9 : (r < 8) = False := eq_false (by omega)
      have hrx : ∀ j, (r = nx + j) = False := fun j => eq_false (by omega)
      repeat' (first | (simp -implicitDefEqProofs only [ze, Nat.reduceEqDiff, Nat.reduceAdd, Nat.reduceMul, reduceIte, Nat.reduceLT, Nat.reduceLeDiff, reduceCtorEq, Int.reduceEq, Int.reduceLT, Int.reduceLE, Int.reduceNeg, Int.reduceToNat, Nat.reduceBEq, Nat.reduceSub, qp, qf, kop, av, RQ, PQ, kres, kres1, kresL, fin, fins, fin1, V.pur?, V.pur1?, V.cells, kld, ones, V.one, Value.oneCell', own, owns, own1, xfill, ksrc, kint, vint, ksub, keqs, kok, V.val1?, ofRes, h3, h2, hd, hr0, hr1, hr9, hrx, hst, bv_len, hw8, hx2, k76_t0, List.length_append]) | (with_reducible refine wgd_cases ?_ ?_ <;> intro hb) | (with_reducible refine wcond_cases ?_ ?_ <;> intro hb) | (with_reducible refine qd_i (by kernel_rfl) ?_) | (with_reducible refine W_itn_cases ?_ ?_; omega))
      rw [← hlast, bv_app]; rfl
end Go.Proofs.YtkbheoganajhaaaDoor.Vm
