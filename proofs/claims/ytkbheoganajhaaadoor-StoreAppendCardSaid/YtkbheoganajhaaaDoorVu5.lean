/- Proved here: what the reference's encoders of integers and texts return. Conditions: none. -/
import Derived.Test.YtkbheoganajhaaaDoorVs8
set_option maxRecDepth 10000
set_option linter.unusedVariables false
set_option linter.unusedSimpArgs false
namespace Go.Proofs.YtkbheoganajhaaaDoor.Vm
open Go Go.Proofs
theorem rput_loop (n : Int) (x0 : Int) (h0 : x0 = Co.zz n) (hr : 0 ≤ x0 ∧ x0 < 18446744073709551616) (tm : Nat → V) (st : St) (nx : Nat) (h3 : tm 3 = .sc (.int .u64 x0)) (h4 : tm 4 = .list 0 [] 1) (h8 : 8 ≤ nx) :
    wc Tryd.prog L (.loop k54_l0) (cblk 0 (cseq Tryd.prog L k54_t0 (RQ [.t 2] (PQ fun q => q = .ret (.list 5 (bv (Co.putS n)) (8 + 5)))))) ⟨tm, st, nx⟩ := by
  refine loop_w (fun k tm st nx => ∃ (out : List Int) (x : Int) (v : V), k < 10 ∧ out.length + k ≤ 9 ∧ 0 ≤ x ∧ x < 128 ^ (k + 1) ∧ x < 18446744073709551616 ∧ out ++ Co.vL (k + 1) x = Co.putS n ∧ tm 3 = .sc (.int .u64 x) ∧ tm 4 = v ∧ Grow st nx 5 (bv out) v) 9 ⟨[], x0, _, by omega, by simp, hr.1, ?_, hr.2, by rw [h0]; rfl, h3, rfl, .inl ⟨rfl, h4⟩⟩ ?_
  · have : (128 : Int) ^ (9 + 1) = 1180591620717411303424 := by decide
    omega
  rintro k tm st nx ⟨out, x, v, hk, hk2, hx0, hx1, hx2, ho, g3, g4, hg⟩
  simp only [k54_l0]
  have hlen := bv_len out
  by_cases hc : 128 ≤ x
  · have hd : decide ((128 : Int) ≤ x) = true := decide_eq_true hc
    have hk0 : 0 < k := by
      rcases Nat.eq_zero_or_pos k with rfl | h
      · simp at hx1; omega
      · exact h
    obtain ⟨k, rfl⟩ : ∃ j, k = j + 1 := ⟨k - 1, by omega⟩
    have hnext : (out ++ [x % 128 + 128]) ++ Co.vL (k + 1) (x / 128) = Co.putS n := by
      rw [← ho]; conv => rhs; rw [Co.vL, if_pos hc]
      simp
    have hbnd := Co.div_lt_pow hx1
    have t1 : x.tmod 128 = x % 128 := Int.tmod_eq_emod_of_nonneg hx0
    have t2 : IntKind.u64.wrap (x.tdiv 128) = x / 128 := by rw [Int.tdiv_eq_ediv_of_nonneg hx0, IntKind.wrap_u64]; omega
    have t3 : IntKind.u64.wrap (x % 128 + 128) = x % 128 + 128 := by rw [IntKind.wrap_u64]; omega
    have t4 : IntKind.u8.wrap (x % 128 + 128) = x % 128 + 128 := by rw [IntKind.wrap_u8]; omega
    have t5 : ((128 : Int) = 0) = False := eq_false (by decide)
    rcases hg with ⟨hb, rfl⟩ | ⟨r, hr8, hrn, rfl, hst⟩
    · have hout : out = [] := by simpa [bv] using hb
      subst hout
      repeat' (first | (simp -implicitDefEqProofs only [ze, Nat.reduceEqDiff, Nat.reduceAdd, Nat.reduceMul, reduceIte, Nat.reduceLT, Nat.reduceLeDiff, reduceCtorEq, Int.reduceEq, Int.reduceLT, Int.reduceLE, Int.reduceNeg, Int.reduceToNat, Nat.reduceBEq, Nat.reduceSub, qp, qf, kop, av, RQ, PQ, kres, kres1, kresL, fin, fins, fin1, V.pur?, V.pur1?, V.cells, kld, ones, V.one, Value.oneCell', own, owns, own1, xfill, ksrc, kint, vint, ksub, keqs, kok, V.val1?, ofRes, g3, g4, hd, t1, t2, t3, t4, t5]) | (with_reducible refine wgd_cases ?_ ?_ <;> intro hb) | (with_reducible refine wcond_cases ?_ ?_ <;> intro hb) | (with_reducible refine qd_i (by kernel_rfl) ?_) | (with_reducible refine W_itn_cases ?_ ?_; omega))
      exact ⟨k, by omega, [x % 128 + 128], x / 128, _, by omega, by simp at hk2 ⊢; omega, by omega, hbnd, by omega, hnext, rfl, rfl, .inr ⟨nx + 64, by omega, by omega, rfl, by rw [upd_at, if_pos rfl]; rfl⟩⟩
    · have hr0 : (r = 0) = False := eq_false (by omega)
      have hr1 : (r = 1) = False := eq_false (by omega)
      have hrx : ∀ j, (r = nx + j) = False := fun j => eq_false (by omega)
      repeat' (first | (simp -implicitDefEqProofs only [ze, Nat.reduceEqDiff, Nat.reduceAdd, Nat.reduceMul, reduceIte, Nat.reduceLT, Nat.reduceLeDiff, reduceCtorEq, Int.reduceEq, Int.reduceLT, Int.reduceLE, Int.reduceNeg, Int.reduceToNat, Nat.reduceBEq, Nat.reduceSub, qp, qf, kop, av, RQ, PQ, kres, kres1, kresL, fin, fins, fin1, V.pur?, V.pur1?, V.cells, kld, ones, V.one, Value.oneCell', own, owns, own1, xfill, ksrc, kint, vint, ksub, keqs, kok, V.val1?, ofRes, g3, g4, hd, hr0, hr1, hrx, hst, bv_len, t1, t2, t3, t4, t5]) | (with_reducible refine wgd_cases ?_ ?_ <;> intro hb) | (with_reducible refine wcond_cases ?_ ?_ <;> intro hb) | (with_reducible refine qd_i (by kernel_rfl) ?_) | (with_reducible refine W_itn_cases ?_ ?_; omega))
      exact ⟨k, by omega, out ++ [x % 128 + 128], x / 128, _, by omega, by simp; omega, by omega, hbnd, by omega, hnext, rfl, rfl, .inr ⟨r, hr8, by omega, by rw [bv_app]; rfl, by rw [upd_at, if_pos rfl, bv_len]; simp⟩⟩
  · have hd : decide ((128 : Int) ≤ x) = false := decide_eq_false hc
    have t4 : IntKind.u8.wrap x = x := by rw [IntKind.wrap_u8]; omega
    have hlast : out ++ [x] = Co.putS n := by rw [← ho, Co.vL, if_neg hc]
    rcases hg with ⟨hb, rfl⟩ | ⟨r, hr8, hrn, rfl, hst⟩
    · have hout : out = [] := by simpa [bv] using hb
      subst hout
      have hnx : ∀ j, 8 ≤ j → (nx + j < 8) = False := fun j h => eq_false (by omega)
      repeat' (first | (simp -implicitDefEqProofs only [ze, Nat.reduceEqDiff, Nat.reduceAdd, Nat.reduceMul, reduceIte, Nat.reduceLT, Nat.reduceLeDiff, reduceCtorEq, Int.reduceEq, Int.reduceLT, Int.reduceLE, Int.reduceNeg, Int.reduceToNat, Nat.reduceBEq, Nat.reduceSub, qp, qf, kop, av, RQ, PQ, kres, kres1, kresL, fin, fins, fin1, V.pur?, V.pur1?, V.cells, kld, ones, V.one, Value.oneCell', own, owns, own1, xfill, ksrc, kint, vint, ksub, keqs, kok, V.val1?, ofRes, g3, g4, hd, t4, k54_t0, hnx 48 (by omega)]) | (with_reducible refine wgd_cases ?_ ?_ <;> intro hb) | (with_reducible refine wcond_cases ?_ ?_ <;> intro hb) | (with_reducible refine qd_i (by kernel_rfl) ?_) | (with_reducible refine W_itn_cases ?_ ?_; omega))
      rw [← hlast]; rfl
    · have hr0 : (r = 0) = False := eq_false (by omega)
      have hr1 : (r = 1) = False := eq_false (by omega)
      have hr9 : (r < 8) = False := eq_false (by omega)
      have hrx : ∀ j, (r = nx + j) = False := fun j => eq_false (by omega)
      repeat' (first | (simp -implicitDefEqProofs only [ze, Nat.reduceEqDiff, Nat.reduceAdd, Nat.reduceMul, reduceIte, Nat.reduceLT, Nat.reduceLeDiff, reduceCtorEq, Int.reduceEq, Int.reduceLT, Int.reduceLE, Int.reduceNeg, Int.reduceToNat, Nat.reduceBEq, Nat.reduceSub, qp, qf, kop, av, RQ, PQ, kres, kres1, kresL, fin, fins, fin1, V.pur?, V.pur1?, V.cells, kld, ones, V.one, Value.oneCell', own, owns, own1, xfill, ksrc, kint, vint, ksub, keqs, kok, V.val1?, ofRes, g3, g4, hd, hr0, hr1, hr9, hrx, hst, bv_len, t4, k54_t0, List.length_append]) | (with_reducible refine wgd_cases ?_ ?_ <;> intro hb) | (with_reducible refine wcond_cases ?_ ?_ <;> intro hb) | (with_reducible refine qd_i (by kernel_rfl) ?_) | (with_reducible refine W_itn_cases ?_ ?_; omega))
      rw [← hlast, bv_app]; rfl
theorem rputint_ok (n : Int) (hn : i64r n) : L.pl 54 [.i64 n] = some (.ret (.list 5 (bv (Co.putS n)) (8 + 5))) := by
  refine W_of (pl_w k54_eq ?_)
  simp only [k54]
  have hz := Co.zz_range n hn.1 hn.2
  simp only [i64r] at hn
  have hzz : Co.zz n = if n < 0 then -2 * n - 1 else 2 * n := rfl
  by_cases h : n < 0
  · have hd : decide (n < 0) = true := decide_eq_true h
    have w1 : IntKind.i64.wrap (n + 1) = n + 1 := wrap_i64 (by omega) (by omega)
    have w2 : IntKind.i64.wrap (0 - (n + 1)) = 0 - (n + 1) := wrap_i64 (by omega) (by omega)
    have w3 : IntKind.u64.wrap (IntKind.u64.wrap (IntKind.u64.wrap (0 - (n + 1)) * 2) + 1) = Co.zz n := by
      rw [hzz, if_pos h]; simp only [IntKind.wrap_u64]; omega
    repeat' (first | (simp -implicitDefEqProofs only [ze, Nat.reduceEqDiff, Nat.reduceAdd, Nat.reduceMul, reduceIte, Nat.reduceLT, Nat.reduceLeDiff, reduceCtorEq, Int.reduceEq, Int.reduceLT, Int.reduceLE, Int.reduceNeg, Int.reduceToNat, Nat.reduceBEq, Nat.reduceSub, qp, qf, kop, av, RQ, PQ, kres, kres1, kresL, fin, fins, fin1, V.pur?, V.pur1?, V.cells, kld, ones, V.one, Value.oneCell', own, owns, own1, xfill, ksrc, kint, vint, ksub, keqs, kok, V.val1?, ofRes, hd, w1, w2, w3]) | (with_reducible refine wgd_cases ?_ ?_ <;> intro hb) | (with_reducible refine wcond_cases ?_ ?_ <;> intro hb) | (with_reducible refine qd_i (by kernel_rfl) ?_) | (with_reducible refine W_itn_cases ?_ ?_; omega))
    exact rput_loop n _ rfl hz _ _ _ (by simp -implicitDefEqProofs only [ze, Nat.reduceEqDiff, Nat.reduceAdd, Nat.reduceMul, reduceIte, Nat.reduceLT, Nat.reduceLeDiff, reduceCtorEq, Int.reduceEq, Int.reduceLT, Int.reduceLE, Int.reduceNeg, Int.reduceToNat, Nat.reduceBEq, Nat.reduceSub, qp, qf, kop, av, RQ, PQ, kres, kres1, kresL, fin, fins, fin1, V.pur?, V.pur1?, V.cells, kld, ones, V.one, Value.oneCell', own, owns, own1, xfill, ksrc, kint, vint, ksub, keqs, kok, V.val1?, ofRes]) (by simp -implicitDefEqProofs only [ze, Nat.reduceEqDiff, Nat.reduceAdd, Nat.reduceMul, reduceIte, Nat.reduceLT, Nat.reduceLeDiff, reduceCtorEq, Int.reduceEq, Int.reduceLT, Int.reduceLE, Int.reduceNeg, Int.reduceToNat, Nat.reduceBEq, Nat.reduceSub, qp, qf, kop, av, RQ, PQ, kres, kres1, kresL, fin, fins, fin1, V.pur?, V.pur1?, V.cells, kld, ones, V.one, Value.oneCell', own, owns, own1, xfill, ksrc, kint, vint, ksub, keqs, kok, V.val1?, ofRes]) (by omega)
  · have hd : decide (n < 0) = false := decide_eq_false h
    have w3 : IntKind.u64.wrap (IntKind.u64.wrap n * 2) = Co.zz n := by
      rw [hzz, if_neg h]; simp only [IntKind.wrap_u64]; omega
    repeat' (first | (simp -implicitDefEqProofs only [ze, Nat.reduceEqDiff, Nat.reduceAdd, Nat.reduceMul, reduceIte, Nat.reduceLT, Nat.reduceLeDiff, reduceCtorEq, Int.reduceEq, Int.reduceLT, Int.reduceLE, Int.reduceNeg, Int.reduceToNat, Nat.reduceBEq, Nat.reduceSub, qp, qf, kop, av, RQ, PQ, kres, kres1, kresL, fin, fins, fin1, V.pur?, V.pur1?, V.cells, kld, ones, V.one, Value.oneCell', own, owns, own1, xfill, ksrc, kint, vint, ksub, keqs, kok, V.val1?, ofRes, hd, w3]) | (with_reducible refine wgd_cases ?_ ?_ <;> intro hb) | (with_reducible refine wcond_cases ?_ ?_ <;> intro hb) | (with_reducible refine qd_i (by kernel_rfl) ?_) | (with_reducible refine W_itn_cases ?_ ?_; omega))
    exact rput_loop n _ rfl hz _ _ _ (by simp -implicitDefEqProofs only [ze, Nat.reduceEqDiff, Nat.reduceAdd, Nat.reduceMul, reduceIte, Nat.reduceLT, Nat.reduceLeDiff, reduceCtorEq, Int.reduceEq, Int.reduceLT, Int.reduceLE, Int.reduceNeg, Int.reduceToNat, Nat.reduceBEq, Nat.reduceSub, qp, qf, kop, av, RQ, PQ, kres, kres1, kresL, fin, fins, fin1, V.pur?, V.pur1?, V.cells, kld, ones, V.one, Value.oneCell', own, owns, own1, xfill, ksrc, kint, vint, ksub, keqs, kok, V.val1?, ofRes]) (by simp -implicitDefEqProofs only [ze, Nat.reduceEqDiff, Nat.reduceAdd, Nat.reduceMul, reduceIte, Nat.reduceLT, Nat.reduceLeDiff, reduceCtorEq, Int.reduceEq, Int.reduceLT, Int.reduceLE, Int.reduceNeg, Int.reduceToNat, Nat.reduceBEq, Nat.reduceSub, qp, qf, kop, av, RQ, PQ, kres, kres1, kresL, fin, fins, fin1, V.pur?, V.pur1?, V.cells, kld, ones, V.one, Value.oneCell', own, owns, own1, xfill, ksrc, kint, vint, ksub, keqs, kok, V.val1?, ofRes]) (by omega)
theorem rputtext_ok (s : ByteArray) (h : plainS s = true) : L.pl 79 [.str s] = some (.ret (.tup [.list 5 (bv (ptB s)) (8 + 5), .i64 0])) := by
  refine W_of (pl_w k79_eq ?_)
  simp only [k79]
  have hs := plain_size h
  have h1 := Co.putS_len s.size
  have h2 := bytesOf_len s
  have hp := rplain_ok s (by omega)
  repeat' (first | (simp -implicitDefEqProofs only [ze, Nat.reduceEqDiff, Nat.reduceAdd, Nat.reduceMul, reduceIte, Nat.reduceLT, Nat.reduceLeDiff, reduceCtorEq, Int.reduceEq, Int.reduceLT, Int.reduceLE, Int.reduceNeg, Int.reduceToNat, Nat.reduceBEq, Nat.reduceSub, qp, qf, kop, av, RQ, PQ, kres, kres1, kresL, fin, fins, fin1, V.pur?, V.pur1?, V.cells, kld, ones, V.one, Value.oneCell', own, owns, own1, xfill, ksrc, kint, vint, ksub, keqs, kok, V.val1?, ofRes, hp, h, rputint_ok (s.size : Int) ⟨by omega, by omega⟩, bytesV_bv, bv_len, List.length_append]) | (with_reducible refine wgd_cases ?_ ?_ <;> intro hb) | (with_reducible refine wcond_cases ?_ ?_ <;> intro hb) | (with_reducible refine qd_i (by kernel_rfl) ?_) | (with_reducible refine W_itn_cases ?_ ?_; omega))
  rw [ptB, bv_app]
theorem rtext_ok (s : ByteArray) (h : plainS s = true) : L.pl 55 [.str s] = some (.ret (.list 5 (bv (ptB s)) (8 + 5))) := by
  refine W_of (pl_w k55_eq ?_)
  simp only [k55]
  repeat' (first | (simp -implicitDefEqProofs only [ze, Nat.reduceEqDiff, Nat.reduceAdd, Nat.reduceMul, reduceIte, Nat.reduceLT, Nat.reduceLeDiff, reduceCtorEq, Int.reduceEq, Int.reduceLT, Int.reduceLE, Int.reduceNeg, Int.reduceToNat, Nat.reduceBEq, Nat.reduceSub, qp, qf, kop, av, RQ, PQ, kres, kres1, kresL, fin, fins, fin1, V.pur?, V.pur1?, V.cells, kld, ones, V.one, Value.oneCell', own, owns, own1, xfill, ksrc, kint, vint, ksub, keqs, kok, V.val1?, ofRes, rputtext_ok s h]) | (with_reducible refine wgd_cases ?_ ?_ <;> intro hb) | (with_reducible refine wcond_cases ?_ ?_ <;> intro hb) | (with_reducible refine qd_i (by kernel_rfl) ?_) | (with_reducible refine W_itn_cases ?_ ?_; omega))
end Go.Proofs.YtkbheoganajhaaaDoor.Vm
