/- Proved here: the four bytes of a length, and the reference's frame. Conditions: none. -/
import Derived.Test.YtkbheoganajhaaaDoorWs2
import Derived.Test.YtkbheoganajhaaaDoorVu5
set_option maxRecDepth 10000
set_option linter.unusedVariables false
set_option linter.unusedSimpArgs false
namespace Go.Proofs.YtkbheoganajhaaaDoor.Vm
open Go Go.Proofs
theorem n32_24 : Nat.min 24 IntKind.u32.bits = 24 := rfl
theorem n32_16 : Nat.min 16 IntKind.u32.bits = 16 := rfl
theorem n32_8 : Nat.min 8 IntKind.u32.bits = 8 := rfl
theorem p24 : (2 : Int) ^ 24 = 16777216 := rfl
theorem p16 : (2 : Int) ^ 16 = 65536 := rfl
theorem p8 : (2 : Int) ^ 8 = 256 := rfl
theorem snum_ok (n : Int) : L.pl 52 [.sc (.int .u32 n)] = some (.ret (.list 5 (bv (four n)) (8 + 5))) := by
  refine W_of (pl_w k52_eq ?_)
  simp only [k52]
  repeat' (first | (simp -implicitDefEqProofs only [ze, Nat.reduceEqDiff, Nat.reduceAdd, Nat.reduceMul, reduceIte, Nat.reduceLT, Nat.reduceLeDiff, reduceCtorEq, Int.reduceEq, Int.reduceLT, Int.reduceLE, Int.reduceNeg, Int.reduceToNat, Nat.reduceBEq, Nat.reduceSub, qp, qf, kop, av, RQ, PQ, kres, kres1, kresL, fin, fins, fin1, V.pur?, V.pur1?, V.cells, kld, ones, V.one, Value.oneCell', own, owns, own1, xfill, ksrc, kint, vint, ksub, keqs, kok, V.val1?, ofRes, u8_mod, f24, f16, f8, p24, p16, p8, n32_24, n32_16, n32_8]) | (with_reducible refine wgd_cases ?_ ?_ <;> intro hb) | (with_reducible refine wcond_cases ?_ ?_ <;> intro hb) | (with_reducible refine qd_i (by kernel_rfl) ?_) | (with_reducible refine W_itn_cases ?_ ?_; omega))
  rfl
/-- The other length of a frame. -/
def inv (n : Int) : Int := 4294967295 - n
theorem rfour_ok (n : Int) (hn : 0 ≤ n ∧ n < 4294967296) : L.pl 57 [.i64 n, .sc (.bool false)] = some (.ret (.list 5 (bv (four n)) (8 + 5))) := by
  refine W_of (pl_w k57_eq ?_)
  simp only [k57]
  have hw : n % 4294967296 = n := Int.emod_eq_of_lt hn.1 hn.2
  repeat' (first | (simp -implicitDefEqProofs only [ze, Nat.reduceEqDiff, Nat.reduceAdd, Nat.reduceMul, reduceIte, Nat.reduceLT, Nat.reduceLeDiff, reduceCtorEq, Int.reduceEq, Int.reduceLT, Int.reduceLE, Int.reduceNeg, Int.reduceToNat, Nat.reduceBEq, Nat.reduceSub, qp, qf, kop, av, RQ, PQ, kres, kres1, kresL, fin, fins, fin1, V.pur?, V.pur1?, V.cells, kld, ones, V.one, Value.oneCell', own, owns, own1, xfill, ksrc, kint, vint, ksub, keqs, kok, V.val1?, ofRes, u8_mod, u32_mod, hw, f24, f16, f8, p24, p16, p8, n32_24, n32_16, n32_8]) | (with_reducible refine wgd_cases ?_ ?_ <;> intro hb) | (with_reducible refine wcond_cases ?_ ?_ <;> intro hb) | (with_reducible refine qd_i (by kernel_rfl) ?_) | (with_reducible refine W_itn_cases ?_ ?_; omega))
  rfl
theorem rfour_no (n : Int) (hn : 0 ≤ n ∧ n < 4294967296) : L.pl 57 [.i64 n, .sc (.bool true)] = some (.ret (.list 5 (bv (four (inv n))) (8 + 5))) := by
  refine W_of (pl_w k57_eq ?_)
  simp only [k57]
  have hw : n % 4294967296 = n := Int.emod_eq_of_lt hn.1 hn.2
  have hv : (4294967295 - n) % 4294967296 = inv n := Int.emod_eq_of_lt (by omega) (by omega)
  repeat' (first | (simp -implicitDefEqProofs only [ze, Nat.reduceEqDiff, Nat.reduceAdd, Nat.reduceMul, reduceIte, Nat.reduceLT, Nat.reduceLeDiff, reduceCtorEq, Int.reduceEq, Int.reduceLT, Int.reduceLE, Int.reduceNeg, Int.reduceToNat, Nat.reduceBEq, Nat.reduceSub, qp, qf, kop, av, RQ, PQ, kres, kres1, kresL, fin, fins, fin1, V.pur?, V.pur1?, V.cells, kld, ones, V.one, Value.oneCell', own, owns, own1, xfill, ksrc, kint, vint, ksub, keqs, kok, V.val1?, ofRes, u8_mod, u32_mod, hw, hv, f24, f16, f8, p24, p16, p8, n32_24, n32_16, n32_8]) | (with_reducible refine wgd_cases ?_ ?_ <;> intro hb) | (with_reducible refine wcond_cases ?_ ?_ <;> intro hb) | (with_reducible refine qd_i (by kernel_rfl) ?_) | (with_reducible refine W_itn_cases ?_ ?_; omega))
  rfl
/-- A frame: two lengths, the bytes, the checksum after them. -/
def frameB (bs : List Int) (s : Int) : List Int := four bs.length ++ four (inv bs.length) ++ bs ++ sumB s
theorem four_len (n : Int) : (four n).length = 4 := rfl
theorem sumB_len (s : Int) : (sumB s).length = 8 := rfl
theorem frameB_len (bs : List Int) (s : Int) : (frameB bs s).length = bs.length + 16 := by simp [frameB, four_len, sumB_len]; omega
theorem rframe_ok (s : Int) (hs : u64r s) (bs : List Int) (hb : bOK bs) (hl : bs.length < 1000000000) (r : Nat) : L.pl 33 [.sc (.int .u64 s), .list 5 (bv bs) r] = some (.ret (.tup [.list 5 (bv (frameB bs (nextI s bs))) (8 + 5), .sc (.int .u64 (nextI s bs))])) := by
  refine W_of (pl_w k33_eq ?_)
  simp only [k33]
  have hn : (0 : Int) ≤ (bs.length : Int) ∧ (bs.length : Int) < 4294967296 := ⟨by omega, by omega⟩
  have hx := rfour_ok _ hn
  have hy := rfour_no _ hn
  have hr' := nextI_r s bs hs
  have hz := rbytes_ok (nextI s bs) hr'.1 hr'.2
  have f4 : ∀ n, (bv (four n)).length = 4 := fun n => rfl
  have hne : ((4 : Nat) = 0) = False := eq_false (by decide)
  have hk0 := rnext_ok bs hb (by omega) 0 s hs
  have hk1 := rnext_ok bs hb (by omega) 1 s hs
  rcases (show (if r = 1 then 1 else 0) = 0 ∨ (if r = 1 then 1 else 0) = 1 by split <;> simp) with hr | hr
  · repeat' (first | (simp -implicitDefEqProofs only [ze, Nat.reduceEqDiff, Nat.reduceAdd, Nat.reduceMul, reduceIte, Nat.reduceLT, Nat.reduceLeDiff, reduceCtorEq, Int.reduceEq, Int.reduceLT, Int.reduceLE, Int.reduceNeg, Int.reduceToNat, Nat.reduceBEq, Nat.reduceSub, qp, qf, kop, av, RQ, PQ, kres, kres1, kresL, fin, fins, fin1, V.pur?, V.pur1?, V.cells, kld, ones, V.one, Value.oneCell', own, owns, own1, xfill, ksrc, kint, vint, ksub, keqs, kok, V.val1?, ofRes, hr, hk0, hx, hy, hz, bv_len, four_len, sumB_len, List.length_append]) | (with_reducible refine wgd_cases ?_ ?_ <;> intro hb) | (with_reducible refine wcond_cases ?_ ?_ <;> intro hb) | (with_reducible refine qd_i (by kernel_rfl) ?_) | (with_reducible refine W_itn_cases ?_ ?_; omega))
    simp [frameB, bv_app]
  · repeat' (first | (simp -implicitDefEqProofs only [ze, Nat.reduceEqDiff, Nat.reduceAdd, Nat.reduceMul, reduceIte, Nat.reduceLT, Nat.reduceLeDiff, reduceCtorEq, Int.reduceEq, Int.reduceLT, Int.reduceLE, Int.reduceNeg, Int.reduceToNat, Nat.reduceBEq, Nat.reduceSub, qp, qf, kop, av, RQ, PQ, kres, kres1, kresL, fin, fins, fin1, V.pur?, V.pur1?, V.cells, kld, ones, V.one, Value.oneCell', own, owns, own1, xfill, ksrc, kint, vint, ksub, keqs, kok, V.val1?, ofRes, hr, hk1, hx, hy, hz, bv_len, four_len, sumB_len, List.length_append]) | (with_reducible refine wgd_cases ?_ ?_ <;> intro hb) | (with_reducible refine wcond_cases ?_ ?_ <;> intro hb) | (with_reducible refine qd_i (by kernel_rfl) ?_) | (with_reducible refine W_itn_cases ?_ ?_; omega))
    simp [frameB, bv_app]
end Go.Proofs.YtkbheoganajhaaaDoor.Vm
