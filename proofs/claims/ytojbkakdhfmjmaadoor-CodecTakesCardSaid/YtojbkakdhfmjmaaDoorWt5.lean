/- Proved here: the statement CodecTakes, on the machine. Conditions: none. -/
import Derived.Test.YtojbkakdhfmjmaaDoorVt6
import Derived.Test.YtojbkakdhfmjmaaDoorWt4
set_option maxRecDepth 10000
set_option linter.unusedVariables false
set_option linter.unusedSimpArgs false
namespace Go.Proofs.YtojbkakdhfmjmaaDoor.Vm
open Go Go.Proofs
theorem takeS_nil (bs : List Int) (hb : bOK bs) : smallE (takeS bs).1 := by
  unfold takeS
  cases hx : dEntry bs 0 with
  | error e => exact zero_small
  | ok p =>
    simp only
    split
    · exact (dEntry_good hb hx).1
    · exact zero_small
theorem takes_ok (bs : List Int) (r : Nat) (hb : bOK bs) (hl : bs.length < 4611686018427387904) : L.pl 4 [.list 5 (bv bs) r] = some (.ret (.bool true)) := by
  refine W_of (pl_w k4_eq ?_)
  simp only [k4]
  have hT := take_ok bs hb hl
  have hR := rtake_ok bs hb hl
  have hs := takeS_nil bs hb
  have hsame := same_ok (takeS bs).1 (takeS bs).1 hs.len (fun l hl => (hs.lines l hl).len) hs.nils hs.nils
  rw [decide_eq_true rfl] at hsame
  by_cases hml : bs.length ≤ 20000
  · have d1 : decide ((20000 : Int) < (bs.length : Int)) = false := decide_eq_false (by omega)
    simp only [encE] at hT hR hsame ⊢
    repeat' (first | (simp -implicitDefEqProofs only [ze, Nat.reduceEqDiff, Nat.reduceAdd, Nat.reduceMul, reduceIte, Nat.reduceLT, Nat.reduceLeDiff, reduceCtorEq, Int.reduceEq, Int.reduceLT, Int.reduceLE, Int.reduceNeg, Int.reduceToNat, Nat.reduceBEq, Nat.reduceSub, qp, qf, kop, av, RQ, PQ, kres, kres1, kresL, fin, fins, fin1, V.pur?, V.pur1?, V.cells, kld, ones, V.one, Value.oneCell', own, owns, own1, xfill, ksrc, kint, vint, ksub, keqs, kok, V.val1?, ofRes, hT, hR, hsame, nr_pur, lives_ok, bv_len, d1]) | (with_reducible refine wgd_cases ?_ ?_ <;> intro hb) | (with_reducible refine wcond_cases ?_ ?_ <;> intro hb) | (with_reducible refine qd_i (by kernel_rfl) ?_) | (with_reducible refine W_itn_cases ?_ ?_; omega))
  · have d1 : decide ((20000 : Int) < (bs.length : Int)) = true := decide_eq_true (by omega)
    repeat' (first | (simp -implicitDefEqProofs only [ze, Nat.reduceEqDiff, Nat.reduceAdd, Nat.reduceMul, reduceIte, Nat.reduceLT, Nat.reduceLeDiff, reduceCtorEq, Int.reduceEq, Int.reduceLT, Int.reduceLE, Int.reduceNeg, Int.reduceToNat, Nat.reduceBEq, Nat.reduceSub, qp, qf, kop, av, RQ, PQ, kres, kres1, kresL, fin, fins, fin1, V.pur?, V.pur1?, V.cells, kld, ones, V.one, Value.oneCell', own, owns, own1, xfill, ksrc, kint, vint, ksub, keqs, kok, V.val1?, ofRes, bv_len, d1]) | (with_reducible refine wgd_cases ?_ ?_ <;> intro hb) | (with_reducible refine wcond_cases ?_ ?_ <;> intro hb) | (with_reducible refine qd_i (by kernel_rfl) ?_) | (with_reducible refine W_itn_cases ?_ ?_; omega))
end Go.Proofs.YtojbkakdhfmjmaaDoor.Vm
