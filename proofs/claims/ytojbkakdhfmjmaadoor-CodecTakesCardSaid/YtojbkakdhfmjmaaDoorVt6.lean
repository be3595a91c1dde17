/- Proved here: the statement CodecCut, on the machine. Conditions: none. -/
import Derived.Test.YtojbkakdhfmjmaaDoorVp3
import Derived.Test.YtojbkakdhfmjmaaDoorVs17
set_option maxRecDepth 10000
set_option linter.unusedVariables false
set_option linter.unusedSimpArgs false
namespace Go.Proofs.YtojbkakdhfmjmaaDoor.Vm
open Go Go.Proofs
theorem inR_bOK {l : List Int} (h : inR l) : bOK l := h
theorem zero_small : smallE zeroE := ⟨by unfold small; decide, by unfold small; decide, by unfold small; decide, by simp [zeroE], by simp [zeroE], fun _ => rfl⟩
theorem zero_same : L.pl 10 [encE zeroE, encE zeroE] = some (.ret (.bool true)) := by
  rw [same_ok zeroE zeroE (by simp [zeroE]) (by simp [zeroE]) zero_small.nils zero_small.nils]
  simp
theorem cut_ok (x : Entry) (at_ : Int) (ha : i64r at_) (hx : smallE x) (rx : rangeE x) : L.pl 6 [encE x, .i64 at_] = some (.ret (.bool true)) := by
  refine W_of (pl_w k6_eq ?_)
  obtain ⟨_, hlx, b1, rfl⟩ := large_ok x hx
  have hcx := check_ok x hx rx.amts
  have hsame := zero_same
  have hz : encE zeroE = .agg [.i64 0, .str (ByteArray.mk #[]), .i64 0, .i64 0, .i64 0, .str (ByteArray.mk #[]), .str (ByteArray.mk #[]), .i64 0, .list 0 [] 1] := rfl
  simp only [k6]
  by_cases h1 : (checkS x).2 = 0
  · have hpx := check_plain h1 rx hx.nils
    rw [h1] at hcx
    have hPx := put_ok x hpx _ hcx
    have hlen : (entryB x).length < 4611686018427387904 := by
      have h2 := headB_len x hpx
      have h3 := linesB_len x.lines x.lines.length fun t ht => hpx.lines t (List.mem_of_mem_take ht)
      have h4 := hpx.len
      rw [List.take_length] at h3
      rw [entryB, List.length_append]; omega
    have hpos : 0 < (entryB x).length := by
      have := Co.putS_ne x.no
      have : 0 < (Co.putS x.no).length := List.length_pos_iff.mpr this
      simp only [entryB, headB, List.length_append]; omega
    by_cases hat : 0 ≤ at_ ∧ at_ < (entryB x).length
    · have hcut := take_cut x hpx h1 at_.toNat (by omega)
      have hT := take_ok ((entryB x).take at_.toNat) (fun b hb => inR_bOK (entryB_inR hpx) b (List.mem_of_mem_take hb)) (by rw [List.length_take]; omega) 0
      rw [hcut] at hT
      simp only [hz] at hT hsame
      have d1 : decide (at_ < 0) = false := decide_eq_false (by omega)
      have d2 : decide (((entryB x).length : Int) ≤ at_) = false := decide_eq_false (by omega)
      simp only [encE] at hlx hPx ⊢
      repeat' (first | (simp -implicitDefEqProofs only [ze, Nat.reduceEqDiff, Nat.reduceAdd, Nat.reduceMul, reduceIte, Nat.reduceLT, Nat.reduceLeDiff, reduceCtorEq, Int.reduceEq, Int.reduceLT, Int.reduceLE, Int.reduceNeg, Int.reduceToNat, Nat.reduceBEq, Nat.reduceSub, qp, qf, kop, av, RQ, PQ, kres, kres1, kresL, fin, fins, fin1, V.pur?, V.pur1?, V.cells, kld, ones, V.one, Value.oneCell', own, owns, own1, xfill, ksrc, kint, vint, ksub, keqs, kok, V.val1?, ofRes, hlx, hPx, hT, hsame, nr_pur, lives_ok, bv_len, bv_tk, d1, d2, ne_eq, not_true_eq_false, gt_iff_lt]) | (with_reducible refine wgd_cases ?_ ?_ <;> intro hb) | (with_reducible refine wcond_cases ?_ ?_ <;> intro hb) | (with_reducible refine qd_i (by kernel_rfl) ?_) | (with_reducible refine W_itn_cases ?_ ?_; omega))
    · have d4 : decide ((0 : Int) < ((entryB x).length : Int)) = true := decide_eq_true (by omega)
      simp only [encE] at hlx hPx ⊢
      by_cases hn : at_ < 0
      · have d1 : decide (at_ < 0) = true := decide_eq_true hn
        repeat' (first | (simp -implicitDefEqProofs only [ze, Nat.reduceEqDiff, Nat.reduceAdd, Nat.reduceMul, reduceIte, Nat.reduceLT, Nat.reduceLeDiff, reduceCtorEq, Int.reduceEq, Int.reduceLT, Int.reduceLE, Int.reduceNeg, Int.reduceToNat, Nat.reduceBEq, Nat.reduceSub, qp, qf, kop, av, RQ, PQ, kres, kres1, kresL, fin, fins, fin1, V.pur?, V.pur1?, V.cells, kld, ones, V.one, Value.oneCell', own, owns, own1, xfill, ksrc, kint, vint, ksub, keqs, kok, V.val1?, ofRes, hlx, hPx, nr_pur, lives_ok, bv_len, d1, d4]) | (with_reducible refine wgd_cases ?_ ?_ <;> intro hb) | (with_reducible refine wcond_cases ?_ ?_ <;> intro hb) | (with_reducible refine qd_i (by kernel_rfl) ?_) | (with_reducible refine W_itn_cases ?_ ?_; omega))
      · have d1 : decide (at_ < 0) = false := decide_eq_false hn
        have d2 : decide (((entryB x).length : Int) ≤ at_) = true := decide_eq_true (by omega)
        repeat' (first | (simp -implicitDefEqProofs only [ze, Nat.reduceEqDiff, Nat.reduceAdd, Nat.reduceMul, reduceIte, Nat.reduceLT, Nat.reduceLeDiff, reduceCtorEq, Int.reduceEq, Int.reduceLT, Int.reduceLE, Int.reduceNeg, Int.reduceToNat, Nat.reduceBEq, Nat.reduceSub, qp, qf, kop, av, RQ, PQ, kres, kres1, kresL, fin, fins, fin1, V.pur?, V.pur1?, V.cells, kld, ones, V.one, Value.oneCell', own, owns, own1, xfill, ksrc, kint, vint, ksub, keqs, kok, V.val1?, ofRes, hlx, hPx, nr_pur, lives_ok, bv_len, d1, d2, d4]) | (with_reducible refine wgd_cases ?_ ?_ <;> intro hb) | (with_reducible refine wcond_cases ?_ ?_ <;> intro hb) | (with_reducible refine qd_i (by kernel_rfl) ?_) | (with_reducible refine W_itn_cases ?_ ?_; omega))
  · have d1 : decide ((checkS x).2 = 0) = false := decide_eq_false h1
    have hPx := put_bad x _ _ hcx h1
    simp only [encE] at hlx hPx ⊢
    have d3 : decide ((0 : Int) < ((0 : Nat) : Int)) = false := rfl
    repeat' (first | (simp -implicitDefEqProofs only [ze, Nat.reduceEqDiff, Nat.reduceAdd, Nat.reduceMul, reduceIte, Nat.reduceLT, Nat.reduceLeDiff, reduceCtorEq, Int.reduceEq, Int.reduceLT, Int.reduceLE, Int.reduceNeg, Int.reduceToNat, Nat.reduceBEq, Nat.reduceSub, qp, qf, kop, av, RQ, PQ, kres, kres1, kresL, fin, fins, fin1, V.pur?, V.pur1?, V.cells, kld, ones, V.one, Value.oneCell', own, owns, own1, xfill, ksrc, kint, vint, ksub, keqs, kok, V.val1?, ofRes, hlx, hPx, nr_pur, lives_ok, d1, d3]) | (with_reducible refine wgd_cases ?_ ?_ <;> intro hb) | (with_reducible refine wcond_cases ?_ ?_ <;> intro hb) | (with_reducible refine qd_i (by kernel_rfl) ?_) | (with_reducible refine W_itn_cases ?_ ?_; omega))
end Go.Proofs.YtojbkakdhfmjmaaDoor.Vm
