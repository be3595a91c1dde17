/- Proved here: what the decoders of integers and texts return. Conditions: none. -/
import Derived.Test.YtkbheoganajhaaaDoorVs8
set_option maxRecDepth 10000
set_option linter.unusedVariables false
set_option linter.unusedSimpArgs false
namespace Go.Proofs.YtkbheoganajhaaaDoor.Vm
open Go Go.Proofs
def bOK (bs : List Int) : Prop := ∀ b ∈ bs, 0 ≤ b ∧ b < 256
theorem bOK.drop {bs : List Int} (h : bOK bs) (n : Nat) : bOK (bs.drop n) := fun b hb => h b (List.mem_of_mem_drop hb)
theorem bv_get (bs : List Int) (i : Nat) : (bv bs)[i]? = (bs[i]?).map fun b => V.sc (.int .u8 b) := by simp [bv]
theorem tS_10 (l : List Int) (x : Int) : Co.tS l 10 x = (0, 0, 5) := by cases l <;> simp [Co.tS]
theorem takefin (y : Int) (h0 : 0 ≤ y) (h1 : y < 18446744073709551616) : Go.bits .xor .i64 (IntKind.i64.wrap (y.fdiv (2 ^ Nat.min 1 IntKind.u64.bits))) (IntKind.i64.wrap (0 - IntKind.i64.wrap (Go.bits .and .u64 y 1))) = Co.fin y := by
  rw [shr_eq y _ 2 (by decide)]
  have := Co.fin_xor y h0 h1
  have e : ∀ z, IntKind.i64.wrap z = RowKit.wrap64 z := fun z => by rw [IntKind.wrap_i64]; unfold RowKit.wrap64; omega
  rw [Int.zero_sub, e, e, e]
  exact this
theorem takeint_ok (bs : List Int) (hb : bOK bs) (hl : bs.length < 4611686018427387904) (r : Nat) : L.pl 104 [.list 5 (bv bs) r] = some (.ret (.tup [.i64 (Co.tS bs 0 0).1, .i64 (Co.tS bs 0 0).2.1, .i64 (Co.tS bs 0 0).2.2])) := by
  refine W_of (pl_w k104_eq ?_)
  simp only [k104]
  repeat' (first | (simp -implicitDefEqProofs only [ze, Nat.reduceEqDiff, Nat.reduceAdd, Nat.reduceMul, reduceIte, Nat.reduceLT, Nat.reduceLeDiff, reduceCtorEq, Int.reduceEq, Int.reduceLT, Int.reduceLE, Int.reduceNeg, Int.reduceToNat, Nat.reduceBEq, Nat.reduceSub, qp, qf, kop, av, RQ, PQ, kres, kres1, kresL, fin, fins, fin1, V.pur?, V.pur1?, V.cells, kld, ones, V.one, Value.oneCell', own, owns, own1, xfill, ksrc, kint, vint, ksub, keqs, kok, V.val1?, ofRes]) | (with_reducible refine wgd_cases ?_ ?_ <;> intro hb) | (with_reducible refine wcond_cases ?_ ?_ <;> intro hb) | (with_reducible refine qd_i (by kernel_rfl) ?_) | (with_reducible refine W_itn_cases ?_ ?_; omega))
  refine loop_w (fun n tm st nx => ∃ (i : Nat) (x : Int), n = 10 - i ∧ i ≤ 10 ∧ i ≤ bs.length ∧ 0 ≤ x ∧ x < 128 ^ i ∧ Co.tS (bs.drop i) i x = Co.tS bs 0 0 ∧ tm 8 = .i64 i ∧ tm 5 = .sc (.int .u64 x) ∧ tm 0 = .list 5 (bv bs) r) 10 ⟨0, 0, by omega, by omega, by omega, by omega, by decide, rfl, ?_, ?_, ?_⟩ ?_
  · simp -implicitDefEqProofs only [ze, Nat.reduceEqDiff, Nat.reduceAdd, Nat.reduceMul, reduceIte, Nat.reduceLT, Nat.reduceLeDiff, reduceCtorEq, Int.reduceEq, Int.reduceLT, Int.reduceLE, Int.reduceNeg, Int.reduceToNat, Nat.reduceBEq, Nat.reduceSub, qp, qf, kop, av, RQ, PQ, kres, kres1, kresL, fin, fins, fin1, V.pur?, V.pur1?, V.cells, kld, ones, V.one, Value.oneCell', own, owns, own1, xfill, ksrc, kint, vint, ksub, keqs, kok, V.val1?, ofRes]; rfl
  · simp -implicitDefEqProofs only [ze, Nat.reduceEqDiff, Nat.reduceAdd, Nat.reduceMul, reduceIte, Nat.reduceLT, Nat.reduceLeDiff, reduceCtorEq, Int.reduceEq, Int.reduceLT, Int.reduceLE, Int.reduceNeg, Int.reduceToNat, Nat.reduceBEq, Nat.reduceSub, qp, qf, kop, av, RQ, PQ, kres, kres1, kresL, fin, fins, fin1, V.pur?, V.pur1?, V.cells, kld, ones, V.one, Value.oneCell', own, owns, own1, xfill, ksrc, kint, vint, ksub, keqs, kok, V.val1?, ofRes]
  · simp -implicitDefEqProofs only [ze, Nat.reduceEqDiff, Nat.reduceAdd, Nat.reduceMul, reduceIte, Nat.reduceLT, Nat.reduceLeDiff, reduceCtorEq, Int.reduceEq, Int.reduceLT, Int.reduceLE, Int.reduceNeg, Int.reduceToNat, Nat.reduceBEq, Nat.reduceSub, qp, qf, kop, av, RQ, PQ, kres, kres1, kresL, fin, fins, fin1, V.pur?, V.pur1?, V.cells, kld, ones, V.one, Value.oneCell', own, owns, own1, xfill, ksrc, kint, vint, ksub, keqs, kok, V.val1?, ofRes]
  rintro n tm st nx ⟨i, x, hn, hi, hil, hx0, hx1, hts, h8, h5, h0⟩
  simp only [k104_l0, k104_t0]
  by_cases hlt : i < 10
  · have hd : decide ((i : Int) < 10) = true := decide_eq_true (by omega)
    by_cases hend : i = bs.length
    · have hd2 : decide ((i : Int) = (bs.length : Int)) = true := decide_eq_true (by omega)
      have e : bs.drop i = [] := List.drop_eq_nil_of_le (by omega)
      rw [e] at hts
      simp only [Co.tS, if_pos hlt] at hts
      repeat' (first | (simp -implicitDefEqProofs only [ze, Nat.reduceEqDiff, Nat.reduceAdd, Nat.reduceMul, reduceIte, Nat.reduceLT, Nat.reduceLeDiff, reduceCtorEq, Int.reduceEq, Int.reduceLT, Int.reduceLE, Int.reduceNeg, Int.reduceToNat, Nat.reduceBEq, Nat.reduceSub, qp, qf, kop, av, RQ, PQ, kres, kres1, kresL, fin, fins, fin1, V.pur?, V.pur1?, V.cells, kld, ones, V.one, Value.oneCell', own, owns, own1, xfill, ksrc, kint, vint, ksub, keqs, kok, V.val1?, ofRes, h8, h5, h0, hd, bv_len, hd2, ← hts]) | (with_reducible refine wgd_cases ?_ ?_ <;> intro hb) | (with_reducible refine wcond_cases ?_ ?_ <;> intro hb) | (with_reducible refine qd_i (by kernel_rfl) ?_) | (with_reducible refine W_itn_cases ?_ ?_; omega))
    · have hd2 : decide ((i : Int) = (bs.length : Int)) = false := decide_eq_false (by omega)
      obtain ⟨b, hb1⟩ := get_lt (l := bs) (i := i) (by omega)
      obtain ⟨hb2, hb3⟩ := hb b (List.mem_of_getElem? hb1)
      have e : bs.drop i = b :: bs.drop (i + 1) := by rw [List.drop_eq_getElem_cons (by omega)]; rw [List.getElem?_eq_getElem (by omega)] at hb1; rw [Option.some.inj hb1]
      rw [e] at hts
      simp only [Co.tS, if_pos hlt] at hts
      have hm : IntKind.i64.wrap (7 * (i : Int)) = 7 * (i : Int) := wrap_i64 (by omega) (by omega)
      have hup : IntKind.i64.wrap ((i : Int) + 1) = ((i + 1 : Nat) : Int) := wrap_i64 (by omega) (by omega)
      have hneg : (7 * (i : Int) < 0) = False := eq_false (by omega)
      have hgo : Co.badS i b = false → ∃ y, Go.bits .or .u64 x (IntKind.u64.wrap (IntKind.u64.wrap (Go.bits .and .u8 b 127) * 2 ^ Nat.min (7 * (i : Int)).toNat IntKind.u64.bits)) = y ∧ y = x + b % 128 * 128 ^ i ∧ 0 ≤ y ∧ y < 18446744073709551616 ∧ y < 128 ^ (i + 1) := fun h => by
        obtain ⟨g1, g2⟩ := Co.bad_no h
        obtain ⟨s1, s2, s3⟩ := Co.step_bound i x b hlt hx0 hx1 hb2 hb3 g1
        refine ⟨x + b % 128 * 128 ^ i, ?_, rfl, by omega, s2, s3⟩
        have := Co.or_shift i x b hlt hx0 hx1 hb2 hb3 g1
        rw [Co.w64_small (by omega) (by omega)] at this
        exact this
      repeat' (first | (simp -implicitDefEqProofs only [ze, Nat.reduceEqDiff, Nat.reduceAdd, Nat.reduceMul, reduceIte, Nat.reduceLT, Nat.reduceLeDiff, reduceCtorEq, Int.reduceEq, Int.reduceLT, Int.reduceLE, Int.reduceNeg, Int.reduceToNat, Nat.reduceBEq, Nat.reduceSub, qp, qf, kop, av, RQ, PQ, kres, kres1, kresL, fin, fins, fin1, V.pur?, V.pur1?, V.cells, kld, ones, V.one, Value.oneCell', own, owns, own1, xfill, ksrc, kint, vint, ksub, keqs, kok, V.val1?, ofRes, h8, h5, h0, hd, hd2, bv_len, bv_get, hb1, hm, hneg, hup]) | (with_reducible refine wgd_cases ?_ ?_ <;> intro hb) | (with_reducible refine wcond_cases ?_ ?_ <;> intro hb) | (with_reducible refine qd_i (by kernel_rfl) ?_) | (with_reducible refine W_itn_cases ?_ ?_; omega))
      all_goals (simp only [decide_eq_true_eq, decide_eq_false_iff_not] at *)
      all_goals first
        | (exfalso; omega)
        | (have hB : Co.badS i b = true := by (simp only [Co.badS, Bool.or_eq_true, Bool.and_eq_true, decide_eq_true_eq]; omega)
           rw [if_pos hB] at hts; rw [← hts])
        | (have hB : Co.badS i b = false := by (simp only [Co.badS, Bool.or_eq_false_iff, Bool.and_eq_false_iff, decide_eq_false_iff_not]; omega)
           obtain ⟨y, hy1, hy2, hy3, hy4, hy5⟩ := hgo hB
           rw [if_neg (by rw [hB]; simp), ← hy2] at hts
           first
           | (rw [if_pos (by assumption)] at hts; rw [← hts, hy1, takefin y hy3 hy4])
           | (rw [if_neg (by assumption)] at hts; exact ⟨10 - (i + 1), by omega, i + 1, y, rfl, by omega, by omega, hy3, hy5, hts, rfl, by rw [hy1]⟩))
  · have : i = 10 := by omega
    subst this
    have hd : decide (((10 : Nat) : Int) < 10) = false := by decide
    rw [tS_10] at hts
    repeat' (first | (simp -implicitDefEqProofs only [ze, Nat.reduceEqDiff, Nat.reduceAdd, Nat.reduceMul, reduceIte, Nat.reduceLT, Nat.reduceLeDiff, reduceCtorEq, Int.reduceEq, Int.reduceLT, Int.reduceLE, Int.reduceNeg, Int.reduceToNat, Nat.reduceBEq, Nat.reduceSub, qp, qf, kop, av, RQ, PQ, kres, kres1, kresL, fin, fins, fin1, V.pur?, V.pur1?, V.cells, kld, ones, V.one, Value.oneCell', own, owns, own1, xfill, ksrc, kint, vint, ksub, keqs, kok, V.val1?, ofRes, h8, h5, h0, hd, ← hts]) | (with_reducible refine wgd_cases ?_ ?_ <;> intro hb) | (with_reducible refine wcond_cases ?_ ?_ <;> intro hb) | (with_reducible refine qd_i (by kernel_rfl) ?_) | (with_reducible refine W_itn_cases ?_ ?_; omega))
/-- Bytes as a string. -/
def strB (l : List Int) : ByteArray := ⟨(l.map fun b => UInt8.ofNat b.toNat).toArray⟩
theorem strB_len (l : List Int) : (strB l).size = l.length := by simp [strB, ByteArray.size]
theorem strB_of (s : ByteArray) : strB (Co.bytesOf s) = s := by
  unfold strB Co.bytesOf
  rw [List.map_map]
  have : (s.data.toList.map ((fun b : Int => UInt8.ofNat b.toNat) ∘ fun b : UInt8 => (b.toNat : Int))) = s.data.toList := by
    conv => rhs; rw [← List.map_id s.data.toList]
    apply List.map_congr_left
    intro b _
    simp
  rw [this]
/-- The text at the beginning of bytes: the text, the bytes used, the error. -/
def tT (bs : List Int) : ByteArray × Int × Int :=
  let q := Co.tS bs 0 0
  if q.2.2 ≠ 0 then (ByteArray.mk #[], 0, q.2.2)
  else if q.1 < 0 ∨ 60 < q.1 then (ByteArray.mk #[], 0, 9)
  else if (bs.length : Int) - q.2.1 < q.1 then (ByteArray.mk #[], 0, 6)
  else if plainS (strB ((bs.drop q.2.1.toNat).take q.1.toNat)) = false then (ByteArray.mk #[], 0, 5)
  else (strB ((bs.drop q.2.1.toNat).take q.1.toNat), q.2.1 + q.1, 0)
theorem bytesOfV_bq : ∀ (l : List Int), bytesOfV (bv l) = some (l.map fun b => UInt8.ofNat b.toNat)
  | [] => rfl
  | b :: l => by
    have := bytesOfV_bq l
    simp only [bv] at this
    simp only [bv, List.map_cons, bytesOfV, this, Option.map_some]
theorem bv_tk (l : List Int) (n : Nat) : (bv l).take n = bv (l.take n) := by simp [bv, List.map_take]
theorem bv_dp (l : List Int) (n : Nat) : (bv l).drop n = bv (l.drop n) := by simp [bv, List.map_drop]
theorem taketext_ok (bs : List Int) (hb : bOK bs) (hl : bs.length < 4611686018427387904) (r : Nat) : L.pl 105 [.list 5 (bv bs) r] = some (.ret (.tup [.str (tT bs).1, .i64 (tT bs).2.1, .i64 (tT bs).2.2])) := by
  refine W_of (pl_w k105_eq ?_)
  simp only [k105]
  have hp := Co.tS_pos bs 0 0
  unfold tT
  have ht := takeint_ok bs hb hl
  generalize hq : Co.tS bs 0 0 = q at hp ht ⊢
  obtain ⟨n, at_, e⟩ := q
  simp only at hp ht ⊢
  by_cases he : e = 0
  · subst he
    by_cases hn : n < 0 ∨ 60 < n
    · repeat' (first | (simp -implicitDefEqProofs only [ze, Nat.reduceEqDiff, Nat.reduceAdd, Nat.reduceMul, reduceIte, Nat.reduceLT, Nat.reduceLeDiff, reduceCtorEq, Int.reduceEq, Int.reduceLT, Int.reduceLE, Int.reduceNeg, Int.reduceToNat, Nat.reduceBEq, Nat.reduceSub, qp, qf, kop, av, RQ, PQ, kres, kres1, kresL, fin, fins, fin1, V.pur?, V.pur1?, V.cells, kld, ones, V.one, Value.oneCell', own, owns, own1, xfill, ksrc, kint, vint, ksub, keqs, kok, V.val1?, ofRes, ht, bv_len]) | (with_reducible refine wgd_cases ?_ ?_ <;> intro hb) | (with_reducible refine wcond_cases ?_ ?_ <;> intro hb) | (with_reducible refine qd_i (by kernel_rfl) ?_) | (with_reducible refine W_itn_cases ?_ ?_; omega))
      all_goals (simp only [decide_eq_true_eq, decide_eq_false_iff_not] at *)
      all_goals first | (exfalso; omega) | simp [hn]
    · have hd1 : decide (n < 0) = false := decide_eq_false (by omega)
      have hd2 : decide (60 < n) = false := decide_eq_false (by omega)
      have hw : IntKind.i64.wrap ((bs.length : Int) - at_) = (bs.length : Int) - at_ := wrap_i64 (by omega) (by omega)
      have hw2 : IntKind.i64.wrap (at_ + n) = at_ + n := wrap_i64 (by omega) (by omega)
      by_cases hs : (bs.length : Int) - at_ < n
      · have hd3 : decide ((bs.length : Int) - at_ < n) = true := decide_eq_true hs
        repeat' (first | (simp -implicitDefEqProofs only [ze, Nat.reduceEqDiff, Nat.reduceAdd, Nat.reduceMul, reduceIte, Nat.reduceLT, Nat.reduceLeDiff, reduceCtorEq, Int.reduceEq, Int.reduceLT, Int.reduceLE, Int.reduceNeg, Int.reduceToNat, Nat.reduceBEq, Nat.reduceSub, qp, qf, kop, av, RQ, PQ, kres, kres1, kresL, fin, fins, fin1, V.pur?, V.pur1?, V.cells, kld, ones, V.one, Value.oneCell', own, owns, own1, xfill, ksrc, kint, vint, ksub, keqs, kok, V.val1?, ofRes, ht, bv_len, hd1, hd2, hw, hd3]) | (with_reducible refine wgd_cases ?_ ?_ <;> intro hb) | (with_reducible refine wcond_cases ?_ ?_ <;> intro hb) | (with_reducible refine qd_i (by kernel_rfl) ?_) | (with_reducible refine W_itn_cases ?_ ?_; omega))
        simp [hn, hs]
      · have hd3 : decide ((bs.length : Int) - at_ < n) = false := decide_eq_false hs
        have heq : strB ((bs.drop at_.toNat).take n.toNat) = ByteArray.mk (List.map (fun b => UInt8.ofNat b.toNat) (List.drop at_.toNat (List.take (at_ + n).toNat bs))).toArray := by
          unfold strB
          rw [List.take_drop, show at_.toNat + n.toNat = (at_ + n).toNat by omega]
        repeat' (first | (simp -implicitDefEqProofs only [ze, Nat.reduceEqDiff, Nat.reduceAdd, Nat.reduceMul, reduceIte, Nat.reduceLT, Nat.reduceLeDiff, reduceCtorEq, Int.reduceEq, Int.reduceLT, Int.reduceLE, Int.reduceNeg, Int.reduceToNat, Nat.reduceBEq, Nat.reduceSub, qp, qf, kop, av, RQ, PQ, kres, kres1, kresL, fin, fins, fin1, V.pur?, V.pur1?, V.cells, kld, ones, V.one, Value.oneCell', own, owns, own1, xfill, ksrc, kint, vint, ksub, keqs, kok, V.val1?, ofRes, ht, bv_len, hd1, hd2, hw, hw2, hd3, bytesOfV_bq, bv_tk, bv_dp, plain_ok]) | (with_reducible refine wgd_cases ?_ ?_ <;> intro hb) | (with_reducible refine wcond_cases ?_ ?_ <;> intro hb) | (with_reducible refine qd_i (by kernel_rfl) ?_) | (with_reducible refine W_itn_cases ?_ ?_; omega))
        all_goals (simp only [Bool.not_eq_eq_eq_not, Bool.not_true, Bool.not_false] at *; rw [← heq] at *; simp [hn, hs, *])
  · have hd : decide (e = 0) = false := decide_eq_false he
    repeat' (first | (simp -implicitDefEqProofs only [ze, Nat.reduceEqDiff, Nat.reduceAdd, Nat.reduceMul, reduceIte, Nat.reduceLT, Nat.reduceLeDiff, reduceCtorEq, Int.reduceEq, Int.reduceLT, Int.reduceLE, Int.reduceNeg, Int.reduceToNat, Nat.reduceBEq, Nat.reduceSub, qp, qf, kop, av, RQ, PQ, kres, kres1, kresL, fin, fins, fin1, V.pur?, V.pur1?, V.cells, kld, ones, V.one, Value.oneCell', own, owns, own1, xfill, ksrc, kint, vint, ksub, keqs, kok, V.val1?, ofRes, ht, hd]) | (with_reducible refine wgd_cases ?_ ?_ <;> intro hb) | (with_reducible refine wcond_cases ?_ ?_ <;> intro hb) | (with_reducible refine qd_i (by kernel_rfl) ?_) | (with_reducible refine W_itn_cases ?_ ?_; omega))
    simp [he]
end Go.Proofs.YtkbheoganajhaaaDoor.Vm
