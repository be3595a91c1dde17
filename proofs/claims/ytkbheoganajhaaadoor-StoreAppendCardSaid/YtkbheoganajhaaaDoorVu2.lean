/- Proved here: what the reference's sums of a currency return. Conditions: none. -/
import Derived.Test.YtkbheoganajhaaaDoorVu1
set_option maxRecDepth 10000
set_option linter.unusedVariables false
set_option linter.unusedSimpArgs false
namespace Go.Proofs.YtkbheoganajhaaaDoor.Vm
open Go Go.Proofs
theorem iv_app1 (A : List Int) (x : Int) : iv (A ++ [x]) = iv A ++ [V.i64 x] := by simp [iv]
theorem selA_take (ls : List Line) (k : ByteArray) (i : Nat) (l : Line) (h : ls[i]? = some l) : selA (ls.take (i + 1)) k = if l.cur = k then selA (ls.take i) k ++ [l.amt] else selA (ls.take i) k := by
  rw [List.take_add_one, h]
  unfold selA
  rw [List.filter_append, List.map_append]
  split <;> rename_i hc <;> simp [hc]
theorem selB_take (ls : List Line) (k : ByteArray) (i : Nat) (l : Line) (h : ls[i]? = some l) : selB (ls.take (i + 1)) k = if l.cur = k then selB (ls.take i) k ++ [l.base] else selB (ls.take i) k := by
  rw [List.take_add_one, h]
  unfold selB
  rw [List.filter_append, List.map_append]
  split <;> rename_i hc <;> simp [hc]
/-- Two lists of integers that are being made. -/
def PairI (st : St) (nx : Nat) (A B : List Int) (va vb : V) : Prop := (A = [] ∧ B = [] ∧ va = .list 0 [] 1 ∧ vb = .list 0 [] 1) ∨
  ∃ ra rb, ra ≠ rb ∧ 8 ≤ ra ∧ 8 ≤ rb ∧ ra < nx ∧ rb < nx ∧ va = .list 3 (iv A) ra ∧ vb = .list 3 (iv B) rb ∧ st ra = some (.tok A.length 3) ∧ st rb = some (.tok B.length 3)
theorem rsums_ok (ls : List Line) (r : Nat) (k : ByteArray) (ha : amts ls) (hl : ls.length < 1000000) (hk : ∃ l ∈ ls, l.cur = k) :
    L.pl 44 [.list 61 (ls.map encL) r, .str k] = some (.ret (.tup [.i64 (if inI64 (selA ls k).sum = true then (selA ls k).sum else 0), .i64 (if inI64 (selB ls k).sum = true then (selB ls k).sum else 0), .bool (inI64 (selA ls k).sum && inI64 (selB ls k).sum)])) := by
  refine W_of (pl_w k44_eq ?_)
  simp only [k44]
  have hsm := sel_mem ha k
  have hlA : ∀ i, (selA (ls.take i) k).length ≤ ls.length := fun i => by
    unfold selA; rw [List.length_map]; exact Nat.le_trans (List.length_filter_le _ _) (by rw [List.length_take]; omega)
  have hlB : ∀ i, (selB (ls.take i) k).length ≤ ls.length := fun i => by
    unfold selB; rw [List.length_map]; exact Nat.le_trans (List.length_filter_le _ _) (by rw [List.length_take]; omega)
  repeat' (first | (simp -implicitDefEqProofs only [ze, Nat.reduceEqDiff, Nat.reduceAdd, Nat.reduceMul, reduceIte, Nat.reduceLT, Nat.reduceLeDiff, reduceCtorEq, Int.reduceEq, Int.reduceLT, Int.reduceLE, Int.reduceNeg, Int.reduceToNat, Nat.reduceBEq, Nat.reduceSub, qp, qf, kop, av, RQ, PQ, kres, kres1, kresL, fin, fins, fin1, V.pur?, V.pur1?, V.cells, kld, ones, V.one, Value.oneCell', own, owns, own1, xfill, ksrc, kint, vint, ksub, keqs, kok, V.val1?, ofRes, List.length_map]) | (with_reducible refine wgd_cases ?_ ?_ <;> intro hb) | (with_reducible refine wcond_cases ?_ ?_ <;> intro hb) | (with_reducible refine qd_i (by kernel_rfl) ?_) | (with_reducible refine W_itn_cases ?_ ?_; omega))
  refine loop_w (fun n tm st nx => ∃ (i : Nat) (va vb : V), n = ls.length - i ∧ i ≤ ls.length ∧ tm 9 = .i64 i ∧ tm 0 = .list 61 (ls.map encL) r ∧ tm 1 = .str k ∧ tm 7 = va ∧ tm 8 = vb ∧ PairI st nx (selA (ls.take i) k) (selB (ls.take i) k) va vb) ls.length ⟨0, _, _, by omega, by omega, ?_, ?_, ?_, rfl, rfl, .inl ⟨rfl, rfl, ?_, ?_⟩⟩ ?_
  · simp -implicitDefEqProofs only [ze, Nat.reduceEqDiff, Nat.reduceAdd, Nat.reduceMul, reduceIte, Nat.reduceLT, Nat.reduceLeDiff, reduceCtorEq, Int.reduceEq, Int.reduceLT, Int.reduceLE, Int.reduceNeg, Int.reduceToNat, Nat.reduceBEq, Nat.reduceSub, qp, qf, kop, av, RQ, PQ, kres, kres1, kresL, fin, fins, fin1, V.pur?, V.pur1?, V.cells, kld, ones, V.one, Value.oneCell', own, owns, own1, xfill, ksrc, kint, vint, ksub, keqs, kok, V.val1?, ofRes]; rfl
  · simp -implicitDefEqProofs only [ze, Nat.reduceEqDiff, Nat.reduceAdd, Nat.reduceMul, reduceIte, Nat.reduceLT, Nat.reduceLeDiff, reduceCtorEq, Int.reduceEq, Int.reduceLT, Int.reduceLE, Int.reduceNeg, Int.reduceToNat, Nat.reduceBEq, Nat.reduceSub, qp, qf, kop, av, RQ, PQ, kres, kres1, kresL, fin, fins, fin1, V.pur?, V.pur1?, V.cells, kld, ones, V.one, Value.oneCell', own, owns, own1, xfill, ksrc, kint, vint, ksub, keqs, kok, V.val1?, ofRes]
  · simp -implicitDefEqProofs only [ze, Nat.reduceEqDiff, Nat.reduceAdd, Nat.reduceMul, reduceIte, Nat.reduceLT, Nat.reduceLeDiff, reduceCtorEq, Int.reduceEq, Int.reduceLT, Int.reduceLE, Int.reduceNeg, Int.reduceToNat, Nat.reduceBEq, Nat.reduceSub, qp, qf, kop, av, RQ, PQ, kres, kres1, kresL, fin, fins, fin1, V.pur?, V.pur1?, V.cells, kld, ones, V.one, Value.oneCell', own, owns, own1, xfill, ksrc, kint, vint, ksub, keqs, kok, V.val1?, ofRes]
  · simp -implicitDefEqProofs only [ze, Nat.reduceEqDiff, Nat.reduceAdd, Nat.reduceMul, reduceIte, Nat.reduceLT, Nat.reduceLeDiff, reduceCtorEq, Int.reduceEq, Int.reduceLT, Int.reduceLE, Int.reduceNeg, Int.reduceToNat, Nat.reduceBEq, Nat.reduceSub, qp, qf, kop, av, RQ, PQ, kres, kres1, kresL, fin, fins, fin1, V.pur?, V.pur1?, V.cells, kld, ones, V.one, Value.oneCell', own, owns, own1, xfill, ksrc, kint, vint, ksub, keqs, kok, V.val1?, ofRes]
  · simp -implicitDefEqProofs only [ze, Nat.reduceEqDiff, Nat.reduceAdd, Nat.reduceMul, reduceIte, Nat.reduceLT, Nat.reduceLeDiff, reduceCtorEq, Int.reduceEq, Int.reduceLT, Int.reduceLE, Int.reduceNeg, Int.reduceToNat, Nat.reduceBEq, Nat.reduceSub, qp, qf, kop, av, RQ, PQ, kres, kres1, kresL, fin, fins, fin1, V.pur?, V.pur1?, V.cells, kld, ones, V.one, Value.oneCell', own, owns, own1, xfill, ksrc, kint, vint, ksub, keqs, kok, V.val1?, ofRes]
  rintro n tm st nx ⟨i, va, vb, hn, hi2, h9, h0, h1, h7, h8, hp⟩
  simp only [k44_l0]
  by_cases hlt : i < ls.length
  · obtain ⟨l, hl2⟩ := get_lt hlt
    have hd : decide ((i : Int) < (ls.length : Int)) = true := decide_eq_true (by omega)
    have eA := selA_take ls k i l hl2
    have eB := selB_take ls k i l hl2
    have cA := hlA i
    have cB := hlB i
    by_cases hc : l.cur = k
    · have hdc : decide (l.cur = k) = true := decide_eq_true hc
      rw [if_pos hc] at eA eB
      rcases hp with ⟨hA, hB, rfl, rfl⟩ | ⟨ra, rb, hne, h8a, h8b, hna, hnb, rfl, rfl, hsa, hsb⟩
      · repeat' (first | (simp -implicitDefEqProofs only [ze, Nat.reduceEqDiff, Nat.reduceAdd, Nat.reduceMul, reduceIte, Nat.reduceLT, Nat.reduceLeDiff, reduceCtorEq, Int.reduceEq, Int.reduceLT, Int.reduceLE, Int.reduceNeg, Int.reduceToNat, Nat.reduceBEq, Nat.reduceSub, qp, qf, kop, av, RQ, PQ, kres, kres1, kresL, fin, fins, fin1, V.pur?, V.pur1?, V.cells, kld, ones, V.one, Value.oneCell', own, owns, own1, xfill, ksrc, kint, vint, ksub, keqs, kok, V.val1?, ofRes, h9, h0, h1, h7, h8, hd, hl2, encL, hdc, List.length_map]) | (with_reducible refine wgd_cases ?_ ?_ <;> intro hb) | (with_reducible refine wcond_cases ?_ ?_ <;> intro hb) | (with_reducible refine qd_i (by kernel_rfl) ?_) | (with_reducible refine W_itn_cases ?_ ?_; omega))
        exact ⟨ls.length - (i + 1), by omega, i + 1, _, _, rfl, by omega, up64 (by omega), rfl, rfl, .inr ⟨nx + 144, nx + 216, by omega, by omega, by omega, by omega, by omega, by rw [eA, hA]; rfl, by rw [eB, hB]; rfl, by rw [eA, hA]; simp [upd_at], by rw [eB, hB]; simp [upd_at]⟩⟩
      · have a0 : (ra = 0) = False := eq_false (by omega)
        have a1 : (ra = 1) = False := eq_false (by omega)
        have a2 : ∀ j, (ra = nx + j) = False := fun j => eq_false (by omega)
        have b0 : (rb = 0) = False := eq_false (by omega)
        have b1 : (rb = 1) = False := eq_false (by omega)
        have b2 : ∀ j, (rb = nx + j) = False := fun j => eq_false (by omega)
        have ab : (rb = ra) = False := eq_false (fun e => hne e.symm)
        have ba : (ra = rb) = False := eq_false hne
        repeat' (first | (simp -implicitDefEqProofs only [ze, Nat.reduceEqDiff, Nat.reduceAdd, Nat.reduceMul, reduceIte, Nat.reduceLT, Nat.reduceLeDiff, reduceCtorEq, Int.reduceEq, Int.reduceLT, Int.reduceLE, Int.reduceNeg, Int.reduceToNat, Nat.reduceBEq, Nat.reduceSub, qp, qf, kop, av, RQ, PQ, kres, kres1, kresL, fin, fins, fin1, V.pur?, V.pur1?, V.cells, kld, ones, V.one, Value.oneCell', own, owns, own1, xfill, ksrc, kint, vint, ksub, keqs, kok, V.val1?, ofRes, h9, h0, h1, h7, h8, hd, hl2, encL, hdc, List.length_map, a0, a1, a2, b0, b1, b2, ab, ba, hsa, hsb, iv_len]) | (with_reducible refine wgd_cases ?_ ?_ <;> intro hb) | (with_reducible refine wcond_cases ?_ ?_ <;> intro hb) | (with_reducible refine qd_i (by kernel_rfl) ?_) | (with_reducible refine W_itn_cases ?_ ?_; omega))
        exact ⟨ls.length - (i + 1), by omega, i + 1, _, _, rfl, by omega, up64 (by omega), rfl, rfl, .inr ⟨ra, rb, hne, h8a, h8b, by omega, by omega, by rw [eA, iv_app1], by rw [eB, iv_app1], by rw [eA]; simp [upd_at, ba, a2], by rw [eB]; simp [upd_at, ab, b2]⟩⟩
    · have hdc : decide (l.cur = k) = false := decide_eq_false hc
      rw [if_neg hc] at eA eB
      rw [← eA, ← eB] at hp
      repeat' (first | (simp -implicitDefEqProofs only [ze, Nat.reduceEqDiff, Nat.reduceAdd, Nat.reduceMul, reduceIte, Nat.reduceLT, Nat.reduceLeDiff, reduceCtorEq, Int.reduceEq, Int.reduceLT, Int.reduceLE, Int.reduceNeg, Int.reduceToNat, Nat.reduceBEq, Nat.reduceSub, qp, qf, kop, av, RQ, PQ, kres, kres1, kresL, fin, fins, fin1, V.pur?, V.pur1?, V.cells, kld, ones, V.one, Value.oneCell', own, owns, own1, xfill, ksrc, kint, vint, ksub, keqs, kok, V.val1?, ofRes, h9, h0, h1, h7, h8, hd, hl2, encL, hdc, List.length_map]) | (with_reducible refine wgd_cases ?_ ?_ <;> intro hb) | (with_reducible refine wcond_cases ?_ ?_ <;> intro hb) | (with_reducible refine qd_i (by kernel_rfl) ?_) | (with_reducible refine W_itn_cases ?_ ?_; omega))
      refine ⟨ls.length - (i + 1), by omega, i + 1, _, _, rfl, by omega, up64 (by omega), rfl, rfl, ?_⟩
      rcases hp with h | ⟨ra, rb, hne, h8a, h8b, hna, hnb, h⟩
      · exact .inl h
      · exact .inr ⟨ra, rb, hne, h8a, h8b, by omega, by omega, h⟩
  · have hd : decide ((i : Int) < (ls.length : Int)) = false := decide_eq_false (by omega)
    have hie : i = ls.length := by omega
    rw [hie, List.take_length] at hp
    rcases hp with ⟨hA, _, _, _⟩ | ⟨ra, rb, hne, h8a, h8b, hna, hnb, rfl, rfl, hsa, hsb⟩
    · exfalso
      obtain ⟨l, hl2, hlk⟩ := hk
      have : l.amt ∈ selA ls k := by
        unfold selA
        exact List.mem_map.2 ⟨l, List.mem_filter.2 ⟨hl2, by simp [hlk]⟩, rfl⟩
      rw [hA] at this
      cases this
    · have cA := hlA ls.length
      have cB := hlB ls.length
      rw [List.take_length] at cA cB
      have hA := fun r => rsum_ok (selA ls k) r hsm.1 (by omega)
      have hB := fun r => rsum_ok (selB ls k) r hsm.2 (by omega)
      have a1 : (ra = 1) = False := eq_false (by omega)
      have b1 : (rb = 1) = False := eq_false (by omega)
      repeat' (first | (simp -implicitDefEqProofs only [ze, Nat.reduceEqDiff, Nat.reduceAdd, Nat.reduceMul, reduceIte, Nat.reduceLT, Nat.reduceLeDiff, reduceCtorEq, Int.reduceEq, Int.reduceLT, Int.reduceLE, Int.reduceNeg, Int.reduceToNat, Nat.reduceBEq, Nat.reduceSub, qp, qf, kop, av, RQ, PQ, kres, kres1, kresL, fin, fins, fin1, V.pur?, V.pur1?, V.cells, kld, ones, V.one, Value.oneCell', own, owns, own1, xfill, ksrc, kint, vint, ksub, keqs, kok, V.val1?, ofRes, h9, h0, h1, h7, h8, hd, hA, hB, a1, b1, List.length_map, k44_t0]) | (with_reducible refine wgd_cases ?_ ?_ <;> intro hb) | (with_reducible refine wcond_cases ?_ ?_ <;> intro hb) | (with_reducible refine qd_i (by kernel_rfl) ?_) | (with_reducible refine W_itn_cases ?_ ?_; omega))
      all_goals simp_all
end Go.Proofs.YtkbheoganajhaaaDoor.Vm
