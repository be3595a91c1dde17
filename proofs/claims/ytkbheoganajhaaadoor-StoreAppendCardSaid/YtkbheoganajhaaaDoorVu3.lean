/- Proved here: what the reference's currencies and its check of an entry return. Conditions: none. -/
import Derived.Test.YtkbheoganajhaaaDoorVu2
set_option maxRecDepth 10000
set_option linter.unusedVariables false
set_option linter.unusedSimpArgs false
namespace Go.Proofs.YtkbheoganajhaaaDoor.Vm
open Go Go.Proofs
def sv (l : List ByteArray) : List V := l.map V.str
theorem sv_len (l : List ByteArray) : (sv l).length = l.length := by simp [sv]
theorem sv_take (l : List ByteArray) (n : Nat) : (sv l).take n = sv (l.take n) := by simp [sv, List.map_take]
theorem sv_drop (l : List ByteArray) (n : Nat) : (sv l).drop n = sv (l.drop n) := by simp [sv, List.map_drop]
theorem sv_app (a b : List ByteArray) : sv (a ++ b) = sv a ++ sv b := by simp [sv]
def GrowT (st : St) (nx : Nat) (xs : List ByteArray) (v : V) : Prop := (xs = [] ∧ v = .list 0 [] 1) ∨ ∃ r, 8 ≤ r ∧ r < nx ∧ v = .list 9 (sv xs) r ∧ st r = some (.tok xs.length 9)
theorem curs_ok (ls : List Line) (r : Nat) (hl : ls.length < 1000000) : W (L.pl 43 [.list 61 (ls.map encL) r]) fun q => ∃ cs v, q = .ret v ∧ (∀ k, k ∈ cs ↔ ∃ l ∈ ls, l.cur = k) ∧ cs.length ≤ ls.length ∧ ((cs = [] ∧ v = .list 0 [] 1) ∨ v = .list 9 (sv cs) (8 + 9)) := by
  refine pl_w k43_eq ?_
  simp only [k43]
  repeat' (first | (simp -implicitDefEqProofs only [ze, Nat.reduceEqDiff, Nat.reduceAdd, Nat.reduceMul, reduceIte, Nat.reduceLT, Nat.reduceLeDiff, reduceCtorEq, Int.reduceEq, Int.reduceLT, Int.reduceLE, Int.reduceNeg, Int.reduceToNat, Nat.reduceBEq, Nat.reduceSub, qp, qf, kop, av, RQ, PQ, kres, kres1, kresL, fin, fins, fin1, V.pur?, V.pur1?, V.cells, kld, ones, V.one, Value.oneCell', own, owns, own1, xfill, ksrc, kint, vint, ksub, keqs, kok, V.val1?, ofRes, List.length_map]) | (with_reducible refine wgd_cases ?_ ?_ <;> intro hb) | (with_reducible refine wcond_cases ?_ ?_ <;> intro hb) | (with_reducible refine qd_i (by kernel_rfl) ?_) | (with_reducible refine W_itn_cases ?_ ?_; omega))
  refine loop_w (fun n tm st nx => ∃ (i : Nat) (cs : List ByteArray) (v : V), n = ls.length - i ∧ i ≤ ls.length ∧ tm 4 = .i64 i ∧ tm 0 = .list 61 (ls.map encL) r ∧ tm 3 = v ∧ 8 ≤ nx ∧ GrowT st nx cs v ∧ cs.length ≤ i ∧ ∀ k, k ∈ cs ↔ ∃ l ∈ ls.take i, l.cur = k) ls.length ⟨0, [], _, by omega, by omega, ?_, ?_, rfl, by omega, .inl ⟨rfl, ?_⟩, by simp, by simp⟩ ?_
  · simp -implicitDefEqProofs only [ze, Nat.reduceEqDiff, Nat.reduceAdd, Nat.reduceMul, reduceIte, Nat.reduceLT, Nat.reduceLeDiff, reduceCtorEq, Int.reduceEq, Int.reduceLT, Int.reduceLE, Int.reduceNeg, Int.reduceToNat, Nat.reduceBEq, Nat.reduceSub, qp, qf, kop, av, RQ, PQ, kres, kres1, kresL, fin, fins, fin1, V.pur?, V.pur1?, V.cells, kld, ones, V.one, Value.oneCell', own, owns, own1, xfill, ksrc, kint, vint, ksub, keqs, kok, V.val1?, ofRes]; rfl
  · simp -implicitDefEqProofs only [ze, Nat.reduceEqDiff, Nat.reduceAdd, Nat.reduceMul, reduceIte, Nat.reduceLT, Nat.reduceLeDiff, reduceCtorEq, Int.reduceEq, Int.reduceLT, Int.reduceLE, Int.reduceNeg, Int.reduceToNat, Nat.reduceBEq, Nat.reduceSub, qp, qf, kop, av, RQ, PQ, kres, kres1, kresL, fin, fins, fin1, V.pur?, V.pur1?, V.cells, kld, ones, V.one, Value.oneCell', own, owns, own1, xfill, ksrc, kint, vint, ksub, keqs, kok, V.val1?, ofRes]
  · simp -implicitDefEqProofs only [ze, Nat.reduceEqDiff, Nat.reduceAdd, Nat.reduceMul, reduceIte, Nat.reduceLT, Nat.reduceLeDiff, reduceCtorEq, Int.reduceEq, Int.reduceLT, Int.reduceLE, Int.reduceNeg, Int.reduceToNat, Nat.reduceBEq, Nat.reduceSub, qp, qf, kop, av, RQ, PQ, kres, kres1, kresL, fin, fins, fin1, V.pur?, V.pur1?, V.cells, kld, ones, V.one, Value.oneCell', own, owns, own1, xfill, ksrc, kint, vint, ksub, keqs, kok, V.val1?, ofRes]
  rintro n tm st nx ⟨i, cs, v, hn, hi2, h4, h0, h3, hnx, hg, hlen, hmem⟩
  simp only [k43_l1]
  by_cases hlt : i < ls.length
  · obtain ⟨l, hl2⟩ := get_lt hlt
    have hd : decide ((i : Int) < (ls.length : Int)) = true := decide_eq_true (by omega)
    repeat' (first | (simp -implicitDefEqProofs only [ze, Nat.reduceEqDiff, Nat.reduceAdd, Nat.reduceMul, reduceIte, Nat.reduceLT, Nat.reduceLeDiff, reduceCtorEq, Int.reduceEq, Int.reduceLT, Int.reduceLE, Int.reduceNeg, Int.reduceToNat, Nat.reduceBEq, Nat.reduceSub, qp, qf, kop, av, RQ, PQ, kres, kres1, kresL, fin, fins, fin1, V.pur?, V.pur1?, V.cells, kld, ones, V.one, Value.oneCell', own, owns, own1, xfill, ksrc, kint, vint, ksub, keqs, kok, V.val1?, ofRes, h4, h0, h3, hd, List.length_map]) | (with_reducible refine wgd_cases ?_ ?_ <;> intro hb) | (with_reducible refine wcond_cases ?_ ?_ <;> intro hb) | (with_reducible refine qd_i (by kernel_rfl) ?_) | (with_reducible refine W_itn_cases ?_ ?_; omega))
    refine loop_w (fun n2 tm2 st2 nx2 => ∃ j : Nat, n2 = cs.length - j ∧ j ≤ cs.length ∧ tm2 5 = .i64 j ∧ tm2 4 = .i64 i ∧ tm2 0 = .list 61 (ls.map encL) r ∧ tm2 3 = v ∧ 8 ≤ nx2 ∧ GrowT st2 nx2 cs v) cs.length ⟨0, by omega, by omega, ?_, ?_, ?_, ?_, by omega, ?_⟩ ?_
    · simp -implicitDefEqProofs only [ze, Nat.reduceEqDiff, Nat.reduceAdd, Nat.reduceMul, reduceIte, Nat.reduceLT, Nat.reduceLeDiff, reduceCtorEq, Int.reduceEq, Int.reduceLT, Int.reduceLE, Int.reduceNeg, Int.reduceToNat, Nat.reduceBEq, Nat.reduceSub, qp, qf, kop, av, RQ, PQ, kres, kres1, kresL, fin, fins, fin1, V.pur?, V.pur1?, V.cells, kld, ones, V.one, Value.oneCell', own, owns, own1, xfill, ksrc, kint, vint, ksub, keqs, kok, V.val1?, ofRes]; rfl
    · simp -implicitDefEqProofs only [ze, Nat.reduceEqDiff, Nat.reduceAdd, Nat.reduceMul, reduceIte, Nat.reduceLT, Nat.reduceLeDiff, reduceCtorEq, Int.reduceEq, Int.reduceLT, Int.reduceLE, Int.reduceNeg, Int.reduceToNat, Nat.reduceBEq, Nat.reduceSub, qp, qf, kop, av, RQ, PQ, kres, kres1, kresL, fin, fins, fin1, V.pur?, V.pur1?, V.cells, kld, ones, V.one, Value.oneCell', own, owns, own1, xfill, ksrc, kint, vint, ksub, keqs, kok, V.val1?, ofRes, h4]
    · simp -implicitDefEqProofs only [ze, Nat.reduceEqDiff, Nat.reduceAdd, Nat.reduceMul, reduceIte, Nat.reduceLT, Nat.reduceLeDiff, reduceCtorEq, Int.reduceEq, Int.reduceLT, Int.reduceLE, Int.reduceNeg, Int.reduceToNat, Nat.reduceBEq, Nat.reduceSub, qp, qf, kop, av, RQ, PQ, kres, kres1, kresL, fin, fins, fin1, V.pur?, V.pur1?, V.cells, kld, ones, V.one, Value.oneCell', own, owns, own1, xfill, ksrc, kint, vint, ksub, keqs, kok, V.val1?, ofRes, h0]
    · simp -implicitDefEqProofs only [ze, Nat.reduceEqDiff, Nat.reduceAdd, Nat.reduceMul, reduceIte, Nat.reduceLT, Nat.reduceLeDiff, reduceCtorEq, Int.reduceEq, Int.reduceLT, Int.reduceLE, Int.reduceNeg, Int.reduceToNat, Nat.reduceBEq, Nat.reduceSub, qp, qf, kop, av, RQ, PQ, kres, kres1, kresL, fin, fins, fin1, V.pur?, V.pur1?, V.cells, kld, ones, V.one, Value.oneCell', own, owns, own1, xfill, ksrc, kint, vint, ksub, keqs, kok, V.val1?, ofRes, h3]
    · rcases hg with h | ⟨q, g1, g2, g3, g4⟩
      · exact .inl h
      · exact .inr ⟨q, g1, by omega, g3, g4⟩
    rintro n2 tm2 st2 nx2 ⟨j, hn2, hj2, g5, g4, g0, g3, gnx, hgg⟩
    simp only [k43_l0, k43_t0, k43_t1]
    have hins : (∀ k, k ∈ (cs.take j ++ [l.cur] ++ cs.drop j) ↔ ∃ l ∈ ls.take (i + 1), l.cur = k) := fun k => by
      rw [List.take_add_one, hl2]
      have : k ∈ (cs.take j ++ [l.cur] ++ cs.drop j) ↔ k ∈ cs ∨ k = l.cur := by
        conv => rhs; rw [← List.take_append_drop j cs]
        simp only [List.mem_append, List.mem_singleton]
        constructor
        · rintro ((h | h) | h)
          · exact .inl (.inl h)
          · exact .inr h
          · exact .inl (.inr h)
        · rintro ((h | h) | h)
          · exact .inl (.inl h)
          · exact .inr h
          · exact .inl (.inr h)
      rw [this, hmem k]
      simp only [Option.toList, List.mem_append, List.mem_singleton]
      constructor
      · rintro (⟨x, hx, rfl⟩ | rfl)
        · exact ⟨x, .inl hx, rfl⟩
        · exact ⟨l, .inr rfl, rfl⟩
      · rintro ⟨x, hx | rfl, rfl⟩
        · exact .inl ⟨x, hx, rfl⟩
        · exact .inr rfl
    have hlen2 : (cs.take j ++ [l.cur] ++ cs.drop j).length = cs.length + 1 := by
      simp only [List.length_append, List.length_take, List.length_drop, List.length_cons, List.length_nil]; omega
    rcases hgg with ⟨hcs, rfl⟩ | ⟨q, q8, qn, rfl, hst⟩
    · subst hcs
      have hj0 : j = 0 := by simpa using hj2
      subst hj0
      have d1 : decide (((0 : Nat) : Int) < ((0 : Nat) : Int)) = false := rfl
      repeat' (first | (simp -implicitDefEqProofs only [ze, Nat.reduceEqDiff, Nat.reduceAdd, Nat.reduceMul, reduceIte, Nat.reduceLT, Nat.reduceLeDiff, reduceCtorEq, Int.reduceEq, Int.reduceLT, Int.reduceLE, Int.reduceNeg, Int.reduceToNat, Nat.reduceBEq, Nat.reduceSub, qp, qf, kop, av, RQ, PQ, kres, kres1, kresL, fin, fins, fin1, V.pur?, V.pur1?, V.cells, kld, ones, V.one, Value.oneCell', own, owns, own1, xfill, ksrc, kint, vint, ksub, keqs, kok, V.val1?, ofRes, g5, g4, g0, g3, hl2, d1, encL, List.length_map]) | (with_reducible refine wgd_cases ?_ ?_ <;> intro hb) | (with_reducible refine wcond_cases ?_ ?_ <;> intro hb) | (with_reducible refine qd_i (by kernel_rfl) ?_) | (with_reducible refine W_itn_cases ?_ ?_; omega))
      have hs : (nx2 = nx2 + 80) = False := eq_false (by omega)
      repeat' (first | (simp -implicitDefEqProofs only [ze, Nat.reduceEqDiff, Nat.reduceAdd, Nat.reduceMul, reduceIte, Nat.reduceLT, Nat.reduceLeDiff, reduceCtorEq, Int.reduceEq, Int.reduceLT, Int.reduceLE, Int.reduceNeg, Int.reduceToNat, Nat.reduceBEq, Nat.reduceSub, qp, qf, kop, av, RQ, PQ, kres, kres1, kresL, fin, fins, fin1, V.pur?, V.pur1?, V.cells, kld, ones, V.one, Value.oneCell', own, owns, own1, xfill, ksrc, kint, vint, ksub, keqs, kok, V.val1?, ofRes, hs, g5, g3, g4, g0, hl2, encL]) | (with_reducible refine W_itn_cases ?_ ?_; omega))
      refine qd_i ?_ ?_
      · simp [recsOk, ordB, Rec.free, Rec.wr, disj, List.range, List.range.loop]; try decide
      · repeat' (first | (simp -implicitDefEqProofs only [ze, Nat.reduceEqDiff, Nat.reduceAdd, Nat.reduceMul, reduceIte, Nat.reduceLT, Nat.reduceLeDiff, reduceCtorEq, Int.reduceEq, Int.reduceLT, Int.reduceLE, Int.reduceNeg, Int.reduceToNat, Nat.reduceBEq, Nat.reduceSub, qp, qf, kop, av, RQ, PQ, kres, kres1, kresL, fin, fins, fin1, V.pur?, V.pur1?, V.cells, kld, ones, V.one, Value.oneCell', own, owns, own1, xfill, ksrc, kint, vint, ksub, keqs, kok, V.val1?, ofRes, g4, g0, g5, g3]) | (with_reducible refine wgd_cases ?_ ?_ <;> intro hb) | (with_reducible refine wcond_cases ?_ ?_ <;> intro hb) | (with_reducible refine qd_i (by kernel_rfl) ?_) | (with_reducible refine W_itn_cases ?_ ?_; omega))
        exact ⟨ls.length - (i + 1), by omega, i + 1, [l.cur], _, rfl, by omega, up64 (by omega), rfl, .inr ⟨nx2 + 256, by omega, by omega, rfl, by simp [upd_at]⟩, by simp, fun k => by simpa using hins k⟩
    · have hsl := sv_len cs
      by_cases hjl : j < cs.length
      · obtain ⟨c, hc⟩ := get_lt hjl
        have hcv : (sv cs)[j]? = some (V.str c) := by simp [sv, hc]
        have d1 : decide ((j : Int) < (cs.length : Int)) = true := decide_eq_true (by omega)
        have d2 : decide ((j : Int) = (cs.length : Int)) = false := decide_eq_false (by omega)
        repeat' (first | (simp -implicitDefEqProofs only [ze, Nat.reduceEqDiff, Nat.reduceAdd, Nat.reduceMul, reduceIte, Nat.reduceLT, Nat.reduceLeDiff, reduceCtorEq, Int.reduceEq, Int.reduceLT, Int.reduceLE, Int.reduceNeg, Int.reduceToNat, Nat.reduceBEq, Nat.reduceSub, qp, qf, kop, av, RQ, PQ, kres, kres1, kresL, fin, fins, fin1, V.pur?, V.pur1?, V.cells, kld, ones, V.one, Value.oneCell', own, owns, own1, xfill, ksrc, kint, vint, ksub, keqs, kok, V.val1?, ofRes, g5, g4, g0, g3, hl2, hcv, hsl, d1, d2, encL, List.length_map]) | (with_reducible refine wgd_cases ?_ ?_ <;> intro hb) | (with_reducible refine wcond_cases ?_ ?_ <;> intro hb) | (with_reducible refine qd_i (by kernel_rfl) ?_) | (with_reducible refine W_itn_cases ?_ ?_; omega))
        · refine ⟨cs.length - (j + 1), by omega, j + 1, rfl, by omega, up64 (by omega), .inr ⟨q, q8, by omega, rfl, hst⟩⟩
        · have hs : (nx2 = nx2 + 80) = False := eq_false (by omega)
          repeat' (first | (simp -implicitDefEqProofs only [ze, Nat.reduceEqDiff, Nat.reduceAdd, Nat.reduceMul, reduceIte, Nat.reduceLT, Nat.reduceLeDiff, reduceCtorEq, Int.reduceEq, Int.reduceLT, Int.reduceLE, Int.reduceNeg, Int.reduceToNat, Nat.reduceBEq, Nat.reduceSub, qp, qf, kop, av, RQ, PQ, kres, kres1, kresL, fin, fins, fin1, V.pur?, V.pur1?, V.cells, kld, ones, V.one, Value.oneCell', own, owns, own1, xfill, ksrc, kint, vint, ksub, keqs, kok, V.val1?, ofRes, hs, g5, g3, g4, g0, hl2, encL, List.take_length, sv_take, sv_drop, sv_len, List.length_take, List.length_drop, List.length_append]) | (with_reducible refine W_itn_cases ?_ ?_; omega))
          refine qd_i ?_ ?_
          · simp [recsOk, ordB, Rec.free, Rec.wr, disj, List.range, List.range.loop]; try decide
          · repeat' (first | (simp -implicitDefEqProofs only [ze, Nat.reduceEqDiff, Nat.reduceAdd, Nat.reduceMul, reduceIte, Nat.reduceLT, Nat.reduceLeDiff, reduceCtorEq, Int.reduceEq, Int.reduceLT, Int.reduceLE, Int.reduceNeg, Int.reduceToNat, Nat.reduceBEq, Nat.reduceSub, qp, qf, kop, av, RQ, PQ, kres, kres1, kresL, fin, fins, fin1, V.pur?, V.pur1?, V.cells, kld, ones, V.one, Value.oneCell', own, owns, own1, xfill, ksrc, kint, vint, ksub, keqs, kok, V.val1?, ofRes, g4, g0, g5, g3]) | (with_reducible refine wgd_cases ?_ ?_ <;> intro hb) | (with_reducible refine wcond_cases ?_ ?_ <;> intro hb) | (with_reducible refine qd_i (by kernel_rfl) ?_) | (with_reducible refine W_itn_cases ?_ ?_; omega))
            exact ⟨ls.length - (i + 1), by omega, i + 1, cs.take j ++ [l.cur] ++ cs.drop j, _, rfl, by omega, up64 (by omega), rfl, .inr ⟨nx2 + 256, by omega, by omega, by simp [sv_app, sv], by simp [upd_at]; omega⟩, by omega, hins⟩
        · have hceq : c = l.cur := by simpa using hb
          refine ⟨ls.length - (i + 1), by omega, i + 1, cs, _, rfl, by omega, up64 (by omega), rfl, .inr ⟨q, q8, by omega, rfl, hst⟩, by omega, fun k => ?_⟩
          rw [hmem k, List.take_add_one, hl2]
          have hcm : c ∈ cs := List.mem_of_getElem? hc
          constructor
          · rintro ⟨x, hx, rfl⟩
            exact ⟨x, List.mem_append.2 (.inl hx), rfl⟩
          · rintro ⟨x, hx, rfl⟩
            rcases List.mem_append.1 hx with hx | hx
            · exact ⟨x, hx, rfl⟩
            · have : x = l := by simpa using hx
              subst this
              rw [← hceq]
              exact (hmem c).1 hcm
      · have d1 : decide ((j : Int) < (cs.length : Int)) = false := decide_eq_false (by omega)
        have d2 : decide ((j : Int) = (cs.length : Int)) = true := decide_eq_true (by omega)
        repeat' (first | (simp -implicitDefEqProofs only [ze, Nat.reduceEqDiff, Nat.reduceAdd, Nat.reduceMul, reduceIte, Nat.reduceLT, Nat.reduceLeDiff, reduceCtorEq, Int.reduceEq, Int.reduceLT, Int.reduceLE, Int.reduceNeg, Int.reduceToNat, Nat.reduceBEq, Nat.reduceSub, qp, qf, kop, av, RQ, PQ, kres, kres1, kresL, fin, fins, fin1, V.pur?, V.pur1?, V.cells, kld, ones, V.one, Value.oneCell', own, owns, own1, xfill, ksrc, kint, vint, ksub, keqs, kok, V.val1?, ofRes, g5, g4, g0, g3, hl2, hsl, d1, d2, encL, List.length_map]) | (with_reducible refine wgd_cases ?_ ?_ <;> intro hb) | (with_reducible refine wcond_cases ?_ ?_ <;> intro hb) | (with_reducible refine qd_i (by kernel_rfl) ?_) | (with_reducible refine W_itn_cases ?_ ?_; omega))
        have hs : (nx2 = nx2 + 80) = False := eq_false (by omega)
        repeat' (first | (simp -implicitDefEqProofs only [ze, Nat.reduceEqDiff, Nat.reduceAdd, Nat.reduceMul, reduceIte, Nat.reduceLT, Nat.reduceLeDiff, reduceCtorEq, Int.reduceEq, Int.reduceLT, Int.reduceLE, Int.reduceNeg, Int.reduceToNat, Nat.reduceBEq, Nat.reduceSub, qp, qf, kop, av, RQ, PQ, kres, kres1, kresL, fin, fins, fin1, V.pur?, V.pur1?, V.cells, kld, ones, V.one, Value.oneCell', own, owns, own1, xfill, ksrc, kint, vint, ksub, keqs, kok, V.val1?, ofRes, hs, g5, g3, g4, g0, hl2, encL, List.take_length, sv_take, sv_drop, sv_len, List.length_take, List.length_drop, List.length_append]) | (with_reducible refine W_itn_cases ?_ ?_; omega))
        refine qd_i ?_ ?_
        · simp [recsOk, ordB, Rec.free, Rec.wr, disj, List.range, List.range.loop]; try decide
        · repeat' (first | (simp -implicitDefEqProofs only [ze, Nat.reduceEqDiff, Nat.reduceAdd, Nat.reduceMul, reduceIte, Nat.reduceLT, Nat.reduceLeDiff, reduceCtorEq, Int.reduceEq, Int.reduceLT, Int.reduceLE, Int.reduceNeg, Int.reduceToNat, Nat.reduceBEq, Nat.reduceSub, qp, qf, kop, av, RQ, PQ, kres, kres1, kresL, fin, fins, fin1, V.pur?, V.pur1?, V.cells, kld, ones, V.one, Value.oneCell', own, owns, own1, xfill, ksrc, kint, vint, ksub, keqs, kok, V.val1?, ofRes, g4, g0, g5, g3]) | (with_reducible refine wgd_cases ?_ ?_ <;> intro hb) | (with_reducible refine wcond_cases ?_ ?_ <;> intro hb) | (with_reducible refine qd_i (by kernel_rfl) ?_) | (with_reducible refine W_itn_cases ?_ ?_; omega))
          exact ⟨ls.length - (i + 1), by omega, i + 1, cs.take j ++ [l.cur] ++ cs.drop j, _, rfl, by omega, up64 (by omega), rfl, .inr ⟨nx2 + 256, by omega, by omega, by simp [sv_app, sv], by simp [upd_at]; omega⟩, by omega, hins⟩
  · have hd : decide ((i : Int) < (ls.length : Int)) = false := decide_eq_false (by omega)
    have hie : i = ls.length := by omega
    rw [hie, List.take_length] at hmem
    rcases hg with ⟨hcs, rfl⟩ | ⟨q, q8, qn, rfl, hst⟩
    · repeat' (first | (simp -implicitDefEqProofs only [ze, Nat.reduceEqDiff, Nat.reduceAdd, Nat.reduceMul, reduceIte, Nat.reduceLT, Nat.reduceLeDiff, reduceCtorEq, Int.reduceEq, Int.reduceLT, Int.reduceLE, Int.reduceNeg, Int.reduceToNat, Nat.reduceBEq, Nat.reduceSub, qp, qf, kop, av, RQ, PQ, kres, kres1, kresL, fin, fins, fin1, V.pur?, V.pur1?, V.cells, kld, ones, V.one, Value.oneCell', own, owns, own1, xfill, ksrc, kint, vint, ksub, keqs, kok, V.val1?, ofRes, h4, h0, h3, hd, List.length_map, k43_t2]) | (with_reducible refine wgd_cases ?_ ?_ <;> intro hb) | (with_reducible refine wcond_cases ?_ ?_ <;> intro hb) | (with_reducible refine qd_i (by kernel_rfl) ?_) | (with_reducible refine W_itn_cases ?_ ?_; omega))
      exact ⟨cs, _, rfl, hmem, by omega, .inl ⟨hcs, rfl⟩⟩
    · have q0 : (q = 1) = False := eq_false (by omega)
      have q1 : (q < 8) = False := eq_false (by omega)
      repeat' (first | (simp -implicitDefEqProofs only [ze, Nat.reduceEqDiff, Nat.reduceAdd, Nat.reduceMul, reduceIte, Nat.reduceLT, Nat.reduceLeDiff, reduceCtorEq, Int.reduceEq, Int.reduceLT, Int.reduceLE, Int.reduceNeg, Int.reduceToNat, Nat.reduceBEq, Nat.reduceSub, qp, qf, kop, av, RQ, PQ, kres, kres1, kresL, fin, fins, fin1, V.pur?, V.pur1?, V.cells, kld, ones, V.one, Value.oneCell', own, owns, own1, xfill, ksrc, kint, vint, ksub, keqs, kok, V.val1?, ofRes, h4, h0, h3, hd, hst, q0, q1, sv_len, List.length_map, k43_t2]) | (with_reducible refine wgd_cases ?_ ?_ <;> intro hb) | (with_reducible refine wcond_cases ?_ ?_ <;> intro hb) | (with_reducible refine qd_i (by kernel_rfl) ?_) | (with_reducible refine W_itn_cases ?_ ?_; omega))
      exact ⟨cs, _, rfl, hmem, by omega, .inr rfl⟩
end Go.Proofs.YtkbheoganajhaaaDoor.Vm
