/- Proved here: what the reference's Put returns. Conditions: none. -/
import Derived.Test.YtkbheoganajhaaaDoorVu4
import Derived.Test.YtkbheoganajhaaaDoorVu5
set_option maxRecDepth 10000
set_option linter.unusedVariables false
set_option linter.unusedSimpArgs false
namespace Go.Proofs.YtkbheoganajhaaaDoor.Vm
open Go Go.Proofs
theorem rput_bad (e : Entry) (a er : Int) (hck : L.pl 11 [encE e] = some (.ret (.tup [.i64 a, .i64 er]))) (h : ¬ er = 0) : L.pl 31 [encE e] = some (.ret (.tup [.list 0 [] 1, .i64 er])) := by
  refine W_of (pl_w k31_eq ?_)
  simp only [encE] at hck
  simp only [k31, encE]
  have hd : decide (er = 0) = false := decide_eq_false h
  repeat' (first | (simp -implicitDefEqProofs only [ze, Nat.reduceEqDiff, Nat.reduceAdd, Nat.reduceMul, reduceIte, Nat.reduceLT, Nat.reduceLeDiff, reduceCtorEq, Int.reduceEq, Int.reduceLT, Int.reduceLE, Int.reduceNeg, Int.reduceToNat, Nat.reduceBEq, Nat.reduceSub, qp, qf, kop, av, RQ, PQ, kres, kres1, kresL, fin, fins, fin1, V.pur?, V.pur1?, V.cells, kld, ones, V.one, Value.oneCell', own, owns, own1, xfill, ksrc, kint, vint, ksub, keqs, kok, V.val1?, ofRes, hck, nr_pur, hd]) | (with_reducible refine wgd_cases ?_ ?_ <;> intro hb) | (with_reducible refine wcond_cases ?_ ?_ <;> intro hb) | (with_reducible refine qd_i (by kernel_rfl) ?_) | (with_reducible refine W_itn_cases ?_ ?_; omega))
theorem rput_ok (e : Entry) (hp : plainE e) (a : Int) (hck : L.pl 11 [encE e] = some (.ret (.tup [.i64 a, .i64 0]))) : L.pl 31 [encE e] = some (.ret (.tup [.list 5 (bv (entryB e)) (8 + 5), .i64 0])) := by
  refine W_of (pl_w k31_eq ?_)
  simp only [encE] at hck
  simp only [k31, encE]
  have hlen := hp.len
  have b1 := Co.putS_len e.no
  have b2 := ptB_len e.ent hp.ent
  have b3 := Co.putS_len e.book
  have b4 := Co.putS_len e.val
  have b5 := Co.putS_len e.kind
  have b6 := ptB_len e.ref hp.ref
  have b7 := ptB_len e.who hp.who
  have b8 := Co.putS_len e.rev
  have b9 := Co.putS_len e.lines.length
  repeat' (first | (simp -implicitDefEqProofs only [ze, Nat.reduceEqDiff, Nat.reduceAdd, Nat.reduceMul, reduceIte, Nat.reduceLT, Nat.reduceLeDiff, reduceCtorEq, Int.reduceEq, Int.reduceLT, Int.reduceLE, Int.reduceNeg, Int.reduceToNat, Nat.reduceBEq, Nat.reduceSub, qp, qf, kop, av, RQ, PQ, kres, kres1, kresL, fin, fins, fin1, V.pur?, V.pur1?, V.cells, kld, ones, V.one, Value.oneCell', own, owns, own1, xfill, ksrc, kint, vint, ksub, keqs, kok, V.val1?, ofRes, hck, nr_pur, rputint_ok e.no hp.no, rtext_ok e.ent hp.ent, rputint_ok e.book hp.book, rputint_ok e.val hp.val, rputint_ok e.kind hp.kind, rtext_ok e.ref hp.ref, rtext_ok e.who hp.who, rputint_ok e.rev hp.rev, rputint_ok (e.lines.length : Int) ⟨by omega, by omega⟩, bv_len, List.length_append, List.length_map]) | (with_reducible refine wgd_cases ?_ ?_ <;> intro hb) | (with_reducible refine wcond_cases ?_ ?_ <;> intro hb) | (with_reducible refine qd_i (by kernel_rfl) ?_) | (with_reducible refine W_itn_cases ?_ ?_; omega))
  refine loop_w (fun n tm st nx => ∃ i : Nat, n = e.lines.length - i ∧ i ≤ e.lines.length ∧ tm 7 = .i64 i ∧ tm 6 = .list 5 (bv (headB e ++ linesB (e.lines.take i))) 120 ∧ tm 1 = .ptr 8 0 ∧ 121 ≤ nx ∧ st 8 = some (.cells [.i64 e.no, .str e.ent, .i64 e.book, .i64 e.val, .i64 e.kind, .str e.ref, .str e.who, .i64 e.rev, .list (te e.lr 61) (e.lines.map encL) (nr e.lr)]) ∧ st 120 = some (.tok (headB e ++ linesB (e.lines.take i)).length 5)) e.lines.length ⟨0, by omega, by omega, ?_, ?_, ?_, by omega, ?_, ?_⟩ ?_
  · simp -implicitDefEqProofs only [ze, Nat.reduceEqDiff, Nat.reduceAdd, Nat.reduceMul, reduceIte, Nat.reduceLT, Nat.reduceLeDiff, reduceCtorEq, Int.reduceEq, Int.reduceLT, Int.reduceLE, Int.reduceNeg, Int.reduceToNat, Nat.reduceBEq, Nat.reduceSub, qp, qf, kop, av, RQ, PQ, kres, kres1, kresL, fin, fins, fin1, V.pur?, V.pur1?, V.cells, kld, ones, V.one, Value.oneCell', own, owns, own1, xfill, ksrc, kint, vint, ksub, keqs, kok, V.val1?, ofRes]; rfl
  · simp -implicitDefEqProofs only [ze, Nat.reduceEqDiff, Nat.reduceAdd, Nat.reduceMul, reduceIte, Nat.reduceLT, Nat.reduceLeDiff, reduceCtorEq, Int.reduceEq, Int.reduceLT, Int.reduceLE, Int.reduceNeg, Int.reduceToNat, Nat.reduceBEq, Nat.reduceSub, qp, qf, kop, av, RQ, PQ, kres, kres1, kresL, fin, fins, fin1, V.pur?, V.pur1?, V.cells, kld, ones, V.one, Value.oneCell', own, owns, own1, xfill, ksrc, kint, vint, ksub, keqs, kok, V.val1?, ofRes]
    simp [headB, linesB, bv_app]
  · simp -implicitDefEqProofs only [ze, Nat.reduceEqDiff, Nat.reduceAdd, Nat.reduceMul, reduceIte, Nat.reduceLT, Nat.reduceLeDiff, reduceCtorEq, Int.reduceEq, Int.reduceLT, Int.reduceLE, Int.reduceNeg, Int.reduceToNat, Nat.reduceBEq, Nat.reduceSub, qp, qf, kop, av, RQ, PQ, kres, kres1, kresL, fin, fins, fin1, V.pur?, V.pur1?, V.cells, kld, ones, V.one, Value.oneCell', own, owns, own1, xfill, ksrc, kint, vint, ksub, keqs, kok, V.val1?, ofRes]
  · simp -implicitDefEqProofs only [ze, Nat.reduceEqDiff, Nat.reduceAdd, Nat.reduceMul, reduceIte, Nat.reduceLT, Nat.reduceLeDiff, reduceCtorEq, Int.reduceEq, Int.reduceLT, Int.reduceLE, Int.reduceNeg, Int.reduceToNat, Nat.reduceBEq, Nat.reduceSub, qp, qf, kop, av, RQ, PQ, kres, kres1, kresL, fin, fins, fin1, V.pur?, V.pur1?, V.cells, kld, ones, V.one, Value.oneCell', own, owns, own1, xfill, ksrc, kint, vint, ksub, keqs, kok, V.val1?, ofRes]
  · simp -implicitDefEqProofs only [ze, Nat.reduceEqDiff, Nat.reduceAdd, Nat.reduceMul, reduceIte, Nat.reduceLT, Nat.reduceLeDiff, reduceCtorEq, Int.reduceEq, Int.reduceLT, Int.reduceLE, Int.reduceNeg, Int.reduceToNat, Nat.reduceBEq, Nat.reduceSub, qp, qf, kop, av, RQ, PQ, kres, kres1, kresL, fin, fins, fin1, V.pur?, V.pur1?, V.cells, kld, ones, V.one, Value.oneCell', own, owns, own1, xfill, ksrc, kint, vint, ksub, keqs, kok, V.val1?, ofRes]
    simp [headB, linesB]
  rintro n tm st nx ⟨i, hn, hi2, h7, h6, h1, hnx, h8, hst⟩
  simp only [k31_l1]
  have c3 := linesB_len e.lines i fun t h => hp.lines t (List.mem_of_mem_take h)
  have c4 := headB_len e hp
  have x1 : ∀ j, (120 = nx + j) = False := fun j => eq_false (by omega)
  have x2 : ∀ j, (8 = nx + j) = False := fun j => eq_false (by omega)
  have x3 : ∀ j, (nx + j = 120) = False := fun j => eq_false (by omega)
  have x4 : ∀ j, (nx + j = 8) = False := fun j => eq_false (by omega)
  generalize hout : headB e ++ linesB (e.lines.take i) = out at *
  have hol : out.length ≤ 20000000 := by rw [← hout, List.length_append]; omega
  by_cases hlt : i < e.lines.length
  · have hlr : e.lr = false := by
      cases h : e.lr
      · rfl
      · rw [hp.nil h] at hlt; simp at hlt
    rw [hlr, te_f] at h8
    obtain ⟨l, hl⟩ := get_lt hlt
    have hpl := hp.lines l (List.mem_of_getElem? hl)
    have hd : decide ((i : Int) < (e.lines.length : Int)) = true := decide_eq_true (by omega)
    have e1 : e.lines.take (i + 1) = e.lines.take i ++ [l] := by rw [List.take_add_one, hl]; rfl
    have l1 := ptB_len l.acc hpl.acc
    have l2 := ptB_len l.cur hpl.cur
    have l3 := Co.putS_len l.amt
    have l4 := Co.putS_len l.base
    have l5 := ptB_len l.par hpl.par
    have l6 := ptB_len l.pty hpl.pty
    have l7 := Co.putS_len l.tags.length
    have ltl := hpl.len
    repeat' (first | (simp -implicitDefEqProofs only [ze, Nat.reduceEqDiff, Nat.reduceAdd, Nat.reduceMul, reduceIte, Nat.reduceLT, Nat.reduceLeDiff, reduceCtorEq, Int.reduceEq, Int.reduceLT, Int.reduceLE, Int.reduceNeg, Int.reduceToNat, Nat.reduceBEq, Nat.reduceSub, qp, qf, kop, av, RQ, PQ, kres, kres1, kresL, fin, fins, fin1, V.pur?, V.pur1?, V.cells, kld, ones, V.one, Value.oneCell', own, owns, own1, xfill, ksrc, kint, vint, ksub, keqs, kok, V.val1?, ofRes, h7, h6, h1, h8, hst, hd, hl, encL, x1, x2, x3, x4, rtext_ok l.acc hpl.acc, rtext_ok l.cur hpl.cur, rputint_ok l.amt hpl.amt, rputint_ok l.base hpl.base, rtext_ok l.par hpl.par, rtext_ok l.pty hpl.pty, rputint_ok (l.tags.length : Int) ⟨by omega, by omega⟩, bv_len, List.length_append, List.length_map, Nat.left_eq_add, Nat.add_eq_left]) | (with_reducible refine wgd_cases ?_ ?_ <;> intro hb) | (with_reducible refine wcond_cases ?_ ?_ <;> intro hb) | (with_reducible refine qd_i (by kernel_rfl) ?_) | (with_reducible refine W_itn_cases ?_ ?_; omega))
    generalize hbase : ptB l.acc ++ ptB l.cur ++ Co.putS l.amt ++ Co.putS l.base ++ ptB l.par ++ ptB l.pty ++ Co.putS l.tags.length = bs
    have hbl : bs.length ≤ 1000 := by rw [← hbase]; simp only [List.length_append]; omega
    refine loop_w (fun n2 tm2 st2 nx2 => ∃ j : Nat, n2 = l.tags.length - j ∧ j ≤ l.tags.length ∧ tm2 9 = .i64 j ∧ tm2 8 = .ptr (nx + 80) 0 ∧ tm2 7 = .i64 i ∧ tm2 1 = .ptr 8 0 ∧ tm2 6 = .list 5 (bv (out ++ bs ++ tagsB (l.tags.take j))) 120 ∧ nx + 88 ≤ nx2 ∧
      st2 (nx + 80) = some (.cells [.str l.acc, .str l.cur, .i64 l.amt, .i64 l.base, .str l.par, .str l.pty, .list (te l.tr 97) (l.tags.map encT) (nr l.tr)]) ∧ st2 8 = some (.cells [.i64 e.no, .str e.ent, .i64 e.book, .i64 e.val, .i64 e.kind, .str e.ref, .str e.who, .i64 e.rev, .list 61 (e.lines.map encL) (nr false)]) ∧ st2 120 = some (.tok (out ++ bs ++ tagsB (l.tags.take j)).length 5)) l.tags.length ⟨0, by omega, by omega, ?_, ?_, ?_, ?_, ?_, by omega, ?_, ?_, ?_⟩ ?_
    · simp -implicitDefEqProofs only [ze, Nat.reduceEqDiff, Nat.reduceAdd, Nat.reduceMul, reduceIte, Nat.reduceLT, Nat.reduceLeDiff, reduceCtorEq, Int.reduceEq, Int.reduceLT, Int.reduceLE, Int.reduceNeg, Int.reduceToNat, Nat.reduceBEq, Nat.reduceSub, qp, qf, kop, av, RQ, PQ, kres, kres1, kresL, fin, fins, fin1, V.pur?, V.pur1?, V.cells, kld, ones, V.one, Value.oneCell', own, owns, own1, xfill, ksrc, kint, vint, ksub, keqs, kok, V.val1?, ofRes]; rfl
    · simp -implicitDefEqProofs only [ze, Nat.reduceEqDiff, Nat.reduceAdd, Nat.reduceMul, reduceIte, Nat.reduceLT, Nat.reduceLeDiff, reduceCtorEq, Int.reduceEq, Int.reduceLT, Int.reduceLE, Int.reduceNeg, Int.reduceToNat, Nat.reduceBEq, Nat.reduceSub, qp, qf, kop, av, RQ, PQ, kres, kres1, kresL, fin, fins, fin1, V.pur?, V.pur1?, V.cells, kld, ones, V.one, Value.oneCell', own, owns, own1, xfill, ksrc, kint, vint, ksub, keqs, kok, V.val1?, ofRes]
    · simp -implicitDefEqProofs only [ze, Nat.reduceEqDiff, Nat.reduceAdd, Nat.reduceMul, reduceIte, Nat.reduceLT, Nat.reduceLeDiff, reduceCtorEq, Int.reduceEq, Int.reduceLT, Int.reduceLE, Int.reduceNeg, Int.reduceToNat, Nat.reduceBEq, Nat.reduceSub, qp, qf, kop, av, RQ, PQ, kres, kres1, kresL, fin, fins, fin1, V.pur?, V.pur1?, V.cells, kld, ones, V.one, Value.oneCell', own, owns, own1, xfill, ksrc, kint, vint, ksub, keqs, kok, V.val1?, ofRes, h7]
    · simp -implicitDefEqProofs only [ze, Nat.reduceEqDiff, Nat.reduceAdd, Nat.reduceMul, reduceIte, Nat.reduceLT, Nat.reduceLeDiff, reduceCtorEq, Int.reduceEq, Int.reduceLT, Int.reduceLE, Int.reduceNeg, Int.reduceToNat, Nat.reduceBEq, Nat.reduceSub, qp, qf, kop, av, RQ, PQ, kres, kres1, kresL, fin, fins, fin1, V.pur?, V.pur1?, V.cells, kld, ones, V.one, Value.oneCell', own, owns, own1, xfill, ksrc, kint, vint, ksub, keqs, kok, V.val1?, ofRes, h1]
    · simp -implicitDefEqProofs only [ze, Nat.reduceEqDiff, Nat.reduceAdd, Nat.reduceMul, reduceIte, Nat.reduceLT, Nat.reduceLeDiff, reduceCtorEq, Int.reduceEq, Int.reduceLT, Int.reduceLE, Int.reduceNeg, Int.reduceToNat, Nat.reduceBEq, Nat.reduceSub, qp, qf, kop, av, RQ, PQ, kres, kres1, kresL, fin, fins, fin1, V.pur?, V.pur1?, V.cells, kld, ones, V.one, Value.oneCell', own, owns, own1, xfill, ksrc, kint, vint, ksub, keqs, kok, V.val1?, ofRes]
      rw [← hbase]; simp [tagsB, bv_app]
    · simp -implicitDefEqProofs only [ze, Nat.reduceEqDiff, Nat.reduceAdd, Nat.reduceMul, reduceIte, Nat.reduceLT, Nat.reduceLeDiff, reduceCtorEq, Int.reduceEq, Int.reduceLT, Int.reduceLE, Int.reduceNeg, Int.reduceToNat, Nat.reduceBEq, Nat.reduceSub, qp, qf, kop, av, RQ, PQ, kres, kres1, kresL, fin, fins, fin1, V.pur?, V.pur1?, V.cells, kld, ones, V.one, Value.oneCell', own, owns, own1, xfill, ksrc, kint, vint, ksub, keqs, kok, V.val1?, ofRes, Nat.left_eq_add, Nat.add_eq_left, x1, x2, x3, x4]
    · simp -implicitDefEqProofs only [ze, Nat.reduceEqDiff, Nat.reduceAdd, Nat.reduceMul, reduceIte, Nat.reduceLT, Nat.reduceLeDiff, reduceCtorEq, Int.reduceEq, Int.reduceLT, Int.reduceLE, Int.reduceNeg, Int.reduceToNat, Nat.reduceBEq, Nat.reduceSub, qp, qf, kop, av, RQ, PQ, kres, kres1, kresL, fin, fins, fin1, V.pur?, V.pur1?, V.cells, kld, ones, V.one, Value.oneCell', own, owns, own1, xfill, ksrc, kint, vint, ksub, keqs, kok, V.val1?, ofRes, h8, hlr, te_f, x1, x2, x3, x4]
    · simp -implicitDefEqProofs only [ze, Nat.reduceEqDiff, Nat.reduceAdd, Nat.reduceMul, reduceIte, Nat.reduceLT, Nat.reduceLeDiff, reduceCtorEq, Int.reduceEq, Int.reduceLT, Int.reduceLE, Int.reduceNeg, Int.reduceToNat, Nat.reduceBEq, Nat.reduceSub, qp, qf, kop, av, RQ, PQ, kres, kres1, kresL, fin, fins, fin1, V.pur?, V.pur1?, V.cells, kld, ones, V.one, Value.oneCell', own, owns, own1, xfill, ksrc, kint, vint, ksub, keqs, kok, V.val1?, ofRes]
      rw [← hbase]; simp [tagsB]
    rintro n2 tm2 st2 nx2 ⟨j, hn2, hj2, g9, g8, g7, g1, g6, gnx, gl, ge, gt⟩
    simp only [k31_l0, k31_t0]
    have c5 := tagsB_len l.tags j fun t h => hpl.tags t (List.mem_of_mem_take h)
    generalize hob : out ++ bs ++ tagsB (l.tags.take j) = ob at *
    have hobl : ob.length ≤ 30000000 := by rw [← hob]; simp only [List.length_append]; omega
    have y1 : ∀ k, (120 = nx2 + k) = False := fun k => eq_false (by omega)
    have y2 : ∀ k, (8 = nx2 + k) = False := fun k => eq_false (by omega)
    have y3 : ∀ k, (nx + 80 = nx2 + k) = False := fun k => eq_false (by omega)
    have y4 : (nx + 80 = 120) = False := eq_false (by omega)
    have y5 : (nx + 80 = 8) = False := eq_false (by omega)
    have y6 : ∀ k, (nx2 + k = 120) = False := fun k => eq_false (by omega)
    have y7 : ∀ k, (nx2 + k = 8) = False := fun k => eq_false (by omega)
    by_cases hlt2 : j < l.tags.length
    · have htr : l.tr = false := by
        cases h : l.tr
        · rfl
        · rw [hpl.nil h] at hlt2; simp at hlt2
      obtain ⟨t, ht⟩ := get_lt hlt2
      have hpt := hpl.tags t (List.mem_of_getElem? ht)
      have hd2 : decide ((j : Int) < (l.tags.length : Int)) = true := decide_eq_true (by omega)
      have q1 := ptB_len t.n hpt.1
      have q2 := ptB_len t.v hpt.2
      have gl0 := gl
      rw [htr, te_f] at gl
      have e2 : l.tags.take (j + 1) = l.tags.take j ++ [t] := by rw [List.take_add_one, ht]; rfl
      repeat' (first | (simp -implicitDefEqProofs only [ze, Nat.reduceEqDiff, Nat.reduceAdd, Nat.reduceMul, reduceIte, Nat.reduceLT, Nat.reduceLeDiff, reduceCtorEq, Int.reduceEq, Int.reduceLT, Int.reduceLE, Int.reduceNeg, Int.reduceToNat, Nat.reduceBEq, Nat.reduceSub, qp, qf, kop, av, RQ, PQ, kres, kres1, kresL, fin, fins, fin1, V.pur?, V.pur1?, V.cells, kld, ones, V.one, Value.oneCell', own, owns, own1, xfill, ksrc, kint, vint, ksub, keqs, kok, V.val1?, ofRes, g9, g8, g7, g1, g6, gl, ge, gt, hd2, ht, encT, y1, y2, y3, y4, y5, y6, y7, rtext_ok t.n hpt.1, rtext_ok t.v hpt.2, bv_len, List.length_append, List.length_map, Nat.left_eq_add, Nat.add_eq_left]) | (with_reducible refine wgd_cases ?_ ?_ <;> intro hb) | (with_reducible refine wcond_cases ?_ ?_ <;> intro hb) | (with_reducible refine qd_i (by kernel_rfl) ?_) | (with_reducible refine W_itn_cases ?_ ?_; omega))
      have hob2 : out ++ bs ++ tagsB (l.tags.take (j + 1)) = ob ++ (ptB t.n ++ ptB t.v) := by rw [e2, ← hob]; simp [tagsB]
      have hob3 := congrArg List.length hob2
      simp only [List.length_append] at hob3
      refine ⟨l.tags.length - (j + 1), by omega, j + 1, rfl, by omega, up64 (by omega), ?_, by omega, by rw [htr]; rfl, ?_⟩
      · rw [hob2, bv_app, bv_app, List.append_assoc]
      · rw [show out.length + (bs.length + (tagsB (l.tags.take (j + 1))).length) = ob.length + ((ptB t.n).length + (ptB t.v).length) by omega]
    · have hd2 : decide ((j : Int) < (l.tags.length : Int)) = false := decide_eq_false (by omega)
      repeat' (first | (simp -implicitDefEqProofs only [ze, Nat.reduceEqDiff, Nat.reduceAdd, Nat.reduceMul, reduceIte, Nat.reduceLT, Nat.reduceLeDiff, reduceCtorEq, Int.reduceEq, Int.reduceLT, Int.reduceLE, Int.reduceNeg, Int.reduceToNat, Nat.reduceBEq, Nat.reduceSub, qp, qf, kop, av, RQ, PQ, kres, kres1, kresL, fin, fins, fin1, V.pur?, V.pur1?, V.cells, kld, ones, V.one, Value.oneCell', own, owns, own1, xfill, ksrc, kint, vint, ksub, keqs, kok, V.val1?, ofRes, g9, g8, g7, g1, g6, gl, ge, gt, hd2, y1, y2, y3, y4, y5, bv_len, List.length_map]) | (with_reducible refine wgd_cases ?_ ?_ <;> intro hb) | (with_reducible refine wcond_cases ?_ ?_ <;> intro hb) | (with_reducible refine qd_i (by kernel_rfl) ?_) | (with_reducible refine W_itn_cases ?_ ?_; omega))
      have hj : j = l.tags.length := by omega
      rw [hj, List.take_length] at hob
      have hlb : lineB l = bs ++ tagsB l.tags := by rw [lineB, hbase]
      have hob3 : headB e ++ linesB (e.lines.take (i + 1)) = ob := by
        rw [e1, ← hob, ← hout]
        have : linesB (e.lines.take i ++ [l]) = linesB (e.lines.take i) ++ lineB l := by simp [linesB]
        rw [this, hlb]
        simp only [List.append_assoc]
      refine ⟨e.lines.length - (i + 1), by omega, i + 1, rfl, by omega, up64 (by omega), by rw [hob3], by omega, by rw [hlr]; rfl, ?_⟩
      rw [← hob3, List.length_append]
  · have hd : decide ((i : Int) < (e.lines.length : Int)) = false := decide_eq_false (by omega)
    have hie : i = e.lines.length := by omega
    rw [hie, List.take_length] at hout
    repeat' (first | (simp -implicitDefEqProofs only [ze, Nat.reduceEqDiff, Nat.reduceAdd, Nat.reduceMul, reduceIte, Nat.reduceLT, Nat.reduceLeDiff, reduceCtorEq, Int.reduceEq, Int.reduceLT, Int.reduceLE, Int.reduceNeg, Int.reduceToNat, Nat.reduceBEq, Nat.reduceSub, qp, qf, kop, av, RQ, PQ, kres, kres1, kresL, fin, fins, fin1, V.pur?, V.pur1?, V.cells, kld, ones, V.one, Value.oneCell', own, owns, own1, xfill, ksrc, kint, vint, ksub, keqs, kok, V.val1?, ofRes, h7, h6, h1, h8, hst, hd, bv_len, List.length_map, k31_t1]) | (with_reducible refine wgd_cases ?_ ?_ <;> intro hb) | (with_reducible refine wcond_cases ?_ ?_ <;> intro hb) | (with_reducible refine qd_i (by kernel_rfl) ?_) | (with_reducible refine W_itn_cases ?_ ?_; omega))
    rw [entryB, hout]
end Go.Proofs.YtkbheoganajhaaaDoor.Vm
