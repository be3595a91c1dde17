/- Proved here: what the decoder's entry returns. Conditions: none. -/
import Derived.Test.YtojbkakdhfmjmaaDoorVt3
set_option maxRecDepth 10000
set_option linter.unusedVariables false
set_option linter.unusedSimpArgs false
namespace Go.Proofs.YtojbkakdhfmjmaaDoor.Vm
open Go Go.Proofs
def dLines (bs : List Int) : Nat → List Line → Nat → Except Int (List Line × Nat)
  | 0, acc, a => .ok (acc, a)
  | n + 1, acc, a => bindD (dLine bs a) fun x a => dLines bs n (acc ++ [x]) a
def dEntry (bs : List Int) (a : Nat) : Except Int (Entry × Nat) :=
  bindD (dInt bs a) fun no a => bindD (dText bs a) fun ent a => bindD (dInt bs a) fun book a => bindD (dInt bs a) fun val a => bindD (dInt bs a) fun kind a => bindD (dText bs a) fun ref a => bindD (dText bs a) fun who a => bindD (dInt bs a) fun rev a =>
  bindD (dCount 100 bs a) fun n a => bindD (dLines bs n.toNat [] a) fun lines a => .ok (⟨no, ent, book, val, kind, ref, who, rev, lines, lines.isEmpty⟩, a)
def entryQ (e : Entry) (v : V) (st : St) (nx : Nat) : Prop := ∃ vt, fresh1 43 (e.lines.map encL) vt ∧ e.lr = e.lines.isEmpty ∧ v = .agg [.i64 e.no, .str e.ent, .i64 e.book, .i64 e.val, .i64 e.kind, .str e.ref, .str e.who, .i64 e.rev, vt]
theorem dentry_ok {st : St} {nx id : Nat} {bs : List Int} {rr a : Nat} (h : Dec st nx id bs rr a) (hb : bOK bs) (hl : bs.length < 4611686018427387904) :
    W (L.hp 24 [.ptr id 0] st nx) (DP st nx id bs rr (dEntry bs a) entryQ) := by
  refine hp_w k24_eq ?_
  simp only [k24]
  have hid := h.1
  repeat' (first | (simp -implicitDefEqProofs only [ze, Nat.reduceEqDiff, Nat.reduceAdd, Nat.reduceMul, reduceIte, Nat.reduceLT, Nat.reduceLeDiff, reduceCtorEq, Int.reduceEq, Int.reduceLT, Int.reduceLE, Int.reduceNeg, Int.reduceToNat, Nat.reduceBEq, Nat.reduceSub, qp, qf, kop, av, RQ, PQ, kres, kres1, kresL, fin, fins, fin1, V.pur?, V.pur1?, V.cells, kld, ones, V.one, Value.oneCell', own, owns, own1, xfill, ksrc, kint, vint, ksub, keqs, kok, V.val1?, ofRes]))
  have kk : KeepX st (upd st nx (some (Ob.cells [V.sc (Value.int IntKind.i64 0), V.sc (Value.string (ByteArray.mk #[])), V.sc (Value.int IntKind.i64 0), V.sc (Value.int IntKind.i64 0), V.sc (Value.int IntKind.i64 0), V.sc (Value.string (ByteArray.mk #[])), V.sc (Value.string (ByteArray.mk #[])), V.sc (Value.int IntKind.i64 0), V.list 0 [] 1]))) nx id := (KeepX.refl st nx id).upd (Nat.le_refl _) _
  have hD := h.upd (Nat.le_refl nx) (Nat.le_refl nx) (some (Ob.cells [V.sc (Value.int IntKind.i64 0), V.sc (Value.string (ByteArray.mk #[])), V.sc (Value.int IntKind.i64 0), V.sc (Value.int IntKind.i64 0), V.sc (Value.int IntKind.i64 0), V.sc (Value.string (ByteArray.mk #[])), V.sc (Value.string (ByteArray.mk #[])), V.sc (Value.int IntKind.i64 0), V.list 0 [] 1]))
  have hne : (id = nx) = False := eq_false (by omega)
  have hne' : ¬ id = nx := by omega
  have hO : (upd st nx (some (Ob.cells [V.sc (Value.int IntKind.i64 0), V.sc (Value.string (ByteArray.mk #[])), V.sc (Value.int IntKind.i64 0), V.sc (Value.int IntKind.i64 0), V.sc (Value.int IntKind.i64 0), V.sc (Value.string (ByteArray.mk #[])), V.sc (Value.string (ByteArray.mk #[])), V.sc (Value.int IntKind.i64 0), V.list 0 [] 1]))) nx = some (Ob.cells [V.sc (Value.int IntKind.i64 0), V.sc (Value.string (ByteArray.mk #[])), V.sc (Value.int IntKind.i64 0), V.sc (Value.int IntKind.i64 0), V.sc (Value.int IntKind.i64 0), V.sc (Value.string (ByteArray.mk #[])), V.sc (Value.string (ByteArray.mk #[])), V.sc (Value.int IntKind.i64 0), V.list 0 [] 1]) := by rw [upd_at, if_pos rfl]
  refine W_xdec (by kernel_rfl) rfl (dnumber_ok (hD.le (by omega)) hb hl) (fun e s n hx1 hn hk => ?_) (fun p1 v s1 n1 hx1 hn1 hk hd hv => ?_)
  · repeat' (first | (simp -implicitDefEqProofs only [ze, Nat.reduceEqDiff, Nat.reduceAdd, Nat.reduceMul, reduceIte, Nat.reduceLT, Nat.reduceLeDiff, reduceCtorEq, Int.reduceEq, Int.reduceLT, Int.reduceLE, Int.reduceNeg, Int.reduceToNat, Nat.reduceBEq, Nat.reduceSub, qp, qf, kop, av, RQ, PQ, kres, kres1, kresL, fin, fins, fin1, V.pur?, V.pur1?, V.cells, kld, ones, V.one, Value.oneCell', own, owns, own1, xfill, ksrc, kint, vint, ksub, keqs, kok, V.val1?, ofRes]) | (with_reducible refine wgd_cases ?_ ?_ <;> intro hb) | (with_reducible refine wcond_cases ?_ ?_ <;> intro hb) | (with_reducible refine qd_i (by kernel_rfl) ?_) | (with_reducible refine W_itn_cases ?_ ?_; omega))
    have e0 : dEntry bs a = .error e := by simp only [dEntry, bindD, hx1]
    rw [e0]
    exact ⟨_, _, rfl, by omega, kk.trans hk (by omega)⟩
  subst hv
  replace kk := kk.trans hk (by omega)
  replace hO := (hk nx (by omega) (by omega)).trans hO
  replace hD := hd
  repeat' (first | (simp -implicitDefEqProofs only [ze, Nat.reduceEqDiff, Nat.reduceAdd, Nat.reduceMul, reduceIte, Nat.reduceLT, Nat.reduceLeDiff, reduceCtorEq, Int.reduceEq, Int.reduceLT, Int.reduceLE, Int.reduceNeg, Int.reduceToNat, Nat.reduceBEq, Nat.reduceSub, qp, qf, kop, av, RQ, PQ, kres, kres1, kresL, fin, fins, fin1, V.pur?, V.pur1?, V.cells, kld, ones, V.one, Value.oneCell', own, owns, own1, xfill, ksrc, kint, vint, ksub, keqs, kok, V.val1?, ofRes, hO]) | (with_reducible refine wgd_cases ?_ ?_ <;> intro hb) | (with_reducible refine wcond_cases ?_ ?_ <;> intro hb) | (with_reducible refine qd_i (by kernel_rfl) ?_) | (with_reducible refine W_itn_cases ?_ ?_; omega))
  refine W_xdec (by kernel_rfl) rfl (dtext_ok ((dec_set hD hne' (Nat.le_refl _) _).le (by omega)) hb hl) (fun e s n hx2 hn hk => ?_) (fun p2 v s2 n2 hx2 hn2 hk hd hv => ?_)
  · repeat' (first | (simp -implicitDefEqProofs only [ze, Nat.reduceEqDiff, Nat.reduceAdd, Nat.reduceMul, reduceIte, Nat.reduceLT, Nat.reduceLeDiff, reduceCtorEq, Int.reduceEq, Int.reduceLT, Int.reduceLE, Int.reduceNeg, Int.reduceToNat, Nat.reduceBEq, Nat.reduceSub, qp, qf, kop, av, RQ, PQ, kres, kres1, kresL, fin, fins, fin1, V.pur?, V.pur1?, V.cells, kld, ones, V.one, Value.oneCell', own, owns, own1, xfill, ksrc, kint, vint, ksub, keqs, kok, V.val1?, ofRes]) | (with_reducible refine wgd_cases ?_ ?_ <;> intro hb) | (with_reducible refine wcond_cases ?_ ?_ <;> intro hb) | (with_reducible refine qd_i (by kernel_rfl) ?_) | (with_reducible refine W_itn_cases ?_ ?_; omega))
    have e0 : dEntry bs a = .error e := by simp only [dEntry, bindD, hx1, hx2]
    rw [e0]
    exact ⟨_, _, rfl, by omega, (kk.upd (Nat.le_refl _) _).trans hk (by omega)⟩
  subst hv
  replace kk := (kk.upd (Nat.le_refl _) _).trans hk (by omega)
  replace hO := (hk nx (by omega) (by omega)).trans (by rw [upd_at, if_pos rfl])
  replace hD := hd
  repeat' (first | (simp -implicitDefEqProofs only [ze, Nat.reduceEqDiff, Nat.reduceAdd, Nat.reduceMul, reduceIte, Nat.reduceLT, Nat.reduceLeDiff, reduceCtorEq, Int.reduceEq, Int.reduceLT, Int.reduceLE, Int.reduceNeg, Int.reduceToNat, Nat.reduceBEq, Nat.reduceSub, qp, qf, kop, av, RQ, PQ, kres, kres1, kresL, fin, fins, fin1, V.pur?, V.pur1?, V.cells, kld, ones, V.one, Value.oneCell', own, owns, own1, xfill, ksrc, kint, vint, ksub, keqs, kok, V.val1?, ofRes, hO]) | (with_reducible refine wgd_cases ?_ ?_ <;> intro hb) | (with_reducible refine wcond_cases ?_ ?_ <;> intro hb) | (with_reducible refine qd_i (by kernel_rfl) ?_) | (with_reducible refine W_itn_cases ?_ ?_; omega))
  refine W_xdec (by kernel_rfl) rfl (dnumber_ok ((dec_set hD hne' (Nat.le_refl _) _).le (by omega)) hb hl) (fun e s n hx3 hn hk => ?_) (fun p3 v s3 n3 hx3 hn3 hk hd hv => ?_)
  · repeat' (first | (simp -implicitDefEqProofs only [ze, Nat.reduceEqDiff, Nat.reduceAdd, Nat.reduceMul, reduceIte, Nat.reduceLT, Nat.reduceLeDiff, reduceCtorEq, Int.reduceEq, Int.reduceLT, Int.reduceLE, Int.reduceNeg, Int.reduceToNat, Nat.reduceBEq, Nat.reduceSub, qp, qf, kop, av, RQ, PQ, kres, kres1, kresL, fin, fins, fin1, V.pur?, V.pur1?, V.cells, kld, ones, V.one, Value.oneCell', own, owns, own1, xfill, ksrc, kint, vint, ksub, keqs, kok, V.val1?, ofRes]) | (with_reducible refine wgd_cases ?_ ?_ <;> intro hb) | (with_reducible refine wcond_cases ?_ ?_ <;> intro hb) | (with_reducible refine qd_i (by kernel_rfl) ?_) | (with_reducible refine W_itn_cases ?_ ?_; omega))
    have e0 : dEntry bs a = .error e := by simp only [dEntry, bindD, hx1, hx2, hx3]
    rw [e0]
    exact ⟨_, _, rfl, by omega, (kk.upd (Nat.le_refl _) _).trans hk (by omega)⟩
  subst hv
  replace kk := (kk.upd (Nat.le_refl _) _).trans hk (by omega)
  replace hO := (hk nx (by omega) (by omega)).trans (by rw [upd_at, if_pos rfl])
  replace hD := hd
  repeat' (first | (simp -implicitDefEqProofs only [ze, Nat.reduceEqDiff, Nat.reduceAdd, Nat.reduceMul, reduceIte, Nat.reduceLT, Nat.reduceLeDiff, reduceCtorEq, Int.reduceEq, Int.reduceLT, Int.reduceLE, Int.reduceNeg, Int.reduceToNat, Nat.reduceBEq, Nat.reduceSub, qp, qf, kop, av, RQ, PQ, kres, kres1, kresL, fin, fins, fin1, V.pur?, V.pur1?, V.cells, kld, ones, V.one, Value.oneCell', own, owns, own1, xfill, ksrc, kint, vint, ksub, keqs, kok, V.val1?, ofRes, hO]) | (with_reducible refine wgd_cases ?_ ?_ <;> intro hb) | (with_reducible refine wcond_cases ?_ ?_ <;> intro hb) | (with_reducible refine qd_i (by kernel_rfl) ?_) | (with_reducible refine W_itn_cases ?_ ?_; omega))
  refine W_xdec (by kernel_rfl) rfl (dnumber_ok (hD.le (by omega)) hb hl) (fun e s n hx4 hn hk => ?_) (fun p4 v s4 n4 hx4 hn4 hk hd hv => ?_)
  · repeat' (first | (simp -implicitDefEqProofs only [ze, Nat.reduceEqDiff, Nat.reduceAdd, Nat.reduceMul, reduceIte, Nat.reduceLT, Nat.reduceLeDiff, reduceCtorEq, Int.reduceEq, Int.reduceLT, Int.reduceLE, Int.reduceNeg, Int.reduceToNat, Nat.reduceBEq, Nat.reduceSub, qp, qf, kop, av, RQ, PQ, kres, kres1, kresL, fin, fins, fin1, V.pur?, V.pur1?, V.cells, kld, ones, V.one, Value.oneCell', own, owns, own1, xfill, ksrc, kint, vint, ksub, keqs, kok, V.val1?, ofRes]) | (with_reducible refine wgd_cases ?_ ?_ <;> intro hb) | (with_reducible refine wcond_cases ?_ ?_ <;> intro hb) | (with_reducible refine qd_i (by kernel_rfl) ?_) | (with_reducible refine W_itn_cases ?_ ?_; omega))
    have e0 : dEntry bs a = .error e := by simp only [dEntry, bindD, hx1, hx2, hx3, hx4]
    rw [e0]
    exact ⟨_, _, rfl, by omega, kk.trans hk (by omega)⟩
  subst hv
  replace kk := kk.trans hk (by omega)
  replace hO := (hk nx (by omega) (by omega)).trans hO
  replace hD := hd
  repeat' (first | (simp -implicitDefEqProofs only [ze, Nat.reduceEqDiff, Nat.reduceAdd, Nat.reduceMul, reduceIte, Nat.reduceLT, Nat.reduceLeDiff, reduceCtorEq, Int.reduceEq, Int.reduceLT, Int.reduceLE, Int.reduceNeg, Int.reduceToNat, Nat.reduceBEq, Nat.reduceSub, qp, qf, kop, av, RQ, PQ, kres, kres1, kresL, fin, fins, fin1, V.pur?, V.pur1?, V.cells, kld, ones, V.one, Value.oneCell', own, owns, own1, xfill, ksrc, kint, vint, ksub, keqs, kok, V.val1?, ofRes, hO]) | (with_reducible refine wgd_cases ?_ ?_ <;> intro hb) | (with_reducible refine wcond_cases ?_ ?_ <;> intro hb) | (with_reducible refine qd_i (by kernel_rfl) ?_) | (with_reducible refine W_itn_cases ?_ ?_; omega))
  refine W_xdec (by kernel_rfl) rfl (dnumber_ok (hD.le (by omega)) hb hl) (fun e s n hx5 hn hk => ?_) (fun p5 v s5 n5 hx5 hn5 hk hd hv => ?_)
  · repeat' (first | (simp -implicitDefEqProofs only [ze, Nat.reduceEqDiff, Nat.reduceAdd, Nat.reduceMul, reduceIte, Nat.reduceLT, Nat.reduceLeDiff, reduceCtorEq, Int.reduceEq, Int.reduceLT, Int.reduceLE, Int.reduceNeg, Int.reduceToNat, Nat.reduceBEq, Nat.reduceSub, qp, qf, kop, av, RQ, PQ, kres, kres1, kresL, fin, fins, fin1, V.pur?, V.pur1?, V.cells, kld, ones, V.one, Value.oneCell', own, owns, own1, xfill, ksrc, kint, vint, ksub, keqs, kok, V.val1?, ofRes]) | (with_reducible refine wgd_cases ?_ ?_ <;> intro hb) | (with_reducible refine wcond_cases ?_ ?_ <;> intro hb) | (with_reducible refine qd_i (by kernel_rfl) ?_) | (with_reducible refine W_itn_cases ?_ ?_; omega))
    have e0 : dEntry bs a = .error e := by simp only [dEntry, bindD, hx1, hx2, hx3, hx4, hx5]
    rw [e0]
    exact ⟨_, _, rfl, by omega, kk.trans hk (by omega)⟩
  subst hv
  replace kk := kk.trans hk (by omega)
  replace hO := (hk nx (by omega) (by omega)).trans hO
  replace hD := hd
  repeat' (first | (simp -implicitDefEqProofs only [ze, Nat.reduceEqDiff, Nat.reduceAdd, Nat.reduceMul, reduceIte, Nat.reduceLT, Nat.reduceLeDiff, reduceCtorEq, Int.reduceEq, Int.reduceLT, Int.reduceLE, Int.reduceNeg, Int.reduceToNat, Nat.reduceBEq, Nat.reduceSub, qp, qf, kop, av, RQ, PQ, kres, kres1, kresL, fin, fins, fin1, V.pur?, V.pur1?, V.cells, kld, ones, V.one, Value.oneCell', own, owns, own1, xfill, ksrc, kint, vint, ksub, keqs, kok, V.val1?, ofRes, hO]) | (with_reducible refine wgd_cases ?_ ?_ <;> intro hb) | (with_reducible refine wcond_cases ?_ ?_ <;> intro hb) | (with_reducible refine qd_i (by kernel_rfl) ?_) | (with_reducible refine W_itn_cases ?_ ?_; omega))
  refine W_xdec (by kernel_rfl) rfl (dtext_ok ((dec_set (dec_set (dec_set hD hne' (Nat.le_refl _) _) hne' (Nat.le_refl _) _) hne' (Nat.le_refl _) _).le (by omega)) hb hl) (fun e s n hx6 hn hk => ?_) (fun p6 v s6 n6 hx6 hn6 hk hd hv => ?_)
  · repeat' (first | (simp -implicitDefEqProofs only [ze, Nat.reduceEqDiff, Nat.reduceAdd, Nat.reduceMul, reduceIte, Nat.reduceLT, Nat.reduceLeDiff, reduceCtorEq, Int.reduceEq, Int.reduceLT, Int.reduceLE, Int.reduceNeg, Int.reduceToNat, Nat.reduceBEq, Nat.reduceSub, qp, qf, kop, av, RQ, PQ, kres, kres1, kresL, fin, fins, fin1, V.pur?, V.pur1?, V.cells, kld, ones, V.one, Value.oneCell', own, owns, own1, xfill, ksrc, kint, vint, ksub, keqs, kok, V.val1?, ofRes]) | (with_reducible refine wgd_cases ?_ ?_ <;> intro hb) | (with_reducible refine wcond_cases ?_ ?_ <;> intro hb) | (with_reducible refine qd_i (by kernel_rfl) ?_) | (with_reducible refine W_itn_cases ?_ ?_; omega))
    have e0 : dEntry bs a = .error e := by simp only [dEntry, bindD, hx1, hx2, hx3, hx4, hx5, hx6]
    rw [e0]
    exact ⟨_, _, rfl, by omega, (((kk.upd (Nat.le_refl _) _).upd (Nat.le_refl _) _).upd (Nat.le_refl _) _).trans hk (by omega)⟩
  subst hv
  replace kk := (((kk.upd (Nat.le_refl _) _).upd (Nat.le_refl _) _).upd (Nat.le_refl _) _).trans hk (by omega)
  replace hO := (hk nx (by omega) (by omega)).trans (by rw [upd_at, if_pos rfl])
  replace hD := hd
  repeat' (first | (simp -implicitDefEqProofs only [ze, Nat.reduceEqDiff, Nat.reduceAdd, Nat.reduceMul, reduceIte, Nat.reduceLT, Nat.reduceLeDiff, reduceCtorEq, Int.reduceEq, Int.reduceLT, Int.reduceLE, Int.reduceNeg, Int.reduceToNat, Nat.reduceBEq, Nat.reduceSub, qp, qf, kop, av, RQ, PQ, kres, kres1, kresL, fin, fins, fin1, V.pur?, V.pur1?, V.cells, kld, ones, V.one, Value.oneCell', own, owns, own1, xfill, ksrc, kint, vint, ksub, keqs, kok, V.val1?, ofRes, hO]) | (with_reducible refine wgd_cases ?_ ?_ <;> intro hb) | (with_reducible refine wcond_cases ?_ ?_ <;> intro hb) | (with_reducible refine qd_i (by kernel_rfl) ?_) | (with_reducible refine W_itn_cases ?_ ?_; omega))
  refine W_xdec (by kernel_rfl) rfl (dtext_ok (hD.le (by omega)) hb hl) (fun e s n hx7 hn hk => ?_) (fun p7 v s7 n7 hx7 hn7 hk hd hv => ?_)
  · repeat' (first | (simp -implicitDefEqProofs only [ze, Nat.reduceEqDiff, Nat.reduceAdd, Nat.reduceMul, reduceIte, Nat.reduceLT, Nat.reduceLeDiff, reduceCtorEq, Int.reduceEq, Int.reduceLT, Int.reduceLE, Int.reduceNeg, Int.reduceToNat, Nat.reduceBEq, Nat.reduceSub, qp, qf, kop, av, RQ, PQ, kres, kres1, kresL, fin, fins, fin1, V.pur?, V.pur1?, V.cells, kld, ones, V.one, Value.oneCell', own, owns, own1, xfill, ksrc, kint, vint, ksub, keqs, kok, V.val1?, ofRes]) | (with_reducible refine wgd_cases ?_ ?_ <;> intro hb) | (with_reducible refine wcond_cases ?_ ?_ <;> intro hb) | (with_reducible refine qd_i (by kernel_rfl) ?_) | (with_reducible refine W_itn_cases ?_ ?_; omega))
    have e0 : dEntry bs a = .error e := by simp only [dEntry, bindD, hx1, hx2, hx3, hx4, hx5, hx6, hx7]
    rw [e0]
    exact ⟨_, _, rfl, by omega, kk.trans hk (by omega)⟩
  subst hv
  replace kk := kk.trans hk (by omega)
  replace hO := (hk nx (by omega) (by omega)).trans hO
  replace hD := hd
  repeat' (first | (simp -implicitDefEqProofs only [ze, Nat.reduceEqDiff, Nat.reduceAdd, Nat.reduceMul, reduceIte, Nat.reduceLT, Nat.reduceLeDiff, reduceCtorEq, Int.reduceEq, Int.reduceLT, Int.reduceLE, Int.reduceNeg, Int.reduceToNat, Nat.reduceBEq, Nat.reduceSub, qp, qf, kop, av, RQ, PQ, kres, kres1, kresL, fin, fins, fin1, V.pur?, V.pur1?, V.cells, kld, ones, V.one, Value.oneCell', own, owns, own1, xfill, ksrc, kint, vint, ksub, keqs, kok, V.val1?, ofRes, hO]) | (with_reducible refine wgd_cases ?_ ?_ <;> intro hb) | (with_reducible refine wcond_cases ?_ ?_ <;> intro hb) | (with_reducible refine qd_i (by kernel_rfl) ?_) | (with_reducible refine W_itn_cases ?_ ?_; omega))
  refine W_xdec (by kernel_rfl) rfl (dnumber_ok ((dec_set (dec_set hD hne' (Nat.le_refl _) _) hne' (Nat.le_refl _) _).le (by omega)) hb hl) (fun e s n hx8 hn hk => ?_) (fun p8 v s8 n8 hx8 hn8 hk hd hv => ?_)
  · repeat' (first | (simp -implicitDefEqProofs only [ze, Nat.reduceEqDiff, Nat.reduceAdd, Nat.reduceMul, reduceIte, Nat.reduceLT, Nat.reduceLeDiff, reduceCtorEq, Int.reduceEq, Int.reduceLT, Int.reduceLE, Int.reduceNeg, Int.reduceToNat, Nat.reduceBEq, Nat.reduceSub, qp, qf, kop, av, RQ, PQ, kres, kres1, kresL, fin, fins, fin1, V.pur?, V.pur1?, V.cells, kld, ones, V.one, Value.oneCell', own, owns, own1, xfill, ksrc, kint, vint, ksub, keqs, kok, V.val1?, ofRes]) | (with_reducible refine wgd_cases ?_ ?_ <;> intro hb) | (with_reducible refine wcond_cases ?_ ?_ <;> intro hb) | (with_reducible refine qd_i (by kernel_rfl) ?_) | (with_reducible refine W_itn_cases ?_ ?_; omega))
    have e0 : dEntry bs a = .error e := by simp only [dEntry, bindD, hx1, hx2, hx3, hx4, hx5, hx6, hx7, hx8]
    rw [e0]
    exact ⟨_, _, rfl, by omega, ((kk.upd (Nat.le_refl _) _).upd (Nat.le_refl _) _).trans hk (by omega)⟩
  subst hv
  replace kk := ((kk.upd (Nat.le_refl _) _).upd (Nat.le_refl _) _).trans hk (by omega)
  replace hO := (hk nx (by omega) (by omega)).trans (by rw [upd_at, if_pos rfl])
  replace hD := hd
  repeat' (first | (simp -implicitDefEqProofs only [ze, Nat.reduceEqDiff, Nat.reduceAdd, Nat.reduceMul, reduceIte, Nat.reduceLT, Nat.reduceLeDiff, reduceCtorEq, Int.reduceEq, Int.reduceLT, Int.reduceLE, Int.reduceNeg, Int.reduceToNat, Nat.reduceBEq, Nat.reduceSub, qp, qf, kop, av, RQ, PQ, kres, kres1, kresL, fin, fins, fin1, V.pur?, V.pur1?, V.cells, kld, ones, V.one, Value.oneCell', own, owns, own1, xfill, ksrc, kint, vint, ksub, keqs, kok, V.val1?, ofRes, hO]) | (with_reducible refine wgd_cases ?_ ?_ <;> intro hb) | (with_reducible refine wcond_cases ?_ ?_ <;> intro hb) | (with_reducible refine qd_i (by kernel_rfl) ?_) | (with_reducible refine W_itn_cases ?_ ?_; omega))
  refine W_dec (dcount_ok ((dec_set hD hne' (Nat.le_refl _) _).le (by omega)) hb hl 100) (fun e s n hx9 hn hk => ?_) (fun p9 v s9 n9 hx9 hn9 hk hd hv => ?_)
  · repeat' (first | (simp -implicitDefEqProofs only [ze, Nat.reduceEqDiff, Nat.reduceAdd, Nat.reduceMul, reduceIte, Nat.reduceLT, Nat.reduceLeDiff, reduceCtorEq, Int.reduceEq, Int.reduceLT, Int.reduceLE, Int.reduceNeg, Int.reduceToNat, Nat.reduceBEq, Nat.reduceSub, qp, qf, kop, av, RQ, PQ, kres, kres1, kresL, fin, fins, fin1, V.pur?, V.pur1?, V.cells, kld, ones, V.one, Value.oneCell', own, owns, own1, xfill, ksrc, kint, vint, ksub, keqs, kok, V.val1?, ofRes]) | (with_reducible refine wgd_cases ?_ ?_ <;> intro hb) | (with_reducible refine wcond_cases ?_ ?_ <;> intro hb) | (with_reducible refine qd_i (by kernel_rfl) ?_) | (with_reducible refine W_itn_cases ?_ ?_; omega))
    have e0 : dEntry bs a = .error e := by simp only [dEntry, bindD, hx1, hx2, hx3, hx4, hx5, hx6, hx7, hx8, hx9]
    rw [e0]
    exact ⟨_, _, rfl, by omega, (kk.upd (Nat.le_refl _) _).trans hk (by omega)⟩
  obtain ⟨rfl, hc0, hc1⟩ := hv
  replace kk := (kk.upd (Nat.le_refl _) _).trans hk (by omega)
  replace hO := (hk nx (by omega) (by omega)).trans (by rw [upd_at, if_pos rfl])
  replace hD := hd
  repeat' (first | (simp -implicitDefEqProofs only [ze, Nat.reduceEqDiff, Nat.reduceAdd, Nat.reduceMul, reduceIte, Nat.reduceLT, Nat.reduceLeDiff, reduceCtorEq, Int.reduceEq, Int.reduceLT, Int.reduceLE, Int.reduceNeg, Int.reduceToNat, Nat.reduceBEq, Nat.reduceSub, qp, qf, kop, av, RQ, PQ, kres, kres1, kresL, fin, fins, fin1, V.pur?, V.pur1?, V.cells, kld, ones, V.one, Value.oneCell', own, owns, own1, xfill, ksrc, kint, vint, ksub, keqs, kok, V.val1?, ofRes, hO]) | (with_reducible refine wgd_cases ?_ ?_ <;> intro hb) | (with_reducible refine wcond_cases ?_ ?_ <;> intro hb) | (with_reducible refine qd_i (by kernel_rfl) ?_) | (with_reducible refine W_itn_cases ?_ ?_; omega))
  have hC : ∃ c, c = [V.i64 p1.1, V.str p2.1, V.i64 p3.1, V.i64 p4.1, V.i64 p5.1, V.str p6.1, V.str p7.1, V.i64 p8.1] := ⟨_, rfl⟩
  refine loop_w (fun m tm st' nx' => ∃ (i : Nat) (acc : List Line) (ai : Nat) (vt : V), m = p9.1.toNat - i ∧ i ≤ p9.1.toNat ∧ acc.length = i ∧ dLines bs p9.1.toNat [] p9.2 = dLines bs (p9.1.toNat - i) acc ai ∧ tm 35 = .i64 i ∧ tm 34 = .i64 p9.1 ∧ tm 0 = .ptr id 0 ∧ tm 2 = .ptr nx 0 ∧ nx + 8 ≤ nx' ∧ KeepX st st' nx id ∧
      st' nx = some (.cells [.i64 p1.1, .str p2.1, .i64 p3.1, .i64 p4.1, .i64 p5.1, .str p6.1, .str p7.1, .i64 p8.1, vt]) ∧ Dec st' nx' id bs rr ai ∧ GrowN st' nx nx' 43 (acc.map encL) vt) p9.1.toNat ⟨0, [], p9.2, .list 0 [] 1, by omega, by omega, rfl, rfl, ?_, ?_, ?_, ?_, by omega, kk, hO, hD.le (by omega), .inl ⟨rfl, rfl⟩⟩ ?_
  · simp -implicitDefEqProofs only [ze, Nat.reduceEqDiff, Nat.reduceAdd, Nat.reduceMul, reduceIte, Nat.reduceLT, Nat.reduceLeDiff, reduceCtorEq, Int.reduceEq, Int.reduceLT, Int.reduceLE, Int.reduceNeg, Int.reduceToNat, Nat.reduceBEq, Nat.reduceSub, qp, qf, kop, av, RQ, PQ, kres, kres1, kresL, fin, fins, fin1, V.pur?, V.pur1?, V.cells, kld, ones, V.one, Value.oneCell', own, owns, own1, xfill, ksrc, kint, vint, ksub, keqs, kok, V.val1?, ofRes]; rfl
  · simp -implicitDefEqProofs only [ze, Nat.reduceEqDiff, Nat.reduceAdd, Nat.reduceMul, reduceIte, Nat.reduceLT, Nat.reduceLeDiff, reduceCtorEq, Int.reduceEq, Int.reduceLT, Int.reduceLE, Int.reduceNeg, Int.reduceToNat, Nat.reduceBEq, Nat.reduceSub, qp, qf, kop, av, RQ, PQ, kres, kres1, kresL, fin, fins, fin1, V.pur?, V.pur1?, V.cells, kld, ones, V.one, Value.oneCell', own, owns, own1, xfill, ksrc, kint, vint, ksub, keqs, kok, V.val1?, ofRes]
  · simp -implicitDefEqProofs only [ze, Nat.reduceEqDiff, Nat.reduceAdd, Nat.reduceMul, reduceIte, Nat.reduceLT, Nat.reduceLeDiff, reduceCtorEq, Int.reduceEq, Int.reduceLT, Int.reduceLE, Int.reduceNeg, Int.reduceToNat, Nat.reduceBEq, Nat.reduceSub, qp, qf, kop, av, RQ, PQ, kres, kres1, kresL, fin, fins, fin1, V.pur?, V.pur1?, V.cells, kld, ones, V.one, Value.oneCell', own, owns, own1, xfill, ksrc, kint, vint, ksub, keqs, kok, V.val1?, ofRes]
  · simp -implicitDefEqProofs only [ze, Nat.reduceEqDiff, Nat.reduceAdd, Nat.reduceMul, reduceIte, Nat.reduceLT, Nat.reduceLeDiff, reduceCtorEq, Int.reduceEq, Int.reduceLT, Int.reduceLE, Int.reduceNeg, Int.reduceToNat, Nat.reduceBEq, Nat.reduceSub, qp, qf, kop, av, RQ, PQ, kres, kres1, kresL, fin, fins, fin1, V.pur?, V.pur1?, V.cells, kld, ones, V.one, Value.oneCell', own, owns, own1, xfill, ksrc, kint, vint, ksub, keqs, kok, V.val1?, ofRes]
  clear hD kk hO
  rintro m tm st' nx' ⟨i, acc, ai, vt, hm, hi, hacc, hdt, h35, h34, h0, h2, hnx, kk, hO, hD, hg⟩
  simp only [k24_l0]
  by_cases hlt : i < p9.1.toNat
  · have hd : decide ((i : Int) < p9.1) = true := decide_eq_true (by omega)
    obtain ⟨k, hki⟩ : ∃ k, p9.1.toNat - i = k + 1 := ⟨p9.1.toNat - i - 1, by omega⟩
    rw [hki] at hdt
    repeat' (first | (simp -implicitDefEqProofs only [ze, Nat.reduceEqDiff, Nat.reduceAdd, Nat.reduceMul, reduceIte, Nat.reduceLT, Nat.reduceLeDiff, reduceCtorEq, Int.reduceEq, Int.reduceLT, Int.reduceLE, Int.reduceNeg, Int.reduceToNat, Nat.reduceBEq, Nat.reduceSub, qp, qf, kop, av, RQ, PQ, kres, kres1, kresL, fin, fins, fin1, V.pur?, V.pur1?, V.cells, kld, ones, V.one, Value.oneCell', own, owns, own1, xfill, ksrc, kint, vint, ksub, keqs, kok, V.val1?, ofRes, h35, h34, h0, h2, hd, hO]))
    refine W_dec (dline_ok (hD.le (by omega)) hb hl) (fun e s n hxa hn hk => ?_) (fun pa v sa na hxa hna hka hDa hv => ?_)
    · simp -implicitDefEqProofs only [ze, Nat.reduceEqDiff, Nat.reduceAdd, Nat.reduceMul, reduceIte, Nat.reduceLT, Nat.reduceLeDiff, reduceCtorEq, Int.reduceEq, Int.reduceLT, Int.reduceLE, Int.reduceNeg, Int.reduceToNat, Nat.reduceBEq, Nat.reduceSub, qp, qf, kop, av, RQ, PQ, kres, kres1, kresL, fin, fins, fin1, V.pur?, V.pur1?, V.cells, kld, ones, V.one, Value.oneCell', own, owns, own1, xfill, ksrc, kint, vint, ksub, keqs, kok, V.val1?, ofRes]
      refine ⟨?_, by kernel_rfl, ?_⟩
      · simp [recsOk2, ordB, pairOk, bigF, δF, rF, disj, List.range, List.range.loop]
      · have e0 : dEntry bs a = .error e := by simp only [dEntry, bindD, hx1, hx2, hx3, hx4, hx5, hx6, hx7, hx8, hx9, hdt, dLines, hxa]
        rw [e0]
        exact ⟨_, _, rfl, by omega, kk.trans hk (by omega)⟩
    · obtain ⟨vt2, hf, htr, rfl⟩ := hv
      have hOa := (hka nx (by omega) (by omega)).trans hO
      have kka := kk.trans hka (by omega)
      have f2 : ∀ j, (nx = na + j) = False := fun j => eq_false (by omega)
      have f5 : ∀ j, (nx = nx' + j) = False := fun j => eq_false (by omega)
      rcases hf with ⟨hfb, rfl⟩ | ⟨hfb, r2, hr28, rfl⟩
      · have htg : pa.1.tags = [] := by simpa using hfb
        have hel : encL pa.1 = .agg [.str pa.1.acc, .str pa.1.cur, .i64 pa.1.amt, .i64 pa.1.base, .str pa.1.par, .str pa.1.pty, .list 0 [] 1] := by
          unfold encL; rw [htr, htg]; rfl
        rcases hg with ⟨hb0, rfl⟩ | ⟨hb1, r, hr0, hr8, hrn, rfl, hst⟩
        · have hacc0 : acc = [] := by simpa using hb0
          subst hacc0
          have hi0 : i = 0 := hacc.symm
          subst hi0
          repeat' (first | (simp -implicitDefEqProofs only [ze, Nat.reduceEqDiff, Nat.reduceAdd, Nat.reduceMul, reduceIte, Nat.reduceLT, Nat.reduceLeDiff, reduceCtorEq, Int.reduceEq, Int.reduceLT, Int.reduceLE, Int.reduceNeg, Int.reduceToNat, Nat.reduceBEq, Nat.reduceSub, qp, qf, kop, av, RQ, PQ, kres, kres1, kresL, fin, fins, fin1, V.pur?, V.pur1?, V.cells, kld, ones, V.one, Value.oneCell', own, owns, own1, xfill, ksrc, kint, vint, ksub, keqs, kok, V.val1?, ofRes, hOa, f2, f5, h35, h34, h0, h2, wnx_tb, wnx_tbn]) | (with_reducible refine W_itn_cases ?_ ?_; omega))
          refine qd_2 ?_ ?_
          · simp [recsOk2, ordB, pairOk, bigF, δF, rF, disj, List.range, List.range.loop, seqSt, upds_nil]
            exact ⟨.inr (hOa.trans hO.symm), ⟨.inr (by omega), by decide⟩, ⟨.inr (by omega), by decide⟩, by decide, by decide, .inr (by omega), .inr (by omega)⟩
          · repeat' (first | (simp -implicitDefEqProofs only [ze, Nat.reduceEqDiff, Nat.reduceAdd, Nat.reduceMul, reduceIte, Nat.reduceLT, Nat.reduceLeDiff, reduceCtorEq, Int.reduceEq, Int.reduceLT, Int.reduceLE, Int.reduceNeg, Int.reduceToNat, Nat.reduceBEq, Nat.reduceSub, qp, qf, kop, av, RQ, PQ, kres, kres1, kresL, fin, fins, fin1, V.pur?, V.pur1?, V.cells, kld, ones, V.one, Value.oneCell', own, owns, own1, xfill, ksrc, kint, vint, ksub, keqs, kok, V.val1?, ofRes, h35, h34, h0, h2, f2, f5]) | (with_reducible refine wgd_cases ?_ ?_ <;> intro hb) | (with_reducible refine wcond_cases ?_ ?_ <;> intro hb) | (with_reducible refine qd_i (by kernel_rfl) ?_) | (with_reducible refine W_itn_cases ?_ ?_; omega))
            refine ⟨p9.1.toNat - 1, by omega, 1, [pa.1], pa.2, _, rfl, by omega, rfl, ?_, up64 (by omega), by omega, ((kka.upd (by omega) _).upd (by omega) _).upd (Nat.le_refl _) _, rfl, dec_set (dec_set (dec_set hDa (by omega) (Nat.le_refl _) _) (by omega) (Nat.le_refl _) _) hne' (by omega) _, .inr ⟨by simp, nx' + 48, by omega, by omega, by omega, by rw [List.map_cons, hel]; rfl, ?_⟩⟩
            · rw [hdt, show p9.1.toNat - 1 = k by omega]; simp only [dLines, bindD, hxa, List.nil_append]
            · rw [upd_at, if_neg (by omega), upd_at, if_pos rfl]; rfl
        · have hstb := (hka r (by omega) (by omega)).trans hst
          have g1 : (r = 0) = False := eq_false (by omega)
          have g2 : (r = 1) = False := eq_false (by omega)
          have g3 : ∀ j, (r = nx' + j) = False := fun j => eq_false (by omega)
          have g5 : (nx = r) = False := eq_false (by omega)
          repeat' (first | (simp -implicitDefEqProofs only [ze, Nat.reduceEqDiff, Nat.reduceAdd, Nat.reduceMul, reduceIte, Nat.reduceLT, Nat.reduceLeDiff, reduceCtorEq, Int.reduceEq, Int.reduceLT, Int.reduceLE, Int.reduceNeg, Int.reduceToNat, Nat.reduceBEq, Nat.reduceSub, qp, qf, kop, av, RQ, PQ, kres, kres1, kresL, fin, fins, fin1, V.pur?, V.pur1?, V.cells, kld, ones, V.one, Value.oneCell', own, owns, own1, xfill, ksrc, kint, vint, ksub, keqs, kok, V.val1?, ofRes, hOa, hstb, f2, f5, g1, g2, g3, g5, h35, h34, h0, h2, List.length_map, wnx_tb, wnx_tbn]) | (with_reducible refine W_itn_cases ?_ ?_; omega))
          refine qd_2 ?_ ?_
          · simp [recsOk2, ordB, pairOk, bigF, δF, rF, disj, List.range, List.range.loop, seqSt, upds_nil]
            exact ⟨.inr (hOa.trans hO.symm), ⟨.inr (by omega), by decide⟩, ⟨.inr (by omega), by decide, .inr (by omega)⟩, by decide, by decide, .inr (by omega), .inr (by omega)⟩
          · repeat' (first | (simp -implicitDefEqProofs only [ze, Nat.reduceEqDiff, Nat.reduceAdd, Nat.reduceMul, reduceIte, Nat.reduceLT, Nat.reduceLeDiff, reduceCtorEq, Int.reduceEq, Int.reduceLT, Int.reduceLE, Int.reduceNeg, Int.reduceToNat, Nat.reduceBEq, Nat.reduceSub, qp, qf, kop, av, RQ, PQ, kres, kres1, kresL, fin, fins, fin1, V.pur?, V.pur1?, V.cells, kld, ones, V.one, Value.oneCell', own, owns, own1, xfill, ksrc, kint, vint, ksub, keqs, kok, V.val1?, ofRes, h35, h34, h0, h2, f2, f5, g5]) | (with_reducible refine wgd_cases ?_ ?_ <;> intro hb) | (with_reducible refine wcond_cases ?_ ?_ <;> intro hb) | (with_reducible refine qd_i (by kernel_rfl) ?_) | (with_reducible refine W_itn_cases ?_ ?_; omega))
            refine ⟨p9.1.toNat - (i + 1), by omega, i + 1, acc ++ [pa.1], pa.2, _, rfl, by omega, by simp [hacc], ?_, up64 (by omega), by omega, ((kka.upd (by omega) _).upd (by omega) _).upd (Nat.le_refl _) _, rfl, dec_set (dec_set (dec_set hDa (by omega) (Nat.le_refl _) _) (by omega) (Nat.le_refl _) _) hne' (by omega) _, .inr ⟨by simp, r, by omega, by omega, by omega, by rw [List.map_append, List.map_cons, hel]; rfl, ?_⟩⟩
            · rw [hdt, show p9.1.toNat - (i + 1) = k by omega]; simp only [dLines, bindD, hxa]
            · rw [upd_at, if_neg (by omega), upd_at, if_pos rfl]; simp
      · have htg : pa.1.tags ≠ [] := by intro h; exact hfb (by rw [h]; rfl)
        have g7 : (r2 = 1) = False := eq_false (by omega)
        have hel : encL pa.1 = .agg [.str pa.1.acc, .str pa.1.cur, .i64 pa.1.amt, .i64 pa.1.base, .str pa.1.par, .str pa.1.pty, .list 45 (pa.1.tags.map encT) 0] := by
          have : pa.1.tr = false := by rw [htr]; simpa using htg
          unfold encL; rw [this]; rfl
        rcases hg with ⟨hb0, rfl⟩ | ⟨hb1, r, hr0, hr8, hrn, rfl, hst⟩
        · have hacc0 : acc = [] := by simpa using hb0
          subst hacc0
          have hi0 : i = 0 := hacc.symm
          subst hi0
          repeat' (first | (simp -implicitDefEqProofs only [ze, Nat.reduceEqDiff, Nat.reduceAdd, Nat.reduceMul, reduceIte, Nat.reduceLT, Nat.reduceLeDiff, reduceCtorEq, Int.reduceEq, Int.reduceLT, Int.reduceLE, Int.reduceNeg, Int.reduceToNat, Nat.reduceBEq, Nat.reduceSub, qp, qf, kop, av, RQ, PQ, kres, kres1, kresL, fin, fins, fin1, V.pur?, V.pur1?, V.cells, kld, ones, V.one, Value.oneCell', own, owns, own1, xfill, ksrc, kint, vint, ksub, keqs, kok, V.val1?, ofRes, hOa, f2, f5, h35, h34, h0, h2, wnx_tb, wnx_tbn, g7]) | (with_reducible refine W_itn_cases ?_ ?_; omega))
          refine qd_2 ?_ ?_
          · simp [recsOk2, ordB, pairOk, bigF, δF, rF, disj, List.range, List.range.loop, seqSt, upds_nil]
            exact ⟨.inr (hOa.trans hO.symm), ⟨.inr (by omega), by decide⟩, ⟨.inr (by omega), by decide⟩, by decide, by decide, .inr (by omega), .inr (by omega)⟩
          · repeat' (first | (simp -implicitDefEqProofs only [ze, Nat.reduceEqDiff, Nat.reduceAdd, Nat.reduceMul, reduceIte, Nat.reduceLT, Nat.reduceLeDiff, reduceCtorEq, Int.reduceEq, Int.reduceLT, Int.reduceLE, Int.reduceNeg, Int.reduceToNat, Nat.reduceBEq, Nat.reduceSub, qp, qf, kop, av, RQ, PQ, kres, kres1, kresL, fin, fins, fin1, V.pur?, V.pur1?, V.cells, kld, ones, V.one, Value.oneCell', own, owns, own1, xfill, ksrc, kint, vint, ksub, keqs, kok, V.val1?, ofRes, h35, h34, h0, h2, f2, f5]) | (with_reducible refine wgd_cases ?_ ?_ <;> intro hb) | (with_reducible refine wcond_cases ?_ ?_ <;> intro hb) | (with_reducible refine qd_i (by kernel_rfl) ?_) | (with_reducible refine W_itn_cases ?_ ?_; omega))
            refine ⟨p9.1.toNat - 1, by omega, 1, [pa.1], pa.2, _, rfl, by omega, rfl, ?_, up64 (by omega), by omega, ((kka.upd (by omega) _).upd (by omega) _).upd (Nat.le_refl _) _, rfl, dec_set (dec_set (dec_set hDa (by omega) (Nat.le_refl _) _) (by omega) (Nat.le_refl _) _) hne' (by omega) _, .inr ⟨by simp, nx' + 48, by omega, by omega, by omega, by rw [List.map_cons, hel]; rfl, ?_⟩⟩
            · rw [hdt, show p9.1.toNat - 1 = k by omega]; simp only [dLines, bindD, hxa, List.nil_append]
            · rw [upd_at, if_neg (by omega), upd_at, if_pos rfl]; rfl
        · have hstb := (hka r (by omega) (by omega)).trans hst
          have g1 : (r = 0) = False := eq_false (by omega)
          have g2 : (r = 1) = False := eq_false (by omega)
          have g3 : ∀ j, (r = nx' + j) = False := fun j => eq_false (by omega)
          have g5 : (nx = r) = False := eq_false (by omega)
          repeat' (first | (simp -implicitDefEqProofs only [ze, Nat.reduceEqDiff, Nat.reduceAdd, Nat.reduceMul, reduceIte, Nat.reduceLT, Nat.reduceLeDiff, reduceCtorEq, Int.reduceEq, Int.reduceLT, Int.reduceLE, Int.reduceNeg, Int.reduceToNat, Nat.reduceBEq, Nat.reduceSub, qp, qf, kop, av, RQ, PQ, kres, kres1, kresL, fin, fins, fin1, V.pur?, V.pur1?, V.cells, kld, ones, V.one, Value.oneCell', own, owns, own1, xfill, ksrc, kint, vint, ksub, keqs, kok, V.val1?, ofRes, hOa, hstb, f2, f5, g1, g2, g3, g5, h35, h34, h0, h2, List.length_map, wnx_tb, wnx_tbn, g7]) | (with_reducible refine W_itn_cases ?_ ?_; omega))
          refine qd_2 ?_ ?_
          · simp [recsOk2, ordB, pairOk, bigF, δF, rF, disj, List.range, List.range.loop, seqSt, upds_nil]
            exact ⟨.inr (hOa.trans hO.symm), ⟨.inr (by omega), by decide⟩, ⟨.inr (by omega), by decide, .inr (by omega)⟩, by decide, by decide, .inr (by omega), .inr (by omega)⟩
          · repeat' (first | (simp -implicitDefEqProofs only [ze, Nat.reduceEqDiff, Nat.reduceAdd, Nat.reduceMul, reduceIte, Nat.reduceLT, Nat.reduceLeDiff, reduceCtorEq, Int.reduceEq, Int.reduceLT, Int.reduceLE, Int.reduceNeg, Int.reduceToNat, Nat.reduceBEq, Nat.reduceSub, qp, qf, kop, av, RQ, PQ, kres, kres1, kresL, fin, fins, fin1, V.pur?, V.pur1?, V.cells, kld, ones, V.one, Value.oneCell', own, owns, own1, xfill, ksrc, kint, vint, ksub, keqs, kok, V.val1?, ofRes, h35, h34, h0, h2, f2, f5, g5]) | (with_reducible refine wgd_cases ?_ ?_ <;> intro hb) | (with_reducible refine wcond_cases ?_ ?_ <;> intro hb) | (with_reducible refine qd_i (by kernel_rfl) ?_) | (with_reducible refine W_itn_cases ?_ ?_; omega))
            refine ⟨p9.1.toNat - (i + 1), by omega, i + 1, acc ++ [pa.1], pa.2, _, rfl, by omega, by simp [hacc], ?_, up64 (by omega), by omega, ((kka.upd (by omega) _).upd (by omega) _).upd (Nat.le_refl _) _, rfl, dec_set (dec_set (dec_set hDa (by omega) (Nat.le_refl _) _) (by omega) (Nat.le_refl _) _) hne' (by omega) _, .inr ⟨by simp, r, by omega, by omega, by omega, by rw [List.map_append, List.map_cons, hel]; rfl, ?_⟩⟩
            · rw [hdt, show p9.1.toNat - (i + 1) = k by omega]; simp only [dLines, bindD, hxa]
            · rw [upd_at, if_neg (by omega), upd_at, if_pos rfl]; simp
  · have hd : decide ((i : Int) < p9.1) = false := decide_eq_false (by omega)
    have hin : i = p9.1.toNat := by omega
    rw [hin, Nat.sub_self] at hdt
    have e0 : dEntry bs a = .ok (⟨p1.1, p2.1, p3.1, p4.1, p5.1, p6.1, p7.1, p8.1, acc, acc.isEmpty⟩, ai) := by simp only [dEntry, bindD, hx1, hx2, hx3, hx4, hx5, hx6, hx7, hx8, hx9, hdt, dLines]
    rcases hg with ⟨hb0, rfl⟩ | ⟨hb1, r, hr0, hr8, hrn, rfl, hst⟩
    · repeat' (first | (simp -implicitDefEqProofs only [ze, Nat.reduceEqDiff, Nat.reduceAdd, Nat.reduceMul, reduceIte, Nat.reduceLT, Nat.reduceLeDiff, reduceCtorEq, Int.reduceEq, Int.reduceLT, Int.reduceLE, Int.reduceNeg, Int.reduceToNat, Nat.reduceBEq, Nat.reduceSub, qp, qf, kop, av, RQ, PQ, kres, kres1, kresL, fin, fins, fin1, V.pur?, V.pur1?, V.cells, kld, ones, V.one, Value.oneCell', own, owns, own1, xfill, ksrc, kint, vint, ksub, keqs, kok, V.val1?, ofRes, h35, h34, h0, h2, hd, k24_t0, hO]) | (with_reducible refine wgd_cases ?_ ?_ <;> intro hb) | (with_reducible refine wcond_cases ?_ ?_ <;> intro hb) | (with_reducible refine qd_i (by kernel_rfl) ?_) | (with_reducible refine W_itn_cases ?_ ?_; omega))
      rw [e0]
      exact ⟨_, _, _, rfl, by omega, kk.upd (Nat.le_refl _) _, dec_set hD hne' (by omega) _, _, .inl ⟨hb0, rfl⟩, rfl, rfl⟩
    · repeat' (first | (simp -implicitDefEqProofs only [ze, Nat.reduceEqDiff, Nat.reduceAdd, Nat.reduceMul, reduceIte, Nat.reduceLT, Nat.reduceLeDiff, reduceCtorEq, Int.reduceEq, Int.reduceLT, Int.reduceLE, Int.reduceNeg, Int.reduceToNat, Nat.reduceBEq, Nat.reduceSub, qp, qf, kop, av, RQ, PQ, kres, kres1, kresL, fin, fins, fin1, V.pur?, V.pur1?, V.cells, kld, ones, V.one, Value.oneCell', own, owns, own1, xfill, ksrc, kint, vint, ksub, keqs, kok, V.val1?, ofRes, h35, h34, h0, h2, hd, k24_t0, hO]) | (with_reducible refine wgd_cases ?_ ?_ <;> intro hb) | (with_reducible refine wcond_cases ?_ ?_ <;> intro hb) | (with_reducible refine qd_i (by kernel_rfl) ?_) | (with_reducible refine W_itn_cases ?_ ?_; omega))
      rw [e0]
      exact ⟨_, _, _, rfl, by omega, kk.upd (Nat.le_refl _) _, dec_set hD hne' (by omega) _, _, .inr ⟨hb1, r, hr8, rfl⟩, rfl, rfl⟩
end Go.Proofs.YtojbkakdhfmjmaaDoor.Vm
