/- Proved here: what the decoder's line and entry return. Conditions: none. -/
import Derived.Test.YtojbkakdhfmjmaaDoorVt2
import Derived.Test.YtojbkakdhfmjmaaDoorVs10
set_option maxRecDepth 10000
set_option linter.unusedVariables false
set_option linter.unusedSimpArgs false
namespace Go.Proofs.YtojbkakdhfmjmaaDoor.Vm
open Go Go.Proofs
def bindD {α β : Type} (x : Except Int (α × Nat)) (f : α → Nat → Except Int (β × Nat)) : Except Int (β × Nat) := match x with
  | .error e => .error e
  | .ok p => f p.1 p.2
def dTags (bs : List Int) : Nat → List Tag → Nat → Except Int (List Tag × Nat)
  | 0, acc, a => .ok (acc, a)
  | n + 1, acc, a => bindD (dText bs a) fun x a => bindD (dText bs a) fun y a => dTags bs n (acc ++ [⟨x, y⟩]) a
def dLine (bs : List Int) (a : Nat) : Except Int (Line × Nat) :=
  bindD (dText bs a) fun acc a => bindD (dText bs a) fun cur a => bindD (dInt bs a) fun amt a => bindD (dInt bs a) fun base a => bindD (dText bs a) fun par a => bindD (dText bs a) fun pty a =>
  bindD (dCount 6 bs a) fun n a => bindD (dTags bs n.toNat [] a) fun tags a => .ok (⟨acc, cur, amt, base, par, pty, tags, tags.isEmpty⟩, a)
/-- A line that has just been read: its list of tags may still bear a right. -/
def fresh1 (e : Nat) (xs : List V) (v : V) : Prop := (xs = [] ∧ v = .list 0 [] 1) ∨ (xs ≠ [] ∧ ∃ r, 8 ≤ r ∧ v = .list e xs r)
def lineQ (l : Line) (v : V) (st : St) (nx : Nat) : Prop := ∃ vt, fresh1 45 (l.tags.map encT) vt ∧ l.tr = l.tags.isEmpty ∧ v = .agg [.str l.acc, .str l.cur, .i64 l.amt, .i64 l.base, .str l.par, .str l.pty, vt]
/-- A list that a call has made and may add to. -/
def GrowN (st : St) (n0 nx e : Nat) (xs : List V) (v : V) : Prop := (xs = [] ∧ v = .list 0 [] 1) ∨ (xs ≠ [] ∧ ∃ r, n0 < r ∧ 8 ≤ r ∧ r < nx ∧ v = .list e xs r ∧ st r = some (.tok xs.length e))
theorem W_xdec {α : Type} {P : Program} {E : Env} {i0 nx : Nat} {f : FuncId} {al : List V} {st : St} {id : Nat} {bs : List Int} {rr : Nat} {x : Except Int (α × Nat)} {Q : α → V → St → Nat → Prop} {C : R → Prop} (hn : nobody P f = false) (hh : E.hm f = true) (h : W (E.hp f al st nx) (DP st nx id bs rr x Q))
    (hbad : ∀ e st' nx', x = .error e → nx ≤ nx' → KeepX st st' nx id → C (.bpan (errV e) st' nx'))
    (hok : ∀ p v st' nx', x = .ok p → nx ≤ nx' → KeepX st st' nx id → Dec st' nx' id bs rr p.2 → Q p.1 v st' nx' → C (.big v st' nx')) : W (xcall P E i0 nx st f al) C := by
  unfold xcall
  rw [if_neg (by rw [hn]; simp), if_pos hh]
  exact W_dec h hbad hok
theorem dec_set {st : St} {nx nx' id j : Nat} {bs : List Int} {rr a : Nat} (h : Dec st nx id bs rr a) (hj : id ≠ j) (hn : nx ≤ nx') (o : Option Ob) : Dec (upd st j o) nx' id bs rr a := ⟨Nat.lt_of_lt_of_le h.1 hn, h.2.1, by rw [upd_at, if_neg hj]; exact h.2.2⟩
theorem dline_ok {st : St} {nx id : Nat} {bs : List Int} {rr a : Nat} (h : Dec st nx id bs rr a) (hb : bOK bs) (hl : bs.length < 4611686018427387904) :
    W (L.hp 41 [.ptr id 0] st nx) (DP st nx id bs rr (dLine bs a) lineQ) := by
  refine hp_w k41_eq ?_
  simp only [k41]
  have hid := h.1
  repeat' (first | (simp -implicitDefEqProofs only [ze, Nat.reduceEqDiff, Nat.reduceAdd, Nat.reduceMul, reduceIte, Nat.reduceLT, Nat.reduceLeDiff, reduceCtorEq, Int.reduceEq, Int.reduceLT, Int.reduceLE, Int.reduceNeg, Int.reduceToNat, Nat.reduceBEq, Nat.reduceSub, qp, qf, kop, av, RQ, PQ, kres, kres1, kresL, fin, fins, fin1, V.pur?, V.pur1?, V.cells, kld, ones, V.one, Value.oneCell', own, owns, own1, xfill, ksrc, kint, vint, ksub, keqs, kok, V.val1?, ofRes]))
  have kk : KeepX st (upd st nx (some (Ob.cells [V.sc (Value.string (ByteArray.mk #[])), V.sc (Value.string (ByteArray.mk #[])), V.sc (Value.int IntKind.i64 0), V.sc (Value.int IntKind.i64 0), V.sc (Value.string (ByteArray.mk #[])), V.sc (Value.string (ByteArray.mk #[])), V.list 0 [] 1]))) nx id := (KeepX.refl st nx id).upd (Nat.le_refl _) _
  have hD := h.upd (Nat.le_refl nx) (Nat.le_refl nx) (some (Ob.cells [V.sc (Value.string (ByteArray.mk #[])), V.sc (Value.string (ByteArray.mk #[])), V.sc (Value.int IntKind.i64 0), V.sc (Value.int IntKind.i64 0), V.sc (Value.string (ByteArray.mk #[])), V.sc (Value.string (ByteArray.mk #[])), V.list 0 [] 1]))
  have hne : (id = nx) = False := eq_false (by omega)
  have hne' : ¬ id = nx := by omega
  have hO : (upd st nx (some (Ob.cells [V.sc (Value.string (ByteArray.mk #[])), V.sc (Value.string (ByteArray.mk #[])), V.sc (Value.int IntKind.i64 0), V.sc (Value.int IntKind.i64 0), V.sc (Value.string (ByteArray.mk #[])), V.sc (Value.string (ByteArray.mk #[])), V.list 0 [] 1]))) nx = some (Ob.cells [V.sc (Value.string (ByteArray.mk #[])), V.sc (Value.string (ByteArray.mk #[])), V.sc (Value.int IntKind.i64 0), V.sc (Value.int IntKind.i64 0), V.sc (Value.string (ByteArray.mk #[])), V.sc (Value.string (ByteArray.mk #[])), V.list 0 [] 1]) := by rw [upd_at, if_pos rfl]
  refine W_xdec (by kernel_rfl) rfl (dtext_ok (hD.le (by omega)) hb hl) (fun e s n hx1 hn hk => ?_) (fun p1 v s1 n1 hx1 hn1 hk hd hv => ?_)
  · repeat' (first | (simp -implicitDefEqProofs only [ze, Nat.reduceEqDiff, Nat.reduceAdd, Nat.reduceMul, reduceIte, Nat.reduceLT, Nat.reduceLeDiff, reduceCtorEq, Int.reduceEq, Int.reduceLT, Int.reduceLE, Int.reduceNeg, Int.reduceToNat, Nat.reduceBEq, Nat.reduceSub, qp, qf, kop, av, RQ, PQ, kres, kres1, kresL, fin, fins, fin1, V.pur?, V.pur1?, V.cells, kld, ones, V.one, Value.oneCell', own, owns, own1, xfill, ksrc, kint, vint, ksub, keqs, kok, V.val1?, ofRes]) | (with_reducible refine wgd_cases ?_ ?_ <;> intro hb) | (with_reducible refine wcond_cases ?_ ?_ <;> intro hb) | (with_reducible refine qd_i (by kernel_rfl) ?_) | (with_reducible refine W_itn_cases ?_ ?_; omega))
    have e0 : dLine bs a = .error e := by simp only [dLine, bindD, hx1]
    rw [e0]
    exact ⟨_, _, rfl, by omega, kk.trans hk (by omega)⟩
  subst hv
  replace kk := kk.trans hk (by omega)
  replace hO := (hk nx (by omega) (by omega)).trans hO
  replace hD := hd
  repeat' (first | (simp -implicitDefEqProofs only [ze, Nat.reduceEqDiff, Nat.reduceAdd, Nat.reduceMul, reduceIte, Nat.reduceLT, Nat.reduceLeDiff, reduceCtorEq, Int.reduceEq, Int.reduceLT, Int.reduceLE, Int.reduceNeg, Int.reduceToNat, Nat.reduceBEq, Nat.reduceSub, qp, qf, kop, av, RQ, PQ, kres, kres1, kresL, fin, fins, fin1, V.pur?, V.pur1?, V.cells, kld, ones, V.one, Value.oneCell', own, owns, own1, xfill, ksrc, kint, vint, ksub, keqs, kok, V.val1?, ofRes, hO]) | (with_reducible refine wgd_cases ?_ ?_ <;> intro hb) | (with_reducible refine wcond_cases ?_ ?_ <;> intro hb) | (with_reducible refine qd_i (by kernel_rfl) ?_) | (with_reducible refine W_itn_cases ?_ ?_; omega))
  refine W_xdec (by kernel_rfl) rfl (dtext_ok (hD.le (by omega)) hb hl) (fun e s n hx2 hn hk => ?_) (fun p2 v s2 n2 hx2 hn2 hk hd hv => ?_)
  · repeat' (first | (simp -implicitDefEqProofs only [ze, Nat.reduceEqDiff, Nat.reduceAdd, Nat.reduceMul, reduceIte, Nat.reduceLT, Nat.reduceLeDiff, reduceCtorEq, Int.reduceEq, Int.reduceLT, Int.reduceLE, Int.reduceNeg, Int.reduceToNat, Nat.reduceBEq, Nat.reduceSub, qp, qf, kop, av, RQ, PQ, kres, kres1, kresL, fin, fins, fin1, V.pur?, V.pur1?, V.cells, kld, ones, V.one, Value.oneCell', own, owns, own1, xfill, ksrc, kint, vint, ksub, keqs, kok, V.val1?, ofRes]) | (with_reducible refine wgd_cases ?_ ?_ <;> intro hb) | (with_reducible refine wcond_cases ?_ ?_ <;> intro hb) | (with_reducible refine qd_i (by kernel_rfl) ?_) | (with_reducible refine W_itn_cases ?_ ?_; omega))
    have e0 : dLine bs a = .error e := by simp only [dLine, bindD, hx1, hx2]
    rw [e0]
    exact ⟨_, _, rfl, by omega, kk.trans hk (by omega)⟩
  subst hv
  replace kk := kk.trans hk (by omega)
  replace hO := (hk nx (by omega) (by omega)).trans hO
  replace hD := hd
  repeat' (first | (simp -implicitDefEqProofs only [ze, Nat.reduceEqDiff, Nat.reduceAdd, Nat.reduceMul, reduceIte, Nat.reduceLT, Nat.reduceLeDiff, reduceCtorEq, Int.reduceEq, Int.reduceLT, Int.reduceLE, Int.reduceNeg, Int.reduceToNat, Nat.reduceBEq, Nat.reduceSub, qp, qf, kop, av, RQ, PQ, kres, kres1, kresL, fin, fins, fin1, V.pur?, V.pur1?, V.cells, kld, ones, V.one, Value.oneCell', own, owns, own1, xfill, ksrc, kint, vint, ksub, keqs, kok, V.val1?, ofRes, hO]) | (with_reducible refine wgd_cases ?_ ?_ <;> intro hb) | (with_reducible refine wcond_cases ?_ ?_ <;> intro hb) | (with_reducible refine qd_i (by kernel_rfl) ?_) | (with_reducible refine W_itn_cases ?_ ?_; omega))
  refine W_xdec (by kernel_rfl) rfl (dnumber_ok ((dec_set (dec_set hD hne' (Nat.le_refl _) _) hne' (Nat.le_refl _) _).le (by omega)) hb hl) (fun e s n hx3 hn hk => ?_) (fun p3 v s3 n3 hx3 hn3 hk hd hv => ?_)
  · repeat' (first | (simp -implicitDefEqProofs only [ze, Nat.reduceEqDiff, Nat.reduceAdd, Nat.reduceMul, reduceIte, Nat.reduceLT, Nat.reduceLeDiff, reduceCtorEq, Int.reduceEq, Int.reduceLT, Int.reduceLE, Int.reduceNeg, Int.reduceToNat, Nat.reduceBEq, Nat.reduceSub, qp, qf, kop, av, RQ, PQ, kres, kres1, kresL, fin, fins, fin1, V.pur?, V.pur1?, V.cells, kld, ones, V.one, Value.oneCell', own, owns, own1, xfill, ksrc, kint, vint, ksub, keqs, kok, V.val1?, ofRes]) | (with_reducible refine wgd_cases ?_ ?_ <;> intro hb) | (with_reducible refine wcond_cases ?_ ?_ <;> intro hb) | (with_reducible refine qd_i (by kernel_rfl) ?_) | (with_reducible refine W_itn_cases ?_ ?_; omega))
    have e0 : dLine bs a = .error e := by simp only [dLine, bindD, hx1, hx2, hx3]
    rw [e0]
    exact ⟨_, _, rfl, by omega, ((kk.upd (Nat.le_refl _) _).upd (Nat.le_refl _) _).trans hk (by omega)⟩
  subst hv
  replace kk := ((kk.upd (Nat.le_refl _) _).upd (Nat.le_refl _) _).trans hk (by omega)
  replace hO := (hk nx (by omega) (by omega)).trans (by rw [upd_at, if_pos rfl])
  replace hD := hd
  repeat' (first | (simp -implicitDefEqProofs only [ze, Nat.reduceEqDiff, Nat.reduceAdd, Nat.reduceMul, reduceIte, Nat.reduceLT, Nat.reduceLeDiff, reduceCtorEq, Int.reduceEq, Int.reduceLT, Int.reduceLE, Int.reduceNeg, Int.reduceToNat, Nat.reduceBEq, Nat.reduceSub, qp, qf, kop, av, RQ, PQ, kres, kres1, kresL, fin, fins, fin1, V.pur?, V.pur1?, V.cells, kld, ones, V.one, Value.oneCell', own, owns, own1, xfill, ksrc, kint, vint, ksub, keqs, kok, V.val1?, ofRes, hO]) | (with_reducible refine wgd_cases ?_ ?_ <;> intro hb) | (with_reducible refine wcond_cases ?_ ?_ <;> intro hb) | (with_reducible refine qd_i (by kernel_rfl) ?_) | (with_reducible refine W_itn_cases ?_ ?_; omega))
  refine W_xdec (by kernel_rfl) rfl (dnumber_ok (hD.le (by omega)) hb hl) (fun e s n hx4 hn hk => ?_) (fun p4 v s4 n4 hx4 hn4 hk hd hv => ?_)
  · repeat' (first | (simp -implicitDefEqProofs only [ze, Nat.reduceEqDiff, Nat.reduceAdd, Nat.reduceMul, reduceIte, Nat.reduceLT, Nat.reduceLeDiff, reduceCtorEq, Int.reduceEq, Int.reduceLT, Int.reduceLE, Int.reduceNeg, Int.reduceToNat, Nat.reduceBEq, Nat.reduceSub, qp, qf, kop, av, RQ, PQ, kres, kres1, kresL, fin, fins, fin1, V.pur?, V.pur1?, V.cells, kld, ones, V.one, Value.oneCell', own, owns, own1, xfill, ksrc, kint, vint, ksub, keqs, kok, V.val1?, ofRes]) | (with_reducible refine wgd_cases ?_ ?_ <;> intro hb) | (with_reducible refine wcond_cases ?_ ?_ <;> intro hb) | (with_reducible refine qd_i (by kernel_rfl) ?_) | (with_reducible refine W_itn_cases ?_ ?_; omega))
    have e0 : dLine bs a = .error e := by simp only [dLine, bindD, hx1, hx2, hx3, hx4]
    rw [e0]
    exact ⟨_, _, rfl, by omega, kk.trans hk (by omega)⟩
  subst hv
  replace kk := kk.trans hk (by omega)
  replace hO := (hk nx (by omega) (by omega)).trans hO
  replace hD := hd
  repeat' (first | (simp -implicitDefEqProofs only [ze, Nat.reduceEqDiff, Nat.reduceAdd, Nat.reduceMul, reduceIte, Nat.reduceLT, Nat.reduceLeDiff, reduceCtorEq, Int.reduceEq, Int.reduceLT, Int.reduceLE, Int.reduceNeg, Int.reduceToNat, Nat.reduceBEq, Nat.reduceSub, qp, qf, kop, av, RQ, PQ, kres, kres1, kresL, fin, fins, fin1, V.pur?, V.pur1?, V.cells, kld, ones, V.one, Value.oneCell', own, owns, own1, xfill, ksrc, kint, vint, ksub, keqs, kok, V.val1?, ofRes, hO]) | (with_reducible refine wgd_cases ?_ ?_ <;> intro hb) | (with_reducible refine wcond_cases ?_ ?_ <;> intro hb) | (with_reducible refine qd_i (by kernel_rfl) ?_) | (with_reducible refine W_itn_cases ?_ ?_; omega))
  refine W_xdec (by kernel_rfl) rfl (dtext_ok ((dec_set (dec_set hD hne' (Nat.le_refl _) _) hne' (Nat.le_refl _) _).le (by omega)) hb hl) (fun e s n hx5 hn hk => ?_) (fun p5 v s5 n5 hx5 hn5 hk hd hv => ?_)
  · repeat' (first | (simp -implicitDefEqProofs only [ze, Nat.reduceEqDiff, Nat.reduceAdd, Nat.reduceMul, reduceIte, Nat.reduceLT, Nat.reduceLeDiff, reduceCtorEq, Int.reduceEq, Int.reduceLT, Int.reduceLE, Int.reduceNeg, Int.reduceToNat, Nat.reduceBEq, Nat.reduceSub, qp, qf, kop, av, RQ, PQ, kres, kres1, kresL, fin, fins, fin1, V.pur?, V.pur1?, V.cells, kld, ones, V.one, Value.oneCell', own, owns, own1, xfill, ksrc, kint, vint, ksub, keqs, kok, V.val1?, ofRes]) | (with_reducible refine wgd_cases ?_ ?_ <;> intro hb) | (with_reducible refine wcond_cases ?_ ?_ <;> intro hb) | (with_reducible refine qd_i (by kernel_rfl) ?_) | (with_reducible refine W_itn_cases ?_ ?_; omega))
    have e0 : dLine bs a = .error e := by simp only [dLine, bindD, hx1, hx2, hx3, hx4, hx5]
    rw [e0]
    exact ⟨_, _, rfl, by omega, ((kk.upd (Nat.le_refl _) _).upd (Nat.le_refl _) _).trans hk (by omega)⟩
  subst hv
  replace kk := ((kk.upd (Nat.le_refl _) _).upd (Nat.le_refl _) _).trans hk (by omega)
  replace hO := (hk nx (by omega) (by omega)).trans (by rw [upd_at, if_pos rfl])
  replace hD := hd
  repeat' (first | (simp -implicitDefEqProofs only [ze, Nat.reduceEqDiff, Nat.reduceAdd, Nat.reduceMul, reduceIte, Nat.reduceLT, Nat.reduceLeDiff, reduceCtorEq, Int.reduceEq, Int.reduceLT, Int.reduceLE, Int.reduceNeg, Int.reduceToNat, Nat.reduceBEq, Nat.reduceSub, qp, qf, kop, av, RQ, PQ, kres, kres1, kresL, fin, fins, fin1, V.pur?, V.pur1?, V.cells, kld, ones, V.one, Value.oneCell', own, owns, own1, xfill, ksrc, kint, vint, ksub, keqs, kok, V.val1?, ofRes, hO]) | (with_reducible refine wgd_cases ?_ ?_ <;> intro hb) | (with_reducible refine wcond_cases ?_ ?_ <;> intro hb) | (with_reducible refine qd_i (by kernel_rfl) ?_) | (with_reducible refine W_itn_cases ?_ ?_; omega))
  refine W_xdec (by kernel_rfl) rfl (dtext_ok (hD.le (by omega)) hb hl) (fun e s n hx6 hn hk => ?_) (fun p6 v s6 n6 hx6 hn6 hk hd hv => ?_)
  · repeat' (first | (simp -implicitDefEqProofs only [ze, Nat.reduceEqDiff, Nat.reduceAdd, Nat.reduceMul, reduceIte, Nat.reduceLT, Nat.reduceLeDiff, reduceCtorEq, Int.reduceEq, Int.reduceLT, Int.reduceLE, Int.reduceNeg, Int.reduceToNat, Nat.reduceBEq, Nat.reduceSub, qp, qf, kop, av, RQ, PQ, kres, kres1, kresL, fin, fins, fin1, V.pur?, V.pur1?, V.cells, kld, ones, V.one, Value.oneCell', own, owns, own1, xfill, ksrc, kint, vint, ksub, keqs, kok, V.val1?, ofRes]) | (with_reducible refine wgd_cases ?_ ?_ <;> intro hb) | (with_reducible refine wcond_cases ?_ ?_ <;> intro hb) | (with_reducible refine qd_i (by kernel_rfl) ?_) | (with_reducible refine W_itn_cases ?_ ?_; omega))
    have e0 : dLine bs a = .error e := by simp only [dLine, bindD, hx1, hx2, hx3, hx4, hx5, hx6]
    rw [e0]
    exact ⟨_, _, rfl, by omega, kk.trans hk (by omega)⟩
  subst hv
  replace kk := kk.trans hk (by omega)
  replace hO := (hk nx (by omega) (by omega)).trans hO
  replace hD := hd
  repeat' (first | (simp -implicitDefEqProofs only [ze, Nat.reduceEqDiff, Nat.reduceAdd, Nat.reduceMul, reduceIte, Nat.reduceLT, Nat.reduceLeDiff, reduceCtorEq, Int.reduceEq, Int.reduceLT, Int.reduceLE, Int.reduceNeg, Int.reduceToNat, Nat.reduceBEq, Nat.reduceSub, qp, qf, kop, av, RQ, PQ, kres, kres1, kresL, fin, fins, fin1, V.pur?, V.pur1?, V.cells, kld, ones, V.one, Value.oneCell', own, owns, own1, xfill, ksrc, kint, vint, ksub, keqs, kok, V.val1?, ofRes, hO]) | (with_reducible refine wgd_cases ?_ ?_ <;> intro hb) | (with_reducible refine wcond_cases ?_ ?_ <;> intro hb) | (with_reducible refine qd_i (by kernel_rfl) ?_) | (with_reducible refine W_itn_cases ?_ ?_; omega))
  refine W_dec (dcount_ok ((dec_set (dec_set hD hne' (Nat.le_refl _) _) hne' (Nat.le_refl _) _).le (by omega)) hb hl 6) (fun e s n hx7 hn hk => ?_) (fun p7 v s7 n7 hx7 hn7 hk hd hv => ?_)
  · repeat' (first | (simp -implicitDefEqProofs only [ze, Nat.reduceEqDiff, Nat.reduceAdd, Nat.reduceMul, reduceIte, Nat.reduceLT, Nat.reduceLeDiff, reduceCtorEq, Int.reduceEq, Int.reduceLT, Int.reduceLE, Int.reduceNeg, Int.reduceToNat, Nat.reduceBEq, Nat.reduceSub, qp, qf, kop, av, RQ, PQ, kres, kres1, kresL, fin, fins, fin1, V.pur?, V.pur1?, V.cells, kld, ones, V.one, Value.oneCell', own, owns, own1, xfill, ksrc, kint, vint, ksub, keqs, kok, V.val1?, ofRes]) | (with_reducible refine wgd_cases ?_ ?_ <;> intro hb) | (with_reducible refine wcond_cases ?_ ?_ <;> intro hb) | (with_reducible refine qd_i (by kernel_rfl) ?_) | (with_reducible refine W_itn_cases ?_ ?_; omega))
    have e0 : dLine bs a = .error e := by simp only [dLine, bindD, hx1, hx2, hx3, hx4, hx5, hx6, hx7]
    rw [e0]
    exact ⟨_, _, rfl, by omega, ((kk.upd (Nat.le_refl _) _).upd (Nat.le_refl _) _).trans hk (by omega)⟩
  obtain ⟨rfl, hc0, hc1⟩ := hv
  replace kk := ((kk.upd (Nat.le_refl _) _).upd (Nat.le_refl _) _).trans hk (by omega)
  replace hO := (hk nx (by omega) (by omega)).trans (by rw [upd_at, if_pos rfl])
  replace hD := hd
  repeat' (first | (simp -implicitDefEqProofs only [ze, Nat.reduceEqDiff, Nat.reduceAdd, Nat.reduceMul, reduceIte, Nat.reduceLT, Nat.reduceLeDiff, reduceCtorEq, Int.reduceEq, Int.reduceLT, Int.reduceLE, Int.reduceNeg, Int.reduceToNat, Nat.reduceBEq, Nat.reduceSub, qp, qf, kop, av, RQ, PQ, kres, kres1, kresL, fin, fins, fin1, V.pur?, V.pur1?, V.cells, kld, ones, V.one, Value.oneCell', own, owns, own1, xfill, ksrc, kint, vint, ksub, keqs, kok, V.val1?, ofRes, hO]) | (with_reducible refine wgd_cases ?_ ?_ <;> intro hb) | (with_reducible refine wcond_cases ?_ ?_ <;> intro hb) | (with_reducible refine qd_i (by kernel_rfl) ?_) | (with_reducible refine W_itn_cases ?_ ?_; omega))
  refine loop_w (fun m tm st' nx' => ∃ (i : Nat) (acc : List Tag) (ai : Nat) (vt : V), m = p7.1.toNat - i ∧ i ≤ p7.1.toNat ∧ acc.length = i ∧ dTags bs p7.1.toNat [] p7.2 = dTags bs (p7.1.toNat - i) acc ai ∧ tm 30 = .i64 i ∧ tm 29 = .i64 p7.1 ∧ tm 0 = .ptr id 0 ∧ tm 2 = .ptr nx 0 ∧ tm 4 = .fn (.func 39) [.ptr id 0] [] ∧ nx + 8 ≤ nx' ∧ KeepX st st' nx id ∧
      st' nx = some (.cells [.str p1.1, .str p2.1, .i64 p3.1, .i64 p4.1, .str p5.1, .str p6.1, vt]) ∧ Dec st' nx' id bs rr ai ∧ GrowN st' nx nx' 45 (acc.map encT) vt) p7.1.toNat ⟨0, [], p7.2, .list 0 [] 1, by omega, by omega, rfl, rfl, ?_, ?_, ?_, ?_, ?_, by omega, kk, hO, hD.le (by omega), .inl ⟨rfl, rfl⟩⟩ ?_
  · simp -implicitDefEqProofs only [ze, Nat.reduceEqDiff, Nat.reduceAdd, Nat.reduceMul, reduceIte, Nat.reduceLT, Nat.reduceLeDiff, reduceCtorEq, Int.reduceEq, Int.reduceLT, Int.reduceLE, Int.reduceNeg, Int.reduceToNat, Nat.reduceBEq, Nat.reduceSub, qp, qf, kop, av, RQ, PQ, kres, kres1, kresL, fin, fins, fin1, V.pur?, V.pur1?, V.cells, kld, ones, V.one, Value.oneCell', own, owns, own1, xfill, ksrc, kint, vint, ksub, keqs, kok, V.val1?, ofRes]; rfl
  · simp -implicitDefEqProofs only [ze, Nat.reduceEqDiff, Nat.reduceAdd, Nat.reduceMul, reduceIte, Nat.reduceLT, Nat.reduceLeDiff, reduceCtorEq, Int.reduceEq, Int.reduceLT, Int.reduceLE, Int.reduceNeg, Int.reduceToNat, Nat.reduceBEq, Nat.reduceSub, qp, qf, kop, av, RQ, PQ, kres, kres1, kresL, fin, fins, fin1, V.pur?, V.pur1?, V.cells, kld, ones, V.one, Value.oneCell', own, owns, own1, xfill, ksrc, kint, vint, ksub, keqs, kok, V.val1?, ofRes]
  · simp -implicitDefEqProofs only [ze, Nat.reduceEqDiff, Nat.reduceAdd, Nat.reduceMul, reduceIte, Nat.reduceLT, Nat.reduceLeDiff, reduceCtorEq, Int.reduceEq, Int.reduceLT, Int.reduceLE, Int.reduceNeg, Int.reduceToNat, Nat.reduceBEq, Nat.reduceSub, qp, qf, kop, av, RQ, PQ, kres, kres1, kresL, fin, fins, fin1, V.pur?, V.pur1?, V.cells, kld, ones, V.one, Value.oneCell', own, owns, own1, xfill, ksrc, kint, vint, ksub, keqs, kok, V.val1?, ofRes]
  · simp -implicitDefEqProofs only [ze, Nat.reduceEqDiff, Nat.reduceAdd, Nat.reduceMul, reduceIte, Nat.reduceLT, Nat.reduceLeDiff, reduceCtorEq, Int.reduceEq, Int.reduceLT, Int.reduceLE, Int.reduceNeg, Int.reduceToNat, Nat.reduceBEq, Nat.reduceSub, qp, qf, kop, av, RQ, PQ, kres, kres1, kresL, fin, fins, fin1, V.pur?, V.pur1?, V.cells, kld, ones, V.one, Value.oneCell', own, owns, own1, xfill, ksrc, kint, vint, ksub, keqs, kok, V.val1?, ofRes]
  · simp -implicitDefEqProofs only [ze, Nat.reduceEqDiff, Nat.reduceAdd, Nat.reduceMul, reduceIte, Nat.reduceLT, Nat.reduceLeDiff, reduceCtorEq, Int.reduceEq, Int.reduceLT, Int.reduceLE, Int.reduceNeg, Int.reduceToNat, Nat.reduceBEq, Nat.reduceSub, qp, qf, kop, av, RQ, PQ, kres, kres1, kresL, fin, fins, fin1, V.pur?, V.pur1?, V.cells, kld, ones, V.one, Value.oneCell', own, owns, own1, xfill, ksrc, kint, vint, ksub, keqs, kok, V.val1?, ofRes]
  clear hD kk hO
  rintro m tm st' nx' ⟨i, acc, ai, vt, hm, hi, hacc, hdt, h30, h29, h0, h2, h4, hnx, kk, hO, hD, hg⟩
  simp only [k41_l0]
  by_cases hlt : i < p7.1.toNat
  · have hd : decide ((i : Int) < p7.1) = true := decide_eq_true (by omega)
    obtain ⟨k, hki⟩ : ∃ k, p7.1.toNat - i = k + 1 := ⟨p7.1.toNat - i - 1, by omega⟩
    rw [hki] at hdt
    repeat' (first | (simp -implicitDefEqProofs only [ze, Nat.reduceEqDiff, Nat.reduceAdd, Nat.reduceMul, reduceIte, Nat.reduceLT, Nat.reduceLeDiff, reduceCtorEq, Int.reduceEq, Int.reduceLT, Int.reduceLE, Int.reduceNeg, Int.reduceToNat, Nat.reduceBEq, Nat.reduceSub, qp, qf, kop, av, RQ, PQ, kres, kres1, kresL, fin, fins, fin1, V.pur?, V.pur1?, V.cells, kld, ones, V.one, Value.oneCell', own, owns, own1, xfill, ksrc, kint, vint, ksub, keqs, kok, V.val1?, ofRes, h30, h29, h0, h2, h4, hd]) | (with_reducible refine wgd_cases ?_ ?_ <;> intro hb) | (with_reducible refine wcond_cases ?_ ?_ <;> intro hb) | (with_reducible refine qd_i (by kernel_rfl) ?_) | (with_reducible refine W_itn_cases ?_ ?_; omega))
    refine W_xdec (by kernel_rfl) rfl (dtext_ok (hD.upd (j := nx' + 8) (nx' := nx' + 80) (by omega) (by omega) _) hb hl) (fun e s n hxa hn hk => ?_) (fun pa v sa na hxa hna hka hDa hv => ?_)
    · repeat' (first | (simp -implicitDefEqProofs only [ze, Nat.reduceEqDiff, Nat.reduceAdd, Nat.reduceMul, reduceIte, Nat.reduceLT, Nat.reduceLeDiff, reduceCtorEq, Int.reduceEq, Int.reduceLT, Int.reduceLE, Int.reduceNeg, Int.reduceToNat, Nat.reduceBEq, Nat.reduceSub, qp, qf, kop, av, RQ, PQ, kres, kres1, kresL, fin, fins, fin1, V.pur?, V.pur1?, V.cells, kld, ones, V.one, Value.oneCell', own, owns, own1, xfill, ksrc, kint, vint, ksub, keqs, kok, V.val1?, ofRes, h30, h29, h0, h2, h4]) | (with_reducible refine wgd_cases ?_ ?_ <;> intro hb) | (with_reducible refine wcond_cases ?_ ?_ <;> intro hb) | (with_reducible refine qd_i (by kernel_rfl) ?_) | (with_reducible refine W_itn_cases ?_ ?_; omega))
      have e0 : dLine bs a = .error e := by simp only [dLine, bindD, hx1, hx2, hx3, hx4, hx5, hx6, hx7, hdt, dTags, hxa]
      rw [e0]
      exact ⟨_, _, rfl, by omega, (kk.upd (by omega) _).trans hk (by omega)⟩
    subst hv
    have hOa := (hka nx (by omega) (by omega)).trans (Eq.trans (by rw [upd_at, if_neg (by omega)]) hO)
    have hPa := (hka (nx' + 8) (by omega) (by omega)).trans (by rw [upd_at, if_pos rfl])
    have kka := (kk.upd (j := nx' + 8) (by omega) _).trans hka (by omega)
    repeat' (first | (simp -implicitDefEqProofs only [ze, Nat.reduceEqDiff, Nat.reduceAdd, Nat.reduceMul, reduceIte, Nat.reduceLT, Nat.reduceLeDiff, reduceCtorEq, Int.reduceEq, Int.reduceLT, Int.reduceLE, Int.reduceNeg, Int.reduceToNat, Nat.reduceBEq, Nat.reduceSub, qp, qf, kop, av, RQ, PQ, kres, kres1, kresL, fin, fins, fin1, V.pur?, V.pur1?, V.cells, kld, ones, V.one, Value.oneCell', own, owns, own1, xfill, ksrc, kint, vint, ksub, keqs, kok, V.val1?, ofRes, h30, h29, h0, h2, h4]) | (with_reducible refine wgd_cases ?_ ?_ <;> intro hb) | (with_reducible refine wcond_cases ?_ ?_ <;> intro hb) | (with_reducible refine qd_i (by kernel_rfl) ?_) | (with_reducible refine W_itn_cases ?_ ?_; omega))
    refine W_xdec (by kernel_rfl) rfl (dtext_ok (hDa.le (by omega)) hb hl) (fun e s n hxb hn hk => ?_) (fun pb v sb nb hxb hnb hkb hDb hv => ?_)
    · repeat' (first | (simp -implicitDefEqProofs only [ze, Nat.reduceEqDiff, Nat.reduceAdd, Nat.reduceMul, reduceIte, Nat.reduceLT, Nat.reduceLeDiff, reduceCtorEq, Int.reduceEq, Int.reduceLT, Int.reduceLE, Int.reduceNeg, Int.reduceToNat, Nat.reduceBEq, Nat.reduceSub, qp, qf, kop, av, RQ, PQ, kres, kres1, kresL, fin, fins, fin1, V.pur?, V.pur1?, V.cells, kld, ones, V.one, Value.oneCell', own, owns, own1, xfill, ksrc, kint, vint, ksub, keqs, kok, V.val1?, ofRes, h30, h29, h0, h2, h4]) | (with_reducible refine wgd_cases ?_ ?_ <;> intro hb) | (with_reducible refine wcond_cases ?_ ?_ <;> intro hb) | (with_reducible refine qd_i (by kernel_rfl) ?_) | (with_reducible refine W_itn_cases ?_ ?_; omega))
      have e0 : dLine bs a = .error e := by simp only [dLine, bindD, hx1, hx2, hx3, hx4, hx5, hx6, hx7, hdt, dTags, hxa, hxb]
      rw [e0]
      exact ⟨_, _, rfl, by omega, kka.trans hk (by omega)⟩
    subst hv
    have hOb := (hkb nx (by omega) (by omega)).trans hOa
    have hPb := (hkb (nx' + 8) (by omega) (by omega)).trans hPa
    have kkb := kka.trans hkb (by omega)
    have f1 : (nx = nx' + 8) = False := eq_false (by omega)
    have f2 : ∀ j, (nx = nb + j) = False := fun j => eq_false (by omega)
    have f3 : ∀ j, (nx' + 8 = nb + j) = False := fun j => eq_false (by omega)
    have f4 : (nx' + 8 = nx) = False := eq_false (by omega)
    rcases hg with ⟨hb0, rfl⟩ | ⟨hb1, r, hr0, hr8, hrn, rfl, hst⟩
    · repeat' (first | (simp -implicitDefEqProofs only [ze, Nat.reduceEqDiff, Nat.reduceAdd, Nat.reduceMul, reduceIte, Nat.reduceLT, Nat.reduceLeDiff, reduceCtorEq, Int.reduceEq, Int.reduceLT, Int.reduceLE, Int.reduceNeg, Int.reduceToNat, Nat.reduceBEq, Nat.reduceSub, qp, qf, kop, av, RQ, PQ, kres, kres1, kresL, fin, fins, fin1, V.pur?, V.pur1?, V.cells, kld, ones, V.one, Value.oneCell', own, owns, own1, xfill, ksrc, kint, vint, ksub, keqs, kok, V.val1?, ofRes, hOb, hPb, f1, f2, f3, f4, h30, h29, h0, h2, h4]) | (with_reducible refine wgd_cases ?_ ?_ <;> intro hb) | (with_reducible refine wcond_cases ?_ ?_ <;> intro hb) | (with_reducible refine qd_i (by kernel_rfl) ?_) | (with_reducible refine W_itn_cases ?_ ?_; omega))
      have hacc0 : acc = [] := by simpa using hb0
      subst hacc0
      have hi0 : i = 0 := hacc.symm
      subst hi0
      refine ⟨p7.1.toNat - 1, by omega, 1, [⟨pa.1, pb.1⟩], pb.2, _, rfl, by omega, rfl, ?_, up64 (by omega), by omega, ((((kkb.upd (by omega) _).upd (by omega) _).upd (by omega) _).upd (by omega) _).upd (Nat.le_refl _) _, rfl,
        dec_set (((dec_set (dec_set hDb (by omega) (Nat.le_refl _) _) (by omega) (Nat.le_refl _) _).upd (by omega) (Nat.le_refl _) _).upd (by omega) (Nat.le_refl _) _) hne' (by omega) _, .inr ⟨by simp, nb + 32, by omega, by omega, by omega, rfl, ?_⟩⟩
      · rw [hdt, show p7.1.toNat - 1 = k by omega]; simp only [dTags, bindD, hxa, hxb, List.nil_append]
      · rw [upd_at, if_neg (by omega), upd_at, if_pos rfl]; rfl
    · have hstb := (hkb r (by omega) (by omega)).trans ((hka r (by omega) (by omega)).trans (Eq.trans (by rw [upd_at, if_neg (by omega)]) hst))
      have g1 : (r = 0) = False := eq_false (by omega)
      have g2 : (r = 1) = False := eq_false (by omega)
      have g3 : ∀ j, (r = nb + j) = False := fun j => eq_false (by omega)
      have g4 : (r = nx' + 8) = False := eq_false (by omega)
      have g5 : (nx = r) = False := eq_false (by omega)
      have g6 : (nx' + 8 = r) = False := eq_false (by omega)
      repeat' (first | (simp -implicitDefEqProofs only [ze, Nat.reduceEqDiff, Nat.reduceAdd, Nat.reduceMul, reduceIte, Nat.reduceLT, Nat.reduceLeDiff, reduceCtorEq, Int.reduceEq, Int.reduceLT, Int.reduceLE, Int.reduceNeg, Int.reduceToNat, Nat.reduceBEq, Nat.reduceSub, qp, qf, kop, av, RQ, PQ, kres, kres1, kresL, fin, fins, fin1, V.pur?, V.pur1?, V.cells, kld, ones, V.one, Value.oneCell', own, owns, own1, xfill, ksrc, kint, vint, ksub, keqs, kok, V.val1?, ofRes, hOb, hPb, hstb, f1, f2, f3, f4, g1, g2, g3, g4, g5, g6, h30, h29, h0, h2, h4, List.length_map]) | (with_reducible refine wgd_cases ?_ ?_ <;> intro hb) | (with_reducible refine wcond_cases ?_ ?_ <;> intro hb) | (with_reducible refine qd_i (by kernel_rfl) ?_) | (with_reducible refine W_itn_cases ?_ ?_; omega))
      refine ⟨p7.1.toNat - (i + 1), by omega, i + 1, acc ++ [⟨pa.1, pb.1⟩], pb.2, _, rfl, by omega, by simp [hacc], ?_, up64 (by omega), by omega, ((((kkb.upd (by omega) _).upd (by omega) _).upd (by omega) _).upd (by omega) _).upd (Nat.le_refl _) _, rfl,
        dec_set (dec_set ((dec_set (dec_set hDb (by omega) (Nat.le_refl _) _) (by omega) (Nat.le_refl _) _).upd (by omega) (Nat.le_refl _) _) (by omega) (Nat.le_refl _) _) hne' (by omega) _, .inr ⟨by simp, r, by omega, by omega, by omega, by simp [encT], ?_⟩⟩
      · rw [hdt, show p7.1.toNat - (i + 1) = k by omega]; simp only [dTags, bindD, hxa, hxb]
      · rw [upd_at, if_neg (by omega), upd_at, if_pos rfl]; simp
  · have hd : decide ((i : Int) < p7.1) = false := decide_eq_false (by omega)
    have hin : i = p7.1.toNat := by omega
    rw [hin, Nat.sub_self] at hdt
    have e0 : dLine bs a = .ok (⟨p1.1, p2.1, p3.1, p4.1, p5.1, p6.1, acc, acc.isEmpty⟩, ai) := by simp only [dLine, bindD, hx1, hx2, hx3, hx4, hx5, hx6, hx7, hdt, dTags]
    rcases hg with ⟨hb0, rfl⟩ | ⟨hb1, r, hr0, hr8, hrn, rfl, hst⟩
    · repeat' (first | (simp -implicitDefEqProofs only [ze, Nat.reduceEqDiff, Nat.reduceAdd, Nat.reduceMul, reduceIte, Nat.reduceLT, Nat.reduceLeDiff, reduceCtorEq, Int.reduceEq, Int.reduceLT, Int.reduceLE, Int.reduceNeg, Int.reduceToNat, Nat.reduceBEq, Nat.reduceSub, qp, qf, kop, av, RQ, PQ, kres, kres1, kresL, fin, fins, fin1, V.pur?, V.pur1?, V.cells, kld, ones, V.one, Value.oneCell', own, owns, own1, xfill, ksrc, kint, vint, ksub, keqs, kok, V.val1?, ofRes, h30, h29, h0, h2, h4, hd, k41_t0, hO]) | (with_reducible refine wgd_cases ?_ ?_ <;> intro hb) | (with_reducible refine wcond_cases ?_ ?_ <;> intro hb) | (with_reducible refine qd_i (by kernel_rfl) ?_) | (with_reducible refine W_itn_cases ?_ ?_; omega))
      rw [e0]
      exact ⟨_, _, _, rfl, by omega, kk.upd (Nat.le_refl _) _, dec_set hD hne' (by omega) _, _, .inl ⟨hb0, rfl⟩, rfl, rfl⟩
    · repeat' (first | (simp -implicitDefEqProofs only [ze, Nat.reduceEqDiff, Nat.reduceAdd, Nat.reduceMul, reduceIte, Nat.reduceLT, Nat.reduceLeDiff, reduceCtorEq, Int.reduceEq, Int.reduceLT, Int.reduceLE, Int.reduceNeg, Int.reduceToNat, Nat.reduceBEq, Nat.reduceSub, qp, qf, kop, av, RQ, PQ, kres, kres1, kresL, fin, fins, fin1, V.pur?, V.pur1?, V.cells, kld, ones, V.one, Value.oneCell', own, owns, own1, xfill, ksrc, kint, vint, ksub, keqs, kok, V.val1?, ofRes, h30, h29, h0, h2, h4, hd, k41_t0, hO]) | (with_reducible refine wgd_cases ?_ ?_ <;> intro hb) | (with_reducible refine wcond_cases ?_ ?_ <;> intro hb) | (with_reducible refine qd_i (by kernel_rfl) ?_) | (with_reducible refine W_itn_cases ?_ ?_; omega))
      rw [e0]
      exact ⟨_, _, _, rfl, by omega, kk.upd (Nat.le_refl _) _, dec_set hD hne' (by omega) _, _, .inr ⟨hb1, r, hr8, rfl⟩, rfl, rfl⟩
end Go.Proofs.YtojbkakdhfmjmaaDoor.Vm
