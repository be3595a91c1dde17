/- Proved here: the law, on a machine over pure data, and what it needs, part 6. Conditions: none. -/
import Derived.Laws.Bits64
import Derived.Test.YtkbheoganajhaaaDoorZ5
set_option maxRecDepth 10000
set_option linter.unusedVariables false
set_option linter.unusedSimpArgs false
namespace Go.Proofs.YtkbheoganajhaaaDoor.Vm
open Go Go.Proofs
def bindD {α β : Type} (x : Except Int (α × Nat)) (f : α → Nat → Except Int (β × Nat)) : Except Int (β × Nat) := match x with
  | .error e => .error e
  | .ok p => f p.1 p.2
def dTags (bs : List Int) : Nat → List Tag → Nat → Except Int (List Tag × Nat)
  | 0, acc, a => .ok (acc, a)
  | n + 1, acc, a => bindD (dText bs a) fun x a => bindD (dText bs a) fun y a => dTags bs n (acc ++ [⟨x, y⟩]) a
def dLine (bs : List Int) (a : Nat) : Except Int (Line × Nat) :=
  bindD (dText bs a) fun acc a => bindD (dText bs a) fun cur a => bindD (dInt bs a) fun amt a => bindD (dInt bs a) fun base a => bindD (dText bs a) fun par a => bindD (dText bs a) fun pty a =>
  bindD (dCount 6 bs a) fun n a => bindD (dTags bs n.toNat [] a) fun tags a => .ok (⟨acc, cur, amt, base, par, pty, tags, tags.isEmpty⟩, a)
def fresh1 (e : Nat) (xs : List V) (v : V) : Prop := (xs = [] ∧ v = .list 0 [] 1) ∨ (xs ≠ [] ∧ ∃ r, 8 ≤ r ∧ v = .list e xs r)
def lineQ (l : Line) (v : V) (st : St) (nx : Nat) : Prop := ∃ vt, fresh1 97 (l.tags.map encT) vt ∧ l.tr = l.tags.isEmpty ∧ v = .agg [.str l.acc, .str l.cur, .i64 l.amt, .i64 l.base, .str l.par, .str l.pty, vt]
def GrowN (st : St) (n0 nx e : Nat) (xs : List V) (v : V) : Prop := (xs = [] ∧ v = .list 0 [] 1) ∨ (xs ≠ [] ∧ ∃ r, n0 < r ∧ 8 ≤ r ∧ r < nx ∧ v = .list e xs r ∧ st r = some (.tok xs.length e))
theorem W_xdec {α : Type} {P : Program} {E : Env} {i0 nx : Nat} {f : FuncId} {al : List V} {st : St} {id : Nat} {bs : List Int} {rr : Nat} {x : Except Int (α × Nat)} {Q : α → V → St → Nat → Prop} {C : R → Prop} (hn : nobody P f = false) (hh : isM (E.hm f) = true) (h : W (E.hp f al st nx) (DP st nx id bs rr x Q))
    (hbad : ∀ e st' nx', x = .error e → nx ≤ nx' → KeepX st st' nx id → C (.bpan (errV e) st' nx'))
    (hok : ∀ p v st' nx', x = .ok p → nx ≤ nx' → KeepX st st' nx id → Dec st' nx' id bs rr p.2 → Q p.1 v st' nx' → C (.big v st' nx')) : W (xcall P E i0 nx st f al) C := by
  unfold xcall
  rw [if_neg (by rw [hn]; simp), if_pos hh]
  exact W_dec h hbad hok
theorem dec_set {st : St} {nx nx' id j : Nat} {bs : List Int} {rr a : Nat} (h : Dec st nx id bs rr a) (hj : id ≠ j) (hn : nx ≤ nx') (o : Option Ob) : Dec (upd st j o) nx' id bs rr a := ⟨Nat.lt_of_lt_of_le h.1 hn, h.2.1, by rw [upd_at, if_neg hj]; exact h.2.2⟩
theorem dline_ok {st : St} {nx id : Nat} {bs : List Int} {rr a : Nat} (h : Dec st nx id bs rr a) (hb : bOK bs) (hl : bs.length < 4611686018427387904) :
    W (L.hp 98 [.ptr id 0] st nx) (DP st nx id bs rr (dLine bs a) lineQ) := by
  refine hp_w k98_eq ?_
  simp only [k98]
  have hid := h.1
  repeat' (first | (simp -implicitDefEqProofs only [ze, Nat.reduceEqDiff, Nat.reduceAdd, Nat.reduceMul, reduceIte, Nat.reduceLT, Nat.reduceLeDiff, reduceCtorEq, Int.reduceEq, Int.reduceLT, Int.reduceLE, Int.reduceNeg, Int.reduceToNat, Nat.reduceBEq, Nat.reduceSub, qp, qf, kop, av, RQ, PQ, kres, kres1, kresL, fin, fins, fin1, V.pur?, V.pur1?, V.cells, kld, ones, V.one, Value.oneCell', own, owns, own1, xfill, ksrc, kint, vint, ksub, keqs, kok, V.val1?, ofRes]))
  have kk : KeepX st (upd st nx (some (Ob.cells [V.sc (Value.string (ByteArray.mk #[])), V.sc (Value.string (ByteArray.mk #[])), V.sc (Value.int IntKind.i64 0), V.sc (Value.int IntKind.i64 0), V.sc (Value.string (ByteArray.mk #[])), V.sc (Value.string (ByteArray.mk #[])), V.list 0 [] 1]))) nx id := (KeepX.refl st nx id).upd (Nat.le_refl _) _
  have hD := h.upd (Nat.le_refl nx) (Nat.le_refl nx) (some (Ob.cells [V.sc (Value.string (ByteArray.mk #[])), V.sc (Value.string (ByteArray.mk #[])), V.sc (Value.int IntKind.i64 0), V.sc (Value.int IntKind.i64 0), V.sc (Value.string (ByteArray.mk #[])), V.sc (Value.string (ByteArray.mk #[])), V.list 0 [] 1]))
  have hne : (id = nx) = False := eq_false (by omega)
  have hne' : ¬ id = nx := by omega
  have hO : (upd st nx (some (Ob.cells [V.sc (Value.string (ByteArray.mk #[])), V.sc (Value.string (ByteArray.mk #[])), V.sc (Value.int IntKind.i64 0), V.sc (Value.int IntKind.i64 0), V.sc (Value.string (ByteArray.mk #[])), V.sc (Value.string (ByteArray.mk #[])), V.list 0 [] 1]))) nx = some (Ob.cells [V.sc (Value.string (ByteArray.mk #[])), V.sc (Value.string (ByteArray.mk #[])), V.sc (Value.int IntKind.i64 0), V.sc (Value.int IntKind.i64 0), V.sc (Value.string (ByteArray.mk #[])), V.sc (Value.string (ByteArray.mk #[])), V.list 0 [] 1]) := by rw [upd_at, if_pos rfl]
  refine W_xdec (by kernel_rfl) rfl (dtext_ok (hD.le (by omega)) hb hl) (fun e s n hx1 hn hk => ?_) (fun p1 v s1 n1 hx1 hn1 hk hd hv => ?_)
  · repeat' (first | (simp -implicitDefEqProofs only [ze, Nat.reduceEqDiff, Nat.reduceAdd, Nat.reduceMul, reduceIte, Nat.reduceLT, Nat.reduceLeDiff, reduceCtorEq, Int.reduceEq, Int.reduceLT, Int.reduceLE, Int.reduceNeg, Int.reduceToNat, Nat.reduceBEq, Nat.reduceSub, qp, qf, kop, av, RQ, PQ, kres, kres1, kresL, fin, fins, fin1, V.pur?, V.pur1?, V.cells, kld, ones, V.one, Value.oneCell', own, owns, own1, xfill, ksrc, kint, vint, ksub, keqs, kok, V.val1?, ofRes]) | (with_reducible refine wgd_cases ?_ ?_ <;> intro hb) | (with_reducible refine wcond_cases ?_ ?_ <;> intro hb) | (with_reducible refine qd_i (by kernel_rfl) ?_) | (with_reducible refine W_itn_cases ?_ ?_; omega))
    have e0 : dLine bs a = .error e := by simp only [dLine, bindD, hx1]
    rw [e0]
    exact ⟨_, _, rfl, by omega, kk.trans hk (by omega)⟩
  subst hv
  replace kk := kk.trans hk (by omega)
  replace hO := (hk nx (by omega) (by omega)).trans hO
  replace hD := hd
  repeat' (first | (simp -implicitDefEqProofs only [ze, Nat.reduceEqDiff, Nat.reduceAdd, Nat.reduceMul, reduceIte, Nat.reduceLT, Nat.reduceLeDiff, reduceCtorEq, Int.reduceEq, Int.reduceLT, Int.reduceLE, Int.reduceNeg, Int.reduceToNat, Nat.reduceBEq, Nat.reduceSub, qp, qf, kop, av, RQ, PQ, kres, kres1, kresL, fin, fins, fin1, V.pur?, V.pur1?, V.cells, kld, ones, V.one, Value.oneCell', own, owns, own1, xfill, ksrc, kint, vint, ksub, keqs, kok, V.val1?, ofRes, hO]) | (with_reducible refine wgd_cases ?_ ?_ <;> intro hb) | (with_reducible refine wcond_cases ?_ ?_ <;> intro hb) | (with_reducible refine qd_i (by kernel_rfl) ?_) | (with_reducible refine W_itn_cases ?_ ?_; omega))
  refine W_xdec (by kernel_rfl) rfl (dtext_ok (hD.le (by omega)) hb hl) (fun e s n hx2 hn hk => ?_) (fun p2 v s2 n2 hx2 hn2 hk hd hv => ?_)
  · repeat' (first | (simp -implicitDefEqProofs only [ze, Nat.reduceEqDiff, Nat.reduceAdd, Nat.reduceMul, reduceIte, Nat.reduceLT, Nat.reduceLeDiff, reduceCtorEq, Int.reduceEq, Int.reduceLT, Int.reduceLE, Int.reduceNeg, Int.reduceToNat, Nat.reduceBEq, Nat.reduceSub, qp, qf, kop, av, RQ, PQ, kres, kres1, kresL, fin, fins, fin1, V.pur?, V.pur1?, V.cells, kld, ones, V.one, Value.oneCell', own, owns, own1, xfill, ksrc, kint, vint, ksub, keqs, kok, V.val1?, ofRes]) | (with_reducible refine wgd_cases ?_ ?_ <;> intro hb) | (with_reducible refine wcond_cases ?_ ?_ <;> intro hb) | (with_reducible refine qd_i (by kernel_rfl) ?_) | (with_reducible refine W_itn_cases ?_ ?_; omega))
    have e0 : dLine bs a = .error e := by simp only [dLine, bindD, hx1, hx2]
    rw [e0]
    exact ⟨_, _, rfl, by omega, kk.trans hk (by omega)⟩
  subst hv
  replace kk := kk.trans hk (by omega)
  replace hO := (hk nx (by omega) (by omega)).trans hO
  replace hD := hd
  repeat' (first | (simp -implicitDefEqProofs only [ze, Nat.reduceEqDiff, Nat.reduceAdd, Nat.reduceMul, reduceIte, Nat.reduceLT, Nat.reduceLeDiff, reduceCtorEq, Int.reduceEq, Int.reduceLT, Int.reduceLE, Int.reduceNeg, Int.reduceToNat, Nat.reduceBEq, Nat.reduceSub, qp, qf, kop, av, RQ, PQ, kres, kres1, kresL, fin, fins, fin1, V.pur?, V.pur1?, V.cells, kld, ones, V.one, Value.oneCell', own, owns, own1, xfill, ksrc, kint, vint, ksub, keqs, kok, V.val1?, ofRes, hO]) | (with_reducible refine wgd_cases ?_ ?_ <;> intro hb) | (with_reducible refine wcond_cases ?_ ?_ <;> intro hb) | (with_reducible refine qd_i (by kernel_rfl) ?_) | (with_reducible refine W_itn_cases ?_ ?_; omega))
  refine W_xdec (by kernel_rfl) rfl (dnumber_ok ((dec_set (dec_set hD hne' (Nat.le_refl _) _) hne' (Nat.le_refl _) _).le (by omega)) hb hl) (fun e s n hx3 hn hk => ?_) (fun p3 v s3 n3 hx3 hn3 hk hd hv => ?_)
  · repeat' (first | (simp -implicitDefEqProofs only [ze, Nat.reduceEqDiff, Nat.reduceAdd, Nat.reduceMul, reduceIte, Nat.reduceLT, Nat.reduceLeDiff, reduceCtorEq, Int.reduceEq, Int.reduceLT, Int.reduceLE, Int.reduceNeg, Int.reduceToNat, Nat.reduceBEq, Nat.reduceSub, qp, qf, kop, av, RQ, PQ, kres, kres1, kresL, fin, fins, fin1, V.pur?, V.pur1?, V.cells, kld, ones, V.one, Value.oneCell', own, owns, own1, xfill, ksrc, kint, vint, ksub, keqs, kok, V.val1?, ofRes]) | (with_reducible refine wgd_cases ?_ ?_ <;> intro hb) | (with_reducible refine wcond_cases ?_ ?_ <;> intro hb) | (with_reducible refine qd_i (by kernel_rfl) ?_) | (with_reducible refine W_itn_cases ?_ ?_; omega))
    have e0 : dLine bs a = .error e := by simp only [dLine, bindD, hx1, hx2, hx3]
    rw [e0]
    exact ⟨_, _, rfl, by omega, ((kk.upd (Nat.le_refl _) _).upd (Nat.le_refl _) _).trans hk (by omega)⟩
  subst hv
  replace kk := ((kk.upd (Nat.le_refl _) _).upd (Nat.le_refl _) _).trans hk (by omega)
  replace hO := (hk nx (by omega) (by omega)).trans (by rw [upd_at, if_pos rfl])
  replace hD := hd
  repeat' (first | (simp -implicitDefEqProofs only [ze, Nat.reduceEqDiff, Nat.reduceAdd, Nat.reduceMul, reduceIte, Nat.reduceLT, Nat.reduceLeDiff, reduceCtorEq, Int.reduceEq, Int.reduceLT, Int.reduceLE, Int.reduceNeg, Int.reduceToNat, Nat.reduceBEq, Nat.reduceSub, qp, qf, kop, av, RQ, PQ, kres, kres1, kresL, fin, fins, fin1, V.pur?, V.pur1?, V.cells, kld, ones, V.one, Value.oneCell', own, owns, own1, xfill, ksrc, kint, vint, ksub, keqs, kok, V.val1?, ofRes, hO]) | (with_reducible refine wgd_cases ?_ ?_ <;> intro hb) | (with_reducible refine wcond_cases ?_ ?_ <;> intro hb) | (with_reducible refine qd_i (by kernel_rfl) ?_) | (with_reducible refine W_itn_cases ?_ ?_; omega))
  refine W_xdec (by kernel_rfl) rfl (dnumber_ok (hD.le (by omega)) hb hl) (fun e s n hx4 hn hk => ?_) (fun p4 v s4 n4 hx4 hn4 hk hd hv => ?_)
  · repeat' (first | (simp -implicitDefEqProofs only [ze, Nat.reduceEqDiff, Nat.reduceAdd, Nat.reduceMul, reduceIte, Nat.reduceLT, Nat.reduceLeDiff, reduceCtorEq, Int.reduceEq, Int.reduceLT, Int.reduceLE, Int.reduceNeg, Int.reduceToNat, Nat.reduceBEq, Nat.reduceSub, qp, qf, kop, av, RQ, PQ, kres, kres1, kresL, fin, fins, fin1, V.pur?, V.pur1?, V.cells, kld, ones, V.one, Value.oneCell', own, owns, own1, xfill, ksrc, kint, vint, ksub, keqs, kok, V.val1?, ofRes]) | (with_reducible refine wgd_cases ?_ ?_ <;> intro hb) | (with_reducible refine wcond_cases ?_ ?_ <;> intro hb) | (with_reducible refine qd_i (by kernel_rfl) ?_) | (with_reducible refine W_itn_cases ?_ ?_; omega))
    have e0 : dLine bs a = .error e := by simp only [dLine, bindD, hx1, hx2, hx3, hx4]
    rw [e0]
    exact ⟨_, _, rfl, by omega, kk.trans hk (by omega)⟩
  subst hv
  replace kk := kk.trans hk (by omega)
  replace hO := (hk nx (by omega) (by omega)).trans hO
  replace hD := hd
  repeat' (first | (simp -implicitDefEqProofs only [ze, Nat.reduceEqDiff, Nat.reduceAdd, Nat.reduceMul, reduceIte, Nat.reduceLT, Nat.reduceLeDiff, reduceCtorEq, Int.reduceEq, Int.reduceLT, Int.reduceLE, Int.reduceNeg, Int.reduceToNat, Nat.reduceBEq, Nat.reduceSub, qp, qf, kop, av, RQ, PQ, kres, kres1, kresL, fin, fins, fin1, V.pur?, V.pur1?, V.cells, kld, ones, V.one, Value.oneCell', own, owns, own1, xfill, ksrc, kint, vint, ksub, keqs, kok, V.val1?, ofRes, hO]) | (with_reducible refine wgd_cases ?_ ?_ <;> intro hb) | (with_reducible refine wcond_cases ?_ ?_ <;> intro hb) | (with_reducible refine qd_i (by kernel_rfl) ?_) | (with_reducible refine W_itn_cases ?_ ?_; omega))
  refine W_xdec (by kernel_rfl) rfl (dtext_ok ((dec_set (dec_set hD hne' (Nat.le_refl _) _) hne' (Nat.le_refl _) _).le (by omega)) hb hl) (fun e s n hx5 hn hk => ?_) (fun p5 v s5 n5 hx5 hn5 hk hd hv => ?_)
  · repeat' (first | (simp -implicitDefEqProofs only [ze, Nat.reduceEqDiff, Nat.reduceAdd, Nat.reduceMul, reduceIte, Nat.reduceLT, Nat.reduceLeDiff, reduceCtorEq, Int.reduceEq, Int.reduceLT, Int.reduceLE, Int.reduceNeg, Int.reduceToNat, Nat.reduceBEq, Nat.reduceSub, qp, qf, kop, av, RQ, PQ, kres, kres1, kresL, fin, fins, fin1, V.pur?, V.pur1?, V.cells, kld, ones, V.one, Value.oneCell', own, owns, own1, xfill, ksrc, kint, vint, ksub, keqs, kok, V.val1?, ofRes]) | (with_reducible refine wgd_cases ?_ ?_ <;> intro hb) | (with_reducible refine wcond_cases ?_ ?_ <;> intro hb) | (with_reducible refine qd_i (by kernel_rfl) ?_) | (with_reducible refine W_itn_cases ?_ ?_; omega))
    have e0 : dLine bs a = .error e := by simp only [dLine, bindD, hx1, hx2, hx3, hx4, hx5]
    rw [e0]
    exact ⟨_, _, rfl, by omega, ((kk.upd (Nat.le_refl _) _).upd (Nat.le_refl _) _).trans hk (by omega)⟩
  subst hv
  replace kk := ((kk.upd (Nat.le_refl _) _).upd (Nat.le_refl _) _).trans hk (by omega)
  replace hO := (hk nx (by omega) (by omega)).trans (by rw [upd_at, if_pos rfl])
  replace hD := hd
  repeat' (first | (simp -implicitDefEqProofs only [ze, Nat.reduceEqDiff, Nat.reduceAdd, Nat.reduceMul, reduceIte, Nat.reduceLT, Nat.reduceLeDiff, reduceCtorEq, Int.reduceEq, Int.reduceLT, Int.reduceLE, Int.reduceNeg, Int.reduceToNat, Nat.reduceBEq, Nat.reduceSub, qp, qf, kop, av, RQ, PQ, kres, kres1, kresL, fin, fins, fin1, V.pur?, V.pur1?, V.cells, kld, ones, V.one, Value.oneCell', own, owns, own1, xfill, ksrc, kint, vint, ksub, keqs, kok, V.val1?, ofRes, hO]) | (with_reducible refine wgd_cases ?_ ?_ <;> intro hb) | (with_reducible refine wcond_cases ?_ ?_ <;> intro hb) | (with_reducible refine qd_i (by kernel_rfl) ?_) | (with_reducible refine W_itn_cases ?_ ?_; omega))
  refine W_xdec (by kernel_rfl) rfl (dtext_ok (hD.le (by omega)) hb hl) (fun e s n hx6 hn hk => ?_) (fun p6 v s6 n6 hx6 hn6 hk hd hv => ?_)
  · repeat' (first | (simp -implicitDefEqProofs only [ze, Nat.reduceEqDiff, Nat.reduceAdd, Nat.reduceMul, reduceIte, Nat.reduceLT, Nat.reduceLeDiff, reduceCtorEq, Int.reduceEq, Int.reduceLT, Int.reduceLE, Int.reduceNeg, Int.reduceToNat, Nat.reduceBEq, Nat.reduceSub, qp, qf, kop, av, RQ, PQ, kres, kres1, kresL, fin, fins, fin1, V.pur?, V.pur1?, V.cells, kld, ones, V.one, Value.oneCell', own, owns, own1, xfill, ksrc, kint, vint, ksub, keqs, kok, V.val1?, ofRes]) | (with_reducible refine wgd_cases ?_ ?_ <;> intro hb) | (with_reducible refine wcond_cases ?_ ?_ <;> intro hb) | (with_reducible refine qd_i (by kernel_rfl) ?_) | (with_reducible refine W_itn_cases ?_ ?_; omega))
    have e0 : dLine bs a = .error e := by simp only [dLine, bindD, hx1, hx2, hx3, hx4, hx5, hx6]
    rw [e0]
    exact ⟨_, _, rfl, by omega, kk.trans hk (by omega)⟩
  subst hv
  replace kk := kk.trans hk (by omega)
  replace hO := (hk nx (by omega) (by omega)).trans hO
  replace hD := hd
  repeat' (first | (simp -implicitDefEqProofs only [ze, Nat.reduceEqDiff, Nat.reduceAdd, Nat.reduceMul, reduceIte, Nat.reduceLT, Nat.reduceLeDiff, reduceCtorEq, Int.reduceEq, Int.reduceLT, Int.reduceLE, Int.reduceNeg, Int.reduceToNat, Nat.reduceBEq, Nat.reduceSub, qp, qf, kop, av, RQ, PQ, kres, kres1, kresL, fin, fins, fin1, V.pur?, V.pur1?, V.cells, kld, ones, V.one, Value.oneCell', own, owns, own1, xfill, ksrc, kint, vint, ksub, keqs, kok, V.val1?, ofRes, hO]) | (with_reducible refine wgd_cases ?_ ?_ <;> intro hb) | (with_reducible refine wcond_cases ?_ ?_ <;> intro hb) | (with_reducible refine qd_i (by kernel_rfl) ?_) | (with_reducible refine W_itn_cases ?_ ?_; omega))
  refine W_dec (dcount_ok ((dec_set (dec_set hD hne' (Nat.le_refl _) _) hne' (Nat.le_refl _) _).le (by omega)) hb hl 6) (fun e s n hx7 hn hk => ?_) (fun p7 v s7 n7 hx7 hn7 hk hd hv => ?_)
  · repeat' (first | (simp -implicitDefEqProofs only [ze, Nat.reduceEqDiff, Nat.reduceAdd, Nat.reduceMul, reduceIte, Nat.reduceLT, Nat.reduceLeDiff, reduceCtorEq, Int.reduceEq, Int.reduceLT, Int.reduceLE, Int.reduceNeg, Int.reduceToNat, Nat.reduceBEq, Nat.reduceSub, qp, qf, kop, av, RQ, PQ, kres, kres1, kresL, fin, fins, fin1, V.pur?, V.pur1?, V.cells, kld, ones, V.one, Value.oneCell', own, owns, own1, xfill, ksrc, kint, vint, ksub, keqs, kok, V.val1?, ofRes]) | (with_reducible refine wgd_cases ?_ ?_ <;> intro hb) | (with_reducible refine wcond_cases ?_ ?_ <;> intro hb) | (with_reducible refine qd_i (by kernel_rfl) ?_) | (with_reducible refine W_itn_cases ?_ ?_; omega))
    have e0 : dLine bs a = .error e := by simp only [dLine, bindD, hx1, hx2, hx3, hx4, hx5, hx6, hx7]
    rw [e0]
    exact ⟨_, _, rfl, by omega, ((kk.upd (Nat.le_refl _) _).upd (Nat.le_refl _) _).trans hk (by omega)⟩
  obtain ⟨rfl, hc0, hc1⟩ := hv
  replace kk := ((kk.upd (Nat.le_refl _) _).upd (Nat.le_refl _) _).trans hk (by omega)
  replace hO := (hk nx (by omega) (by omega)).trans (by rw [upd_at, if_pos rfl])
  replace hD := hd
  repeat' (first | (simp -implicitDefEqProofs only [ze, Nat.reduceEqDiff, Nat.reduceAdd, Nat.reduceMul, reduceIte, Nat.reduceLT, Nat.reduceLeDiff, reduceCtorEq, Int.reduceEq, Int.reduceLT, Int.reduceLE, Int.reduceNeg, Int.reduceToNat, Nat.reduceBEq, Nat.reduceSub, qp, qf, kop, av, RQ, PQ, kres, kres1, kresL, fin, fins, fin1, V.pur?, V.pur1?, V.cells, kld, ones, V.one, Value.oneCell', own, owns, own1, xfill, ksrc, kint, vint, ksub, keqs, kok, V.val1?, ofRes, hO]) | (with_reducible refine wgd_cases ?_ ?_ <;> intro hb) | (with_reducible refine wcond_cases ?_ ?_ <;> intro hb) | (with_reducible refine qd_i (by kernel_rfl) ?_) | (with_reducible refine W_itn_cases ?_ ?_; omega))
  refine loop_w (fun m tm st' nx' => ∃ (i : Nat) (acc : List Tag) (ai : Nat) (vt : V), m = p7.1.toNat - i ∧ i ≤ p7.1.toNat ∧ acc.length = i ∧ dTags bs p7.1.toNat [] p7.2 = dTags bs (p7.1.toNat - i) acc ai ∧ tm 30 = .i64 i ∧ tm 29 = .i64 p7.1 ∧ tm 0 = .ptr id 0 ∧ tm 2 = .ptr nx 0 ∧ tm 4 = .fn (.func 96) [.ptr id 0] [] ∧ nx + 8 ≤ nx' ∧ KeepX st st' nx id ∧
      st' nx = some (.cells [.str p1.1, .str p2.1, .i64 p3.1, .i64 p4.1, .str p5.1, .str p6.1, vt]) ∧ Dec st' nx' id bs rr ai ∧ GrowN st' nx nx' 97 (acc.map encT) vt) p7.1.toNat ⟨0, [], p7.2, .list 0 [] 1, by omega, by omega, rfl, rfl, ?_, ?_, ?_, ?_, ?_, by omega, kk, hO, hD.le (by omega), .inl ⟨rfl, rfl⟩⟩ ?_
  · simp -implicitDefEqProofs only [ze, Nat.reduceEqDiff, Nat.reduceAdd, Nat.reduceMul, reduceIte, Nat.reduceLT, Nat.reduceLeDiff, reduceCtorEq, Int.reduceEq, Int.reduceLT, Int.reduceLE, Int.reduceNeg, Int.reduceToNat, Nat.reduceBEq, Nat.reduceSub, qp, qf, kop, av, RQ, PQ, kres, kres1, kresL, fin, fins, fin1, V.pur?, V.pur1?, V.cells, kld, ones, V.one, Value.oneCell', own, owns, own1, xfill, ksrc, kint, vint, ksub, keqs, kok, V.val1?, ofRes]; rfl
  · simp -implicitDefEqProofs only [ze, Nat.reduceEqDiff, Nat.reduceAdd, Nat.reduceMul, reduceIte, Nat.reduceLT, Nat.reduceLeDiff, reduceCtorEq, Int.reduceEq, Int.reduceLT, Int.reduceLE, Int.reduceNeg, Int.reduceToNat, Nat.reduceBEq, Nat.reduceSub, qp, qf, kop, av, RQ, PQ, kres, kres1, kresL, fin, fins, fin1, V.pur?, V.pur1?, V.cells, kld, ones, V.one, Value.oneCell', own, owns, own1, xfill, ksrc, kint, vint, ksub, keqs, kok, V.val1?, ofRes]
  · simp -implicitDefEqProofs only [ze, Nat.reduceEqDiff, Nat.reduceAdd, Nat.reduceMul, reduceIte, Nat.reduceLT, Nat.reduceLeDiff, reduceCtorEq, Int.reduceEq, Int.reduceLT, Int.reduceLE, Int.reduceNeg, Int.reduceToNat, Nat.reduceBEq, Nat.reduceSub, qp, qf, kop, av, RQ, PQ, kres, kres1, kresL, fin, fins, fin1, V.pur?, V.pur1?, V.cells, kld, ones, V.one, Value.oneCell', own, owns, own1, xfill, ksrc, kint, vint, ksub, keqs, kok, V.val1?, ofRes]
  · simp -implicitDefEqProofs only [ze, Nat.reduceEqDiff, Nat.reduceAdd, Nat.reduceMul, reduceIte, Nat.reduceLT, Nat.reduceLeDiff, reduceCtorEq, Int.reduceEq, Int.reduceLT, Int.reduceLE, Int.reduceNeg, Int.reduceToNat, Nat.reduceBEq, Nat.reduceSub, qp, qf, kop, av, RQ, PQ, kres, kres1, kresL, fin, fins, fin1, V.pur?, V.pur1?, V.cells, kld, ones, V.one, Value.oneCell', own, owns, own1, xfill, ksrc, kint, vint, ksub, keqs, kok, V.val1?, ofRes]
  · simp -implicitDefEqProofs only [ze, Nat.reduceEqDiff, Nat.reduceAdd, Nat.reduceMul, reduceIte, Nat.reduceLT, Nat.reduceLeDiff, reduceCtorEq, Int.reduceEq, Int.reduceLT, Int.reduceLE, Int.reduceNeg, Int.reduceToNat, Nat.reduceBEq, Nat.reduceSub, qp, qf, kop, av, RQ, PQ, kres, kres1, kresL, fin, fins, fin1, V.pur?, V.pur1?, V.cells, kld, ones, V.one, Value.oneCell', own, owns, own1, xfill, ksrc, kint, vint, ksub, keqs, kok, V.val1?, ofRes]
  clear hD kk hO
  rintro m tm st' nx' ⟨i, acc, ai, vt, hm, hi, hacc, hdt, h30, h29, h0, h2, h4, hnx, kk, hO, hD, hg⟩
  simp only [k98_l0]
  by_cases hlt : i < p7.1.toNat
  · have hd : decide ((i : Int) < p7.1) = true := decide_eq_true (by omega)
    obtain ⟨k, hki⟩ : ∃ k, p7.1.toNat - i = k + 1 := ⟨p7.1.toNat - i - 1, by omega⟩
    rw [hki] at hdt
    repeat' (first | (simp -implicitDefEqProofs only [ze, Nat.reduceEqDiff, Nat.reduceAdd, Nat.reduceMul, reduceIte, Nat.reduceLT, Nat.reduceLeDiff, reduceCtorEq, Int.reduceEq, Int.reduceLT, Int.reduceLE, Int.reduceNeg, Int.reduceToNat, Nat.reduceBEq, Nat.reduceSub, qp, qf, kop, av, RQ, PQ, kres, kres1, kresL, fin, fins, fin1, V.pur?, V.pur1?, V.cells, kld, ones, V.one, Value.oneCell', own, owns, own1, xfill, ksrc, kint, vint, ksub, keqs, kok, V.val1?, ofRes, h30, h29, h0, h2, h4, hd]) | (with_reducible refine wgd_cases ?_ ?_ <;> intro hb) | (with_reducible refine wcond_cases ?_ ?_ <;> intro hb) | (with_reducible refine qd_i (by kernel_rfl) ?_) | (with_reducible refine W_itn_cases ?_ ?_; omega))
    refine W_xdec (by kernel_rfl) rfl (dtext_ok (hD.upd (j := nx' + 8) (nx' := nx' + 80) (by omega) (by omega) _) hb hl) (fun e s n hxa hn hk => ?_) (fun pa v sa na hxa hna hka hDa hv => ?_)
    · repeat' (first | (simp -implicitDefEqProofs only [ze, Nat.reduceEqDiff, Nat.reduceAdd, Nat.reduceMul, reduceIte, Nat.reduceLT, Nat.reduceLeDiff, reduceCtorEq, Int.reduceEq, Int.reduceLT, Int.reduceLE, Int.reduceNeg, Int.reduceToNat, Nat.reduceBEq, Nat.reduceSub, qp, qf, kop, av, RQ, PQ, kres, kres1, kresL, fin, fins, fin1, V.pur?, V.pur1?, V.cells, kld, ones, V.one, Value.oneCell', own, owns, own1, xfill, ksrc, kint, vint, ksub, keqs, kok, V.val1?, ofRes, h30, h29, h0, h2, h4]) | (with_reducible refine wgd_cases ?_ ?_ <;> intro hb) | (with_reducible refine wcond_cases ?_ ?_ <;> intro hb) | (with_reducible refine qd_i (by kernel_rfl) ?_) | (with_reducible refine W_itn_cases ?_ ?_; omega))
      have e0 : dLine bs a = .error e := by simp only [dLine, bindD, hx1, hx2, hx3, hx4, hx5, hx6, hx7, hdt, dTags, hxa]
      rw [e0]
      exact ⟨_, _, rfl, by omega, (kk.upd (by omega) _).trans hk (by omega)⟩
    subst hv
    have hOa := (hka nx (by omega) (by omega)).trans (Eq.trans (by rw [upd_at, if_neg (by omega)]) hO)
    have hPa := (hka (nx' + 8) (by omega) (by omega)).trans (by rw [upd_at, if_pos rfl])
    have kka := (kk.upd (j := nx' + 8) (by omega) _).trans hka (by omega)
    repeat' (first | (simp -implicitDefEqProofs only [ze, Nat.reduceEqDiff, Nat.reduceAdd, Nat.reduceMul, reduceIte, Nat.reduceLT, Nat.reduceLeDiff, reduceCtorEq, Int.reduceEq, Int.reduceLT, Int.reduceLE, Int.reduceNeg, Int.reduceToNat, Nat.reduceBEq, Nat.reduceSub, qp, qf, kop, av, RQ, PQ, kres, kres1, kresL, fin, fins, fin1, V.pur?, V.pur1?, V.cells, kld, ones, V.one, Value.oneCell', own, owns, own1, xfill, ksrc, kint, vint, ksub, keqs, kok, V.val1?, ofRes, h30, h29, h0, h2, h4]) | (with_reducible refine wgd_cases ?_ ?_ <;> intro hb) | (with_reducible refine wcond_cases ?_ ?_ <;> intro hb) | (with_reducible refine qd_i (by kernel_rfl) ?_) | (with_reducible refine W_itn_cases ?_ ?_; omega))
    refine W_xdec (by kernel_rfl) rfl (dtext_ok (hDa.le (by omega)) hb hl) (fun e s n hxb hn hk => ?_) (fun pb v sb nb hxb hnb hkb hDb hv => ?_)
    · repeat' (first | (simp -implicitDefEqProofs only [ze, Nat.reduceEqDiff, Nat.reduceAdd, Nat.reduceMul, reduceIte, Nat.reduceLT, Nat.reduceLeDiff, reduceCtorEq, Int.reduceEq, Int.reduceLT, Int.reduceLE, Int.reduceNeg, Int.reduceToNat, Nat.reduceBEq, Nat.reduceSub, qp, qf, kop, av, RQ, PQ, kres, kres1, kresL, fin, fins, fin1, V.pur?, V.pur1?, V.cells, kld, ones, V.one, Value.oneCell', own, owns, own1, xfill, ksrc, kint, vint, ksub, keqs, kok, V.val1?, ofRes, h30, h29, h0, h2, h4]) | (with_reducible refine wgd_cases ?_ ?_ <;> intro hb) | (with_reducible refine wcond_cases ?_ ?_ <;> intro hb) | (with_reducible refine qd_i (by kernel_rfl) ?_) | (with_reducible refine W_itn_cases ?_ ?_; omega))
      have e0 : dLine bs a = .error e := by simp only [dLine, bindD, hx1, hx2, hx3, hx4, hx5, hx6, hx7, hdt, dTags, hxa, hxb]
      rw [e0]
      exact ⟨_, _, rfl, by omega, kka.trans hk (by omega)⟩
    subst hv
    have hOb := (hkb nx (by omega) (by omega)).trans hOa
    have hPb := (hkb (nx' + 8) (by omega) (by omega)).trans hPa
    have kkb := kka.trans hkb (by omega)
    have f1 : (nx = nx' + 8) = False := eq_false (by omega)
    have f2 : ∀ j, (nx = nb + j) = False := fun j => eq_false (by omega)
    have f3 : ∀ j, (nx' + 8 = nb + j) = False := fun j => eq_false (by omega)
    have f4 : (nx' + 8 = nx) = False := eq_false (by omega)
    rcases hg with ⟨hb0, rfl⟩ | ⟨hb1, r, hr0, hr8, hrn, rfl, hst⟩
    · repeat' (first | (simp -implicitDefEqProofs only [ze, Nat.reduceEqDiff, Nat.reduceAdd, Nat.reduceMul, reduceIte, Nat.reduceLT, Nat.reduceLeDiff, reduceCtorEq, Int.reduceEq, Int.reduceLT, Int.reduceLE, Int.reduceNeg, Int.reduceToNat, Nat.reduceBEq, Nat.reduceSub, qp, qf, kop, av, RQ, PQ, kres, kres1, kresL, fin, fins, fin1, V.pur?, V.pur1?, V.cells, kld, ones, V.one, Value.oneCell', own, owns, own1, xfill, ksrc, kint, vint, ksub, keqs, kok, V.val1?, ofRes, hOb, hPb, f1, f2, f3, f4, h30, h29, h0, h2, h4]) | (with_reducible refine wgd_cases ?_ ?_ <;> intro hb) | (with_reducible refine wcond_cases ?_ ?_ <;> intro hb) | (with_reducible refine qd_i (by kernel_rfl) ?_) | (with_reducible refine W_itn_cases ?_ ?_; omega))
      have hacc0 : acc = [] := by simpa using hb0
      subst hacc0
      have hi0 : i = 0 := hacc.symm
      subst hi0
      refine ⟨p7.1.toNat - 1, by omega, 1, [⟨pa.1, pb.1⟩], pb.2, _, rfl, by omega, rfl, ?_, up64 (by omega), by omega, ((((kkb.upd (by omega) _).upd (by omega) _).upd (by omega) _).upd (by omega) _).upd (Nat.le_refl _) _, rfl,
        dec_set (((dec_set (dec_set hDb (by omega) (Nat.le_refl _) _) (by omega) (Nat.le_refl _) _).upd (by omega) (Nat.le_refl _) _).upd (by omega) (Nat.le_refl _) _) hne' (by omega) _, .inr ⟨by simp, nb + 32, by omega, by omega, by omega, rfl, ?_⟩⟩
      · rw [hdt, show p7.1.toNat - 1 = k by omega]; simp only [dTags, bindD, hxa, hxb, List.nil_append]
      · rw [upd_at, if_neg (by omega), upd_at, if_pos rfl]; rfl
    · have hstb := (hkb r (by omega) (by omega)).trans ((hka r (by omega) (by omega)).trans (Eq.trans (by rw [upd_at, if_neg (by omega)]) hst))
      have g1 : (r = 0) = False := eq_false (by omega)
      have g2 : (r = 1) = False := eq_false (by omega)
      have g3 : ∀ j, (r = nb + j) = False := fun j => eq_false (by omega)
      have g4 : (r = nx' + 8) = False := eq_false (by omega)
      have g5 : (nx = r) = False := eq_false (by omega)
      have g6 : (nx' + 8 = r) = False := eq_false (by omega)
      repeat' (first | (simp -implicitDefEqProofs only [ze, Nat.reduceEqDiff, Nat.reduceAdd, Nat.reduceMul, reduceIte, Nat.reduceLT, Nat.reduceLeDiff, reduceCtorEq, Int.reduceEq, Int.reduceLT, Int.reduceLE, Int.reduceNeg, Int.reduceToNat, Nat.reduceBEq, Nat.reduceSub, qp, qf, kop, av, RQ, PQ, kres, kres1, kresL, fin, fins, fin1, V.pur?, V.pur1?, V.cells, kld, ones, V.one, Value.oneCell', own, owns, own1, xfill, ksrc, kint, vint, ksub, keqs, kok, V.val1?, ofRes, hOb, hPb, hstb, f1, f2, f3, f4, g1, g2, g3, g4, g5, g6, h30, h29, h0, h2, h4, List.length_map]) | (with_reducible refine wgd_cases ?_ ?_ <;> intro hb) | (with_reducible refine wcond_cases ?_ ?_ <;> intro hb) | (with_reducible refine qd_i (by kernel_rfl) ?_) | (with_reducible refine W_itn_cases ?_ ?_; omega))
      refine ⟨p7.1.toNat - (i + 1), by omega, i + 1, acc ++ [⟨pa.1, pb.1⟩], pb.2, _, rfl, by omega, by simp [hacc], ?_, up64 (by omega), by omega, ((((kkb.upd (by omega) _).upd (by omega) _).upd (by omega) _).upd (by omega) _).upd (Nat.le_refl _) _, rfl,
        dec_set (dec_set ((dec_set (dec_set hDb (by omega) (Nat.le_refl _) _) (by omega) (Nat.le_refl _) _).upd (by omega) (Nat.le_refl _) _) (by omega) (Nat.le_refl _) _) hne' (by omega) _, .inr ⟨by simp, r, by omega, by omega, by omega, by simp [encT], ?_⟩⟩
      · rw [hdt, show p7.1.toNat - (i + 1) = k by omega]; simp only [dTags, bindD, hxa, hxb]
      · rw [upd_at, if_neg (by omega), upd_at, if_pos rfl]; simp
  · have hd : decide ((i : Int) < p7.1) = false := decide_eq_false (by omega)
    have hin : i = p7.1.toNat := by omega
    rw [hin, Nat.sub_self] at hdt
    have e0 : dLine bs a = .ok (⟨p1.1, p2.1, p3.1, p4.1, p5.1, p6.1, acc, acc.isEmpty⟩, ai) := by simp only [dLine, bindD, hx1, hx2, hx3, hx4, hx5, hx6, hx7, hdt, dTags]
    rcases hg with ⟨hb0, rfl⟩ | ⟨hb1, r, hr0, hr8, hrn, rfl, hst⟩
    · repeat' (first | (simp -implicitDefEqProofs only [ze, Nat.reduceEqDiff, Nat.reduceAdd, Nat.reduceMul, reduceIte, Nat.reduceLT, Nat.reduceLeDiff, reduceCtorEq, Int.reduceEq, Int.reduceLT, Int.reduceLE, Int.reduceNeg, Int.reduceToNat, Nat.reduceBEq, Nat.reduceSub, qp, qf, kop, av, RQ, PQ, kres, kres1, kresL, fin, fins, fin1, V.pur?, V.pur1?, V.cells, kld, ones, V.one, Value.oneCell', own, owns, own1, xfill, ksrc, kint, vint, ksub, keqs, kok, V.val1?, ofRes, h30, h29, h0, h2, h4, hd, k98_t0, hO]) | (with_reducible refine wgd_cases ?_ ?_ <;> intro hb) | (with_reducible refine wcond_cases ?_ ?_ <;> intro hb) | (with_reducible refine qd_i (by kernel_rfl) ?_) | (with_reducible refine W_itn_cases ?_ ?_; omega))
      rw [e0]
      exact ⟨_, _, _, rfl, by omega, kk.upd (Nat.le_refl _) _, dec_set hD hne' (by omega) _, _, .inl ⟨hb0, rfl⟩, rfl, rfl⟩
    · repeat' (first | (simp -implicitDefEqProofs only [ze, Nat.reduceEqDiff, Nat.reduceAdd, Nat.reduceMul, reduceIte, Nat.reduceLT, Nat.reduceLeDiff, reduceCtorEq, Int.reduceEq, Int.reduceLT, Int.reduceLE, Int.reduceNeg, Int.reduceToNat, Nat.reduceBEq, Nat.reduceSub, qp, qf, kop, av, RQ, PQ, kres, kres1, kresL, fin, fins, fin1, V.pur?, V.pur1?, V.cells, kld, ones, V.one, Value.oneCell', own, owns, own1, xfill, ksrc, kint, vint, ksub, keqs, kok, V.val1?, ofRes, h30, h29, h0, h2, h4, hd, k98_t0, hO]) | (with_reducible refine wgd_cases ?_ ?_ <;> intro hb) | (with_reducible refine wcond_cases ?_ ?_ <;> intro hb) | (with_reducible refine qd_i (by kernel_rfl) ?_) | (with_reducible refine W_itn_cases ?_ ?_; omega))
      rw [e0]
      exact ⟨_, _, _, rfl, by omega, kk.upd (Nat.le_refl _) _, dec_set hD hne' (by omega) _, _, .inr ⟨hb1, r, hr8, rfl⟩, rfl, rfl⟩
end Go.Proofs.YtkbheoganajhaaaDoor.Vm
set_option maxRecDepth 10000
set_option linter.unusedVariables false
set_option linter.unusedSimpArgs false
namespace Go.Proofs.YtkbheoganajhaaaDoor.Vm
open Go Go.Proofs
def dLines (bs : List Int) : Nat → List Line → Nat → Except Int (List Line × Nat)
  | 0, acc, a => .ok (acc, a)
  | n + 1, acc, a => bindD (dLine bs a) fun x a => dLines bs n (acc ++ [x]) a
def dEntry (bs : List Int) (a : Nat) : Except Int (Entry × Nat) :=
  bindD (dInt bs a) fun no a => bindD (dText bs a) fun ent a => bindD (dInt bs a) fun book a => bindD (dInt bs a) fun val a => bindD (dInt bs a) fun kind a => bindD (dText bs a) fun ref a => bindD (dText bs a) fun who a => bindD (dInt bs a) fun rev a =>
  bindD (dCount 100 bs a) fun n a => bindD (dLines bs n.toNat [] a) fun lines a => .ok (⟨no, ent, book, val, kind, ref, who, rev, lines, lines.isEmpty⟩, a)
def entryQ (e : Entry) (v : V) (st : St) (nx : Nat) : Prop := ∃ vt, fresh1 61 (e.lines.map encL) vt ∧ e.lr = e.lines.isEmpty ∧ v = .agg [.i64 e.no, .str e.ent, .i64 e.book, .i64 e.val, .i64 e.kind, .str e.ref, .str e.who, .i64 e.rev, vt]
theorem dentry_ok {st : St} {nx id : Nat} {bs : List Int} {rr a : Nat} (h : Dec st nx id bs rr a) (hb : bOK bs) (hl : bs.length < 4611686018427387904) :
    W (L.hp 83 [.ptr id 0] st nx) (DP st nx id bs rr (dEntry bs a) entryQ) := by
  refine hp_w k83_eq ?_
  simp only [k83]
  have hid := h.1
  repeat' (first | (simp -implicitDefEqProofs only [ze, Nat.reduceEqDiff, Nat.reduceAdd, Nat.reduceMul, reduceIte, Nat.reduceLT, Nat.reduceLeDiff, reduceCtorEq, Int.reduceEq, Int.reduceLT, Int.reduceLE, Int.reduceNeg, Int.reduceToNat, Nat.reduceBEq, Nat.reduceSub, qp, qf, kop, av, RQ, PQ, kres, kres1, kresL, fin, fins, fin1, V.pur?, V.pur1?, V.cells, kld, ones, V.one, Value.oneCell', own, owns, own1, xfill, ksrc, kint, vint, ksub, keqs, kok, V.val1?, ofRes]))
  have kk : KeepX st (upd st nx (some (Ob.cells [V.sc (Value.int IntKind.i64 0), V.sc (Value.string (ByteArray.mk #[])), V.sc (Value.int IntKind.i64 0), V.sc (Value.int IntKind.i64 0), V.sc (Value.int IntKind.i64 0), V.sc (Value.string (ByteArray.mk #[])), V.sc (Value.string (ByteArray.mk #[])), V.sc (Value.int IntKind.i64 0), V.list 0 [] 1]))) nx id := (KeepX.refl st nx id).upd (Nat.le_refl _) _
  have hD := h.upd (Nat.le_refl nx) (Nat.le_refl nx) (some (Ob.cells [V.sc (Value.int IntKind.i64 0), V.sc (Value.string (ByteArray.mk #[])), V.sc (Value.int IntKind.i64 0), V.sc (Value.int IntKind.i64 0), V.sc (Value.int IntKind.i64 0), V.sc (Value.string (ByteArray.mk #[])), V.sc (Value.string (ByteArray.mk #[])), V.sc (Value.int IntKind.i64 0), V.list 0 [] 1]))
  have hne : (id = nx) = False := eq_false (by omega)
  have hne' : ¬ id = nx := by omega
  have hO : (upd st nx (some (Ob.cells [V.sc (Value.int IntKind.i64 0), V.sc (Value.string (ByteArray.mk #[])), V.sc (Value.int IntKind.i64 0), V.sc (Value.int IntKind.i64 0), V.sc (Value.int IntKind.i64 0), V.sc (Value.string (ByteArray.mk #[])), V.sc (Value.string (ByteArray.mk #[])), V.sc (Value.int IntKind.i64 0), V.list 0 [] 1]))) nx = some (Ob.cells [V.sc (Value.int IntKind.i64 0), V.sc (Value.string (ByteArray.mk #[])), V.sc (Value.int IntKind.i64 0), V.sc (Value.int IntKind.i64 0), V.sc (Value.int IntKind.i64 0), V.sc (Value.string (ByteArray.mk #[])), V.sc (Value.string (ByteArray.mk #[])), V.sc (Value.int IntKind.i64 0), V.list 0 [] 1]) := by rw [upd_at, if_pos rfl]
  refine W_xdec (by kernel_rfl) rfl (dnumber_ok (hD.le (by omega)) hb hl) (fun e s n hx1 hn hk => ?_) (fun p1 v s1 n1 hx1 hn1 hk hd hv => ?_)
  · repeat' (first | (simp -implicitDefEqProofs only [ze, Nat.reduceEqDiff, Nat.reduceAdd, Nat.reduceMul, reduceIte, Nat.reduceLT, Nat.reduceLeDiff, reduceCtorEq, Int.reduceEq, Int.reduceLT, Int.reduceLE, Int.reduceNeg, Int.reduceToNat, Nat.reduceBEq, Nat.reduceSub, qp, qf, kop, av, RQ, PQ, kres, kres1, kresL, fin, fins, fin1, V.pur?, V.pur1?, V.cells, kld, ones, V.one, Value.oneCell', own, owns, own1, xfill, ksrc, kint, vint, ksub, keqs, kok, V.val1?, ofRes]) | (with_reducible refine wgd_cases ?_ ?_ <;> intro hb) | (with_reducible refine wcond_cases ?_ ?_ <;> intro hb) | (with_reducible refine qd_i (by kernel_rfl) ?_) | (with_reducible refine W_itn_cases ?_ ?_; omega))
    have e0 : dEntry bs a = .error e := by simp only [dEntry, bindD, hx1]
    rw [e0]
    exact ⟨_, _, rfl, by omega, kk.trans hk (by omega)⟩
  subst hv
  replace kk := kk.trans hk (by omega)
  replace hO := (hk nx (by omega) (by omega)).trans hO
  replace hD := hd
  repeat' (first | (simp -implicitDefEqProofs only [ze, Nat.reduceEqDiff, Nat.reduceAdd, Nat.reduceMul, reduceIte, Nat.reduceLT, Nat.reduceLeDiff, reduceCtorEq, Int.reduceEq, Int.reduceLT, Int.reduceLE, Int.reduceNeg, Int.reduceToNat, Nat.reduceBEq, Nat.reduceSub, qp, qf, kop, av, RQ, PQ, kres, kres1, kresL, fin, fins, fin1, V.pur?, V.pur1?, V.cells, kld, ones, V.one, Value.oneCell', own, owns, own1, xfill, ksrc, kint, vint, ksub, keqs, kok, V.val1?, ofRes, hO]) | (with_reducible refine wgd_cases ?_ ?_ <;> intro hb) | (with_reducible refine wcond_cases ?_ ?_ <;> intro hb) | (with_reducible refine qd_i (by kernel_rfl) ?_) | (with_reducible refine W_itn_cases ?_ ?_; omega))
  refine W_xdec (by kernel_rfl) rfl (dtext_ok ((dec_set hD hne' (Nat.le_refl _) _).le (by omega)) hb hl) (fun e s n hx2 hn hk => ?_) (fun p2 v s2 n2 hx2 hn2 hk hd hv => ?_)
  · repeat' (first | (simp -implicitDefEqProofs only [ze, Nat.reduceEqDiff, Nat.reduceAdd, Nat.reduceMul, reduceIte, Nat.reduceLT, Nat.reduceLeDiff, reduceCtorEq, Int.reduceEq, Int.reduceLT, Int.reduceLE, Int.reduceNeg, Int.reduceToNat, Nat.reduceBEq, Nat.reduceSub, qp, qf, kop, av, RQ, PQ, kres, kres1, kresL, fin, fins, fin1, V.pur?, V.pur1?, V.cells, kld, ones, V.one, Value.oneCell', own, owns, own1, xfill, ksrc, kint, vint, ksub, keqs, kok, V.val1?, ofRes]) | (with_reducible refine wgd_cases ?_ ?_ <;> intro hb) | (with_reducible refine wcond_cases ?_ ?_ <;> intro hb) | (with_reducible refine qd_i (by kernel_rfl) ?_) | (with_reducible refine W_itn_cases ?_ ?_; omega))
    have e0 : dEntry bs a = .error e := by simp only [dEntry, bindD, hx1, hx2]
    rw [e0]
    exact ⟨_, _, rfl, by omega, (kk.upd (Nat.le_refl _) _).trans hk (by omega)⟩
  subst hv
  replace kk := (kk.upd (Nat.le_refl _) _).trans hk (by omega)
  replace hO := (hk nx (by omega) (by omega)).trans (by rw [upd_at, if_pos rfl])
  replace hD := hd
  repeat' (first | (simp -implicitDefEqProofs only [ze, Nat.reduceEqDiff, Nat.reduceAdd, Nat.reduceMul, reduceIte, Nat.reduceLT, Nat.reduceLeDiff, reduceCtorEq, Int.reduceEq, Int.reduceLT, Int.reduceLE, Int.reduceNeg, Int.reduceToNat, Nat.reduceBEq, Nat.reduceSub, qp, qf, kop, av, RQ, PQ, kres, kres1, kresL, fin, fins, fin1, V.pur?, V.pur1?, V.cells, kld, ones, V.one, Value.oneCell', own, owns, own1, xfill, ksrc, kint, vint, ksub, keqs, kok, V.val1?, ofRes, hO]) | (with_reducible refine wgd_cases ?_ ?_ <;> intro hb) | (with_reducible refine wcond_cases ?_ ?_ <;> intro hb) | (with_reducible refine qd_i (by kernel_rfl) ?_) | (with_reducible refine W_itn_cases ?_ ?_; omega))
  refine W_xdec (by kernel_rfl) rfl (dnumber_ok ((dec_set hD hne' (Nat.le_refl _) _).le (by omega)) hb hl) (fun e s n hx3 hn hk => ?_) (fun p3 v s3 n3 hx3 hn3 hk hd hv => ?_)
  · repeat' (first | (simp -implicitDefEqProofs only [ze, Nat.reduceEqDiff, Nat.reduceAdd, Nat.reduceMul, reduceIte, Nat.reduceLT, Nat.reduceLeDiff, reduceCtorEq, Int.reduceEq, Int.reduceLT, Int.reduceLE, Int.reduceNeg, Int.reduceToNat, Nat.reduceBEq, Nat.reduceSub, qp, qf, kop, av, RQ, PQ, kres, kres1, kresL, fin, fins, fin1, V.pur?, V.pur1?, V.cells, kld, ones, V.one, Value.oneCell', own, owns, own1, xfill, ksrc, kint, vint, ksub, keqs, kok, V.val1?, ofRes]) | (with_reducible refine wgd_cases ?_ ?_ <;> intro hb) | (with_reducible refine wcond_cases ?_ ?_ <;> intro hb) | (with_reducible refine qd_i (by kernel_rfl) ?_) | (with_reducible refine W_itn_cases ?_ ?_; omega))
    have e0 : dEntry bs a = .error e := by simp only [dEntry, bindD, hx1, hx2, hx3]
    rw [e0]
    exact ⟨_, _, rfl, by omega, (kk.upd (Nat.le_refl _) _).trans hk (by omega)⟩
  subst hv
  replace kk := (kk.upd (Nat.le_refl _) _).trans hk (by omega)
  replace hO := (hk nx (by omega) (by omega)).trans (by rw [upd_at, if_pos rfl])
  replace hD := hd
  repeat' (first | (simp -implicitDefEqProofs only [ze, Nat.reduceEqDiff, Nat.reduceAdd, Nat.reduceMul, reduceIte, Nat.reduceLT, Nat.reduceLeDiff, reduceCtorEq, Int.reduceEq, Int.reduceLT, Int.reduceLE, Int.reduceNeg, Int.reduceToNat, Nat.reduceBEq, Nat.reduceSub, qp, qf, kop, av, RQ, PQ, kres, kres1, kresL, fin, fins, fin1, V.pur?, V.pur1?, V.cells, kld, ones, V.one, Value.oneCell', own, owns, own1, xfill, ksrc, kint, vint, ksub, keqs, kok, V.val1?, ofRes, hO]) | (with_reducible refine wgd_cases ?_ ?_ <;> intro hb) | (with_reducible refine wcond_cases ?_ ?_ <;> intro hb) | (with_reducible refine qd_i (by kernel_rfl) ?_) | (with_reducible refine W_itn_cases ?_ ?_; omega))
  refine W_xdec (by kernel_rfl) rfl (dnumber_ok (hD.le (by omega)) hb hl) (fun e s n hx4 hn hk => ?_) (fun p4 v s4 n4 hx4 hn4 hk hd hv => ?_)
  · repeat' (first | (simp -implicitDefEqProofs only [ze, Nat.reduceEqDiff, Nat.reduceAdd, Nat.reduceMul, reduceIte, Nat.reduceLT, Nat.reduceLeDiff, reduceCtorEq, Int.reduceEq, Int.reduceLT, Int.reduceLE, Int.reduceNeg, Int.reduceToNat, Nat.reduceBEq, Nat.reduceSub, qp, qf, kop, av, RQ, PQ, kres, kres1, kresL, fin, fins, fin1, V.pur?, V.pur1?, V.cells, kld, ones, V.one, Value.oneCell', own, owns, own1, xfill, ksrc, kint, vint, ksub, keqs, kok, V.val1?, ofRes]) | (with_reducible refine wgd_cases ?_ ?_ <;> intro hb) | (with_reducible refine wcond_cases ?_ ?_ <;> intro hb) | (with_reducible refine qd_i (by kernel_rfl) ?_) | (with_reducible refine W_itn_cases ?_ ?_; omega))
    have e0 : dEntry bs a = .error e := by simp only [dEntry, bindD, hx1, hx2, hx3, hx4]
    rw [e0]
    exact ⟨_, _, rfl, by omega, kk.trans hk (by omega)⟩
  subst hv
  replace kk := kk.trans hk (by omega)
  replace hO := (hk nx (by omega) (by omega)).trans hO
  replace hD := hd
  repeat' (first | (simp -implicitDefEqProofs only [ze, Nat.reduceEqDiff, Nat.reduceAdd, Nat.reduceMul, reduceIte, Nat.reduceLT, Nat.reduceLeDiff, reduceCtorEq, Int.reduceEq, Int.reduceLT, Int.reduceLE, Int.reduceNeg, Int.reduceToNat, Nat.reduceBEq, Nat.reduceSub, qp, qf, kop, av, RQ, PQ, kres, kres1, kresL, fin, fins, fin1, V.pur?, V.pur1?, V.cells, kld, ones, V.one, Value.oneCell', own, owns, own1, xfill, ksrc, kint, vint, ksub, keqs, kok, V.val1?, ofRes, hO]) | (with_reducible refine wgd_cases ?_ ?_ <;> intro hb) | (with_reducible refine wcond_cases ?_ ?_ <;> intro hb) | (with_reducible refine qd_i (by kernel_rfl) ?_) | (with_reducible refine W_itn_cases ?_ ?_; omega))
  refine W_xdec (by kernel_rfl) rfl (dnumber_ok (hD.le (by omega)) hb hl) (fun e s n hx5 hn hk => ?_) (fun p5 v s5 n5 hx5 hn5 hk hd hv => ?_)
  · repeat' (first | (simp -implicitDefEqProofs only [ze, Nat.reduceEqDiff, Nat.reduceAdd, Nat.reduceMul, reduceIte, Nat.reduceLT, Nat.reduceLeDiff, reduceCtorEq, Int.reduceEq, Int.reduceLT, Int.reduceLE, Int.reduceNeg, Int.reduceToNat, Nat.reduceBEq, Nat.reduceSub, qp, qf, kop, av, RQ, PQ, kres, kres1, kresL, fin, fins, fin1, V.pur?, V.pur1?, V.cells, kld, ones, V.one, Value.oneCell', own, owns, own1, xfill, ksrc, kint, vint, ksub, keqs, kok, V.val1?, ofRes]) | (with_reducible refine wgd_cases ?_ ?_ <;> intro hb) | (with_reducible refine wcond_cases ?_ ?_ <;> intro hb) | (with_reducible refine qd_i (by kernel_rfl) ?_) | (with_reducible refine W_itn_cases ?_ ?_; omega))
    have e0 : dEntry bs a = .error e := by simp only [dEntry, bindD, hx1, hx2, hx3, hx4, hx5]
    rw [e0]
    exact ⟨_, _, rfl, by omega, kk.trans hk (by omega)⟩
  subst hv
  replace kk := kk.trans hk (by omega)
  replace hO := (hk nx (by omega) (by omega)).trans hO
  replace hD := hd
  repeat' (first | (simp -implicitDefEqProofs only [ze, Nat.reduceEqDiff, Nat.reduceAdd, Nat.reduceMul, reduceIte, Nat.reduceLT, Nat.reduceLeDiff, reduceCtorEq, Int.reduceEq, Int.reduceLT, Int.reduceLE, Int.reduceNeg, Int.reduceToNat, Nat.reduceBEq, Nat.reduceSub, qp, qf, kop, av, RQ, PQ, kres, kres1, kresL, fin, fins, fin1, V.pur?, V.pur1?, V.cells, kld, ones, V.one, Value.oneCell', own, owns, own1, xfill, ksrc, kint, vint, ksub, keqs, kok, V.val1?, ofRes, hO]) | (with_reducible refine wgd_cases ?_ ?_ <;> intro hb) | (with_reducible refine wcond_cases ?_ ?_ <;> intro hb) | (with_reducible refine qd_i (by kernel_rfl) ?_) | (with_reducible refine W_itn_cases ?_ ?_; omega))
  refine W_xdec (by kernel_rfl) rfl (dtext_ok ((dec_set (dec_set (dec_set hD hne' (Nat.le_refl _) _) hne' (Nat.le_refl _) _) hne' (Nat.le_refl _) _).le (by omega)) hb hl) (fun e s n hx6 hn hk => ?_) (fun p6 v s6 n6 hx6 hn6 hk hd hv => ?_)
  · repeat' (first | (simp -implicitDefEqProofs only [ze, Nat.reduceEqDiff, Nat.reduceAdd, Nat.reduceMul, reduceIte, Nat.reduceLT, Nat.reduceLeDiff, reduceCtorEq, Int.reduceEq, Int.reduceLT, Int.reduceLE, Int.reduceNeg, Int.reduceToNat, Nat.reduceBEq, Nat.reduceSub, qp, qf, kop, av, RQ, PQ, kres, kres1, kresL, fin, fins, fin1, V.pur?, V.pur1?, V.cells, kld, ones, V.one, Value.oneCell', own, owns, own1, xfill, ksrc, kint, vint, ksub, keqs, kok, V.val1?, ofRes]) | (with_reducible refine wgd_cases ?_ ?_ <;> intro hb) | (with_reducible refine wcond_cases ?_ ?_ <;> intro hb) | (with_reducible refine qd_i (by kernel_rfl) ?_) | (with_reducible refine W_itn_cases ?_ ?_; omega))
    have e0 : dEntry bs a = .error e := by simp only [dEntry, bindD, hx1, hx2, hx3, hx4, hx5, hx6]
    rw [e0]
    exact ⟨_, _, rfl, by omega, (((kk.upd (Nat.le_refl _) _).upd (Nat.le_refl _) _).upd (Nat.le_refl _) _).trans hk (by omega)⟩
  subst hv
  replace kk := (((kk.upd (Nat.le_refl _) _).upd (Nat.le_refl _) _).upd (Nat.le_refl _) _).trans hk (by omega)
  replace hO := (hk nx (by omega) (by omega)).trans (by rw [upd_at, if_pos rfl])
  replace hD := hd
  repeat' (first | (simp -implicitDefEqProofs only [ze, Nat.reduceEqDiff, Nat.reduceAdd, Nat.reduceMul, reduceIte, Nat.reduceLT, Nat.reduceLeDiff, reduceCtorEq, Int.reduceEq, Int.reduceLT, Int.reduceLE, Int.reduceNeg, Int.reduceToNat, Nat.reduceBEq, Nat.reduceSub, qp, qf, kop, av, RQ, PQ, kres, kres1, kresL, fin, fins, fin1, V.pur?, V.pur1?, V.cells, kld, ones, V.one, Value.oneCell', own, owns, own1, xfill, ksrc, kint, vint, ksub, keqs, kok, V.val1?, ofRes, hO]) | (with_reducible refine wgd_cases ?_ ?_ <;> intro hb) | (with_reducible refine wcond_cases ?_ ?_ <;> intro hb) | (with_reducible refine qd_i (by kernel_rfl) ?_) | (with_reducible refine W_itn_cases ?_ ?_; omega))
  refine W_xdec (by kernel_rfl) rfl (dtext_ok (hD.le (by omega)) hb hl) (fun e s n hx7 hn hk => ?_) (fun p7 v s7 n7 hx7 hn7 hk hd hv => ?_)
  · repeat' (first | (simp -implicitDefEqProofs only [ze, Nat.reduceEqDiff, Nat.reduceAdd, Nat.reduceMul, reduceIte, Nat.reduceLT, Nat.reduceLeDiff, reduceCtorEq, Int.reduceEq, Int.reduceLT, Int.reduceLE, Int.reduceNeg, Int.reduceToNat, Nat.reduceBEq, Nat.reduceSub, qp, qf, kop, av, RQ, PQ, kres, kres1, kresL, fin, fins, fin1, V.pur?, V.pur1?, V.cells, kld, ones, V.one, Value.oneCell', own, owns, own1, xfill, ksrc, kint, vint, ksub, keqs, kok, V.val1?, ofRes]) | (with_reducible refine wgd_cases ?_ ?_ <;> intro hb) | (with_reducible refine wcond_cases ?_ ?_ <;> intro hb) | (with_reducible refine qd_i (by kernel_rfl) ?_) | (with_reducible refine W_itn_cases ?_ ?_; omega))
    have e0 : dEntry bs a = .error e := by simp only [dEntry, bindD, hx1, hx2, hx3, hx4, hx5, hx6, hx7]
    rw [e0]
    exact ⟨_, _, rfl, by omega, kk.trans hk (by omega)⟩
  subst hv
  replace kk := kk.trans hk (by omega)
  replace hO := (hk nx (by omega) (by omega)).trans hO
  replace hD := hd
  repeat' (first | (simp -implicitDefEqProofs only [ze, Nat.reduceEqDiff, Nat.reduceAdd, Nat.reduceMul, reduceIte, Nat.reduceLT, Nat.reduceLeDiff, reduceCtorEq, Int.reduceEq, Int.reduceLT, Int.reduceLE, Int.reduceNeg, Int.reduceToNat, Nat.reduceBEq, Nat.reduceSub, qp, qf, kop, av, RQ, PQ, kres, kres1, kresL, fin, fins, fin1, V.pur?, V.pur1?, V.cells, kld, ones, V.one, Value.oneCell', own, owns, own1, xfill, ksrc, kint, vint, ksub, keqs, kok, V.val1?, ofRes, hO]) | (with_reducible refine wgd_cases ?_ ?_ <;> intro hb) | (with_reducible refine wcond_cases ?_ ?_ <;> intro hb) | (with_reducible refine qd_i (by kernel_rfl) ?_) | (with_reducible refine W_itn_cases ?_ ?_; omega))
  refine W_xdec (by kernel_rfl) rfl (dnumber_ok ((dec_set (dec_set hD hne' (Nat.le_refl _) _) hne' (Nat.le_refl _) _).le (by omega)) hb hl) (fun e s n hx8 hn hk => ?_) (fun p8 v s8 n8 hx8 hn8 hk hd hv => ?_)
  · repeat' (first | (simp -implicitDefEqProofs only [ze, Nat.reduceEqDiff, Nat.reduceAdd, Nat.reduceMul, reduceIte, Nat.reduceLT, Nat.reduceLeDiff, reduceCtorEq, Int.reduceEq, Int.reduceLT, Int.reduceLE, Int.reduceNeg, Int.reduceToNat, Nat.reduceBEq, Nat.reduceSub, qp, qf, kop, av, RQ, PQ, kres, kres1, kresL, fin, fins, fin1, V.pur?, V.pur1?, V.cells, kld, ones, V.one, Value.oneCell', own, owns, own1, xfill, ksrc, kint, vint, ksub, keqs, kok, V.val1?, ofRes]) | (with_reducible refine wgd_cases ?_ ?_ <;> intro hb) | (with_reducible refine wcond_cases ?_ ?_ <;> intro hb) | (with_reducible refine qd_i (by kernel_rfl) ?_) | (with_reducible refine W_itn_cases ?_ ?_; omega))
    have e0 : dEntry bs a = .error e := by simp only [dEntry, bindD, hx1, hx2, hx3, hx4, hx5, hx6, hx7, hx8]
    rw [e0]
    exact ⟨_, _, rfl, by omega, ((kk.upd (Nat.le_refl _) _).upd (Nat.le_refl _) _).trans hk (by omega)⟩
  subst hv
  replace kk := ((kk.upd (Nat.le_refl _) _).upd (Nat.le_refl _) _).trans hk (by omega)
  replace hO := (hk nx (by omega) (by omega)).trans (by rw [upd_at, if_pos rfl])
  replace hD := hd
  repeat' (first | (simp -implicitDefEqProofs only [ze, Nat.reduceEqDiff, Nat.reduceAdd, Nat.reduceMul, reduceIte, Nat.reduceLT, Nat.reduceLeDiff, reduceCtorEq, Int.reduceEq, Int.reduceLT, Int.reduceLE, Int.reduceNeg, Int.reduceToNat, Nat.reduceBEq, Nat.reduceSub, qp, qf, kop, av, RQ, PQ, kres, kres1, kresL, fin, fins, fin1, V.pur?, V.pur1?, V.cells, kld, ones, V.one, Value.oneCell', own, owns, own1, xfill, ksrc, kint, vint, ksub, keqs, kok, V.val1?, ofRes, hO]) | (with_reducible refine wgd_cases ?_ ?_ <;> intro hb) | (with_reducible refine wcond_cases ?_ ?_ <;> intro hb) | (with_reducible refine qd_i (by kernel_rfl) ?_) | (with_reducible refine W_itn_cases ?_ ?_; omega))
  refine W_dec (dcount_ok ((dec_set hD hne' (Nat.le_refl _) _).le (by omega)) hb hl 100) (fun e s n hx9 hn hk => ?_) (fun p9 v s9 n9 hx9 hn9 hk hd hv => ?_)
  · repeat' (first | (simp -implicitDefEqProofs only [ze, Nat.reduceEqDiff, Nat.reduceAdd, Nat.reduceMul, reduceIte, Nat.reduceLT, Nat.reduceLeDiff, reduceCtorEq, Int.reduceEq, Int.reduceLT, Int.reduceLE, Int.reduceNeg, Int.reduceToNat, Nat.reduceBEq, Nat.reduceSub, qp, qf, kop, av, RQ, PQ, kres, kres1, kresL, fin, fins, fin1, V.pur?, V.pur1?, V.cells, kld, ones, V.one, Value.oneCell', own, owns, own1, xfill, ksrc, kint, vint, ksub, keqs, kok, V.val1?, ofRes]) | (with_reducible refine wgd_cases ?_ ?_ <;> intro hb) | (with_reducible refine wcond_cases ?_ ?_ <;> intro hb) | (with_reducible refine qd_i (by kernel_rfl) ?_) | (with_reducible refine W_itn_cases ?_ ?_; omega))
    have e0 : dEntry bs a = .error e := by simp only [dEntry, bindD, hx1, hx2, hx3, hx4, hx5, hx6, hx7, hx8, hx9]
    rw [e0]
    exact ⟨_, _, rfl, by omega, (kk.upd (Nat.le_refl _) _).trans hk (by omega)⟩
  obtain ⟨rfl, hc0, hc1⟩ := hv
  replace kk := (kk.upd (Nat.le_refl _) _).trans hk (by omega)
  replace hO := (hk nx (by omega) (by omega)).trans (by rw [upd_at, if_pos rfl])
  replace hD := hd
  repeat' (first | (simp -implicitDefEqProofs only [ze, Nat.reduceEqDiff, Nat.reduceAdd, Nat.reduceMul, reduceIte, Nat.reduceLT, Nat.reduceLeDiff, reduceCtorEq, Int.reduceEq, Int.reduceLT, Int.reduceLE, Int.reduceNeg, Int.reduceToNat, Nat.reduceBEq, Nat.reduceSub, qp, qf, kop, av, RQ, PQ, kres, kres1, kresL, fin, fins, fin1, V.pur?, V.pur1?, V.cells, kld, ones, V.one, Value.oneCell', own, owns, own1, xfill, ksrc, kint, vint, ksub, keqs, kok, V.val1?, ofRes, hO]) | (with_reducible refine wgd_cases ?_ ?_ <;> intro hb) | (with_reducible refine wcond_cases ?_ ?_ <;> intro hb) | (with_reducible refine qd_i (by kernel_rfl) ?_) | (with_reducible refine W_itn_cases ?_ ?_; omega))
  have hC : ∃ c, c = [V.i64 p1.1, V.str p2.1, V.i64 p3.1, V.i64 p4.1, V.i64 p5.1, V.str p6.1, V.str p7.1, V.i64 p8.1] := ⟨_, rfl⟩
  refine loop_w (fun m tm st' nx' => ∃ (i : Nat) (acc : List Line) (ai : Nat) (vt : V), m = p9.1.toNat - i ∧ i ≤ p9.1.toNat ∧ acc.length = i ∧ dLines bs p9.1.toNat [] p9.2 = dLines bs (p9.1.toNat - i) acc ai ∧ tm 35 = .i64 i ∧ tm 34 = .i64 p9.1 ∧ tm 0 = .ptr id 0 ∧ tm 2 = .ptr nx 0 ∧ nx + 8 ≤ nx' ∧ KeepX st st' nx id ∧
      st' nx = some (.cells [.i64 p1.1, .str p2.1, .i64 p3.1, .i64 p4.1, .i64 p5.1, .str p6.1, .str p7.1, .i64 p8.1, vt]) ∧ Dec st' nx' id bs rr ai ∧ GrowN st' nx nx' 61 (acc.map encL) vt) p9.1.toNat ⟨0, [], p9.2, .list 0 [] 1, by omega, by omega, rfl, rfl, ?_, ?_, ?_, ?_, by omega, kk, hO, hD.le (by omega), .inl ⟨rfl, rfl⟩⟩ ?_
  · simp -implicitDefEqProofs only [ze, Nat.reduceEqDiff, Nat.reduceAdd, Nat.reduceMul, reduceIte, Nat.reduceLT, Nat.reduceLeDiff, reduceCtorEq, Int.reduceEq, Int.reduceLT, Int.reduceLE, Int.reduceNeg, Int.reduceToNat, Nat.reduceBEq, Nat.reduceSub, qp, qf, kop, av, RQ, PQ, kres, kres1, kresL, fin, fins, fin1, V.pur?, V.pur1?, V.cells, kld, ones, V.one, Value.oneCell', own, owns, own1, xfill, ksrc, kint, vint, ksub, keqs, kok, V.val1?, ofRes]; rfl
  · simp -implicitDefEqProofs only [ze, Nat.reduceEqDiff, Nat.reduceAdd, Nat.reduceMul, reduceIte, Nat.reduceLT, Nat.reduceLeDiff, reduceCtorEq, Int.reduceEq, Int.reduceLT, Int.reduceLE, Int.reduceNeg, Int.reduceToNat, Nat.reduceBEq, Nat.reduceSub, qp, qf, kop, av, RQ, PQ, kres, kres1, kresL, fin, fins, fin1, V.pur?, V.pur1?, V.cells, kld, ones, V.one, Value.oneCell', own, owns, own1, xfill, ksrc, kint, vint, ksub, keqs, kok, V.val1?, ofRes]
  · simp -implicitDefEqProofs only [ze, Nat.reduceEqDiff, Nat.reduceAdd, Nat.reduceMul, reduceIte, Nat.reduceLT, Nat.reduceLeDiff, reduceCtorEq, Int.reduceEq, Int.reduceLT, Int.reduceLE, Int.reduceNeg, Int.reduceToNat, Nat.reduceBEq, Nat.reduceSub, qp, qf, kop, av, RQ, PQ, kres, kres1, kresL, fin, fins, fin1, V.pur?, V.pur1?, V.cells, kld, ones, V.one, Value.oneCell', own, owns, own1, xfill, ksrc, kint, vint, ksub, keqs, kok, V.val1?, ofRes]
  · simp -implicitDefEqProofs only [ze, Nat.reduceEqDiff, Nat.reduceAdd, Nat.reduceMul, reduceIte, Nat.reduceLT, Nat.reduceLeDiff, reduceCtorEq, Int.reduceEq, Int.reduceLT, Int.reduceLE, Int.reduceNeg, Int.reduceToNat, Nat.reduceBEq, Nat.reduceSub, qp, qf, kop, av, RQ, PQ, kres, kres1, kresL, fin, fins, fin1, V.pur?, V.pur1?, V.cells, kld, ones, V.one, Value.oneCell', own, owns, own1, xfill, ksrc, kint, vint, ksub, keqs, kok, V.val1?, ofRes]
  clear hD kk hO
  rintro m tm st' nx' ⟨i, acc, ai, vt, hm, hi, hacc, hdt, h35, h34, h0, h2, hnx, kk, hO, hD, hg⟩
  simp only [k83_l0]
  by_cases hlt : i < p9.1.toNat
  · have hd : decide ((i : Int) < p9.1) = true := decide_eq_true (by omega)
    obtain ⟨k, hki⟩ : ∃ k, p9.1.toNat - i = k + 1 := ⟨p9.1.toNat - i - 1, by omega⟩
    rw [hki] at hdt
    repeat' (first | (simp -implicitDefEqProofs only [ze, Nat.reduceEqDiff, Nat.reduceAdd, Nat.reduceMul, reduceIte, Nat.reduceLT, Nat.reduceLeDiff, reduceCtorEq, Int.reduceEq, Int.reduceLT, Int.reduceLE, Int.reduceNeg, Int.reduceToNat, Nat.reduceBEq, Nat.reduceSub, qp, qf, kop, av, RQ, PQ, kres, kres1, kresL, fin, fins, fin1, V.pur?, V.pur1?, V.cells, kld, ones, V.one, Value.oneCell', own, owns, own1, xfill, ksrc, kint, vint, ksub, keqs, kok, V.val1?, ofRes, h35, h34, h0, h2, hd, hO]))
    refine W_dec (dline_ok (hD.le (by omega)) hb hl) (fun e s n hxa hn hk => ?_) (fun pa v sa na hxa hna hka hDa hv => ?_)
    · simp -implicitDefEqProofs only [ze, Nat.reduceEqDiff, Nat.reduceAdd, Nat.reduceMul, reduceIte, Nat.reduceLT, Nat.reduceLeDiff, reduceCtorEq, Int.reduceEq, Int.reduceLT, Int.reduceLE, Int.reduceNeg, Int.reduceToNat, Nat.reduceBEq, Nat.reduceSub, qp, qf, kop, av, RQ, PQ, kres, kres1, kresL, fin, fins, fin1, V.pur?, V.pur1?, V.cells, kld, ones, V.one, Value.oneCell', own, owns, own1, xfill, ksrc, kint, vint, ksub, keqs, kok, V.val1?, ofRes]
      refine ⟨?_, by kernel_rfl, ?_⟩
      · simp [recsOk2, ordB, pairOk, bigF, δF, rF, disj, List.range, List.range.loop]
      · have e0 : dEntry bs a = .error e := by simp only [dEntry, bindD, hx1, hx2, hx3, hx4, hx5, hx6, hx7, hx8, hx9, hdt, dLines, hxa]
        rw [e0]
        exact ⟨_, _, rfl, by omega, kk.trans hk (by omega)⟩
    · obtain ⟨vt2, hf, htr, rfl⟩ := hv
      have hOa := (hka nx (by omega) (by omega)).trans hO
      have kka := kk.trans hka (by omega)
      have f2 : ∀ j, (nx = na + j) = False := fun j => eq_false (by omega)
      have f5 : ∀ j, (nx = nx' + j) = False := fun j => eq_false (by omega)
      rcases hf with ⟨hfb, rfl⟩ | ⟨hfb, r2, hr28, rfl⟩
      · have htg : pa.1.tags = [] := by simpa using hfb
        have hel : encL pa.1 = .agg [.str pa.1.acc, .str pa.1.cur, .i64 pa.1.amt, .i64 pa.1.base, .str pa.1.par, .str pa.1.pty, .list 0 [] 1] := by
          unfold encL; rw [htr, htg]; rfl
        rcases hg with ⟨hb0, rfl⟩ | ⟨hb1, r, hr0, hr8, hrn, rfl, hst⟩
        · have hacc0 : acc = [] := by simpa using hb0
          subst hacc0
          have hi0 : i = 0 := hacc.symm
          subst hi0
          repeat' (first | (simp -implicitDefEqProofs only [ze, Nat.reduceEqDiff, Nat.reduceAdd, Nat.reduceMul, reduceIte, Nat.reduceLT, Nat.reduceLeDiff, reduceCtorEq, Int.reduceEq, Int.reduceLT, Int.reduceLE, Int.reduceNeg, Int.reduceToNat, Nat.reduceBEq, Nat.reduceSub, qp, qf, kop, av, RQ, PQ, kres, kres1, kresL, fin, fins, fin1, V.pur?, V.pur1?, V.cells, kld, ones, V.one, Value.oneCell', own, owns, own1, xfill, ksrc, kint, vint, ksub, keqs, kok, V.val1?, ofRes, hOa, f2, f5, h35, h34, h0, h2, wnx_tb, wnx_tbn]) | (with_reducible refine W_itn_cases ?_ ?_; omega))
          refine qd_2 ?_ ?_
          · simp [recsOk2, ordB, pairOk, bigF, δF, rF, disj, List.range, List.range.loop, seqSt, upds_nil]
            exact ⟨.inr (hOa.trans hO.symm), ⟨.inr (by omega), by decide⟩, ⟨.inr (by omega), by decide⟩, by decide, by decide, .inr (by omega), .inr (by omega)⟩
          · repeat' (first | (simp -implicitDefEqProofs only [ze, Nat.reduceEqDiff, Nat.reduceAdd, Nat.reduceMul, reduceIte, Nat.reduceLT, Nat.reduceLeDiff, reduceCtorEq, Int.reduceEq, Int.reduceLT, Int.reduceLE, Int.reduceNeg, Int.reduceToNat, Nat.reduceBEq, Nat.reduceSub, qp, qf, kop, av, RQ, PQ, kres, kres1, kresL, fin, fins, fin1, V.pur?, V.pur1?, V.cells, kld, ones, V.one, Value.oneCell', own, owns, own1, xfill, ksrc, kint, vint, ksub, keqs, kok, V.val1?, ofRes, h35, h34, h0, h2, f2, f5]) | (with_reducible refine wgd_cases ?_ ?_ <;> intro hb) | (with_reducible refine wcond_cases ?_ ?_ <;> intro hb) | (with_reducible refine qd_i (by kernel_rfl) ?_) | (with_reducible refine W_itn_cases ?_ ?_; omega))
            refine ⟨p9.1.toNat - 1, by omega, 1, [pa.1], pa.2, _, rfl, by omega, rfl, ?_, up64 (by omega), by omega, ((kka.upd (by omega) _).upd (by omega) _).upd (Nat.le_refl _) _, rfl, dec_set (dec_set (dec_set hDa (by omega) (Nat.le_refl _) _) (by omega) (Nat.le_refl _) _) hne' (by omega) _, .inr ⟨by simp, nx' + 48, by omega, by omega, by omega, by rw [List.map_cons, hel]; rfl, ?_⟩⟩
            · rw [hdt, show p9.1.toNat - 1 = k by omega]; simp only [dLines, bindD, hxa, List.nil_append]
            · rw [upd_at, if_neg (by omega), upd_at, if_pos rfl]; rfl
        · have hstb := (hka r (by omega) (by omega)).trans hst
          have g1 : (r = 0) = False := eq_false (by omega)
          have g2 : (r = 1) = False := eq_false (by omega)
          have g3 : ∀ j, (r = nx' + j) = False := fun j => eq_false (by omega)
          have g5 : (nx = r) = False := eq_false (by omega)
          repeat' (first | (simp -implicitDefEqProofs only [ze, Nat.reduceEqDiff, Nat.reduceAdd, Nat.reduceMul, reduceIte, Nat.reduceLT, Nat.reduceLeDiff, reduceCtorEq, Int.reduceEq, Int.reduceLT, Int.reduceLE, Int.reduceNeg, Int.reduceToNat, Nat.reduceBEq, Nat.reduceSub, qp, qf, kop, av, RQ, PQ, kres, kres1, kresL, fin, fins, fin1, V.pur?, V.pur1?, V.cells, kld, ones, V.one, Value.oneCell', own, owns, own1, xfill, ksrc, kint, vint, ksub, keqs, kok, V.val1?, ofRes, hOa, hstb, f2, f5, g1, g2, g3, g5, h35, h34, h0, h2, List.length_map, wnx_tb, wnx_tbn]) | (with_reducible refine W_itn_cases ?_ ?_; omega))
          refine qd_2 ?_ ?_
          · simp [recsOk2, ordB, pairOk, bigF, δF, rF, disj, List.range, List.range.loop, seqSt, upds_nil]
            exact ⟨.inr (hOa.trans hO.symm), ⟨.inr (by omega), by decide⟩, ⟨.inr (by omega), by decide, .inr (by omega)⟩, by decide, by decide, .inr (by omega), .inr (by omega)⟩
          · repeat' (first | (simp -implicitDefEqProofs only [ze, Nat.reduceEqDiff, Nat.reduceAdd, Nat.reduceMul, reduceIte, Nat.reduceLT, Nat.reduceLeDiff, reduceCtorEq, Int.reduceEq, Int.reduceLT, Int.reduceLE, Int.reduceNeg, Int.reduceToNat, Nat.reduceBEq, Nat.reduceSub, qp, qf, kop, av, RQ, PQ, kres, kres1, kresL, fin, fins, fin1, V.pur?, V.pur1?, V.cells, kld, ones, V.one, Value.oneCell', own, owns, own1, xfill, ksrc, kint, vint, ksub, keqs, kok, V.val1?, ofRes, h35, h34, h0, h2, f2, f5, g5]) | (with_reducible refine wgd_cases ?_ ?_ <;> intro hb) | (with_reducible refine wcond_cases ?_ ?_ <;> intro hb) | (with_reducible refine qd_i (by kernel_rfl) ?_) | (with_reducible refine W_itn_cases ?_ ?_; omega))
            refine ⟨p9.1.toNat - (i + 1), by omega, i + 1, acc ++ [pa.1], pa.2, _, rfl, by omega, by simp [hacc], ?_, up64 (by omega), by omega, ((kka.upd (by omega) _).upd (by omega) _).upd (Nat.le_refl _) _, rfl, dec_set (dec_set (dec_set hDa (by omega) (Nat.le_refl _) _) (by omega) (Nat.le_refl _) _) hne' (by omega) _, .inr ⟨by simp, r, by omega, by omega, by omega, by rw [List.map_append, List.map_cons, hel]; rfl, ?_⟩⟩
            · rw [hdt, show p9.1.toNat - (i + 1) = k by omega]; simp only [dLines, bindD, hxa]
            · rw [upd_at, if_neg (by omega), upd_at, if_pos rfl]; simp
      · have htg : pa.1.tags ≠ [] := by intro h; exact hfb (by rw [h]; rfl)
        have g7 : (r2 = 1) = False := eq_false (by omega)
        have hel : encL pa.1 = .agg [.str pa.1.acc, .str pa.1.cur, .i64 pa.1.amt, .i64 pa.1.base, .str pa.1.par, .str pa.1.pty, .list 97 (pa.1.tags.map encT) 0] := by
          have : pa.1.tr = false := by rw [htr]; simpa using htg
          unfold encL; rw [this]; rfl
        rcases hg with ⟨hb0, rfl⟩ | ⟨hb1, r, hr0, hr8, hrn, rfl, hst⟩
        · have hacc0 : acc = [] := by simpa using hb0
          subst hacc0
          have hi0 : i = 0 := hacc.symm
          subst hi0
          repeat' (first | (simp -implicitDefEqProofs only [ze, Nat.reduceEqDiff, Nat.reduceAdd, Nat.reduceMul, reduceIte, Nat.reduceLT, Nat.reduceLeDiff, reduceCtorEq, Int.reduceEq, Int.reduceLT, Int.reduceLE, Int.reduceNeg, Int.reduceToNat, Nat.reduceBEq, Nat.reduceSub, qp, qf, kop, av, RQ, PQ, kres, kres1, kresL, fin, fins, fin1, V.pur?, V.pur1?, V.cells, kld, ones, V.one, Value.oneCell', own, owns, own1, xfill, ksrc, kint, vint, ksub, keqs, kok, V.val1?, ofRes, hOa, f2, f5, h35, h34, h0, h2, wnx_tb, wnx_tbn, g7]) | (with_reducible refine W_itn_cases ?_ ?_; omega))
          refine qd_2 ?_ ?_
          · simp [recsOk2, ordB, pairOk, bigF, δF, rF, disj, List.range, List.range.loop, seqSt, upds_nil]
            exact ⟨.inr (hOa.trans hO.symm), ⟨.inr (by omega), by decide⟩, ⟨.inr (by omega), by decide⟩, by decide, by decide, .inr (by omega), .inr (by omega)⟩
          · repeat' (first | (simp -implicitDefEqProofs only [ze, Nat.reduceEqDiff, Nat.reduceAdd, Nat.reduceMul, reduceIte, Nat.reduceLT, Nat.reduceLeDiff, reduceCtorEq, Int.reduceEq, Int.reduceLT, Int.reduceLE, Int.reduceNeg, Int.reduceToNat, Nat.reduceBEq, Nat.reduceSub, qp, qf, kop, av, RQ, PQ, kres, kres1, kresL, fin, fins, fin1, V.pur?, V.pur1?, V.cells, kld, ones, V.one, Value.oneCell', own, owns, own1, xfill, ksrc, kint, vint, ksub, keqs, kok, V.val1?, ofRes, h35, h34, h0, h2, f2, f5]) | (with_reducible refine wgd_cases ?_ ?_ <;> intro hb) | (with_reducible refine wcond_cases ?_ ?_ <;> intro hb) | (with_reducible refine qd_i (by kernel_rfl) ?_) | (with_reducible refine W_itn_cases ?_ ?_; omega))
            refine ⟨p9.1.toNat - 1, by omega, 1, [pa.1], pa.2, _, rfl, by omega, rfl, ?_, up64 (by omega), by omega, ((kka.upd (by omega) _).upd (by omega) _).upd (Nat.le_refl _) _, rfl, dec_set (dec_set (dec_set hDa (by omega) (Nat.le_refl _) _) (by omega) (Nat.le_refl _) _) hne' (by omega) _, .inr ⟨by simp, nx' + 48, by omega, by omega, by omega, by rw [List.map_cons, hel]; rfl, ?_⟩⟩
            · rw [hdt, show p9.1.toNat - 1 = k by omega]; simp only [dLines, bindD, hxa, List.nil_append]
            · rw [upd_at, if_neg (by omega), upd_at, if_pos rfl]; rfl
        · have hstb := (hka r (by omega) (by omega)).trans hst
          have g1 : (r = 0) = False := eq_false (by omega)
          have g2 : (r = 1) = False := eq_false (by omega)
          have g3 : ∀ j, (r = nx' + j) = False := fun j => eq_false (by omega)
          have g5 : (nx = r) = False := eq_false (by omega)
          repeat' (first | (simp -implicitDefEqProofs only [ze, Nat.reduceEqDiff, Nat.reduceAdd, Nat.reduceMul, reduceIte, Nat.reduceLT, Nat.reduceLeDiff, reduceCtorEq, Int.reduceEq, Int.reduceLT, Int.reduceLE, Int.reduceNeg, Int.reduceToNat, Nat.reduceBEq, Nat.reduceSub, qp, qf, kop, av, RQ, PQ, kres, kres1, kresL, fin, fins, fin1, V.pur?, V.pur1?, V.cells, kld, ones, V.one, Value.oneCell', own, owns, own1, xfill, ksrc, kint, vint, ksub, keqs, kok, V.val1?, ofRes, hOa, hstb, f2, f5, g1, g2, g3, g5, h35, h34, h0, h2, List.length_map, wnx_tb, wnx_tbn, g7]) | (with_reducible refine W_itn_cases ?_ ?_; omega))
          refine qd_2 ?_ ?_
          · simp [recsOk2, ordB, pairOk, bigF, δF, rF, disj, List.range, List.range.loop, seqSt, upds_nil]
            exact ⟨.inr (hOa.trans hO.symm), ⟨.inr (by omega), by decide⟩, ⟨.inr (by omega), by decide, .inr (by omega)⟩, by decide, by decide, .inr (by omega), .inr (by omega)⟩
          · repeat' (first | (simp -implicitDefEqProofs only [ze, Nat.reduceEqDiff, Nat.reduceAdd, Nat.reduceMul, reduceIte, Nat.reduceLT, Nat.reduceLeDiff, reduceCtorEq, Int.reduceEq, Int.reduceLT, Int.reduceLE, Int.reduceNeg, Int.reduceToNat, Nat.reduceBEq, Nat.reduceSub, qp, qf, kop, av, RQ, PQ, kres, kres1, kresL, fin, fins, fin1, V.pur?, V.pur1?, V.cells, kld, ones, V.one, Value.oneCell', own, owns, own1, xfill, ksrc, kint, vint, ksub, keqs, kok, V.val1?, ofRes, h35, h34, h0, h2, f2, f5, g5]) | (with_reducible refine wgd_cases ?_ ?_ <;> intro hb) | (with_reducible refine wcond_cases ?_ ?_ <;> intro hb) | (with_reducible refine qd_i (by kernel_rfl) ?_) | (with_reducible refine W_itn_cases ?_ ?_; omega))
            refine ⟨p9.1.toNat - (i + 1), by omega, i + 1, acc ++ [pa.1], pa.2, _, rfl, by omega, by simp [hacc], ?_, up64 (by omega), by omega, ((kka.upd (by omega) _).upd (by omega) _).upd (Nat.le_refl _) _, rfl, dec_set (dec_set (dec_set hDa (by omega) (Nat.le_refl _) _) (by omega) (Nat.le_refl _) _) hne' (by omega) _, .inr ⟨by simp, r, by omega, by omega, by omega, by rw [List.map_append, List.map_cons, hel]; rfl, ?_⟩⟩
            · rw [hdt, show p9.1.toNat - (i + 1) = k by omega]; simp only [dLines, bindD, hxa]
            · rw [upd_at, if_neg (by omega), upd_at, if_pos rfl]; simp
  · have hd : decide ((i : Int) < p9.1) = false := decide_eq_false (by omega)
    have hin : i = p9.1.toNat := by omega
    rw [hin, Nat.sub_self] at hdt
    have e0 : dEntry bs a = .ok (⟨p1.1, p2.1, p3.1, p4.1, p5.1, p6.1, p7.1, p8.1, acc, acc.isEmpty⟩, ai) := by simp only [dEntry, bindD, hx1, hx2, hx3, hx4, hx5, hx6, hx7, hx8, hx9, hdt, dLines]
    rcases hg with ⟨hb0, rfl⟩ | ⟨hb1, r, hr0, hr8, hrn, rfl, hst⟩
    · repeat' (first | (simp -implicitDefEqProofs only [ze, Nat.reduceEqDiff, Nat.reduceAdd, Nat.reduceMul, reduceIte, Nat.reduceLT, Nat.reduceLeDiff, reduceCtorEq, Int.reduceEq, Int.reduceLT, Int.reduceLE, Int.reduceNeg, Int.reduceToNat, Nat.reduceBEq, Nat.reduceSub, qp, qf, kop, av, RQ, PQ, kres, kres1, kresL, fin, fins, fin1, V.pur?, V.pur1?, V.cells, kld, ones, V.one, Value.oneCell', own, owns, own1, xfill, ksrc, kint, vint, ksub, keqs, kok, V.val1?, ofRes, h35, h34, h0, h2, hd, k83_t0, hO]) | (with_reducible refine wgd_cases ?_ ?_ <;> intro hb) | (with_reducible refine wcond_cases ?_ ?_ <;> intro hb) | (with_reducible refine qd_i (by kernel_rfl) ?_) | (with_reducible refine W_itn_cases ?_ ?_; omega))
      rw [e0]
      exact ⟨_, _, _, rfl, by omega, kk.upd (Nat.le_refl _) _, dec_set hD hne' (by omega) _, _, .inl ⟨hb0, rfl⟩, rfl, rfl⟩
    · repeat' (first | (simp -implicitDefEqProofs only [ze, Nat.reduceEqDiff, Nat.reduceAdd, Nat.reduceMul, reduceIte, Nat.reduceLT, Nat.reduceLeDiff, reduceCtorEq, Int.reduceEq, Int.reduceLT, Int.reduceLE, Int.reduceNeg, Int.reduceToNat, Nat.reduceBEq, Nat.reduceSub, qp, qf, kop, av, RQ, PQ, kres, kres1, kresL, fin, fins, fin1, V.pur?, V.pur1?, V.cells, kld, ones, V.one, Value.oneCell', own, owns, own1, xfill, ksrc, kint, vint, ksub, keqs, kok, V.val1?, ofRes, h35, h34, h0, h2, hd, k83_t0, hO]) | (with_reducible refine wgd_cases ?_ ?_ <;> intro hb) | (with_reducible refine wcond_cases ?_ ?_ <;> intro hb) | (with_reducible refine qd_i (by kernel_rfl) ?_) | (with_reducible refine W_itn_cases ?_ ?_; omega))
      rw [e0]
      exact ⟨_, _, _, rfl, by omega, kk.upd (Nat.le_refl _) _, dec_set hD hne' (by omega) _, _, .inr ⟨hb1, r, hr8, rfl⟩, rfl, rfl⟩
end Go.Proofs.YtkbheoganajhaaaDoor.Vm
set_option maxRecDepth 10000
set_option linter.unusedVariables false
set_option linter.unusedSimpArgs false
namespace Go.Proofs.YtkbheoganajhaaaDoor.Vm
open Go Go.Proofs
theorem fin_i64 {y : Int} (h0 : 0 ≤ y) (h1 : y < 18446744073709551616) : i64r (Co.fin y) := by unfold Co.fin i64r; split <;> omega
theorem tS_i64 : ∀ (s : List Int) (i : Nat) (x : Int), bOK s → 0 ≤ x → x < 128 ^ i → i64r (Co.tS s i x).1
  | [], i, x, _, _, _ => by unfold Co.tS; split <;> (unfold i64r; simp)
  | b :: s, i, x, hs, h0, h1 => by
    unfold Co.tS
    split
    · rename_i hi
      split
      · unfold i64r; simp
      · rename_i hbad
        have hbad : Co.badS i b = false := by simpa using hbad
        have hb := hs b (by simp)
        obtain ⟨s1, s2, s3⟩ := Co.step_bound i x b hi h0 h1 hb.1 hb.2 (Co.bad_no hbad).1
        split
        · exact fin_i64 (by omega) s2
        · exact tS_i64 s (i + 1) _ (fun c hc => hs c (by simp [hc])) (by omega) s3
    · unfold i64r; simp
theorem bindD_inv {α β : Type} {x : Except Int (α × Nat)} {f : α → Nat → Except Int (β × Nat)} {r : β × Nat} (h : bindD x f = .ok r) : ∃ p, x = .ok p ∧ f p.1 p.2 = .ok r := by
  cases x with
  | error e => cases h
  | ok p => exact ⟨p, rfl, h⟩
theorem dInt_i64 {bs : List Int} (hb : bOK bs) {a : Nat} {p : Int × Nat} (h : dInt bs a = .ok p) : i64r p.1 := by
  unfold dInt at h
  split at h
  · obtain rfl := Except.ok.inj h
    exact tS_i64 _ 0 0 (hb.drop a) (by omega) (by decide)
  · cases h
theorem dText_plain {bs : List Int} {a : Nat} {p : ByteArray × Nat} (h : dText bs a = .ok p) : plainS p.1 = true := by
  unfold dText at h
  split at h
  · rename_i h0
    obtain rfl := Except.ok.inj h
    unfold tT at h0 ⊢
    simp only at h0 ⊢
    repeat' (split at h0)
    all_goals first
      | (exfalso; simp at h0; done)
      | (exfalso; exact absurd h0 (by assumption))
      | skip
    rename_i h1 h2 h3 h4
    rw [if_neg h1, if_neg h2, if_neg h3, if_neg h4]
    simpa using h4
  · cases h
theorem dText_small {bs : List Int} {a : Nat} {p : ByteArray × Nat} (h : dText bs a = .ok p) : small p.1 := by
  have := plain_size (dText_plain h)
  unfold small; omega
theorem dTags_small {bs : List Int} : ∀ (n : Nat) (acc : List Tag) (a : Nat) {r : List Tag × Nat}, dTags bs n acc a = .ok r → (∀ t ∈ acc, small t.n ∧ small t.v) → (∀ t ∈ r.1, small t.n ∧ small t.v) ∧ r.1.length = acc.length + n
  | 0, acc, a, r, h, ha => by obtain rfl := Except.ok.inj h; exact ⟨ha, rfl⟩
  | n + 1, acc, a, r, h, ha => by
    obtain ⟨p1, h1, h⟩ := bindD_inv h
    obtain ⟨p2, h2, h⟩ := bindD_inv h
    obtain ⟨k1, k2⟩ := dTags_small n _ _ h (fun t ht => by
      rcases List.mem_append.1 ht with ht | ht
      · exact ha t ht
      · simp only [List.mem_singleton] at ht; subst ht; exact ⟨dText_small h1, dText_small h2⟩)
    exact ⟨k1, by rw [k2, List.length_append]; simp; omega⟩
theorem dCount_le {bs : List Int} {most : Int} {a : Nat} {p : Int × Nat} (h : dCount most bs a = .ok p) : 0 ≤ p.1 ∧ p.1 ≤ most := by
  unfold dCount at h
  split at h
  · cases h
  · split at h
    · cases h
    · obtain rfl := Except.ok.inj h; omega
theorem dLine_good {bs : List Int} (hb : bOK bs) {a : Nat} {r : Line × Nat} (h : dLine bs a = .ok r) : smallL r.1 ∧ i64r r.1.amt ∧ i64r r.1.base := by
  obtain ⟨p1, h1, h⟩ := bindD_inv h
  obtain ⟨p2, h2, h⟩ := bindD_inv h
  obtain ⟨p3, h3, h⟩ := bindD_inv h
  obtain ⟨p4, h4, h⟩ := bindD_inv h
  obtain ⟨p5, h5, h⟩ := bindD_inv h
  obtain ⟨p6, h6, h⟩ := bindD_inv h
  obtain ⟨p7, h7, h⟩ := bindD_inv h
  obtain ⟨p8, h8, h⟩ := bindD_inv h
  obtain rfl := Except.ok.inj h
  obtain ⟨k1, k2⟩ := dTags_small _ _ _ h8 (by simp)
  have := dCount_le h7
  exact ⟨⟨dText_small h1, dText_small h2, dText_small h5, dText_small h6, k1, by simp at k2; simp only; omega, fun h => by simpa using h⟩, dInt_i64 hb h3, dInt_i64 hb h4⟩
theorem dLines_good {bs : List Int} (hb : bOK bs) : ∀ (n : Nat) (acc : List Line) (a : Nat) {r : List Line × Nat}, dLines bs n acc a = .ok r → (∀ l ∈ acc, smallL l ∧ i64r l.amt ∧ i64r l.base) → (∀ l ∈ r.1, smallL l ∧ i64r l.amt ∧ i64r l.base) ∧ r.1.length = acc.length + n
  | 0, acc, a, r, h, ha => by obtain rfl := Except.ok.inj h; exact ⟨ha, rfl⟩
  | n + 1, acc, a, r, h, ha => by
    obtain ⟨p1, h1, h⟩ := bindD_inv h
    obtain ⟨k1, k2⟩ := dLines_good hb n _ _ h (fun t ht => by
      rcases List.mem_append.1 ht with ht | ht
      · exact ha t ht
      · simp only [List.mem_singleton] at ht; subst ht; exact dLine_good hb h1)
    exact ⟨k1, by rw [k2, List.length_append]; simp; omega⟩
theorem dEntry_good {bs : List Int} (hb : bOK bs) {a : Nat} {r : Entry × Nat} (h : dEntry bs a = .ok r) : smallE r.1 ∧ rangeE r.1 := by
  obtain ⟨p1, h1, h⟩ := bindD_inv h
  obtain ⟨p2, h2, h⟩ := bindD_inv h
  obtain ⟨p3, h3, h⟩ := bindD_inv h
  obtain ⟨p4, h4, h⟩ := bindD_inv h
  obtain ⟨p5, h5, h⟩ := bindD_inv h
  obtain ⟨p6, h6, h⟩ := bindD_inv h
  obtain ⟨p7, h7, h⟩ := bindD_inv h
  obtain ⟨p8, h8, h⟩ := bindD_inv h
  obtain ⟨p9, h9, h⟩ := bindD_inv h
  obtain ⟨p10, h10, h⟩ := bindD_inv h
  obtain rfl := Except.ok.inj h
  obtain ⟨k1, k2⟩ := dLines_good hb _ _ _ h10 (by simp)
  have := dCount_le h9
  exact ⟨⟨dText_small h2, dText_small h6, dText_small h7, fun l hl => (k1 l hl).1, by simp at k2; simp only; omega, fun h => by simpa using h⟩,
    ⟨dInt_i64 hb h1, dInt_i64 hb h3, dInt_i64 hb h4, dInt_i64 hb h5, dInt_i64 hb h8, fun l hl => (k1 l hl).2⟩⟩
def zeroE : Entry := ⟨0, ByteArray.mk #[], 0, 0, 0, ByteArray.mk #[], ByteArray.mk #[], 0, [], true⟩
def takeS (bs : List Int) : Entry × Int × Int := match dEntry bs 0 with
  | .error e => (zeroE, 0, e)
  | .ok p => if (checkS p.1).2 = 0 then (p.1, p.2, 0) else (zeroE, 0, (checkS p.1).2)
theorem tasrt_y (v : V) : tasrt Tryd.prog 125 (.ifc 125 v) = some (.tup [v, .bool true]) := by kernel_rfl
theorem tasrt_n : tasrt Tryd.prog 125 (.sc .nilIface) = some (.tup [.agg [.i64 0], .bool false]) := by kernel_rfl
section
variable {P : Program} {E : Env} {kd : KD} {kc : KC} {C : HR → Prop} {tm tm0 : Nat → V} {st : St} {nx : Nat} {cs : List V} {rs : List KR} {y : Y} {acc : List Rec}
theorem defQ_n : defQ P E kd kc C .norm ⟨tm, st, nx⟩ = wc P E kd.y2 (defQ2 P E kc (kd.caps.map (av tm)) kd.rs C) ⟨upd tm kd.d (.fn (.func kd.g) [] (kd.caps.map (av tm))), st, nx + 16⟩ := rfl
theorem defQ2_r : defQ2 P E kc cs rs C .ret ⟨tm, st, nx⟩ = closW P E kc cs rs C ⟨tm, st, nx⟩ (.sc .nilIface) := rfl
theorem defQ2_n : defQ2 P E kc cs rs C .norm ⟨tm, st, nx⟩ = closW P E kc cs rs C ⟨tm, st, nx⟩ (.sc .nilIface) := rfl
theorem defQ2_p (t : TypeId) (v : V) : defQ2 P E kc cs rs C (.pan (.ifc t v)) ⟨tm, st, nx⟩ = closW P E kc cs rs C ⟨tm, st, nx⟩ (.ifc t v) := by simp [defQ2, isIfc]
theorem closW_e (rv : V) : closW P E kc cs rs C ⟨tm, st, nx⟩ rv = W (tasrt P kc.to rv) fun tv => wops P E false (closQ P E kc.y tm rs C) (fun _ _ _ _ _ => False) (nx + 16) kc.ops (upd (upd (argT cs) kc.t0 rv) kc.t1 tv) st (nx + 8 * kc.m) [] := rfl
theorem closQ_e : closQ P E y tm0 rs C tm st nx acc = wc P E y (closE tm0 rs C) ⟨tm, st, nx⟩ := rfl
theorem closE_n : closE tm0 rs C .norm ⟨tm, st, nx⟩ = W (kres ⟨tm0, st, nx⟩ rs) fun v => C (.ret v st nx) := rfl
theorem closE_r : closE tm0 rs C .ret ⟨tm, st, nx⟩ = W (kres ⟨tm0, st, nx⟩ rs) fun v => C (.ret v st nx) := rfl
end
theorem take_ok (bs : List Int) (hb : bOK bs) (hl : bs.length < 4611686018427387904) (r : Nat) : L.pl 61 [.list 5 (bv bs) r] = some (.ret (.tup [encE (takeS bs).1, .i64 (takeS bs).2.1, .i64 (takeS bs).2.2])) := by
  refine W_of (plD_w k61_eq k82_eq ?_)
  simp only [k61]
  repeat' (first | (simp -implicitDefEqProofs only [ze, Nat.reduceEqDiff, Nat.reduceAdd, Nat.reduceMul, reduceIte, Nat.reduceLT, Nat.reduceLeDiff, reduceCtorEq, Int.reduceEq, Int.reduceLT, Int.reduceLE, Int.reduceNeg, Int.reduceToNat, Nat.reduceBEq, Nat.reduceSub, qp, qf, kop, av, RQ, PQ, kres, kres1, kresL, fin, fins, fin1, V.pur?, V.pur1?, V.cells, kld, ones, V.one, Value.oneCell', own, owns, own1, xfill, ksrc, kint, vint, ksub, keqs, kok, V.val1?, ofRes, defQ_n, k61, ne_eq, not_true_eq_false, gt_iff_lt]))
  have hz : encE zeroE = .agg [.i64 0, .str (ByteArray.mk #[]), .i64 0, .i64 0, .i64 0, .str (ByteArray.mk #[]), .str (ByteArray.mk #[]), .i64 0, .list 0 [] 1] := rfl
  refine W_dec (dentry_ok (a := 0) ⟨by omega, by omega, by rw [upd_at, if_pos rfl]; rfl⟩ hb hl) (fun e s n hx hn hk => ?_) (fun p v s n hx hn hk hD hv => ?_)
  · have x8 := (hk 8 (by omega) (by omega)).trans (by simp [upd_at]; rfl)
    have x16 := (hk 16 (by omega) (by omega)).trans (by simp [upd_at]; rfl)
    have x24 := (hk 24 (by omega) (by omega)).trans (by simp [upd_at]; rfl)
    have f1 : ∀ j, (8 = n + j) = False := fun j => eq_false (by omega)
    have f2 : ∀ j, (16 = n + j) = False := fun j => eq_false (by omega)
    have f3 : ∀ j, (24 = n + j) = False := fun j => eq_false (by omega)
    have f4 : ∀ j, (n + j = 8) = False := fun j => eq_false (by omega)
    have f5 : ∀ j, (n + j = 16) = False := fun j => eq_false (by omega)
    have f6 : ∀ j, (n + j = 24) = False := fun j => eq_false (by omega)
    repeat' (first | (simp -implicitDefEqProofs only [ze, Nat.reduceEqDiff, Nat.reduceAdd, Nat.reduceMul, reduceIte, Nat.reduceLT, Nat.reduceLeDiff, reduceCtorEq, Int.reduceEq, Int.reduceLT, Int.reduceLE, Int.reduceNeg, Int.reduceToNat, Nat.reduceBEq, Nat.reduceSub, qp, qf, kop, av, RQ, PQ, kres, kres1, kresL, fin, fins, fin1, V.pur?, V.pur1?, V.cells, kld, ones, V.one, Value.oneCell', own, owns, own1, xfill, ksrc, kint, vint, ksub, keqs, kok, V.val1?, ofRes, x8, x16, x24, f1, f2, f3, f4, f5, f6, defQ2_p, defQ2_n, defQ2_r, errV, closW_e, k82, tasrt_y, tasrt_n, closQ_e, closE_n, closE_r, ne_eq, not_true_eq_false, gt_iff_lt]) | (with_reducible refine W_itn_cases ?_ ?_; omega))
    refine qd_i ?_ ?_
    · simp [recsOk, ordB, Rec.free, Rec.wr, disj, List.range, List.range.loop, f1, f2, f3, f4, f5, f6]; try decide
    · repeat' (first | (simp -implicitDefEqProofs only [ze, Nat.reduceEqDiff, Nat.reduceAdd, Nat.reduceMul, reduceIte, Nat.reduceLT, Nat.reduceLeDiff, reduceCtorEq, Int.reduceEq, Int.reduceLT, Int.reduceLE, Int.reduceNeg, Int.reduceToNat, Nat.reduceBEq, Nat.reduceSub, qp, qf, kop, av, RQ, PQ, kres, kres1, kresL, fin, fins, fin1, V.pur?, V.pur1?, V.cells, kld, ones, V.one, Value.oneCell', own, owns, own1, xfill, ksrc, kint, vint, ksub, keqs, kok, V.val1?, ofRes, x8, x16, x24, f1, f2, f3, f4, f5, f6, defQ2_p, defQ2_n, defQ2_r, errV, closW_e, k82, tasrt_y, tasrt_n, closQ_e, closE_n, closE_r, ne_eq, not_true_eq_false, gt_iff_lt]) | (with_reducible refine wgd_cases ?_ ?_ <;> intro hb) | (with_reducible refine wcond_cases ?_ ?_ <;> intro hb) | (with_reducible refine qd_i (by kernel_rfl) ?_) | (with_reducible refine W_itn_cases ?_ ?_; omega))
      simp only [takeS, hx, hz]
  · obtain ⟨vt, hf, hlr, rfl⟩ := hv
    have x8 := (hk 8 (by omega) (by omega)).trans (by simp [upd_at]; rfl)
    have x16 := (hk 16 (by omega) (by omega)).trans (by simp [upd_at]; rfl)
    have x24 := (hk 24 (by omega) (by omega)).trans (by simp [upd_at]; rfl)
    have hgd := dEntry_good hb hx
    have hck := check_ok p.1 hgd.1 hgd.2.amts
    rcases hf with ⟨hf, rfl⟩ | ⟨hf, r2, hr2, rfl⟩
    · have h1 : p.1.lines = [] := by simpa using hf
      have v4 : encE p.1 = .agg [.i64 p.1.no, .str p.1.ent, .i64 p.1.book, .i64 p.1.val, .i64 p.1.kind, .str p.1.ref, .str p.1.who, .i64 p.1.rev, .list 0 [] 1] := by unfold encE; rw [hlr, h1]; rfl
      rw [v4] at hck
      by_cases hc : (checkS p.1).2 = 0
      · rw [hc] at hck
        repeat' (first | (simp -implicitDefEqProofs only [ze, Nat.reduceEqDiff, Nat.reduceAdd, Nat.reduceMul, reduceIte, Nat.reduceLT, Nat.reduceLeDiff, reduceCtorEq, Int.reduceEq, Int.reduceLT, Int.reduceLE, Int.reduceNeg, Int.reduceToNat, Nat.reduceBEq, Nat.reduceSub, qp, qf, kop, av, RQ, PQ, kres, kres1, kresL, fin, fins, fin1, V.pur?, V.pur1?, V.cells, kld, ones, V.one, Value.oneCell', own, owns, own1, xfill, ksrc, kint, vint, ksub, keqs, kok, V.val1?, ofRes, x8, x16, x24, hck]) | (with_reducible refine W_itn_cases ?_ ?_; omega))
        refine W_hp (dend_ok (a := p.2) (dec_set (dec_set (hD.le (by omega)) (by omega) (Nat.le_refl _) _) (by omega) (Nat.le_refl _) _) hl 0 (by have := hD.2.1; omega)) ?_
        rintro _ ⟨s1, n1, rfl, hn1, hd1, hk1⟩
        have y8 := (hk1 8 (by omega) (by omega)).trans (by rw [upd_at, if_neg (by omega), upd_at, if_pos rfl])
        have y16 := (hk1 16 (by omega) (by omega)).trans (Eq.trans (by rw [upd_at, if_neg (by omega), upd_at, if_neg (by omega)]) x16)
        have y24 := (hk1 24 (by omega) (by omega)).trans (by rw [upd_at, if_pos rfl])
        have yd := hd1.2.2
        rw [Nat.add_zero] at yd
        have f1 : ∀ j, (8 = n1 + j) = False := fun j => eq_false (by omega)
        have f2 : ∀ j, (16 = n1 + j) = False := fun j => eq_false (by omega)
        have f3 : ∀ j, (24 = n1 + j) = False := fun j => eq_false (by omega)
        have f4 : ∀ j, (64 = n1 + j) = False := fun j => eq_false (by omega)
        repeat' (first | (simp -implicitDefEqProofs only [ze, Nat.reduceEqDiff, Nat.reduceAdd, Nat.reduceMul, reduceIte, Nat.reduceLT, Nat.reduceLeDiff, reduceCtorEq, Int.reduceEq, Int.reduceLT, Int.reduceLE, Int.reduceNeg, Int.reduceToNat, Nat.reduceBEq, Nat.reduceSub, qp, qf, kop, av, RQ, PQ, kres, kres1, kresL, fin, fins, fin1, V.pur?, V.pur1?, V.cells, kld, ones, V.one, Value.oneCell', own, owns, own1, xfill, ksrc, kint, vint, ksub, keqs, kok, V.val1?, ofRes, y8, y16, y24, yd, f1, f2, f3, f4, defQ2_p, defQ2_n, defQ2_r, errV, closW_e, k82, tasrt_y, tasrt_n, closQ_e, closE_n, closE_r, ne_eq, not_true_eq_false, gt_iff_lt]) | (with_reducible refine wgd_cases ?_ ?_ <;> intro hb) | (with_reducible refine wcond_cases ?_ ?_ <;> intro hb) | (with_reducible refine qd_i (by kernel_rfl) ?_) | (with_reducible refine W_itn_cases ?_ ?_; omega))
        simp only [takeS, hx, hc, if_true, v4]
      · have hcd : decide ((checkS p.1).2 = 0) = false := decide_eq_false hc
        repeat' (first | (simp -implicitDefEqProofs only [ze, Nat.reduceEqDiff, Nat.reduceAdd, Nat.reduceMul, reduceIte, Nat.reduceLT, Nat.reduceLeDiff, reduceCtorEq, Int.reduceEq, Int.reduceLT, Int.reduceLE, Int.reduceNeg, Int.reduceToNat, Nat.reduceBEq, Nat.reduceSub, qp, qf, kop, av, RQ, PQ, kres, kres1, kresL, fin, fins, fin1, V.pur?, V.pur1?, V.cells, kld, ones, V.one, Value.oneCell', own, owns, own1, xfill, ksrc, kint, vint, ksub, keqs, kok, V.val1?, ofRes, x8, x16, x24, hck]) | (with_reducible refine W_itn_cases ?_ ?_; omega))
        refine W_hp (dend_bad 0 _ hc) ?_
        rintro _ ⟨s1, n1, rfl, hn1, hk1⟩
        have y8 := (hk1 8 (by omega) (by omega)).trans (by rw [upd_at, if_neg (by omega), upd_at, if_pos rfl])
        have y16 := (hk1 16 (by omega) (by omega)).trans (Eq.trans (by rw [upd_at, if_neg (by omega), upd_at, if_neg (by omega)]) x16)
        have y24 := (hk1 24 (by omega) (by omega)).trans (by rw [upd_at, if_pos rfl])
        have f1 : ∀ j, (8 = n1 + j) = False := fun j => eq_false (by omega)
        have f2 : ∀ j, (16 = n1 + j) = False := fun j => eq_false (by omega)
        have f3 : ∀ j, (24 = n1 + j) = False := fun j => eq_false (by omega)
        have f4 : ∀ j, (n1 + j = 8) = False := fun j => eq_false (by omega)
        have f5 : ∀ j, (n1 + j = 16) = False := fun j => eq_false (by omega)
        have f6 : ∀ j, (n1 + j = 24) = False := fun j => eq_false (by omega)
        repeat' (first | (simp -implicitDefEqProofs only [ze, Nat.reduceEqDiff, Nat.reduceAdd, Nat.reduceMul, reduceIte, Nat.reduceLT, Nat.reduceLeDiff, reduceCtorEq, Int.reduceEq, Int.reduceLT, Int.reduceLE, Int.reduceNeg, Int.reduceToNat, Nat.reduceBEq, Nat.reduceSub, qp, qf, kop, av, RQ, PQ, kres, kres1, kresL, fin, fins, fin1, V.pur?, V.pur1?, V.cells, kld, ones, V.one, Value.oneCell', own, owns, own1, xfill, ksrc, kint, vint, ksub, keqs, kok, V.val1?, ofRes, y8, y16, y24, f1, f2, f3, f4, f5, f6, defQ2_p, defQ2_n, defQ2_r, errV, closW_e, k82, tasrt_y, tasrt_n, closQ_e, closE_n, closE_r, ne_eq, not_true_eq_false, gt_iff_lt]) | (with_reducible refine W_itn_cases ?_ ?_; omega))
        refine qd_i ?_ ?_
        · simp [recsOk, ordB, Rec.free, Rec.wr, disj, List.range, List.range.loop, f1, f2, f3, f4, f5, f6]; try decide
        · repeat' (first | (simp -implicitDefEqProofs only [ze, Nat.reduceEqDiff, Nat.reduceAdd, Nat.reduceMul, reduceIte, Nat.reduceLT, Nat.reduceLeDiff, reduceCtorEq, Int.reduceEq, Int.reduceLT, Int.reduceLE, Int.reduceNeg, Int.reduceToNat, Nat.reduceBEq, Nat.reduceSub, qp, qf, kop, av, RQ, PQ, kres, kres1, kresL, fin, fins, fin1, V.pur?, V.pur1?, V.cells, kld, ones, V.one, Value.oneCell', own, owns, own1, xfill, ksrc, kint, vint, ksub, keqs, kok, V.val1?, ofRes, y8, y16, y24, f1, f2, f3, f4, f5, f6, defQ2_p, defQ2_n, defQ2_r, errV, closW_e, k82, tasrt_y, tasrt_n, closQ_e, closE_n, closE_r, ne_eq, not_true_eq_false, gt_iff_lt]) | (with_reducible refine wgd_cases ?_ ?_ <;> intro hb) | (with_reducible refine wcond_cases ?_ ?_ <;> intro hb) | (with_reducible refine qd_i (by kernel_rfl) ?_) | (with_reducible refine W_itn_cases ?_ ?_; omega))
          simp only [takeS, hx, hc, if_false, hz]
    · have h1 : p.1.lines ≠ [] := by intro h; exact hf (by rw [h]; rfl)
      have h2 : p.1.lr = false := by rw [hlr]; simpa using h1
      have v4 : encE p.1 = .agg [.i64 p.1.no, .str p.1.ent, .i64 p.1.book, .i64 p.1.val, .i64 p.1.kind, .str p.1.ref, .str p.1.who, .i64 p.1.rev, .list 61 (p.1.lines.map encL) 0] := by unfold encE; rw [h2]; rfl
      have g7 : (r2 = 1) = False := eq_false (by omega)
      rw [v4] at hck
      by_cases hc : (checkS p.1).2 = 0
      · rw [hc] at hck
        repeat' (first | (simp -implicitDefEqProofs only [ze, Nat.reduceEqDiff, Nat.reduceAdd, Nat.reduceMul, reduceIte, Nat.reduceLT, Nat.reduceLeDiff, reduceCtorEq, Int.reduceEq, Int.reduceLT, Int.reduceLE, Int.reduceNeg, Int.reduceToNat, Nat.reduceBEq, Nat.reduceSub, qp, qf, kop, av, RQ, PQ, kres, kres1, kresL, fin, fins, fin1, V.pur?, V.pur1?, V.cells, kld, ones, V.one, Value.oneCell', own, owns, own1, xfill, ksrc, kint, vint, ksub, keqs, kok, V.val1?, ofRes, x8, x16, x24, hck, g7]) | (with_reducible refine W_itn_cases ?_ ?_; omega))
        refine W_hp (dend_ok (a := p.2) (dec_set (dec_set (hD.le (by omega)) (by omega) (Nat.le_refl _) _) (by omega) (Nat.le_refl _) _) hl 0 (by have := hD.2.1; omega)) ?_
        rintro _ ⟨s1, n1, rfl, hn1, hd1, hk1⟩
        have y8 := (hk1 8 (by omega) (by omega)).trans (by rw [upd_at, if_neg (by omega), upd_at, if_pos rfl])
        have y16 := (hk1 16 (by omega) (by omega)).trans (Eq.trans (by rw [upd_at, if_neg (by omega), upd_at, if_neg (by omega)]) x16)
        have y24 := (hk1 24 (by omega) (by omega)).trans (by rw [upd_at, if_pos rfl])
        have yd := hd1.2.2
        rw [Nat.add_zero] at yd
        have f1 : ∀ j, (8 = n1 + j) = False := fun j => eq_false (by omega)
        have f2 : ∀ j, (16 = n1 + j) = False := fun j => eq_false (by omega)
        have f3 : ∀ j, (24 = n1 + j) = False := fun j => eq_false (by omega)
        have f4 : ∀ j, (64 = n1 + j) = False := fun j => eq_false (by omega)
        repeat' (first | (simp -implicitDefEqProofs only [ze, Nat.reduceEqDiff, Nat.reduceAdd, Nat.reduceMul, reduceIte, Nat.reduceLT, Nat.reduceLeDiff, reduceCtorEq, Int.reduceEq, Int.reduceLT, Int.reduceLE, Int.reduceNeg, Int.reduceToNat, Nat.reduceBEq, Nat.reduceSub, qp, qf, kop, av, RQ, PQ, kres, kres1, kresL, fin, fins, fin1, V.pur?, V.pur1?, V.cells, kld, ones, V.one, Value.oneCell', own, owns, own1, xfill, ksrc, kint, vint, ksub, keqs, kok, V.val1?, ofRes, y8, y16, y24, yd, f1, f2, f3, f4, defQ2_p, defQ2_n, defQ2_r, errV, closW_e, k82, tasrt_y, tasrt_n, closQ_e, closE_n, closE_r, ne_eq, not_true_eq_false, gt_iff_lt, g7]) | (with_reducible refine wgd_cases ?_ ?_ <;> intro hb) | (with_reducible refine wcond_cases ?_ ?_ <;> intro hb) | (with_reducible refine qd_i (by kernel_rfl) ?_) | (with_reducible refine W_itn_cases ?_ ?_; omega))
        simp only [takeS, hx, hc, if_true, v4]
      · have hcd : decide ((checkS p.1).2 = 0) = false := decide_eq_false hc
        repeat' (first | (simp -implicitDefEqProofs only [ze, Nat.reduceEqDiff, Nat.reduceAdd, Nat.reduceMul, reduceIte, Nat.reduceLT, Nat.reduceLeDiff, reduceCtorEq, Int.reduceEq, Int.reduceLT, Int.reduceLE, Int.reduceNeg, Int.reduceToNat, Nat.reduceBEq, Nat.reduceSub, qp, qf, kop, av, RQ, PQ, kres, kres1, kresL, fin, fins, fin1, V.pur?, V.pur1?, V.cells, kld, ones, V.one, Value.oneCell', own, owns, own1, xfill, ksrc, kint, vint, ksub, keqs, kok, V.val1?, ofRes, x8, x16, x24, hck, g7]) | (with_reducible refine W_itn_cases ?_ ?_; omega))
        refine W_hp (dend_bad 0 _ hc) ?_
        rintro _ ⟨s1, n1, rfl, hn1, hk1⟩
        have y8 := (hk1 8 (by omega) (by omega)).trans (by rw [upd_at, if_neg (by omega), upd_at, if_pos rfl])
        have y16 := (hk1 16 (by omega) (by omega)).trans (Eq.trans (by rw [upd_at, if_neg (by omega), upd_at, if_neg (by omega)]) x16)
        have y24 := (hk1 24 (by omega) (by omega)).trans (by rw [upd_at, if_pos rfl])
        have f1 : ∀ j, (8 = n1 + j) = False := fun j => eq_false (by omega)
        have f2 : ∀ j, (16 = n1 + j) = False := fun j => eq_false (by omega)
        have f3 : ∀ j, (24 = n1 + j) = False := fun j => eq_false (by omega)
        have f4 : ∀ j, (n1 + j = 8) = False := fun j => eq_false (by omega)
        have f5 : ∀ j, (n1 + j = 16) = False := fun j => eq_false (by omega)
        have f6 : ∀ j, (n1 + j = 24) = False := fun j => eq_false (by omega)
        repeat' (first | (simp -implicitDefEqProofs only [ze, Nat.reduceEqDiff, Nat.reduceAdd, Nat.reduceMul, reduceIte, Nat.reduceLT, Nat.reduceLeDiff, reduceCtorEq, Int.reduceEq, Int.reduceLT, Int.reduceLE, Int.reduceNeg, Int.reduceToNat, Nat.reduceBEq, Nat.reduceSub, qp, qf, kop, av, RQ, PQ, kres, kres1, kresL, fin, fins, fin1, V.pur?, V.pur1?, V.cells, kld, ones, V.one, Value.oneCell', own, owns, own1, xfill, ksrc, kint, vint, ksub, keqs, kok, V.val1?, ofRes, y8, y16, y24, f1, f2, f3, f4, f5, f6, defQ2_p, defQ2_n, defQ2_r, errV, closW_e, k82, tasrt_y, tasrt_n, closQ_e, closE_n, closE_r, ne_eq, not_true_eq_false, gt_iff_lt]) | (with_reducible refine W_itn_cases ?_ ?_; omega))
        refine qd_i ?_ ?_
        · simp [recsOk, ordB, Rec.free, Rec.wr, disj, List.range, List.range.loop, f1, f2, f3, f4, f5, f6]; try decide
        · repeat' (first | (simp -implicitDefEqProofs only [ze, Nat.reduceEqDiff, Nat.reduceAdd, Nat.reduceMul, reduceIte, Nat.reduceLT, Nat.reduceLeDiff, reduceCtorEq, Int.reduceEq, Int.reduceLT, Int.reduceLE, Int.reduceNeg, Int.reduceToNat, Nat.reduceBEq, Nat.reduceSub, qp, qf, kop, av, RQ, PQ, kres, kres1, kresL, fin, fins, fin1, V.pur?, V.pur1?, V.cells, kld, ones, V.one, Value.oneCell', own, owns, own1, xfill, ksrc, kint, vint, ksub, keqs, kok, V.val1?, ofRes, y8, y16, y24, f1, f2, f3, f4, f5, f6, defQ2_p, defQ2_n, defQ2_r, errV, closW_e, k82, tasrt_y, tasrt_n, closQ_e, closE_n, closE_r, ne_eq, not_true_eq_false, gt_iff_lt]) | (with_reducible refine wgd_cases ?_ ?_ <;> intro hb) | (with_reducible refine wcond_cases ?_ ?_ <;> intro hb) | (with_reducible refine qd_i (by kernel_rfl) ?_) | (with_reducible refine W_itn_cases ?_ ?_; omega))
          simp only [takeS, hx, hc, if_false, hz]
end Go.Proofs.YtkbheoganajhaaaDoor.Vm
set_option maxRecDepth 10000
set_option linter.unusedVariables false
set_option linter.unusedSimpArgs false
namespace Go.Proofs.YtkbheoganajhaaaDoor.Vm
open Go Go.Proofs
def stepS (s : Int) (n : Nat) (bs : List Int) : Int × Int :=
  if (frameS bs).2.2 = 0 then
    if sumB (nextI s (frameS bs).1) = (frameS bs).2.1 then
      if (takeS (frameS bs).1).2.2 = 0 ∧ (takeS (frameS bs).1).2.1 = ((frameS bs).1.length : Int) then
        if (takeS (frameS bs).1).1.no = (n : Int) + 1 then (((frameS bs).1.length : Int) + 16, 0) else (0, 17)
      else (0, 5)
    else (0, 23)
  else (0, (frameS bs).2.2)
theorem frameS_b (bs : List Int) (hb : bOK bs) : bOK (frameS bs).1 ∧ bOK (frameS bs).2.1 := by
  have h0 : bOK [] := fun b hb => by cases hb
  unfold frameS
  split
  · exact ⟨h0, h0⟩
  · split
    · split
      · exact ⟨h0, h0⟩
      · exact ⟨bOK_take (bOK_drop hb 8) _, bOK_take (bOK_drop (bOK_drop hb 8) _) _⟩
    · exact ⟨h0, h0⟩
theorem sumB_inR (s : Int) (h : u64r s) : inR (sumB s) := by
  intro b hb
  unfold u64r at h
  simp only [sumB, List.mem_cons, List.not_mem_nil, or_false] at hb
  omega
theorem step1_ok {st : St} {nx id : Nat} {out : List Int} {s : Int} {es : List Entry} (h : LG st nx id out s es) (bs : List Int) (hb : bOK bs) (hs : u64r s) (hl : out.length ≤ 100000000000) (hlb : bs.length < 1000000000) (he : es.length ≤ 100000000) (r : Nat) :
    W (L.hp 35 [.ptr id 0, .list 5 (bv bs) r] st nx) fun q => ∃ st' nx', q = .ret (.tup [.i64 (stepS s es.length bs).1, .i64 (stepS s es.length bs).2]) st' nx' ∧ nx ≤ nx' ∧ KeepO st st' nx id ∧ KQ st st' nx id ∧
      (((stepS s es.length bs).2 = 0 ∧ LG st' nx' id (out ++ frameB (frameS bs).1 (nextI s (frameS bs).1)) (nextI s (frameS bs).1) (es ++ [(takeS (frameS bs).1).1])) ∨ (¬ (stepS s es.length bs).2 = 0 ∧ LG st' nx' id out s es)) := by
  refine hp_w k35_eq ?_
  simp only [k35]
  by_cases h8 : bs.length < 8
  · have hf := frame_short bs h8 (if r = 1 then 1 else 0)
    have hfs : frameS bs = ([], [], 6) := by unfold frameS; rw [if_pos h8]
    have hst : stepS s es.length bs = (0, 6) := by unfold stepS; rw [hfs]; rfl
    have hz : decide ((6 : Int) = 0) = false := rfl
    repeat' (first | (simp -implicitDefEqProofs only [ze, Nat.reduceEqDiff, Nat.reduceAdd, Nat.reduceMul, reduceIte, Nat.reduceLT, Nat.reduceLeDiff, reduceCtorEq, Int.reduceEq, Int.reduceLT, Int.reduceLE, Int.reduceNeg, Int.reduceToNat, Nat.reduceBEq, Nat.reduceSub, qp, qf, kop, av, RQ, PQ, kres, kres1, kresL, fin, fins, fin1, V.pur?, V.pur1?, V.cells, kld, ones, V.one, Value.oneCell', own, owns, own1, xfill, ksrc, kint, vint, ksub, keqs, kok, V.val1?, ofRes, hf, hz]) | (with_reducible refine wgd_cases ?_ ?_ <;> intro hb) | (with_reducible refine wcond_cases ?_ ?_ <;> intro hb) | (with_reducible refine qd_i (by kernel_rfl) ?_) | (with_reducible refine W_itn_cases ?_ ?_; omega))
    exact ⟨_, _, by rw [hst], by omega, keepRefl _ _ _, ⟨fun _ _ _ _ => rfl, fun _ q => .inl q⟩, .inr ⟨by rw [hst]; decide, lgLe h (by omega)⟩⟩
  · obtain ⟨_, hq, t1, t2, r1, r2, rfl, ht, hr1, hr2⟩ := frame_long bs hb h8 hlb (if r = 1 then 1 else 0)
    obtain ⟨p, sm, e, hfs⟩ : ∃ p sm e, frameS bs = (p, sm, e) := ⟨_, _, _, rfl⟩
    simp only [hfs] at hq ht ⊢
    have k1 : (8 ≤ r1) = False := eq_false (by omega)
    have k2 : (8 ≤ r2) = False := eq_false (by omega)
    by_cases he0 : e = 0
    · obtain ⟨rfl, rfl⟩ := ht he0
      subst he0
      obtain ⟨w, ⟨hid, v, hv, hg⟩, hw⟩ := h
      have hp1 : p = [] ∨ p = (bs.drop 8).take (rdB bs).toNat := by
        unfold frameS at hfs
        split at hfs
        · left; injection hfs with a _; exact a.symm
        · split at hfs
          · split at hfs
            · left; injection hfs with a _; exact a.symm
            · right; injection hfs with a _; exact a.symm
          · left; injection hfs with a _; exact a.symm
      have hpb : bOK p := by
        rcases hp1 with h | h
        · rw [h]; intro b hb; cases hb
        · rw [h]; exact bOK_take (bOK_drop hb 8) _
      have hpl : p.length < 1000000000 := by
        rcases hp1 with h | h
        · rw [h]; decide
        · rw [h, List.length_take, List.length_drop]; omega
      have hN := cnext_ok p hpb (by omega) (if r1 = 1 then 1 else 0) s
      have hr' := nextI_r s p hs
      have hB := cbytes_ok (nextI s p) hr'.1 hr'.2
      have hz : decide ((0 : Int) = 0) = true := rfl
      have hne : ∀ j, (id = nx + j) = False := fun j => eq_false (by omega)
      have hne' : ∀ j, (nx + j = id) = False := fun j => eq_false (by omega)
      repeat' (first | (simp -implicitDefEqProofs only [ze, Nat.reduceEqDiff, Nat.reduceAdd, Nat.reduceMul, reduceIte, Nat.reduceLT, Nat.reduceLeDiff, reduceCtorEq, Int.reduceEq, Int.reduceLT, Int.reduceLE, Int.reduceNeg, Int.reduceToNat, Nat.reduceBEq, Nat.reduceSub, qp, qf, kop, av, RQ, PQ, kres, kres1, kresL, fin, fins, fin1, V.pur?, V.pur1?, V.cells, kld, ones, V.one, Value.oneCell', own, owns, own1, xfill, ksrc, kint, vint, ksub, keqs, kok, V.val1?, ofRes, hq, hz, hv, hN, hB, bytesOfV_bv, hne, hne', nxj, bv_len, k1, k2]) | (with_reducible refine W_itn_cases ?_ ?_; omega))
      refine qd_i (by kernel_rfl) ?_
      obtain ⟨x, used, e2, hT⟩ : ∃ x used e2, takeS p = (x, used, e2) := ⟨_, _, _, rfl⟩
      have hT' := take_ok p hpb (by omega) (if r1 = 1 then 1 else 0)
      simp only [hT, encE] at hT'
      have hsmb : bOK sm := by
        have := (frameS_b bs hb).2
        rw [hfs] at this; exact this
      by_cases hsm : sumB (nextI s p) = sm
      · subst hsm
        have hds : decide (({ data := (List.map (fun n => UInt8.ofNat n.toNat) (sumB (nextI s p))).toArray } : ByteArray) = { data := (List.map (fun n => UInt8.ofNat n.toNat) (sumB (nextI s p))).toArray }) = true := decide_eq_true rfl
        by_cases h5 : e2 = 0 ∧ used = (p.length : Int)
        · obtain ⟨rfl, rfl⟩ := h5
          have hdu : decide ((p.length : Int) = (p.length : Int)) = true := decide_eq_true rfl
          have hw8 : IntKind.i64.wrap ((es.length : Int) + 1) = (es.length : Int) + 1 := wrap_i64 (by omega) (by omega)
          have hwl : w = .list 0 [] 1 ∧ es = [] ∨ ∃ r, w = .list 31 (es.map encE) r := by
            rcases hw with ⟨a, b⟩ | ⟨r, _, _, a, _⟩
            · exact .inl ⟨b, by simpa using a⟩
            · exact .inr ⟨r, a⟩
          obtain ⟨we, wr, rfl⟩ : ∃ we wr, w = .list we (es.map encE) wr := by
            rcases hwl with ⟨rfl, rfl⟩ | ⟨r, rfl⟩
            · exact ⟨0, 1, rfl⟩
            · exact ⟨_, r, rfl⟩
          have hn1 : (id = nx) = False := eq_false (by omega)
          have hn2 : (nx = id) = False := eq_false (by omega)
          by_cases h2 : x.no = (es.length : Int) + 1
          · have hd2 : decide (x.no = (es.length : Int) + 1) = true := decide_eq_true h2
            repeat' (first | (simp -implicitDefEqProofs only [ze, Nat.reduceEqDiff, Nat.reduceAdd, Nat.reduceMul, reduceIte, Nat.reduceLT, Nat.reduceLeDiff, reduceCtorEq, Int.reduceEq, Int.reduceLT, Int.reduceLE, Int.reduceNeg, Int.reduceToNat, Nat.reduceBEq, Nat.reduceSub, qp, qf, kop, av, RQ, PQ, kres, kres1, kresL, fin, fins, fin1, V.pur?, V.pur1?, V.cells, kld, ones, V.one, Value.oneCell', own, owns, own1, xfill, ksrc, kint, vint, ksub, keqs, kok, V.val1?, ofRes, hT', hq, hz, hv, hN, hB, hds, hdu, hd2, hw8, bytesOfV_bv, hne, hne', nxj, bv_len, k1, k2, nr_pur, hn1, hn2, List.length_map]) | (with_reducible refine W_itn_cases ?_ ?_; omega))
            refine qd_i ?_ ?_
            · simp [recsOk, ordB, Rec.free, Rec.wr, disj, List.range, List.range.loop, hne, hne', hn1, hn2]; try decide
            repeat' (first | (simp -implicitDefEqProofs only [ze, Nat.reduceEqDiff, Nat.reduceAdd, Nat.reduceMul, reduceIte, Nat.reduceLT, Nat.reduceLeDiff, reduceCtorEq, Int.reduceEq, Int.reduceLT, Int.reduceLE, Int.reduceNeg, Int.reduceToNat, Nat.reduceBEq, Nat.reduceSub, qp, qf, kop, av, RQ, PQ, kres, kres1, kresL, fin, fins, fin1, V.pur?, V.pur1?, V.cells, kld, ones, V.one, Value.oneCell', own, owns, own1, xfill, ksrc, kint, vint, ksub, keqs, kok, V.val1?, ofRes, hT', hq, hz, hv, hN, hB, hds, hdu, hd2, hw8, bytesOfV_bv, hne, hne', nxj, bv_len, k1, k2, nr_pur, hn1, hn2, List.length_map]) | (with_reducible refine W_itn_cases ?_ ?_; omega))
            refine W_hp (write_ok (s := s) (w := .list we (es.map encE) wr) (out := out) ⟨by omega, v, by simp [upd_at, hne, hn1, hv], growU (growU hg (by omega) (Nat.le_refl _) _) (by omega) (by omega) _⟩ p hpb hs hl (by omega) _) ?_
            rintro _ ⟨st1, nx1, rfl, hnx1, ⟨_, v1, hv1, hg1⟩, hKO, hKR, hKQ⟩
            have hbx : st1 (nx + 248) = some (.cells [V.i64 x.no, V.str x.ent, V.i64 x.book, V.i64 x.val, V.i64 x.kind, V.str x.ref, V.str x.who, V.i64 x.rev, V.list (te x.lr 61) (List.map encL x.lines) (nr x.lr)]) := (hKO (nx + 248) (by omega) (by omega) (by intro n e h; simp [upd_at] at h)).trans (by simp [upd_at])
            have hK : KeepO st st1 nx id := keepTrans (nx' := nx) (keepTrans (nx' := nx) (keepU (by omega) _) (keepU (by omega) _) (Nat.le_refl _)) (fun i i1 i2 i3 => hKO i (by omega) i2 i3) (Nat.le_refl _)
            have hQ : KQ st st1 nx id := kqTrans (nx' := nx) (kqTrans (nx' := nx) (kqU hid (by omega) _) (kqU hid (by omega) _) (Nat.le_refl _)) (kqTrans (nx' := nx + 456) ⟨fun _ _ _ _ => rfl, fun _ q => .inl q⟩ hKQ (by omega)) (Nat.le_refl _)
            have q1 : ∀ j, (id = nx1 + j) = False := fun j => eq_false (by omega)
            have q2 : ∀ j, (nx1 + j = id) = False := fun j => eq_false (by omega)
            have q3 : ∀ j, (nx + 248 = nx1 + j) = False := fun j => eq_false (by omega)
            have q4 : ∀ j, (nx1 + j = nx + 248) = False := fun j => eq_false (by omega)
            have q5 : (id = nx + 248) = False := eq_false (by omega)
            have q6 : (nx + 248 = id) = False := eq_false (by omega)
            have hw9 : IntKind.i64.wrap (8 + (p.length : Int)) = 8 + (p.length : Int) := wrap_i64 (by omega) (by omega)
            have hw10 : IntKind.i64.wrap (8 + (p.length : Int) + 8) = (p.length : Int) + 16 := by rw [wrap_i64 (by omega) (by omega)]; omega
            have hst : stepS s es.length bs = ((p.length : Int) + 16, 0) := by unfold stepS; rw [hfs, hT]; exact (if_pos rfl).trans ((if_pos rfl).trans ((if_pos ⟨rfl, rfl⟩).trans (if_pos h2)))
            have hTx : (takeS p).1 = x := by rw [hT]
            rcases hw with ⟨hb0, hwn⟩ | ⟨q, hr8, hrn, hwq, hstq⟩
            · obtain ⟨rfl, e0, rfl⟩ : we = 0 ∧ es.map encE = [] ∧ wr = 1 := by injection hwn with a b c; exact ⟨a, b, c⟩
              rw [e0] at hv1
              repeat' (first | (simp -implicitDefEqProofs only [ze, Nat.reduceEqDiff, Nat.reduceAdd, Nat.reduceMul, reduceIte, Nat.reduceLT, Nat.reduceLeDiff, reduceCtorEq, Int.reduceEq, Int.reduceLT, Int.reduceLE, Int.reduceNeg, Int.reduceToNat, Nat.reduceBEq, Nat.reduceSub, qp, qf, kop, av, RQ, PQ, kres, kres1, kresL, fin, fins, fin1, V.pur?, V.pur1?, V.cells, kld, ones, V.one, Value.oneCell', own, owns, own1, xfill, ksrc, kint, vint, ksub, keqs, kok, V.val1?, ofRes, hv1, hbx, hne, hne', hn1, hn2, nxj, nr_pur, List.length_map, q1, q2, q3, q4, q5, q6, bv_len, hw9, hw10]) | (with_reducible refine W_itn_cases ?_ ?_; omega))
              refine qd_i ?_ ?_
              · simp [recsOk, ordB, Rec.free, Rec.wr, disj, List.range, List.range.loop, hn1, hn2, q1, q2, q3, q4, q5, q6]; try decide
              repeat' (first | (simp -implicitDefEqProofs only [ze, Nat.reduceEqDiff, Nat.reduceAdd, Nat.reduceMul, reduceIte, Nat.reduceLT, Nat.reduceLeDiff, reduceCtorEq, Int.reduceEq, Int.reduceLT, Int.reduceLE, Int.reduceNeg, Int.reduceToNat, Nat.reduceBEq, Nat.reduceSub, qp, qf, kop, av, RQ, PQ, kres, kres1, kresL, fin, fins, fin1, V.pur?, V.pur1?, V.cells, kld, ones, V.one, Value.oneCell', own, owns, own1, xfill, ksrc, kint, vint, ksub, keqs, kok, V.val1?, ofRes, hv1, hbx, hne, hne', hn1, hn2, nxj, nr_pur, List.length_map, q1, q2, q3, q4, q5, q6, bv_len, hw9, hw10]) | (with_reducible refine wgd_cases ?_ ?_ <;> intro hb) | (with_reducible refine wcond_cases ?_ ?_ <;> intro hb) | (with_reducible refine qd_i (by kernel_rfl) ?_) | (with_reducible refine W_itn_cases ?_ ?_; omega))
              refine ⟨_, _, by rw [hst], by omega, fun i i1 i2 i3 => by rw [upd_at, if_neg i2, upd_at, if_neg (by omega), upd_at, if_neg (by omega)]; exact hK i i1 i2 i3, kqTrans (nx' := nx1) hQ ⟨fun k i1 i2 i3 => by rw [upd_at, if_neg i2, upd_at, if_neg (by omega), upd_at, if_neg (by omega)], fun k hk => by
                simp only [toksAt, upd_at, if_true, tokOf, List.mem_cons, List.not_mem_nil, or_false] at hk
                simp only [toksAt, hv1, tokOf, List.mem_cons, List.not_mem_nil, or_false]
                omega⟩ (by omega), .inl ⟨by rw [hst], _, ⟨by omega, _, by rw [upd_at, if_pos rfl], growN (growU (growU hg1 (by omega) (Nat.le_refl _) _) (by omega) (by omega) _) (by intro n; rw [upd_at, if_neg (by omega), upd_at, if_neg (by omega), hv1]; intro h; cases h) _⟩, .inr ⟨nx1 + 56, by omega, by omega, by rw [List.map_append, e0, hTx]; rfl, by rw [upd_at, if_neg (by omega), upd_at, if_pos rfl, List.map_append, e0]; rfl⟩⟩⟩
            · obtain ⟨rfl, rfl⟩ : we = 31 ∧ wr = q := by injection hwq with a b c; exact ⟨a, c⟩
              have qq1 : st1 wr = some (.tok (es.map encE).length 31) := hKR wr _ _ (by omega) (by decide) (by rw [upd_at, if_neg (by omega), upd_at, if_neg (by omega)]; exact hstq)
              have hr0 : (wr = 0) = False := eq_false (by omega)
              have hr1 : (wr = 1) = False := eq_false (by omega)
              have hrx : ∀ j, (wr = nx1 + j) = False := fun j => eq_false (by omega)
              have hrx' : ∀ j, (nx1 + j = wr) = False := fun j => eq_false (by omega)
              have hri : (wr = id) = False := eq_false fun e => by subst e; rw [hv] at hstq; cases hstq
              have hir : (id = wr) = False := eq_false fun e => by subst e; rw [hv] at hstq; cases hstq
              have hrn1 : (wr = nx + 248) = False := eq_false (by omega)
              have hrn2 : (nx + 248 = wr) = False := eq_false (by omega)
              repeat' (first | (simp -implicitDefEqProofs only [ze, Nat.reduceEqDiff, Nat.reduceAdd, Nat.reduceMul, reduceIte, Nat.reduceLT, Nat.reduceLeDiff, reduceCtorEq, Int.reduceEq, Int.reduceLT, Int.reduceLE, Int.reduceNeg, Int.reduceToNat, Nat.reduceBEq, Nat.reduceSub, qp, qf, kop, av, RQ, PQ, kres, kres1, kresL, fin, fins, fin1, V.pur?, V.pur1?, V.cells, kld, ones, V.one, Value.oneCell', own, owns, own1, xfill, ksrc, kint, vint, ksub, keqs, kok, V.val1?, ofRes, hv1, hbx, hne, hne', hn1, hn2, nxj, nr_pur, List.length_map, q1, q2, q3, q4, q5, q6, hr0, hr1, hrx, hrx', hri, hir, hrn1, hrn2, qq1, bv_len, hw9, hw10]) | (with_reducible refine W_itn_cases ?_ ?_; omega))
              refine qd_i ?_ ?_
              · simp [recsOk, ordB, Rec.free, Rec.wr, disj, List.range, List.range.loop, hn1, hn2, q1, q2, q3, q4, q5, q6, hrx, hrx', hri, hir, hrn1, hrn2]; try decide
              repeat' (first | (simp -implicitDefEqProofs only [ze, Nat.reduceEqDiff, Nat.reduceAdd, Nat.reduceMul, reduceIte, Nat.reduceLT, Nat.reduceLeDiff, reduceCtorEq, Int.reduceEq, Int.reduceLT, Int.reduceLE, Int.reduceNeg, Int.reduceToNat, Nat.reduceBEq, Nat.reduceSub, qp, qf, kop, av, RQ, PQ, kres, kres1, kresL, fin, fins, fin1, V.pur?, V.pur1?, V.cells, kld, ones, V.one, Value.oneCell', own, owns, own1, xfill, ksrc, kint, vint, ksub, keqs, kok, V.val1?, ofRes, hv1, hbx, hne, hne', hn1, hn2, nxj, nr_pur, List.length_map, q1, q2, q3, q4, q5, q6, hr0, hr1, hrx, hrx', hri, hir, hrn1, hrn2, qq1, bv_len, hw9, hw10]) | (with_reducible refine wgd_cases ?_ ?_ <;> intro hb) | (with_reducible refine wcond_cases ?_ ?_ <;> intro hb) | (with_reducible refine qd_i (by kernel_rfl) ?_) | (with_reducible refine W_itn_cases ?_ ?_; omega))
              have hwr1 : ¬ wr = nx1 + 56 := by omega
              have hwi : ¬ id = wr := fun e => by rw [hir] at e; exact e
              refine ⟨_, _, by rw [hst], by omega, fun i i1 i2 i3 => ?_, kqTrans (nx' := nx1) hQ ⟨fun k i1 i2 i3 => by
                  simp only [toksAt, hv1, tokOf, List.mem_cons, List.not_mem_nil, or_false, not_or] at i3
                  rw [upd_at, if_neg i2, upd_at, if_neg i3.2, upd_at, if_neg (by omega)], fun k hk => by
                simp only [toksAt, upd_at, if_true, tokOf, List.mem_cons, List.not_mem_nil, or_false] at hk
                simp only [toksAt, hv1, tokOf, List.mem_cons, List.not_mem_nil, or_false]
                omega⟩ (by omega), .inl ⟨by rw [hst], _, ⟨by omega, _, by rw [upd_at, if_pos rfl], growN (growN (growU hg1 (by omega) (by omega) _) (by intro n; rw [upd_at, if_neg (by omega), qq1]; intro h; cases h) _) (by intro n; rw [upd_at, if_neg hwi, upd_at, if_neg (by omega), hv1]; intro h; cases h) _⟩, .inr ⟨wr, hr8, by omega, by rw [List.map_append, hTx]; rfl, by rw [upd_at, if_neg (fun e => hwi e.symm), upd_at, if_pos rfl, List.map_append, List.length_append, List.length_map]; rfl⟩⟩⟩
              have hiw : ¬ i = wr := fun e => by subst e; exact i3 _ _ hstq
              have e := hK i i1 i2 i3
              rw [upd_at, if_neg i2, upd_at, if_neg hiw, upd_at, if_neg (by omega)]
              exact e
          · have hd2 : decide (x.no = (es.length : Int) + 1) = false := decide_eq_false h2
            repeat' (first | (simp -implicitDefEqProofs only [ze, Nat.reduceEqDiff, Nat.reduceAdd, Nat.reduceMul, reduceIte, Nat.reduceLT, Nat.reduceLeDiff, reduceCtorEq, Int.reduceEq, Int.reduceLT, Int.reduceLE, Int.reduceNeg, Int.reduceToNat, Nat.reduceBEq, Nat.reduceSub, qp, qf, kop, av, RQ, PQ, kres, kres1, kresL, fin, fins, fin1, V.pur?, V.pur1?, V.cells, kld, ones, V.one, Value.oneCell', own, owns, own1, xfill, ksrc, kint, vint, ksub, keqs, kok, V.val1?, ofRes, hT', hq, hz, hv, hN, hB, hds, hdu, hd2, hw8, bytesOfV_bv, hne, hne', nxj, bv_len, k1, k2, nr_pur, hn1, hn2, List.length_map]) | (with_reducible refine W_itn_cases ?_ ?_; omega))
            refine qd_i ?_ ?_
            · simp [recsOk, ordB, Rec.free, Rec.wr, disj, List.range, List.range.loop, hne, hne', hn1, hn2]; try decide
            repeat' (first | (simp -implicitDefEqProofs only [ze, Nat.reduceEqDiff, Nat.reduceAdd, Nat.reduceMul, reduceIte, Nat.reduceLT, Nat.reduceLeDiff, reduceCtorEq, Int.reduceEq, Int.reduceLT, Int.reduceLE, Int.reduceNeg, Int.reduceToNat, Nat.reduceBEq, Nat.reduceSub, qp, qf, kop, av, RQ, PQ, kres, kres1, kresL, fin, fins, fin1, V.pur?, V.pur1?, V.cells, kld, ones, V.one, Value.oneCell', own, owns, own1, xfill, ksrc, kint, vint, ksub, keqs, kok, V.val1?, ofRes, hT', hq, hz, hv, hN, hB, hds, hdu, hd2, hw8, bytesOfV_bv, hne, hne', nxj, bv_len, k1, k2, nr_pur, hn1, hn2, List.length_map]) | (with_reducible refine wgd_cases ?_ ?_ <;> intro hb) | (with_reducible refine wcond_cases ?_ ?_ <;> intro hb) | (with_reducible refine qd_i (by kernel_rfl) ?_) | (with_reducible refine W_itn_cases ?_ ?_; omega))
            have hst : stepS s es.length bs = (0, 17) := by unfold stepS; rw [hfs, hT]; exact (if_pos rfl).trans ((if_pos rfl).trans ((if_pos ⟨rfl, rfl⟩).trans (if_neg h2)))
            exact ⟨_, _, by rw [hst], by omega, keepTrans (nx' := nx) (keepU (by omega) _) (keepU (by omega) _) (Nat.le_refl _), kqTrans (nx' := nx) (kqU hid (by omega) _) (kqU hid (by omega) _) (Nat.le_refl _), .inr ⟨by rw [hst]; decide, lgU (lgU ⟨_, ⟨hid, v, hv, hg⟩, hw⟩ (by omega) (Nat.le_refl _) _) (by omega) (by omega) _⟩⟩
        · have hst : stepS s es.length bs = (0, 5) := by unfold stepS; rw [hfs, hT]; exact (if_pos rfl).trans ((if_pos rfl).trans (if_neg h5))
          by_cases h6 : e2 = 0
          · have hd6 : decide (e2 = 0) = true := decide_eq_true h6
            have hd7 : decide (used = (p.length : Int)) = false := decide_eq_false fun h => h5 ⟨h6, h⟩
            repeat' (first | (simp -implicitDefEqProofs only [ze, Nat.reduceEqDiff, Nat.reduceAdd, Nat.reduceMul, reduceIte, Nat.reduceLT, Nat.reduceLeDiff, reduceCtorEq, Int.reduceEq, Int.reduceLT, Int.reduceLE, Int.reduceNeg, Int.reduceToNat, Nat.reduceBEq, Nat.reduceSub, qp, qf, kop, av, RQ, PQ, kres, kres1, kresL, fin, fins, fin1, V.pur?, V.pur1?, V.cells, kld, ones, V.one, Value.oneCell', own, owns, own1, xfill, ksrc, kint, vint, ksub, keqs, kok, V.val1?, ofRes, hd6, hd7, hT', hq, hz, hv, hN, hB, hds, bytesOfV_bv, hne, hne', nxj, bv_len, k1, k2, nr_pur]) | (with_reducible refine wgd_cases ?_ ?_ <;> intro hb) | (with_reducible refine wcond_cases ?_ ?_ <;> intro hb) | (with_reducible refine qd_i (by kernel_rfl) ?_) | (with_reducible refine W_itn_cases ?_ ?_; omega))
            exact ⟨_, _, by rw [hst], by omega, keepTrans (nx' := nx) (keepU (by omega) _) (keepU (by omega) _) (Nat.le_refl _), kqTrans (nx' := nx) (kqU hid (by omega) _) (kqU hid (by omega) _) (Nat.le_refl _), .inr ⟨by rw [hst]; decide, lgU (lgU ⟨_, ⟨hid, v, hv, hg⟩, hw⟩ (by omega) (Nat.le_refl _) _) (by omega) (by omega) _⟩⟩
          · have hd6 : decide (e2 = 0) = false := decide_eq_false h6
            repeat' (first | (simp -implicitDefEqProofs only [ze, Nat.reduceEqDiff, Nat.reduceAdd, Nat.reduceMul, reduceIte, Nat.reduceLT, Nat.reduceLeDiff, reduceCtorEq, Int.reduceEq, Int.reduceLT, Int.reduceLE, Int.reduceNeg, Int.reduceToNat, Nat.reduceBEq, Nat.reduceSub, qp, qf, kop, av, RQ, PQ, kres, kres1, kresL, fin, fins, fin1, V.pur?, V.pur1?, V.cells, kld, ones, V.one, Value.oneCell', own, owns, own1, xfill, ksrc, kint, vint, ksub, keqs, kok, V.val1?, ofRes, hd6, hT', hq, hz, hv, hN, hB, hds, bytesOfV_bv, hne, hne', nxj, bv_len, k1, k2, nr_pur]) | (with_reducible refine wgd_cases ?_ ?_ <;> intro hb) | (with_reducible refine wcond_cases ?_ ?_ <;> intro hb) | (with_reducible refine qd_i (by kernel_rfl) ?_) | (with_reducible refine W_itn_cases ?_ ?_; omega))
            exact ⟨_, _, by rw [hst], by omega, keepTrans (nx' := nx) (keepU (by omega) _) (keepU (by omega) _) (Nat.le_refl _), kqTrans (nx' := nx) (kqU hid (by omega) _) (kqU hid (by omega) _) (Nat.le_refl _), .inr ⟨by rw [hst]; decide, lgU (lgU ⟨_, ⟨hid, v, hv, hg⟩, hw⟩ (by omega) (Nat.le_refl _) _) (by omega) (by omega) _⟩⟩
      · have hds : decide (({ data := (List.map (fun n => UInt8.ofNat n.toNat) (sumB (nextI s p))).toArray } : ByteArray) = { data := (List.map (fun n => UInt8.ofNat n.toNat) sm).toArray }) = false := decide_eq_false fun h => hsm (sB_inj (sumB_inR _ hr') hsmb h)
        have hst : stepS s es.length bs = (0, 23) := by unfold stepS; rw [hfs]; exact (if_pos rfl).trans (if_neg hsm)
        repeat' (first | (simp -implicitDefEqProofs only [ze, Nat.reduceEqDiff, Nat.reduceAdd, Nat.reduceMul, reduceIte, Nat.reduceLT, Nat.reduceLeDiff, reduceCtorEq, Int.reduceEq, Int.reduceLT, Int.reduceLE, Int.reduceNeg, Int.reduceToNat, Nat.reduceBEq, Nat.reduceSub, qp, qf, kop, av, RQ, PQ, kres, kres1, kresL, fin, fins, fin1, V.pur?, V.pur1?, V.cells, kld, ones, V.one, Value.oneCell', own, owns, own1, xfill, ksrc, kint, vint, ksub, keqs, kok, V.val1?, ofRes, hT', hq, hz, hv, hN, hB, hds, bytesOfV_bv, hne, hne', nxj, bv_len, k1, k2, nr_pur]) | (with_reducible refine wgd_cases ?_ ?_ <;> intro hb) | (with_reducible refine wcond_cases ?_ ?_ <;> intro hb) | (with_reducible refine qd_i (by kernel_rfl) ?_) | (with_reducible refine W_itn_cases ?_ ?_; omega))
        exact ⟨_, _, by rw [hst], by omega, keepRefl _ _ _, ⟨fun _ _ _ _ => rfl, fun _ q => .inl q⟩, .inr ⟨by rw [hst]; decide, lgLe ⟨w, ⟨hid, v, hv, hg⟩, hw⟩ (by omega)⟩⟩
    · have hz : decide (e = 0) = false := decide_eq_false he0
      have hst : stepS s es.length bs = (0, e) := by unfold stepS; rw [hfs]; exact if_neg he0
      repeat' (first | (simp -implicitDefEqProofs only [ze, Nat.reduceEqDiff, Nat.reduceAdd, Nat.reduceMul, reduceIte, Nat.reduceLT, Nat.reduceLeDiff, reduceCtorEq, Int.reduceEq, Int.reduceLT, Int.reduceLE, Int.reduceNeg, Int.reduceToNat, Nat.reduceBEq, Nat.reduceSub, qp, qf, kop, av, RQ, PQ, kres, kres1, kresL, fin, fins, fin1, V.pur?, V.pur1?, V.cells, kld, ones, V.one, Value.oneCell', own, owns, own1, xfill, ksrc, kint, vint, ksub, keqs, kok, V.val1?, ofRes, hq, hz, k1, k2]) | (with_reducible refine wgd_cases ?_ ?_ <;> intro hb) | (with_reducible refine wcond_cases ?_ ?_ <;> intro hb) | (with_reducible refine qd_i (by kernel_rfl) ?_) | (with_reducible refine W_itn_cases ?_ ?_; omega))
      exact ⟨_, _, by rw [hst], by omega, keepRefl _ _ _, ⟨fun _ _ _ _ => rfl, fun _ q => .inl q⟩, .inr ⟨by rw [hst]; exact he0, lgLe h (by omega)⟩⟩
end Go.Proofs.YtkbheoganajhaaaDoor.Vm
set_option maxRecDepth 10000
set_option linter.unusedVariables false
set_option linter.unusedSimpArgs false
namespace Go.Proofs.YtkbheoganajhaaaDoor.Vm
open Go Go.Proofs
def openS : Nat → Int → Nat → List Int → List Entry × Int × Nat × Int
  | 0, s, _, _ => ([], s, 0, 0)
  | f + 1, s, n, bs =>
    if bs.length = 0 then ([], s, 0, 0)
    else if (stepS s n bs).2 = 0 then
      ((takeS (frameS bs).1).1 :: (openS f (nextI s (frameS bs).1) (n + 1) (bs.drop ((frameS bs).1.length + 16))).1,
       (openS f (nextI s (frameS bs).1) (n + 1) (bs.drop ((frameS bs).1.length + 16))).2.1,
       (frameS bs).1.length + 16 + (openS f (nextI s (frameS bs).1) (n + 1) (bs.drop ((frameS bs).1.length + 16))).2.2.1,
       (openS f (nextI s (frameS bs).1) (n + 1) (bs.drop ((frameS bs).1.length + 16))).2.2.2)
    else ([], s, 0, (stepS s n bs).2)
theorem four_read (a b c d : Int) (ha : 0 ≤ a ∧ a < 256) (hb : 0 ≤ b ∧ b < 256) (hc : 0 ≤ c ∧ c < 256) (hd : 0 ≤ d ∧ d < 256) : four (readI a b c d) = [a, b, c, d] := by
  unfold four readI
  have e1 : (a * 16777216 + b * 65536 + c * 256 + d) / 16777216 % 256 = a := by omega
  have e2 : (a * 16777216 + b * 65536 + c * 256 + d) / 65536 % 256 = b := by omega
  have e3 : (a * 16777216 + b * 65536 + c * 256 + d) / 256 % 256 = c := by omega
  have e4 : (a * 16777216 + b * 65536 + c * 256 + d) % 256 = d := by omega
  rw [e1, e2, e3, e4]
theorem four_rdB (l : List Int) (hb : bOK l) (h4 : 4 ≤ l.length) : four (rdB l) = l.take 4 := by
  match l, h4 with
  | a :: b :: c :: d :: m, _ => exact four_read a b c d (hb a (by simp)) (hb b (by simp)) (hb c (by simp)) (hb d (by simp))
theorem frame_bytes {bs p sm : List Int} (hb : bOK bs) (h : frameS bs = (p, sm, 0)) : p.length + 16 ≤ bs.length ∧ bs.take (p.length + 16) = four p.length ++ four (inv p.length) ++ p ++ sm := by
  unfold frameS at h
  split at h
  · cases h
  rename_i h8
  split at h
  · rename_i hinv
    split at h
    · cases h
    rename_i hlen
    injection h with h1 h2
    injection h2 with h2 _
    have hr := rdB_r bs hb (by omega)
    have hpl : p.length = (rdB bs).toNat := by rw [← h1, List.length_take, List.length_drop]; omega
    have hpi : (p.length : Int) = rdB bs := by omega
    refine ⟨by omega, ?_⟩
    rw [hpi, ← hinv, four_rdB bs hb (by omega), four_rdB (bs.drop 4) (bOK_drop hb 4) (by rw [List.length_drop]; omega), ← h1, ← h2]
    rw [show (List.take (rdB bs).toNat (List.drop 8 bs)).length = (rdB bs).toNat by rw [h1]; exact hpl]
    have e1 : bs.take 4 ++ (bs.drop 4).take 4 = bs.take 8 := by rw [← List.take_add]
    rw [e1]
    have e2 : bs.take 8 ++ (bs.drop 8).take (rdB bs).toNat = bs.take (8 + (rdB bs).toNat) := by rw [← List.take_add]
    rw [e2, List.drop_drop]
    rw [← List.take_add]
    congr 1
    omega
  · cases h
theorem step_ok {s : Int} {n : Nat} {bs : List Int} (h : (stepS s n bs).2 = 0) : (frameS bs).2.2 = 0 ∧ sumB (nextI s (frameS bs).1) = (frameS bs).2.1 ∧ (takeS (frameS bs).1).2.2 = 0 ∧ (takeS (frameS bs).1).2.1 = ((frameS bs).1.length : Int) ∧ (takeS (frameS bs).1).1.no = (n : Int) + 1 ∧ (stepS s n bs).1 = ((frameS bs).1.length : Int) + 16 := by
  unfold stepS at h ⊢
  split at h
  · rename_i h1
    split at h
    · rename_i h2
      split at h
      · rename_i h3
        split at h
        · rename_i h4
          exact ⟨h1, h2, h3.1, h3.2, h4, by rw [if_pos h1, if_pos h2, if_pos h3, if_pos h4]⟩
        · cases h
      · cases h
    · cases h
  · rename_i h1; exact absurd h h1
theorem step_bytes {s : Int} {n : Nat} {bs : List Int} (hb : bOK bs) (h : (stepS s n bs).2 = 0) : (frameS bs).1.length + 16 ≤ bs.length ∧ bs.take ((frameS bs).1.length + 16) = frameB (frameS bs).1 (nextI s (frameS bs).1) := by
  obtain ⟨h1, h2, _⟩ := step_ok h
  have e : frameS bs = ((frameS bs).1, (frameS bs).2.1, 0) := by rw [← h1]
  obtain ⟨g1, g2⟩ := frame_bytes hb e
  exact ⟨g1, by rw [g2, ← h2]; rfl⟩
theorem new_ok2 (st : St) (nx : Nat) : W (L.hp 10 [] st nx) fun r => ∃ st' nx' id, r = .ret (.ptr id 0) st' nx' ∧ nx ≤ nx' ∧ nx ≤ id ∧ LG st' nx' id [] start [] ∧ (∀ i, i < nx → st' i = st i) ∧ ∀ k, k ∈ toksAt st' id → k = 1 := by
  refine hp_w k10_eq ?_
  simp only [k10]
  repeat' (first | (simp -implicitDefEqProofs only [ze, Nat.reduceEqDiff, Nat.reduceAdd, Nat.reduceMul, reduceIte, Nat.reduceLT, Nat.reduceLeDiff, reduceCtorEq, Int.reduceEq, Int.reduceLT, Int.reduceLE, Int.reduceNeg, Int.reduceToNat, Nat.reduceBEq, Nat.reduceSub, qp, qf, kop, av, RQ, PQ, kres, kres1, kresL, fin, fins, fin1, V.pur?, V.pur1?, V.cells, kld, ones, V.one, Value.oneCell', own, owns, own1, xfill, ksrc, kint, vint, ksub, keqs, kok, V.val1?, ofRes, ne_eq, not_true_eq_false, gt_iff_lt]) | (with_reducible refine wgd_cases ?_ ?_ <;> intro hb) | (with_reducible refine wcond_cases ?_ ?_ <;> intro hb) | (with_reducible refine qd_i (by kernel_rfl) ?_) | (with_reducible refine W_itn_cases ?_ ?_; omega))
  refine ⟨_, _, _, rfl, by omega, ?_, ⟨.list 0 [] 1, ⟨?_, .list 0 [] 1, by rw [upd_at, if_pos rfl]; rfl, .inl ⟨rfl, rfl⟩⟩, .inl ⟨rfl, rfl⟩⟩, fun i hi => by rw [upd_at, if_neg (by omega)], fun k hk => ?_⟩
  · omega
  · omega
  · simp only [toksAt, upd_at, if_true, tokOf, List.mem_cons, List.not_mem_nil, or_false] at hk
    omega
theorem open_ok (bs : List Int) (hb : bOK bs) (hl : bs.length < 1000000000) (st : St) (nx : Nat) (h8 : 8 ≤ nx) (r : Nat) :
    W (L.hp 21 [.list 5 (bv bs) r] st nx) fun q => ∃ st' nx' id, q = .ret (.tup [.ptr id 0, .i64 (openS bs.length start 0 bs).2.2.1, .i64 (openS bs.length start 0 bs).2.2.2]) st' nx' ∧ nx ≤ nx' ∧ nx ≤ id ∧
      LG st' nx' id (bs.take (openS bs.length start 0 bs).2.2.1) (openS bs.length start 0 bs).2.1 (openS bs.length start 0 bs).1 ∧ (∀ i, 8 ≤ i → i < nx → st' i = st i) ∧ (∀ k, k ∈ toksAt st' id → k = 1 ∨ nx ≤ k) := by
  refine hp_z k21_eq ?_
  simp only [frzH, slish, slish1, Bool.false_eq_true, if_false, Option.map_some]
  refine ⟨_, rfl, ?_⟩
  simp only [k21, upds_nil]
  repeat' (first | (simp -implicitDefEqProofs only [ze, Nat.reduceEqDiff, Nat.reduceAdd, Nat.reduceMul, reduceIte, Nat.reduceLT, Nat.reduceLeDiff, reduceCtorEq, Int.reduceEq, Int.reduceLT, Int.reduceLE, Int.reduceNeg, Int.reduceToNat, Nat.reduceBEq, Nat.reduceSub, qp, qf, kop, av, RQ, PQ, kres, kres1, kresL, fin, fins, fin1, V.pur?, V.pur1?, V.cells, kld, ones, V.one, Value.oneCell', own, owns, own1, xfill, ksrc, kint, vint, ksub, keqs, kok, V.val1?, ofRes]) | (with_reducible refine wgd_cases ?_ ?_ <;> intro hb) | (with_reducible refine wcond_cases ?_ ?_ <;> intro hb) | (with_reducible refine qd_i (by kernel_rfl) ?_) | (with_reducible refine W_itn_cases ?_ ?_; omega))
  refine W_hp (new_ok2 _ _) ?_
  rintro _ ⟨st1, nx1, id, rfl, hn1, hi1, hLG, hk1, h1n⟩
  repeat' (first | (simp -implicitDefEqProofs only [ze, Nat.reduceEqDiff, Nat.reduceAdd, Nat.reduceMul, reduceIte, Nat.reduceLT, Nat.reduceLeDiff, reduceCtorEq, Int.reduceEq, Int.reduceLT, Int.reduceLE, Int.reduceNeg, Int.reduceToNat, Nat.reduceBEq, Nat.reduceSub, qp, qf, kop, av, RQ, PQ, kres, kres1, kresL, fin, fins, fin1, V.pur?, V.pur1?, V.cells, kld, ones, V.one, Value.oneCell', own, owns, own1, xfill, ksrc, kint, vint, ksub, keqs, kok, V.val1?, ofRes]) | (with_reducible refine wgd_cases ?_ ?_ <;> intro hb) | (with_reducible refine wcond_cases ?_ ?_ <;> intro hb) | (with_reducible refine qd_i (by kernel_rfl) ?_) | (with_reducible refine W_itn_cases ?_ ?_; omega))
  refine loop_w (fun n tm st' nx' => ∃ (u f : Nat) (s : Int) (es : List Entry), n = bs.length - u ∧ u ≤ bs.length ∧ nx ≤ nx' ∧ tm 2 = .ptr id 0 ∧ tm 3 = .i64 u ∧ tm 0 = .list 5 (bv bs) r ∧ LG st' nx' id (bs.take u) s es ∧ u64r s ∧ es.length * 16 ≤ u ∧ (∀ i, 8 ≤ i → i < nx → st' i = st i) ∧ (∀ k, k ∈ toksAt st' id → k = 1 ∨ nx ≤ k) ∧ bs.length - u ≤ f ∧
    openS bs.length start 0 bs = (es ++ (openS f s es.length (bs.drop u)).1, (openS f s es.length (bs.drop u)).2.1, u + (openS f s es.length (bs.drop u)).2.2.1, (openS f s es.length (bs.drop u)).2.2.2)) bs.length ⟨0, bs.length, start, [], by omega, by omega, by omega, ?_, ?_, ?_, lgLe hLG (by omega), start_r, by simp, fun i _ hi => hk1 i (by omega), fun k hk => .inl (h1n k hk), by omega, by simp⟩ ?_
  · simp -implicitDefEqProofs only [ze, Nat.reduceEqDiff, Nat.reduceAdd, Nat.reduceMul, reduceIte, Nat.reduceLT, Nat.reduceLeDiff, reduceCtorEq, Int.reduceEq, Int.reduceLT, Int.reduceLE, Int.reduceNeg, Int.reduceToNat, Nat.reduceBEq, Nat.reduceSub, qp, qf, kop, av, RQ, PQ, kres, kres1, kresL, fin, fins, fin1, V.pur?, V.pur1?, V.cells, kld, ones, V.one, Value.oneCell', own, owns, own1, xfill, ksrc, kint, vint, ksub, keqs, kok, V.val1?, ofRes]; try rfl
  · simp -implicitDefEqProofs only [ze, Nat.reduceEqDiff, Nat.reduceAdd, Nat.reduceMul, reduceIte, Nat.reduceLT, Nat.reduceLeDiff, reduceCtorEq, Int.reduceEq, Int.reduceLT, Int.reduceLE, Int.reduceNeg, Int.reduceToNat, Nat.reduceBEq, Nat.reduceSub, qp, qf, kop, av, RQ, PQ, kres, kres1, kresL, fin, fins, fin1, V.pur?, V.pur1?, V.cells, kld, ones, V.one, Value.oneCell', own, owns, own1, xfill, ksrc, kint, vint, ksub, keqs, kok, V.val1?, ofRes]; try rfl
  · simp -implicitDefEqProofs only [ze, Nat.reduceEqDiff, Nat.reduceAdd, Nat.reduceMul, reduceIte, Nat.reduceLT, Nat.reduceLeDiff, reduceCtorEq, Int.reduceEq, Int.reduceLT, Int.reduceLE, Int.reduceNeg, Int.reduceToNat, Nat.reduceBEq, Nat.reduceSub, qp, qf, kop, av, RQ, PQ, kres, kres1, kresL, fin, fins, fin1, V.pur?, V.pur1?, V.cells, kld, ones, V.one, Value.oneCell', own, owns, own1, xfill, ksrc, kint, vint, ksub, keqs, kok, V.val1?, ofRes]; try rfl
  rintro n tm st2 nx2 ⟨u, f, s, es, hn, hu, hnx, h2, h3, h0, hG, hs, hel, hk, htk, hf, ho⟩
  simp only [k21_l0, k21_t0]
  by_cases hlt : u < bs.length
  · have hd : decide ((u : Int) < (bs.length : Int)) = true := decide_eq_true (by omega)
    obtain ⟨f, rfl⟩ : ∃ f', f = f' + 1 := ⟨f - 1, by omega⟩
    have hdl : (bs.drop u).length = bs.length - u := List.length_drop ..
    have hol : (bs.take u).length ≤ 100000000000 := by rw [List.length_take]; omega
    have hne0 : ¬ (bs.drop u).length = 0 := by omega
    repeat' (first | (simp -implicitDefEqProofs only [ze, Nat.reduceEqDiff, Nat.reduceAdd, Nat.reduceMul, reduceIte, Nat.reduceLT, Nat.reduceLeDiff, reduceCtorEq, Int.reduceEq, Int.reduceLT, Int.reduceLE, Int.reduceNeg, Int.reduceToNat, Nat.reduceBEq, Nat.reduceSub, qp, qf, kop, av, RQ, PQ, kres, kres1, kresL, fin, fins, fin1, V.pur?, V.pur1?, V.cells, kld, ones, V.one, Value.oneCell', own, owns, own1, xfill, ksrc, kint, vint, ksub, keqs, kok, V.val1?, ofRes, h2, h3, h0, hd, bv_len, bv_tk, bv_dp, List.take_length]) | (with_reducible refine W_itn_cases ?_ ?_; omega))
    refine W_hp (step1_ok (lgLe hG (by omega)) (bs.drop u) (bOK_drop hb u) hs hol (by omega) (by omega) _) ?_
    rintro _ ⟨st3, nx3, rfl, hn3, hKO, hKQ, hor⟩
    have hkeep : ∀ i, 8 ≤ i → i < nx → st3 i = st i := fun i i1 i2 => by
      rw [hKQ.1 i (by omega) (by omega) (fun hm => (htk i hm).elim (by omega) (by omega)), hk i i1 i2]
    have htok : ∀ k, k ∈ toksAt st3 id → k = 1 ∨ nx ≤ k := fun k hk => by
      rcases hKQ.2 k hk with h | h
      · exact htk k h
      · exact .inr (by omega)
    by_cases h5 : (stepS s es.length (bs.drop u)).2 = 0
    · obtain ⟨g1, g2, g3, g4, g5, g6⟩ := step_ok h5
      obtain ⟨b1, b2⟩ := step_bytes (bOK_drop hb u) h5
      have hG3 : LG st3 nx3 id (bs.take (u + ((frameS (bs.drop u)).1.length + 16))) (nextI s (frameS (bs.drop u)).1) (es ++ [(takeS (frameS (bs.drop u)).1).1]) := by
        rcases hor with ⟨_, h⟩ | ⟨h, _⟩
        · rw [← b2, ← List.take_add] at h; exact h
        · exact absurd h5 h
      have hz : decide ((0 : Int) = 0) = true := rfl
      have hw : IntKind.i64.wrap ((u : Int) + (((frameS (bs.drop u)).1.length : Int) + 16)) = ((u + ((frameS (bs.drop u)).1.length + 16) : Nat) : Int) := by rw [wrap_i64 (by omega) (by omega)]; omega
      rw [g6, h5]
      repeat' (first | (simp -implicitDefEqProofs only [ze, Nat.reduceEqDiff, Nat.reduceAdd, Nat.reduceMul, reduceIte, Nat.reduceLT, Nat.reduceLeDiff, reduceCtorEq, Int.reduceEq, Int.reduceLT, Int.reduceLE, Int.reduceNeg, Int.reduceToNat, Nat.reduceBEq, Nat.reduceSub, qp, qf, kop, av, RQ, PQ, kres, kres1, kresL, fin, fins, fin1, V.pur?, V.pur1?, V.cells, kld, ones, V.one, Value.oneCell', own, owns, own1, xfill, ksrc, kint, vint, ksub, keqs, kok, V.val1?, ofRes, h2, h3, h0, hz, hw]) | (with_reducible refine wgd_cases ?_ ?_ <;> intro hb) | (with_reducible refine wcond_cases ?_ ?_ <;> intro hb) | (with_reducible refine qd_i (by kernel_rfl) ?_) | (with_reducible refine W_itn_cases ?_ ?_; omega))
      refine ⟨bs.length - (u + ((frameS (bs.drop u)).1.length + 16)), by omega, u + ((frameS (bs.drop u)).1.length + 16), f, nextI s (frameS (bs.drop u)).1, es ++ [(takeS (frameS (bs.drop u)).1).1], rfl, by omega, by omega, rfl, lgLe hG3 (by omega), nextI_r _ _ hs, by rw [List.length_append, List.length_singleton]; omega, hkeep, htok, by omega, ?_⟩
      rw [ho]
      simp only [openS, if_neg hne0, if_pos h5, List.drop_drop, List.length_append, List.length_singleton, List.append_assoc, List.singleton_append, Nat.add_assoc]
    · have hz : decide ((stepS s es.length (bs.drop u)).2 = 0) = false := decide_eq_false h5
      have hG3 : LG st3 nx3 id (bs.take u) s es := by
        rcases hor with ⟨h, _⟩ | ⟨_, h⟩
        · exact absurd h h5
        · exact h
      repeat' (first | (simp -implicitDefEqProofs only [ze, Nat.reduceEqDiff, Nat.reduceAdd, Nat.reduceMul, reduceIte, Nat.reduceLT, Nat.reduceLeDiff, reduceCtorEq, Int.reduceEq, Int.reduceLT, Int.reduceLE, Int.reduceNeg, Int.reduceToNat, Nat.reduceBEq, Nat.reduceSub, qp, qf, kop, av, RQ, PQ, kres, kres1, kresL, fin, fins, fin1, V.pur?, V.pur1?, V.cells, kld, ones, V.one, Value.oneCell', own, owns, own1, xfill, ksrc, kint, vint, ksub, keqs, kok, V.val1?, ofRes, h2, h3, h0, hz]) | (with_reducible refine wgd_cases ?_ ?_ <;> intro hb) | (with_reducible refine wcond_cases ?_ ?_ <;> intro hb) | (with_reducible refine qd_i (by kernel_rfl) ?_) | (with_reducible refine W_itn_cases ?_ ?_; omega))
      have ho2 : openS bs.length start 0 bs = (es, s, u, (stepS s es.length (bs.drop u)).2) := by
        rw [ho]
        simp only [openS, if_neg hne0, if_neg h5, List.append_nil, Nat.add_zero]
      rw [ho2]
      exact ⟨_, _, id, rfl, by omega, by omega, lgLe hG3 (by omega), hkeep, htok⟩
  · have hd : decide ((u : Int) < (bs.length : Int)) = false := decide_eq_false (by omega)
    have hu0 : (bs.drop u).length = 0 := by rw [List.length_drop]; omega
    have ho2 : openS bs.length start 0 bs = (es, s, u, 0) := by
      rw [ho]
      cases f with
      | zero => simp only [openS, List.append_nil, Nat.add_zero]
      | succ f => simp only [openS, if_pos hu0, List.append_nil, Nat.add_zero]
    repeat' (first | (simp -implicitDefEqProofs only [ze, Nat.reduceEqDiff, Nat.reduceAdd, Nat.reduceMul, reduceIte, Nat.reduceLT, Nat.reduceLeDiff, reduceCtorEq, Int.reduceEq, Int.reduceLT, Int.reduceLE, Int.reduceNeg, Int.reduceToNat, Nat.reduceBEq, Nat.reduceSub, qp, qf, kop, av, RQ, PQ, kres, kres1, kresL, fin, fins, fin1, V.pur?, V.pur1?, V.cells, kld, ones, V.one, Value.oneCell', own, owns, own1, xfill, ksrc, kint, vint, ksub, keqs, kok, V.val1?, ofRes, h2, h3, h0, hd, bv_len]) | (with_reducible refine wgd_cases ?_ ?_ <;> intro hb) | (with_reducible refine wcond_cases ?_ ?_ <;> intro hb) | (with_reducible refine qd_i (by kernel_rfl) ?_) | (with_reducible refine W_itn_cases ?_ ?_; omega))
    rw [ho2]
    exact ⟨_, _, id, rfl, by omega, by omega, lgLe hG (by omega), hk, htk⟩
end Go.Proofs.YtkbheoganajhaaaDoor.Vm
set_option maxRecDepth 10000
set_option linter.unusedVariables false
set_option linter.unusedSimpArgs false
namespace Go.Proofs.YtkbheoganajhaaaDoor.Vm
open Go Go.Proofs
structure Reads {α : Type} (D : List Int → Nat → Except Int (α × Nat)) (w : List Int) (v : α) : Prop where
  full : ∀ bs a m, bs.drop a = w ++ m → D bs a = .ok (v, a + w.length)
  cut : ∀ bs a k, k < w.length → bs.drop a = w.take k → D bs a = .error 6
theorem Reads.pure {α : Type} (v : α) : Reads (fun _ a => .ok (v, a)) [] v := ⟨fun bs a m _ => rfl, fun bs a k h => by simp at h⟩
theorem Reads.bind {α β : Type} {D1 : List Int → Nat → Except Int (α × Nat)} {D2 : α → List Int → Nat → Except Int (β × Nat)} {w1 w2 : List Int} {v1 : α} {v2 : β} (h1 : Reads D1 w1 v1) (h2 : Reads (D2 v1) w2 v2) : Reads (fun bs a => bindD (D1 bs a) fun x a => D2 x bs a) (w1 ++ w2) v2 := by
  refine ⟨fun bs a m h => ?_, fun bs a k hk h => ?_⟩
  · rw [List.append_assoc] at h
    have e1 := h1.full bs a _ h
    have h3 : bs.drop (a + w1.length) = w2 ++ m := by rw [← List.drop_drop, h, List.drop_left]
    simp only [e1, bindD, h2.full bs _ m h3, List.length_append]
    rw [Nat.add_assoc]
  · rw [List.length_append] at hk
    rcases Nat.lt_or_ge k w1.length with hlt | hge
    · have h3 : bs.drop a = w1.take k := by rw [h, List.take_append_of_le_length (by omega)]
      simp only [h1.cut bs a k hlt h3, bindD]
    · have h3 : bs.drop a = w1 ++ w2.take (k - w1.length) := by rw [h, List.take_append, List.take_of_length_le hge]
      have e1 := h1.full bs a _ h3
      have h4 : bs.drop (a + w1.length) = w2.take (k - w1.length) := by rw [← List.drop_drop, h3, List.drop_left]
      simp only [e1, bindD, h2.cut bs _ (k - w1.length) (by omega) h4]
theorem tS_cut : ∀ (f : Nat) (y : Int) (i : Nat) (x : Int) (k : Nat), y < 128 ^ (f + 1) → i + f ≤ 9 → 0 ≤ x → 0 ≤ y → x + y * 128 ^ i < 18446744073709551616 → k < (Co.vL (f + 1) y).length → Co.tS ((Co.vL (f + 1) y).take k) i x = (0, 0, 6) := by
  intro f
  induction f with
  | zero =>
    intro y i x k h1 hi hx hy hm hk
    have h1 : y < 128 := h1
    rw [Co.vL, if_neg (by omega)] at hk
    simp at hk
    subst hk
    rw [List.take_zero, Co.tS, if_pos (by omega)]
  | succ f ih =>
    intro y i x k h1 hi hx hy hm hk
    cases k with
    | zero => rw [List.take_zero, Co.tS, if_pos (by omega)]
    | succ k =>
      by_cases hy2 : y ≥ 128
      · rw [Co.vL, if_pos hy2] at hk ⊢
        have hbad : Co.badS i (y % 128 + 128) = false := by
          simp only [Co.badS, Bool.or_eq_false_iff, Bool.and_eq_false_iff, decide_eq_false_iff_not]; omega
        have hp : (0 : Int) < 128 ^ i := Int.pow_pos (by decide)
        have hq : 0 ≤ y % 128 * 128 ^ i := Int.mul_nonneg (by omega) (by omega)
        have e : x + y % 128 * 128 ^ i + y / 128 * 128 ^ (i + 1) = x + y * 128 ^ i := by
          have : y * 128 ^ i = (y % 128 + 128 * (y / 128)) * 128 ^ i := by rw [Int.emod_add_mul_ediv]
          rw [this, Int.pow_succ, Int.add_mul]
          have : y / 128 * (128 ^ i * 128) = 128 * (y / 128) * 128 ^ i := by
            rw [Int.mul_comm (128 ^ i) 128, ← Int.mul_assoc, Int.mul_comm (y / 128) 128]
          omega
        simp only [List.take_succ_cons, Co.tS, hbad, Bool.false_eq_true, if_false, if_neg (show ¬ y % 128 + 128 < 128 by omega), if_pos (show i < 10 by omega), show (y % 128 + 128) % 128 = y % 128 by omega]
        exact ih (y / 128) (i + 1) _ k (Co.div_lt_pow h1) (by omega) (by omega) (by omega) (by rw [e]; exact hm) (by simpa using hk)
      · rw [Co.vL, if_neg hy2] at hk
        simp at hk
theorem tS_putS_cut (n : Int) (hn : i64r n) (k : Nat) (hk : k < (Co.putS n).length) : Co.tS ((Co.putS n).take k) 0 0 = (0, 0, 6) := by
  have hz := Co.zz_range n hn.1 hn.2
  refine tS_cut 9 (Co.zz n) 0 0 k ?_ (by omega) (by omega) hz.1 (by rw [Int.pow_zero]; omega) hk
  have : (128 : Int) ^ (9 + 1) = 1180591620717411303424 := by decide
  omega
theorem reads_int (n : Int) (hn : i64r n) : Reads dInt (Co.putS n) n := by
  refine ⟨fun bs a m h => ?_, fun bs a k hk h => ?_⟩
  · unfold dInt
    rw [h, Co.t_put n hn.1 hn.2]
    simp
  · unfold dInt
    rw [h, tS_putS_cut n hn k hk]
    simp
theorem reads_count (most n : Int) (h0 : 0 ≤ n) (h1 : n ≤ most) (hn : i64r n) : Reads (dCount most) (Co.putS n) n := by
  refine ⟨fun bs a m h => ?_, fun bs a k hk h => ?_⟩
  · unfold dCount
    rw [(reads_int n hn).full bs a m h]
    simp only
    rw [if_neg (by omega)]
  · unfold dCount
    rw [(reads_int n hn).cut bs a k hk h]
theorem reads_text (s : ByteArray) (hs : plainS s = true) : Reads dText (ptB s) s := by
  have hz := plain_size hs
  have hn : i64r (s.size : Int) := ⟨by omega, by omega⟩
  have hbl := bytesOf_len s
  refine ⟨fun bs a m h => ?_, fun bs a k hk h => ?_⟩
  · have e : Co.tS (bs.drop a) 0 0 = ((s.size : Int), ((Co.putS s.size).length : Int), 0) := by rw [h, ptB, List.append_assoc, Co.t_put _ hn.1 hn.2]
    have ht : tT (bs.drop a) = (s, ((ptB s).length : Int), 0) := by
      unfold tT
      rw [e]
      simp only
      have h1 : (((bs.drop a).drop (Co.putS (s.size : Int)).length).take s.size) = Co.bytesOf s := by
        rw [h, ptB, List.append_assoc, List.drop_left, List.take_append_of_le_length (by omega), List.take_of_length_le (by omega)]
      have hl : (bs.drop a).length = (ptB s).length + m.length := by rw [h, List.length_append]
      have hp : (ptB s).length = (Co.putS (s.size : Int)).length + s.size := by rw [ptB, List.length_append, hbl]
      rw [if_neg (by simp), if_neg (by omega), if_neg (by omega)]
      simp only [Int.toNat_natCast, h1, strB_of, hs]
      simp only [Bool.true_eq_false, if_false]
      rw [hp]
      simp
    unfold dText
    rw [ht]
    simp
  · have hw : ptB s = Co.putS s.size ++ Co.bytesOf s := rfl
    have hp : (ptB s).length = (Co.putS (s.size : Int)).length + s.size := by rw [ptB, List.length_append, hbl]
    have ht : tT (bs.drop a) = (ByteArray.mk #[], 0, 6) := by
      rcases Nat.lt_or_ge k (Co.putS (s.size : Int)).length with hlt | hge
      · have e : Co.tS (bs.drop a) 0 0 = (0, 0, 6) := by
          rw [h, hw, List.take_append_of_le_length (by omega)]
          exact tS_putS_cut _ hn k hlt
        unfold tT
        rw [e]
        simp
      · have e : Co.tS (bs.drop a) 0 0 = ((s.size : Int), ((Co.putS s.size).length : Int), 0) := by
          rw [h, hw, List.take_append, List.take_of_length_le hge, Co.t_put _ hn.1 hn.2]
        have hl : (bs.drop a).length = k := by rw [h, List.length_take]; omega
        unfold tT
        rw [e]
        simp only
        rw [if_neg (by simp), if_neg (by omega), if_pos (by omega)]
    unfold dText
    rw [ht]
    simp
theorem reads_tags : ∀ (l : List Tag) (acc : List Tag), (∀ t ∈ l, plainS t.n = true ∧ plainS t.v = true) → Reads (fun bs => dTags bs l.length acc) (tagsB l) (acc ++ l)
  | [], acc, _ => by rw [List.append_nil]; exact Reads.pure acc
  | t :: l, acc, h => by
    have ht := h t (by simp)
    have hr := reads_tags l (acc ++ [t]) fun x hx => h x (by simp [hx])
    have := (reads_text t.n ht.1).bind (D2 := fun x bs a => bindD (dText bs a) fun y a => dTags bs l.length (acc ++ [⟨x, y⟩]) a) ((reads_text t.v ht.2).bind (D2 := fun y bs a => dTags bs l.length (acc ++ [⟨t.n, y⟩]) a) hr)
    have e : tagsB (t :: l) = ptB t.n ++ (ptB t.v ++ tagsB l) := by simp [tagsB]
    rw [e, show acc ++ t :: l = acc ++ [t] ++ l by simp]
    exact this
def fixL (l : Line) : Line := { l with tr := l.tags.isEmpty }
def fixE (e : Entry) : Entry := { e with lines := e.lines.map fixL, lr := e.lines.isEmpty }
theorem reads_line (l : Line) (h : plainL l) (h6 : l.tags.length ≤ 6) : Reads dLine (lineB l) (fixL l) := by
  have e : lineB l = ptB l.acc ++ (ptB l.cur ++ (Co.putS l.amt ++ (Co.putS l.base ++ (ptB l.par ++ (ptB l.pty ++ (Co.putS l.tags.length ++ (tagsB l.tags ++ []))))))) := by simp [lineB]
  rw [e]
  refine (reads_text l.acc h.acc).bind (β := Line) (D2 := fun acc bs a => bindD (dText bs a) fun cur a => bindD (dInt bs a) fun amt a => bindD (dInt bs a) fun base a => bindD (dText bs a) fun par a => bindD (dText bs a) fun pty a => bindD (dCount 6 bs a) fun n a => bindD (dTags bs n.toNat [] a) fun tags a => .ok (⟨acc, cur, amt, base, par, pty, tags, tags.isEmpty⟩, a)) ?_
  refine (reads_text l.cur h.cur).bind (β := Line) (D2 := fun cur bs a => bindD (dInt bs a) fun amt a => bindD (dInt bs a) fun base a => bindD (dText bs a) fun par a => bindD (dText bs a) fun pty a => bindD (dCount 6 bs a) fun n a => bindD (dTags bs n.toNat [] a) fun tags a => .ok (⟨l.acc, cur, amt, base, par, pty, tags, tags.isEmpty⟩, a)) ?_
  refine (reads_int l.amt h.amt).bind (β := Line) (D2 := fun amt bs a => bindD (dInt bs a) fun base a => bindD (dText bs a) fun par a => bindD (dText bs a) fun pty a => bindD (dCount 6 bs a) fun n a => bindD (dTags bs n.toNat [] a) fun tags a => .ok (⟨l.acc, l.cur, amt, base, par, pty, tags, tags.isEmpty⟩, a)) ?_
  refine (reads_int l.base h.base).bind (β := Line) (D2 := fun base bs a => bindD (dText bs a) fun par a => bindD (dText bs a) fun pty a => bindD (dCount 6 bs a) fun n a => bindD (dTags bs n.toNat [] a) fun tags a => .ok (⟨l.acc, l.cur, l.amt, base, par, pty, tags, tags.isEmpty⟩, a)) ?_
  refine (reads_text l.par h.par).bind (β := Line) (D2 := fun par bs a => bindD (dText bs a) fun pty a => bindD (dCount 6 bs a) fun n a => bindD (dTags bs n.toNat [] a) fun tags a => .ok (⟨l.acc, l.cur, l.amt, l.base, par, pty, tags, tags.isEmpty⟩, a)) ?_
  refine (reads_text l.pty h.pty).bind (β := Line) (D2 := fun pty bs a => bindD (dCount 6 bs a) fun n a => bindD (dTags bs n.toNat [] a) fun tags a => .ok (⟨l.acc, l.cur, l.amt, l.base, l.par, pty, tags, tags.isEmpty⟩, a)) ?_
  refine (reads_count 6 l.tags.length (by omega) (by omega) ⟨by omega, by omega⟩).bind (β := Line) (D2 := fun n bs a => bindD (dTags bs n.toNat [] a) fun tags a => .ok (⟨l.acc, l.cur, l.amt, l.base, l.par, l.pty, tags, tags.isEmpty⟩, a)) ?_
  have ht := reads_tags l.tags [] h.tags
  rw [List.nil_append] at ht
  refine Reads.bind (β := Line) (D1 := fun bs a => dTags bs ((l.tags.length : Int).toNat) [] a) (D2 := fun tags bs a => .ok (⟨l.acc, l.cur, l.amt, l.base, l.par, l.pty, tags, tags.isEmpty⟩, a)) (v1 := l.tags) ?_ (Reads.pure _)
  rw [Int.toNat_natCast]; exact ht
theorem reads_lines : ∀ (l : List Line) (acc : List Line), (∀ t ∈ l, plainL t ∧ t.tags.length ≤ 6) → Reads (fun bs => dLines bs l.length acc) (linesB l) (acc ++ l.map fixL)
  | [], acc, _ => by rw [List.map_nil, List.append_nil]; exact Reads.pure acc
  | t :: l, acc, h => by
    have ht := h t (by simp)
    have hr := reads_lines l (acc ++ [fixL t]) fun x hx => h x (by simp [hx])
    have := (reads_line t ht.1 ht.2).bind (D2 := fun x bs a => dLines bs l.length (acc ++ [x]) a) hr
    have e : linesB (t :: l) = lineB t ++ linesB l := by simp [linesB]
    rw [e, show acc ++ (t :: l).map fixL = acc ++ [fixL t] ++ l.map fixL by simp]
    exact this
theorem reads_entry (e : Entry) (h : plainE e) (h6 : ∀ t ∈ e.lines, t.tags.length ≤ 6) : Reads dEntry (entryB e) (fixE e) := by
  have hlen := h.len
  have e0 : entryB e = Co.putS e.no ++ (ptB e.ent ++ (Co.putS e.book ++ (Co.putS e.val ++ (Co.putS e.kind ++ (ptB e.ref ++ (ptB e.who ++ (Co.putS e.rev ++ (Co.putS e.lines.length ++ (linesB e.lines ++ []))))))))) := by simp [entryB, headB]
  rw [e0]
  refine (reads_int e.no h.no).bind (β := Entry) (D2 := fun no bs a => bindD (dText bs a) fun ent a => bindD (dInt bs a) fun book a => bindD (dInt bs a) fun val a => bindD (dInt bs a) fun kind a => bindD (dText bs a) fun ref a => bindD (dText bs a) fun who a => bindD (dInt bs a) fun rev a => bindD (dCount 100 bs a) fun n a => bindD (dLines bs n.toNat [] a) fun lines a => .ok (⟨no, ent, book, val, kind, ref, who, rev, lines, lines.isEmpty⟩, a)) ?_
  refine (reads_text e.ent h.ent).bind (β := Entry) (D2 := fun ent bs a => bindD (dInt bs a) fun book a => bindD (dInt bs a) fun val a => bindD (dInt bs a) fun kind a => bindD (dText bs a) fun ref a => bindD (dText bs a) fun who a => bindD (dInt bs a) fun rev a => bindD (dCount 100 bs a) fun n a => bindD (dLines bs n.toNat [] a) fun lines a => .ok (⟨e.no, ent, book, val, kind, ref, who, rev, lines, lines.isEmpty⟩, a)) ?_
  refine (reads_int e.book h.book).bind (β := Entry) (D2 := fun book bs a => bindD (dInt bs a) fun val a => bindD (dInt bs a) fun kind a => bindD (dText bs a) fun ref a => bindD (dText bs a) fun who a => bindD (dInt bs a) fun rev a => bindD (dCount 100 bs a) fun n a => bindD (dLines bs n.toNat [] a) fun lines a => .ok (⟨e.no, e.ent, book, val, kind, ref, who, rev, lines, lines.isEmpty⟩, a)) ?_
  refine (reads_int e.val h.val).bind (β := Entry) (D2 := fun val bs a => bindD (dInt bs a) fun kind a => bindD (dText bs a) fun ref a => bindD (dText bs a) fun who a => bindD (dInt bs a) fun rev a => bindD (dCount 100 bs a) fun n a => bindD (dLines bs n.toNat [] a) fun lines a => .ok (⟨e.no, e.ent, e.book, val, kind, ref, who, rev, lines, lines.isEmpty⟩, a)) ?_
  refine (reads_int e.kind h.kind).bind (β := Entry) (D2 := fun kind bs a => bindD (dText bs a) fun ref a => bindD (dText bs a) fun who a => bindD (dInt bs a) fun rev a => bindD (dCount 100 bs a) fun n a => bindD (dLines bs n.toNat [] a) fun lines a => .ok (⟨e.no, e.ent, e.book, e.val, kind, ref, who, rev, lines, lines.isEmpty⟩, a)) ?_
  refine (reads_text e.ref h.ref).bind (β := Entry) (D2 := fun ref bs a => bindD (dText bs a) fun who a => bindD (dInt bs a) fun rev a => bindD (dCount 100 bs a) fun n a => bindD (dLines bs n.toNat [] a) fun lines a => .ok (⟨e.no, e.ent, e.book, e.val, e.kind, ref, who, rev, lines, lines.isEmpty⟩, a)) ?_
  refine (reads_text e.who h.who).bind (β := Entry) (D2 := fun who bs a => bindD (dInt bs a) fun rev a => bindD (dCount 100 bs a) fun n a => bindD (dLines bs n.toNat [] a) fun lines a => .ok (⟨e.no, e.ent, e.book, e.val, e.kind, e.ref, who, rev, lines, lines.isEmpty⟩, a)) ?_
  refine (reads_int e.rev h.rev).bind (β := Entry) (D2 := fun rev bs a => bindD (dCount 100 bs a) fun n a => bindD (dLines bs n.toNat [] a) fun lines a => .ok (⟨e.no, e.ent, e.book, e.val, e.kind, e.ref, e.who, rev, lines, lines.isEmpty⟩, a)) ?_
  refine (reads_count 100 e.lines.length (by omega) (by omega) ⟨by omega, by omega⟩).bind (β := Entry) (D2 := fun n bs a => bindD (dLines bs n.toNat [] a) fun lines a => .ok (⟨e.no, e.ent, e.book, e.val, e.kind, e.ref, e.who, e.rev, lines, lines.isEmpty⟩, a)) ?_
  have ht := reads_lines e.lines [] fun t ht => ⟨h.lines t ht, h6 t ht⟩
  rw [List.nil_append] at ht
  have e1 : fixE e = ⟨e.no, e.ent, e.book, e.val, e.kind, e.ref, e.who, e.rev, e.lines.map fixL, (e.lines.map fixL).isEmpty⟩ := by
    unfold fixE; congr 1; cases e.lines <;> rfl
  rw [e1]
  refine Reads.bind (β := Entry) (D1 := fun bs a => dLines bs ((e.lines.length : Int).toNat) [] a) (D2 := fun lines bs a => .ok (⟨e.no, e.ent, e.book, e.val, e.kind, e.ref, e.who, e.rev, lines, lines.isEmpty⟩, a)) (v1 := e.lines.map fixL) ?_ (Reads.pure _)
  rw [Int.toNat_natCast]; exact ht
theorem fix_k (e : Entry) : (fixE e).k = e.k := by
  unfold fixE Entry.k
  simp only [List.map_map]
  congr 1
theorem lineS_fix (l : Line) : lineS (fixL l) = lineS l := rfl
theorem firstS_fix : ∀ (l : List Line) (k : Nat), firstS (l.map fixL) k = firstS l k
  | [], _ => rfl
  | x :: l, k => by simp only [List.map_cons, firstS, lineS_fix, firstS_fix l (k + 1)]
theorem lineS_six {l : Line} (h : lineS l = 0) : l.tags.length ≤ 6 := by
  unfold lineS at h
  split at h
  · cases h
  split at h
  · cases h
  split at h
  · cases h
  split at h
  · cases h
  split at h
  · cases h
  rename_i h5
  simp only [Bool.not_eq_false, rightS, Bool.and_eq_true, decide_eq_true_eq] at h5
  exact h5.1
theorem check_first {e : Entry} (h : (checkS e).2 = 0) : firstS e.lines 0 = none := by
  unfold checkS at h
  split at h
  · split at h
    · rename_i i er hf
      exfalso
      have : ∀ (l : List Line) (k : Nat), firstS l k = some (i, er) → ¬ er = 0 := by
        intro l
        induction l with
        | nil => intro k h; cases h
        | cons y r ih =>
          intro k h
          unfold firstS at h
          split at h
          · exact ih _ h
          · rename_i hy; simp only [Option.some.injEq, Prod.mk.injEq] at h; rw [← h.2]; exact hy
      exact this _ _ hf h
    · assumption
  · rename_i h0; exact absurd h h0
theorem check_six {e : Entry} (h : (checkS e).2 = 0) : ∀ t ∈ e.lines, t.tags.length ≤ 6 := fun t ht => lineS_six (first_all _ _ (check_first h) t ht)
theorem selA_fix (l : List Line) (k : ByteArray) : selA (l.map fixL) k = selA l k := by
  unfold selA
  rw [List.filter_map, List.map_map]
  rfl
theorem selB_fix (l : List Line) (k : ByteArray) : selB (l.map fixL) k = selB l k := by
  unfold selB
  rw [List.filter_map, List.map_map]
  rfl
theorem balS_fix (l : List Line) : balS (l.map fixL) = balS l := by
  unfold balS okAt
  simp only [selA_fix, selB_fix]
  rw [List.all_map]
  rfl
theorem headS_fix (e : Entry) : headS (fixE e) = headS e := by
  unfold headS fixE
  simp only [List.length_map]
theorem check_fix (e : Entry) : checkS (fixE e) = checkS e := by
  unfold checkS
  rw [headS_fix]
  have h1 : (fixE e).lines = e.lines.map fixL := rfl
  rw [h1, firstS_fix, balS_fix]
theorem take_full (e : Entry) (h : plainE e) (hc : (checkS e).2 = 0) (m : List Int) : takeS (entryB e ++ m) = (fixE e, ((entryB e).length : Int), 0) := by
  have := (reads_entry e h (check_six hc)).full (entryB e ++ m) 0 m rfl
  unfold takeS
  rw [this]
  simp only [check_fix, hc, if_true]
  simp
end Go.Proofs.YtkbheoganajhaaaDoor.Vm
set_option maxRecDepth 10000
set_option linter.unusedVariables false
set_option linter.unusedSimpArgs false
namespace Go.Proofs.YtkbheoganajhaaaDoor.Vm
open Go Go.Proofs Go.RowKit
theorem entryB_len2 {x : Entry} (hp : plainE x) : (entryB x).length ≤ 15001000 := by
  have h2 := headB_len x hp
  have h3 := linesB_len x.lines x.lines.length fun t ht => hp.lines t (List.mem_of_mem_take ht)
  have h4 := hp.len
  rw [List.take_length] at h3
  rw [entryB, List.length_append]; omega
theorem framesB_len2 : ∀ (xs : List Entry) (s : Int), (∀ e ∈ xs, goodE e) → (framesB s xs).length ≤ 15001016 * xs.length
  | [], _, _ => by simp [framesB]
  | x :: xs, s, h => by
    have h1 := framesB_len2 xs (nextI s (entryB x)) fun e he => h e (List.mem_cons_of_mem _ he)
    have h2 := entryB_len2 (h x (List.mem_cons_self ..)).plain
    simp only [framesB, List.length_append, frameB_len, List.length_cons]; omega
theorem rdB_four (n : Int) (hn : 0 ≤ n ∧ n < 4294967296) (m : List Int) : rdB (four n ++ m) = n := by
  show readI _ _ _ _ = n
  unfold readI; omega
theorem inv_r {n : Int} (hn : 0 ≤ n ∧ n < 4294967296) : 0 ≤ inv n ∧ inv n < 4294967296 := by unfold inv; omega
theorem frameS_full (p sm m : List Int) (hl : p.length < 1000000000) (h8 : sm.length = 8) : frameS (four p.length ++ four (inv p.length) ++ p ++ sm ++ m) = (p, sm, 0) := by
  have hn : (0 : Int) ≤ (p.length : Int) ∧ (p.length : Int) < 4294967296 := ⟨by omega, by omega⟩
  have e0 : four p.length ++ four (inv p.length) ++ p ++ sm ++ m = four p.length ++ (four (inv p.length) ++ (p ++ (sm ++ m))) := by simp only [List.append_assoc]
  have e4 : (four p.length ++ (four (inv p.length) ++ (p ++ (sm ++ m)))).drop 4 = four (inv p.length) ++ (p ++ (sm ++ m)) := rfl
  have e8 : (four p.length ++ (four (inv p.length) ++ (p ++ (sm ++ m)))).drop 8 = p ++ (sm ++ m) := rfl
  have hlen : (four p.length ++ (four (inv p.length) ++ (p ++ (sm ++ m)))).length = 8 + (p.length + (8 + m.length)) := by
    simp only [List.length_append, four_len, h8]; omega
  rw [e0]
  unfold frameS
  rw [e4, e8, hlen, rdB_four _ hn, rdB_four _ (inv_r hn), if_neg (by omega), if_pos rfl, if_neg (by omega), Int.toNat_natCast, List.take_left, List.drop_left]
  rw [show (sm ++ m).take 8 = sm by rw [← h8, List.take_left]]
theorem frameS_cut (p sm : List Int) (hl : p.length < 1000000000) (h8 : sm.length = 8) (j : Nat) (hj : j < p.length + 16) : frameS ((four p.length ++ four (inv p.length) ++ p ++ sm).take j) = ([], [], 6) := by
  have hn : (0 : Int) ≤ (p.length : Int) ∧ (p.length : Int) < 4294967296 := ⟨by omega, by omega⟩
  have e0 : four p.length ++ four (inv p.length) ++ p ++ sm = four p.length ++ (four (inv p.length) ++ (p ++ sm)) := by simp only [List.append_assoc]
  rw [e0]
  have hlen : (four p.length ++ (four (inv p.length) ++ (p ++ sm))).length = p.length + 16 := by
    simp only [List.length_append, four_len, h8]; omega
  have htl : ((four p.length ++ (four (inv p.length) ++ (p ++ sm))).take j).length = j := by rw [List.length_take]; omega
  unfold frameS
  rw [htl]
  split
  · rfl
  rename_i hj8
  obtain ⟨k, rfl⟩ : ∃ k, j = k + 8 := ⟨j - 8, by omega⟩
  have e1 : (four p.length ++ (four (inv p.length) ++ (p ++ sm))).take (k + 8) = four p.length ++ (four (inv p.length) ++ (p ++ sm).take k) := rfl
  have e4 : (four p.length ++ (four (inv p.length) ++ (p ++ sm).take k)).drop 4 = four (inv p.length) ++ (p ++ sm).take k := rfl
  rw [e1, e4, rdB_four _ hn, rdB_four _ (inv_r hn), if_pos rfl, if_pos (by omega)]
theorem frameB_eq (p : List Int) (s : Int) : frameB p s = four p.length ++ four (inv p.length) ++ p ++ sumB s := rfl
theorem goodE.small {e : Entry} (h : goodE e) : (entryB e).length < 1000000000 := by have := entryB_len2 h.plain; omega
theorem step_full {x : Entry} (h : goodE x) (s : Int) (n : Nat) (hn : x.no = (n : Int) + 1) (m : List Int) : stepS s n (frameB (entryB x) (nextI s (entryB x)) ++ m) = (((entryB x).length : Int) + 16, 0) ∧ frameS (frameB (entryB x) (nextI s (entryB x)) ++ m) = (entryB x, sumB (nextI s (entryB x)), 0) ∧ (takeS (entryB x)).1 = fixE x := by
  have hf := frameS_full (entryB x) (sumB (nextI s (entryB x))) m h.small (sumB_len _)
  rw [← frameB_eq] at hf
  have ht := take_full x h.plain h.ck []
  rw [List.append_nil] at ht
  refine ⟨?_, hf, by rw [ht]⟩
  unfold stepS
  rw [hf, if_pos rfl, if_pos rfl, ht, if_pos ⟨rfl, rfl⟩]
  exact if_pos hn
theorem step_cut {x : Entry} (h : goodE x) (s : Int) (n : Nat) (j : Nat) (hj : j < (entryB x).length + 16) : stepS s n ((frameB (entryB x) (nextI s (entryB x))).take j) = (0, 6) := by
  have hf := frameS_cut (entryB x) (sumB (nextI s (entryB x))) h.small (sumB_len _) j hj
  rw [← frameB_eq] at hf
  unfold stepS
  rw [hf]
  exact if_neg (by decide)
def numOK : Nat → List Entry → Prop
  | _, [] => True
  | n, x :: xs => x.no = (n : Int) + 1 ∧ numOK (n + 1) xs
theorem numOK_snoc : ∀ (xs : List Entry) (n : Nat) (x : Entry), numOK n xs → x.no = ((n + xs.length : Nat) : Int) + 1 → numOK n (xs ++ [x])
  | [], n, x, _, h => ⟨by simpa using h, trivial⟩
  | y :: ys, n, x, h, hx => ⟨h.1, numOK_snoc ys (n + 1) x h.2 (by rw [hx, List.length_cons]; omega)⟩
theorem openS_nil (f : Nat) (s : Int) (n : Nat) : openS f s n [] = ([], s, 0, 0) := by
  cases f with
  | zero => rfl
  | succ f => exact if_pos rfl
theorem openS_step {x : Entry} (h : goodE x) (s : Int) (n f : Nat) (hn : x.no = (n : Int) + 1) (m : List Int) : openS (f + 1) s n (frameB (entryB x) (nextI s (entryB x)) ++ m) =
    (fixE x :: (openS f (nextI s (entryB x)) (n + 1) m).1, (openS f (nextI s (entryB x)) (n + 1) m).2.1, (entryB x).length + 16 + (openS f (nextI s (entryB x)) (n + 1) m).2.2.1, (openS f (nextI s (entryB x)) (n + 1) m).2.2.2) := by
  obtain ⟨h1, h2, h3⟩ := step_full h s n hn m
  have hl : ¬ (frameB (entryB x) (nextI s (entryB x)) ++ m).length = 0 := by rw [List.length_append, frameB_len]; omega
  have hd : (frameB (entryB x) (nextI s (entryB x)) ++ m).drop ((entryB x).length + 16) = m := by rw [← frameB_len (entryB x) (nextI s (entryB x)), List.drop_left]
  rw [openS, if_neg hl, h1, if_pos rfl, h2, h3, hd]
theorem openS_bad (s : Int) (n f : Nat) (bs : List Int) (h0 : bs.length ≠ 0) (h : (stepS s n bs).2 ≠ 0) : openS (f + 1) s n bs = ([], s, 0, (stepS s n bs).2) := by
  rw [openS, if_neg h0, if_neg h]
theorem openS_cut : ∀ (es : List Entry) (s : Int) (n f k : Nat), (∀ e ∈ es, goodE e) → numOK n es → k ≤ (framesB s es).length → k ≤ f → ∃ w, w ≤ es.length ∧ (framesB s (es.take w)).length ≤ k ∧ (w < es.length → k < (framesB s (es.take (w + 1))).length) ∧
    openS f s n ((framesB s es).take k) = ((es.take w).map fixE, sumE s (es.take w), (framesB s (es.take w)).length, if (framesB s (es.take w)).length = k then 0 else 6)
  | [], s, n, f, k, hg, hn, hk, hf => by
    have : k = 0 := by simpa [framesB] using hk
    subst this
    exact ⟨0, by simp, by simp [framesB], by simp, by simp [framesB, openS_nil, sumE]⟩
  | x :: xs, s, n, f, k, hg, hn, hk, hf => by
    have hx := hg x (List.mem_cons_self ..)
    have hfl := frameB_len (entryB x) (nextI s (entryB x))
    have ht1 : (framesB s ((x :: xs).take 1)).length = (entryB x).length + 16 := by simp [framesB, frameB_len]
    rcases Nat.lt_or_ge k ((entryB x).length + 16) with hlt | hge
    · refine ⟨0, by simp, by simp [framesB], fun _ => by rw [ht1]; exact hlt, ?_⟩
      simp only [List.take_zero, List.map_nil, sumE, framesB, List.length_nil]
      rw [List.take_append_of_le_length (by omega)]
      rcases Nat.eq_zero_or_pos k with rfl | hk0
      · simp [openS_nil]
      · obtain ⟨f, rfl⟩ : ∃ f', f = f' + 1 := ⟨f - 1, by omega⟩
        have hc := step_cut hx s n k hlt
        rw [openS_bad _ _ _ _ (by rw [List.length_take]; omega) (by rw [hc]; decide), hc, if_neg (by omega)]
    · obtain ⟨f, rfl⟩ : ∃ f', f = f' + 1 := ⟨f - 1, by omega⟩
      have hk' : k ≤ (entryB x).length + 16 + (framesB (nextI s (entryB x)) xs).length := by
        simp only [framesB, List.length_append, hfl] at hk; exact hk
      obtain ⟨w, w1, w2, w3, w4⟩ := openS_cut xs (nextI s (entryB x)) (n + 1) f (k - ((entryB x).length + 16)) (fun e he => hg e (List.mem_cons_of_mem _ he)) hn.2 (by omega) (by omega)
      have et : (framesB s (x :: xs)).take k = frameB (entryB x) (nextI s (entryB x)) ++ (framesB (nextI s (entryB x)) xs).take (k - ((entryB x).length + 16)) := by
        simp only [framesB]
        rw [List.take_append, hfl, List.take_of_length_le (by omega)]
      have el : ∀ v, (framesB s ((x :: xs).take (v + 1))).length = (entryB x).length + 16 + (framesB (nextI s (entryB x)) (xs.take v)).length := fun v => by
        simp only [List.take_succ_cons, framesB, List.length_append, hfl]
      refine ⟨w + 1, by simpa using w1, by rw [el]; omega, fun h => ?_, ?_⟩
      · have := w3 (by simpa using h)
        rw [el]; omega
      · rw [et, openS_step hx s n f hn.1, w4, el]
        simp only [List.take_succ_cons, List.map_cons, sumE, Prod.mk.injEq, true_and]
        by_cases hq : (framesB (nextI s (entryB x)) (xs.take w)).length = k - ((entryB x).length + 16)
        · rw [if_pos hq, if_pos (by omega)]
        · rw [if_neg hq, if_neg (by omega)]
theorem openS_all (es : List Entry) (s : Int) (n f : Nat) (hg : ∀ e ∈ es, goodE e) (hn : numOK n es) (hf : (framesB s es).length ≤ f) : openS f s n (framesB s es) = (es.map fixE, sumE s es, (framesB s es).length, 0) := by
  obtain ⟨w, w1, w2, w3, w4⟩ := openS_cut es s n f (framesB s es).length hg hn (Nat.le_refl _) hf
  rw [List.take_length] at w4
  have hw : w = es.length := by
    rcases Nat.lt_or_ge w es.length with h | h
    · have a := w3 h
      have b : (framesB s (es.take (w + 1))).length ≤ (framesB s es).length := by
        have : ∀ (l : List Entry) (s : Int) (v : Nat), (framesB s (l.take v)).length ≤ (framesB s l).length := by
          intro l
          induction l with
          | nil => intro s v; simp [framesB]
          | cons y r ih =>
            intro s v
            cases v with
            | zero => simp [framesB]
            | succ v => simp only [List.take_succ_cons, framesB, List.length_append]; have := ih (nextI s (entryB y)) v; omega
        exact this es s (w + 1)
      omega
    · omega
  subst hw
  rw [List.take_length] at w4
  rw [w4, if_pos rfl]
end Go.Proofs.YtkbheoganajhaaaDoor.Vm
set_option maxRecDepth 10000
set_option linter.unusedVariables false
set_option linter.unusedSimpArgs false
namespace Go.Proofs.YtkbheoganajhaaaDoor.Vm
open Go Go.Proofs
def New (nx : Nat) (st : St) (id : Nat) : Prop := ∀ k, k ∈ toksAt st id → k = 1 ∨ nx ≤ k
theorem newKQ {st st' : St} {nx0 nx id : Nat} (h : New nx0 st id) (k : KQ st st' nx id) (hn : nx0 ≤ nx) : New nx0 st' id := fun i hi => by
  rcases k.2 i hi with h1 | h1
  · exact h i h1
  · exact .inr (by omega)
theorem newU {st : St} {nx0 id j : Nat} (h : New nx0 st id) (o : Option Ob) (hj : id ≠ j) : New nx0 (upd st j o) id := fun i hi => h i (by rw [toks_upd o hj] at hi; exact hi)
theorem fill_ok (l : List Entry) (hs : ∀ e ∈ l, smallE e ∧ rangeE e) (hl : l.length ≤ 12) (st : St) (nx : Nat) (hnx8 : 8 ≤ nx) (r : Nat) :
    W (L.hp 20 [.list 31 (l.map encE) r] st nx) fun q => ∃ st' nx' id v kept, q = .ret (.tup [.ptr id 0, v]) st' nx' ∧ nx ≤ nx' ∧ nx ≤ id ∧ LG st' nx' id (framesB start kept) (sumE start kept) (kept.map copE) ∧ Own st' nx' id kept v ∧ New nx st' id ∧
      (∀ e ∈ kept, goodE e) ∧ numOK 0 kept ∧ kept.length ≤ l.length ∧ (∀ i, 8 ≤ i → i < nx → st' i = st i) ∧ (∀ e xs q, v = .list e xs q → q = 1 ∨ nx ≤ q) := by
  refine hp_w k20_eq ?_
  simp only [k20]
  repeat' (first | (simp -implicitDefEqProofs only [ze, Nat.reduceEqDiff, Nat.reduceAdd, Nat.reduceMul, reduceIte, Nat.reduceLT, Nat.reduceLeDiff, reduceCtorEq, Int.reduceEq, Int.reduceLT, Int.reduceLE, Int.reduceNeg, Int.reduceToNat, Nat.reduceBEq, Nat.reduceSub, qp, qf, kop, av, RQ, PQ, kres, kres1, kresL, fin, fins, fin1, V.pur?, V.pur1?, V.cells, kld, ones, V.one, Value.oneCell', own, owns, own1, xfill, ksrc, kint, vint, ksub, keqs, kok, V.val1?, ofRes]) | (with_reducible refine wgd_cases ?_ ?_ <;> intro hb) | (with_reducible refine wcond_cases ?_ ?_ <;> intro hb) | (with_reducible refine qd_i (by kernel_rfl) ?_) | (with_reducible refine W_itn_cases ?_ ?_; omega))
  refine W_hp (new_ok2 _ _) ?_
  rintro _ ⟨st1, nx1, id, rfl, hn1, hi1, hLG, hk1, h1n⟩
  repeat' (first | (simp -implicitDefEqProofs only [ze, Nat.reduceEqDiff, Nat.reduceAdd, Nat.reduceMul, reduceIte, Nat.reduceLT, Nat.reduceLeDiff, reduceCtorEq, Int.reduceEq, Int.reduceLT, Int.reduceLE, Int.reduceNeg, Int.reduceToNat, Nat.reduceBEq, Nat.reduceSub, qp, qf, kop, av, RQ, PQ, kres, kres1, kresL, fin, fins, fin1, V.pur?, V.pur1?, V.cells, kld, ones, V.one, Value.oneCell', own, owns, own1, xfill, ksrc, kint, vint, ksub, keqs, kok, V.val1?, ofRes]) | (with_reducible refine wgd_cases ?_ ?_ <;> intro hb) | (with_reducible refine wcond_cases ?_ ?_ <;> intro hb) | (with_reducible refine qd_i (by kernel_rfl) ?_) | (with_reducible refine W_itn_cases ?_ ?_; omega))
  refine loop_w (fun n tm st' nx' => ∃ (i : Nat) (kept : List Entry) (v : V), n = l.length - i ∧ i ≤ l.length ∧ nx ≤ nx' ∧ tm 4 = .ptr id 0 ∧ tm 6 = .i64 i ∧ tm 0 = .list 31 (l.map encE) r ∧ tm 5 = v ∧ kept.length ≤ i ∧ (∀ e ∈ kept, goodE e) ∧ numOK 0 kept ∧ LG st' nx' id (framesB start kept) (sumE start kept) (kept.map copE) ∧ Own st' nx' id kept v ∧ New nx st' id ∧ (∀ i, 8 ≤ i → i < nx → st' i = st i) ∧ (∀ e xs q, v = .list e xs q → q = 1 ∨ nx ≤ q)) l.length ⟨0, [], .list 0 [] 1, by omega, by omega, by omega, ?_, ?_, ?_, ?_, by simp, (fun e he => by cases he), trivial, lgLe hLG (by omega), .inl ⟨rfl, rfl⟩, fun k hk => .inl (h1n k hk), fun i _ hi => hk1 i (by omega), fun e xs q h => by injection h; omega⟩ ?_
  · simp -implicitDefEqProofs only [ze, Nat.reduceEqDiff, Nat.reduceAdd, Nat.reduceMul, reduceIte, Nat.reduceLT, Nat.reduceLeDiff, reduceCtorEq, Int.reduceEq, Int.reduceLT, Int.reduceLE, Int.reduceNeg, Int.reduceToNat, Nat.reduceBEq, Nat.reduceSub, qp, qf, kop, av, RQ, PQ, kres, kres1, kresL, fin, fins, fin1, V.pur?, V.pur1?, V.cells, kld, ones, V.one, Value.oneCell', own, owns, own1, xfill, ksrc, kint, vint, ksub, keqs, kok, V.val1?, ofRes]; try rfl
  · simp -implicitDefEqProofs only [ze, Nat.reduceEqDiff, Nat.reduceAdd, Nat.reduceMul, reduceIte, Nat.reduceLT, Nat.reduceLeDiff, reduceCtorEq, Int.reduceEq, Int.reduceLT, Int.reduceLE, Int.reduceNeg, Int.reduceToNat, Nat.reduceBEq, Nat.reduceSub, qp, qf, kop, av, RQ, PQ, kres, kres1, kresL, fin, fins, fin1, V.pur?, V.pur1?, V.cells, kld, ones, V.one, Value.oneCell', own, owns, own1, xfill, ksrc, kint, vint, ksub, keqs, kok, V.val1?, ofRes]; try rfl
  · simp -implicitDefEqProofs only [ze, Nat.reduceEqDiff, Nat.reduceAdd, Nat.reduceMul, reduceIte, Nat.reduceLT, Nat.reduceLeDiff, reduceCtorEq, Int.reduceEq, Int.reduceLT, Int.reduceLE, Int.reduceNeg, Int.reduceToNat, Nat.reduceBEq, Nat.reduceSub, qp, qf, kop, av, RQ, PQ, kres, kres1, kresL, fin, fins, fin1, V.pur?, V.pur1?, V.cells, kld, ones, V.one, Value.oneCell', own, owns, own1, xfill, ksrc, kint, vint, ksub, keqs, kok, V.val1?, ofRes]; try rfl
  · simp -implicitDefEqProofs only [ze, Nat.reduceEqDiff, Nat.reduceAdd, Nat.reduceMul, reduceIte, Nat.reduceLT, Nat.reduceLeDiff, reduceCtorEq, Int.reduceEq, Int.reduceLT, Int.reduceLE, Int.reduceNeg, Int.reduceToNat, Nat.reduceBEq, Nat.reduceSub, qp, qf, kop, av, RQ, PQ, kres, kres1, kresL, fin, fins, fin1, V.pur?, V.pur1?, V.cells, kld, ones, V.one, Value.oneCell', own, owns, own1, xfill, ksrc, kint, vint, ksub, keqs, kok, V.val1?, ofRes]; try rfl
  rintro n tm st2 nx2 ⟨i, kept, v, hn, hi, hnx, h4, h6, h0, h5, hkl, hgood, hnum, hG, hown, hnew, hkeep, hvq⟩
  simp only [k20_l0, k20_t0]
  have hfl := framesB_len2 kept start hgood
  have hkc : (kept.map copE).length = kept.length := List.length_map _
  by_cases hlt : i < l.length
  · have hd : decide ((i : Int) < (l.length : Int)) = true := decide_eq_true (by omega)
    obtain ⟨x, hx1⟩ := get_lt (l := l) (i := i) hlt
    obtain ⟨hxs, hxr⟩ := hs x (List.mem_of_getElem? hx1)
    have hap := fun (nx' : Nat) (h : nx2 ≤ nx') => append_ok (lgLe hG h) x hxs hxr (sumE_r _ start_r) (by omega) (by rw [hkc]; omega)
    rw [hkc] at hap
    have hup : IntKind.i64.wrap ((i : Int) + 1) = ((i + 1 : Nat) : Int) := wrap_i64 (by omega) (by omega)
    have hel : encE x = .agg [.i64 x.no, .str x.ent, .i64 x.book, .i64 x.val, .i64 x.kind, .str x.ref, .str x.who, .i64 x.rev, .list (te x.lr 61) (x.lines.map encL) (nr x.lr)] := rfl
    rw [hel] at hap
    obtain ⟨ve, vr, rfl⟩ : ∃ ve vr, v = .list ve (kept.map encE) vr := by
      rcases hown with ⟨rfl, rfl⟩ | ⟨q, _, _, _, _, rfl, _⟩
      · exact ⟨0, 1, rfl⟩
      · exact ⟨_, q, rfl⟩
    have ownQ : ∀ {st3 : St} {nxa nx3 : Nat}, nx2 ≤ nxa → KQ st2 st3 nxa id → nxa ≤ nx3 → Own st3 nx3 id kept (.list ve (kept.map encE) vr) := fun {st3 nxa nx3} ha hk hn => by
      rcases hown with ⟨a, b⟩ | ⟨q, a, b, c, d, e, f⟩
      · exact .inl ⟨a, b⟩
      · exact .inr ⟨q, a, by omega, c, fun hm => (hk.2 q hm).elim d (by omega), e, by rw [hk.1 q (by omega) c d]; exact f⟩
    repeat' (first | (simp -implicitDefEqProofs only [ze, Nat.reduceEqDiff, Nat.reduceAdd, Nat.reduceMul, reduceIte, Nat.reduceLT, Nat.reduceLeDiff, reduceCtorEq, Int.reduceEq, Int.reduceLT, Int.reduceLE, Int.reduceNeg, Int.reduceToNat, Nat.reduceBEq, Nat.reduceSub, qp, qf, kop, av, RQ, PQ, kres, kres1, kresL, fin, fins, fin1, V.pur?, V.pur1?, V.cells, kld, ones, V.one, Value.oneCell', own, owns, own1, xfill, ksrc, kint, vint, ksub, keqs, kok, V.val1?, ofRes, h4, h6, h0, h5, hd, enc_get, hx1, hel, nr_pur, List.length_map]) | (with_reducible refine wgd_cases ?_ ?_ <;> intro hb) | (with_reducible refine wcond_cases ?_ ?_ <;> intro hb) | (with_reducible refine qd_i (by kernel_rfl) ?_) | (with_reducible refine W_itn_cases ?_ ?_; omega))
    refine W_hp (hap _ (by omega)) ?_
    rintro _ ⟨st3, nx3, rfl, hn3, hKO, hKQ, hor⟩
    have hown3 := ownQ (by omega) hKQ hn3
    have hidn : id < nx2 := hG.choose_spec.1.1
    have hkeep3 : ∀ i, 8 ≤ i → i < nx → st3 i = st i := fun i i1 i2 => by
      rw [hKQ.1 i (by omega) (by omega) (fun hm => (hnew i hm).elim (by omega) (by omega)), hkeep i i1 i2]
    have hnew3 : New nx st3 id := newKQ hnew hKQ (by omega)
    by_cases hac : appC kept.length x = 0
    · have hd2 : decide ((0 : Int) = 0) = true := rfl
      have hchk : (checkS x).2 = 0 ∧ x.no = (kept.length : Int) + 1 := by
        unfold appC at hac
        split at hac
        · split at hac
          · exact ⟨by assumption, by assumption⟩
          · cases hac
        · rename_i h; exact absurd hac h
      have hG3 : LG st3 nx3 id (framesB start (kept ++ [x])) (sumE start (kept ++ [x])) ((kept ++ [x]).map copE) := by
        rcases hor with ⟨_, h⟩ | ⟨h, _⟩
        · rw [framesB_snoc, sumE_snoc, List.map_append]; exact h
        · exact absurd hac h
      have hgx : goodE x := ⟨hxs, hxr, hchk.1⟩
      have hgood3 : ∀ e ∈ kept ++ [x], goodE e := fun e he => by
        rcases List.mem_append.1 he with h | h
        · exact hgood e h
        · rw [List.mem_singleton.1 h]; exact hgx
      have hnum3 : numOK 0 (kept ++ [x]) := numOK_snoc kept 0 x hnum (by rw [hchk.2]; omega)
      have hidl : id < nx3 := by omega
      rcases hown3 with ⟨hk0, hv0⟩ | ⟨q, q1, q2, q3, q4, q5, q6⟩
      · subst hk0
        obtain ⟨rfl, rfl⟩ : ve = 0 ∧ vr = 1 := by injection hv0 with a b c; exact ⟨a, c⟩
        have hac0 : appC 0 x = 0 := hac
        repeat' (first | (simp -implicitDefEqProofs only [ze, Nat.reduceEqDiff, Nat.reduceAdd, Nat.reduceMul, reduceIte, Nat.reduceLT, Nat.reduceLeDiff, reduceCtorEq, Int.reduceEq, Int.reduceLT, Int.reduceLE, Int.reduceNeg, Int.reduceToNat, Nat.reduceBEq, Nat.reduceSub, qp, qf, kop, av, RQ, PQ, kres, kres1, kresL, fin, fins, fin1, V.pur?, V.pur1?, V.cells, kld, ones, V.one, Value.oneCell', own, owns, own1, xfill, ksrc, kint, vint, ksub, keqs, kok, V.val1?, ofRes, h4, h6, h0, h5, hd2, enc_get, hx1, hel, nxj, nr_pur, List.length_map, hup, hac0, List.map_nil, List.length_nil]) | (with_reducible refine wgd_cases ?_ ?_ <;> intro hb) | (with_reducible refine wcond_cases ?_ ?_ <;> intro hb) | (with_reducible refine qd_i (by kernel_rfl) ?_) | (with_reducible refine W_itn_cases ?_ ?_; omega))
        exact ⟨l.length - (i + 1), by omega, i + 1, [] ++ [x], _, rfl, by omega, by omega, rfl, rfl, by simp, hgood3, hnum3, lgU (nx' := nx3 + 88) (lgU hG3 (show nx3 ≤ nx3 + 40 by omega) (Nat.le_refl _) (some (.tok 1 31))) (show nx3 ≤ nx3 + 48 by omega) (by omega) (some (.tok 1 31)), .inr ⟨nx3 + 48, by omega, by omega, by omega, fun hm => by rw [toks_upd _ (show id ≠ nx3 + 48 by omega), toks_upd _ (show id ≠ nx3 + 40 by omega)] at hm; rcases lgTok hG3 hm with h | h <;> omega, rfl, by rw [upd_at, if_pos rfl]; rfl⟩, newU (newU hnew3 _ (by omega)) _ (by omega), fun j j1 j2 => by rw [if_neg (by omega), if_neg (by omega)]; exact hkeep3 j j1 j2, fun e xs q h => by injection h; omega⟩
      · obtain ⟨rfl, rfl⟩ : ve = 31 ∧ vr = q := by injection q5 with a b c; exact ⟨a, c⟩
        have hr0 : (vr = 0) = False := eq_false (by omega)
        have hr1 : (vr = 1) = False := eq_false (by omega)
        have hrx : ∀ j, (vr = nx3 + j) = False := fun j => eq_false (by omega)
        have hrx' : ∀ j, (nx3 + j = vr) = False := fun j => eq_false (by omega)
        repeat' (first | (simp -implicitDefEqProofs only [ze, Nat.reduceEqDiff, Nat.reduceAdd, Nat.reduceMul, reduceIte, Nat.reduceLT, Nat.reduceLeDiff, reduceCtorEq, Int.reduceEq, Int.reduceLT, Int.reduceLE, Int.reduceNeg, Int.reduceToNat, Nat.reduceBEq, Nat.reduceSub, qp, qf, kop, av, RQ, PQ, kres, kres1, kresL, fin, fins, fin1, V.pur?, V.pur1?, V.cells, kld, ones, V.one, Value.oneCell', own, owns, own1, xfill, ksrc, kint, vint, ksub, keqs, kok, V.val1?, ofRes, h4, h6, h0, h5, hd2, hac, enc_get, hx1, hel, nxj, nr_pur, List.length_map, hup, hr0, hr1, hrx, hrx', q6]) | (with_reducible refine wgd_cases ?_ ?_ <;> intro hb) | (with_reducible refine wcond_cases ?_ ?_ <;> intro hb) | (with_reducible refine qd_i (by kernel_rfl) ?_) | (with_reducible refine W_itn_cases ?_ ?_; omega))
        have hvq2 : vr = 1 ∨ nx ≤ vr := hvq _ _ vr rfl
        have ht1 : vr ∉ toksAt (upd st3 (nx3 + 40) (some (.tok 1 31))) id := by rw [toks_upd _ (show id ≠ nx3 + 40 by omega)]; exact q4
        have hL0 := lgN (nx' := nx3 + 88) (lgU hG3 (show nx3 ≤ nx3 + 40 by omega) (Nat.le_refl _) (some (.tok 1 31))) ht1 q3 (by omega) (some (.tok (kept.length + 1) 31))
        exact ⟨l.length - (i + 1), by omega, i + 1, kept ++ [x], _, rfl, by omega, by omega, rfl, rfl, by rw [List.length_append]; show kept.length + 1 ≤ i + 1; omega, hgood3, hnum3, hL0, .inr ⟨vr, q1, by omega, q3, fun hm => by rw [toks_upd _ (fun e => q3 e.symm)] at hm; exact ht1 hm, by rw [List.map_append]; rfl, by rw [upd_at, if_pos rfl, List.length_append]; rfl⟩, newU (newU hnew3 _ (by omega)) _ (fun e => q3 e.symm), fun j j1 j2 => by rw [if_neg (by omega), if_neg (by omega)]; exact hkeep3 j j1 j2, fun e xs q h => by injection h; omega⟩
    · have hd2 : decide (appC kept.length x = 0) = false := decide_eq_false hac
      have hG3 : LG st3 nx3 id (framesB start kept) (sumE start kept) (kept.map copE) := by
        rcases hor with ⟨h, _⟩ | ⟨_, h⟩
        · exact absurd h hac
        · exact h
      repeat' (first | (simp -implicitDefEqProofs only [ze, Nat.reduceEqDiff, Nat.reduceAdd, Nat.reduceMul, reduceIte, Nat.reduceLT, Nat.reduceLeDiff, reduceCtorEq, Int.reduceEq, Int.reduceLT, Int.reduceLE, Int.reduceNeg, Int.reduceToNat, Nat.reduceBEq, Nat.reduceSub, qp, qf, kop, av, RQ, PQ, kres, kres1, kresL, fin, fins, fin1, V.pur?, V.pur1?, V.cells, kld, ones, V.one, Value.oneCell', own, owns, own1, xfill, ksrc, kint, vint, ksub, keqs, kok, V.val1?, ofRes, h4, h6, h0, h5, hd2, enc_get, hx1, hel, nxj, nr_pur, List.length_map, hup]) | (with_reducible refine wgd_cases ?_ ?_ <;> intro hb) | (with_reducible refine wcond_cases ?_ ?_ <;> intro hb) | (with_reducible refine qd_i (by kernel_rfl) ?_) | (with_reducible refine W_itn_cases ?_ ?_; omega))
      exact ⟨l.length - (i + 1), by omega, i + 1, kept, _, rfl, by omega, by omega, rfl, rfl, by omega, hgood, hnum, lgLe hG3 (by omega), own_le hown3 (by omega), hnew3, hkeep3, hvq⟩
  · have hd : decide ((i : Int) < (l.length : Int)) = false := decide_eq_false (by omega)
    repeat' (first | (simp -implicitDefEqProofs only [ze, Nat.reduceEqDiff, Nat.reduceAdd, Nat.reduceMul, reduceIte, Nat.reduceLT, Nat.reduceLeDiff, reduceCtorEq, Int.reduceEq, Int.reduceLT, Int.reduceLE, Int.reduceNeg, Int.reduceToNat, Nat.reduceBEq, Nat.reduceSub, qp, qf, kop, av, RQ, PQ, kres, kres1, kresL, fin, fins, fin1, V.pur?, V.pur1?, V.cells, kld, ones, V.one, Value.oneCell', own, owns, own1, xfill, ksrc, kint, vint, ksub, keqs, kok, V.val1?, ofRes, h4, h6, h0, h5, hd, List.length_map]) | (with_reducible refine wgd_cases ?_ ?_ <;> intro hb) | (with_reducible refine wcond_cases ?_ ?_ <;> intro hb) | (with_reducible refine qd_i (by kernel_rfl) ?_) | (with_reducible refine W_itn_cases ?_ ?_; omega))
    exact ⟨_, _, id, _, kept, rfl, by omega, by omega, lgLe hG (by omega), own_le hown (by omega), hnew, hgood, hnum, by omega, hkeep, hvq⟩
end Go.Proofs.YtkbheoganajhaaaDoor.Vm
set_option maxRecDepth 100000
namespace Go.Proofs.YtkbheoganajhaaaDoor.Vm
open Go Go.Proofs
theorem slives_ok : L.pl 9 [] = some (.ret (.sc (.bool true))) := pl_calc 60 (by kernel_rfl)
end Go.Proofs.YtkbheoganajhaaaDoor.Vm
set_option maxRecDepth 10000
set_option linter.unusedVariables false
set_option linter.unusedSimpArgs false
namespace Go.Proofs.YtkbheoganajhaaaDoor.Vm
open Go Go.Proofs
def lightE (e : Entry) : Prop := e.lines.length ≤ 120 ∧ e.ref.size ≤ 200
theorem encE_get (es : List Entry) (i : Nat) : (es.map encE)[i]? = (es[i]?).map encE := by simp
theorem light_ok (es : List Entry) (hs : ∀ e ∈ es, smallE e) (hl : es.length < 4611686018427387904) (r : Nat) : W (L.pl 8 [.list 31 (es.map encE) r]) fun q => ∃ b, q = .ret (.sc (.bool b)) ∧ (b = true → es.length ≤ 12 ∧ ∀ e ∈ es, lightE e) := by
  refine pl_w k8_eq ?_
  simp only [k8]
  by_cases hc : 12 < es.length
  · have hd : decide ((12 : Int) < (es.length : Int)) = true := decide_eq_true (by omega)
    repeat' (first | (simp -implicitDefEqProofs only [ze, Nat.reduceEqDiff, Nat.reduceAdd, Nat.reduceMul, reduceIte, Nat.reduceLT, Nat.reduceLeDiff, reduceCtorEq, Int.reduceEq, Int.reduceLT, Int.reduceLE, Int.reduceNeg, Int.reduceToNat, Nat.reduceBEq, Nat.reduceSub, qp, qf, kop, av, RQ, PQ, kres, kres1, kresL, fin, fins, fin1, V.pur?, V.pur1?, V.cells, kld, ones, V.one, Value.oneCell', own, owns, own1, xfill, ksrc, kint, vint, ksub, keqs, kok, V.val1?, ofRes, hd, List.length_map]) | (with_reducible refine wgd_cases ?_ ?_ <;> intro hb) | (with_reducible refine wcond_cases ?_ ?_ <;> intro hb) | (with_reducible refine qd_i (by kernel_rfl) ?_) | (with_reducible refine W_itn_cases ?_ ?_; omega))
    exact ⟨false, rfl, fun h => by cases h⟩
  have hd : decide ((12 : Int) < (es.length : Int)) = false := decide_eq_false (by omega)
  repeat' (first | (simp -implicitDefEqProofs only [ze, Nat.reduceEqDiff, Nat.reduceAdd, Nat.reduceMul, reduceIte, Nat.reduceLT, Nat.reduceLeDiff, reduceCtorEq, Int.reduceEq, Int.reduceLT, Int.reduceLE, Int.reduceNeg, Int.reduceToNat, Nat.reduceBEq, Nat.reduceSub, qp, qf, kop, av, RQ, PQ, kres, kres1, kresL, fin, fins, fin1, V.pur?, V.pur1?, V.cells, kld, ones, V.one, Value.oneCell', own, owns, own1, xfill, ksrc, kint, vint, ksub, keqs, kok, V.val1?, ofRes, hd, List.length_map]) | (with_reducible refine wgd_cases ?_ ?_ <;> intro hb) | (with_reducible refine wcond_cases ?_ ?_ <;> intro hb) | (with_reducible refine qd_i (by kernel_rfl) ?_) | (with_reducible refine W_itn_cases ?_ ?_; omega))
  refine loop_w (fun n tm st nx => ∃ (i : Nat), n = es.length - i ∧ i ≤ es.length ∧ tm 3 = .i64 i ∧ tm 0 = .list 31 (es.map encE) r ∧ ∀ e ∈ es.take i, lightE e) es.length ⟨0, by omega, by omega, ?_, ?_, by simp⟩ ?_
  · simp -implicitDefEqProofs only [ze, Nat.reduceEqDiff, Nat.reduceAdd, Nat.reduceMul, reduceIte, Nat.reduceLT, Nat.reduceLeDiff, reduceCtorEq, Int.reduceEq, Int.reduceLT, Int.reduceLE, Int.reduceNeg, Int.reduceToNat, Nat.reduceBEq, Nat.reduceSub, qp, qf, kop, av, RQ, PQ, kres, kres1, kresL, fin, fins, fin1, V.pur?, V.pur1?, V.cells, kld, ones, V.one, Value.oneCell', own, owns, own1, xfill, ksrc, kint, vint, ksub, keqs, kok, V.val1?, ofRes]; rfl
  · simp -implicitDefEqProofs only [ze, Nat.reduceEqDiff, Nat.reduceAdd, Nat.reduceMul, reduceIte, Nat.reduceLT, Nat.reduceLeDiff, reduceCtorEq, Int.reduceEq, Int.reduceLT, Int.reduceLE, Int.reduceNeg, Int.reduceToNat, Nat.reduceBEq, Nat.reduceSub, qp, qf, kop, av, RQ, PQ, kres, kres1, kresL, fin, fins, fin1, V.pur?, V.pur1?, V.cells, kld, ones, V.one, Value.oneCell', own, owns, own1, xfill, ksrc, kint, vint, ksub, keqs, kok, V.val1?, ofRes]; try rfl
  rintro n tm st nx ⟨i, hn, hi, h3, h0, hp⟩
  simp only [k8_l0, k8_t0]
  by_cases hlt : i < es.length
  · have hd2 : decide ((i : Int) < (es.length : Int)) = true := decide_eq_true (by omega)
    obtain ⟨e, he1⟩ := get_lt (l := es) (i := i) hlt
    have hm := List.mem_of_getElem? he1
    have hse := hs e hm
    have hlen := hse.len
    have hup : IntKind.i64.wrap ((i : Int) + 1) = ((i + 1 : Nat) : Int) := wrap_i64 (by omega) (by omega)
    by_cases h1 : 120 < e.lines.length
    · have hd3 : decide ((120 : Int) < (e.lines.length : Int)) = true := decide_eq_true (by omega)
      repeat' (first | (simp -implicitDefEqProofs only [ze, Nat.reduceEqDiff, Nat.reduceAdd, Nat.reduceMul, reduceIte, Nat.reduceLT, Nat.reduceLeDiff, reduceCtorEq, Int.reduceEq, Int.reduceLT, Int.reduceLE, Int.reduceNeg, Int.reduceToNat, Nat.reduceBEq, Nat.reduceSub, qp, qf, kop, av, RQ, PQ, kres, kres1, kresL, fin, fins, fin1, V.pur?, V.pur1?, V.cells, kld, ones, V.one, Value.oneCell', own, owns, own1, xfill, ksrc, kint, vint, ksub, keqs, kok, V.val1?, ofRes, h3, h0, hd2, encE_get, he1, encE, hd3, List.length_map]) | (with_reducible refine wgd_cases ?_ ?_ <;> intro hb) | (with_reducible refine wcond_cases ?_ ?_ <;> intro hb) | (with_reducible refine qd_i (by kernel_rfl) ?_) | (with_reducible refine W_itn_cases ?_ ?_; omega))
      exact ⟨false, rfl, fun h => by cases h⟩
    · have hd3 : decide ((120 : Int) < (e.lines.length : Int)) = false := decide_eq_false (by omega)
      by_cases h2 : 200 < e.ref.size
      · have hd4 : decide ((200 : Int) < (e.ref.size : Int)) = true := decide_eq_true (by omega)
        repeat' (first | (simp -implicitDefEqProofs only [ze, Nat.reduceEqDiff, Nat.reduceAdd, Nat.reduceMul, reduceIte, Nat.reduceLT, Nat.reduceLeDiff, reduceCtorEq, Int.reduceEq, Int.reduceLT, Int.reduceLE, Int.reduceNeg, Int.reduceToNat, Nat.reduceBEq, Nat.reduceSub, qp, qf, kop, av, RQ, PQ, kres, kres1, kresL, fin, fins, fin1, V.pur?, V.pur1?, V.cells, kld, ones, V.one, Value.oneCell', own, owns, own1, xfill, ksrc, kint, vint, ksub, keqs, kok, V.val1?, ofRes, h3, h0, hd2, encE_get, he1, encE, hd3, hd4, List.length_map]) | (with_reducible refine wgd_cases ?_ ?_ <;> intro hb) | (with_reducible refine wcond_cases ?_ ?_ <;> intro hb) | (with_reducible refine qd_i (by kernel_rfl) ?_) | (with_reducible refine W_itn_cases ?_ ?_; omega))
        exact ⟨false, rfl, fun h => by cases h⟩
      · have hd4 : decide ((200 : Int) < (e.ref.size : Int)) = false := decide_eq_false (by omega)
        repeat' (first | (simp -implicitDefEqProofs only [ze, Nat.reduceEqDiff, Nat.reduceAdd, Nat.reduceMul, reduceIte, Nat.reduceLT, Nat.reduceLeDiff, reduceCtorEq, Int.reduceEq, Int.reduceLT, Int.reduceLE, Int.reduceNeg, Int.reduceToNat, Nat.reduceBEq, Nat.reduceSub, qp, qf, kop, av, RQ, PQ, kres, kres1, kresL, fin, fins, fin1, V.pur?, V.pur1?, V.cells, kld, ones, V.one, Value.oneCell', own, owns, own1, xfill, ksrc, kint, vint, ksub, keqs, kok, V.val1?, ofRes, h3, h0, hd2, encE_get, he1, encE, hd3, hd4, hup, List.length_map]) | (with_reducible refine wgd_cases ?_ ?_ <;> intro hb) | (with_reducible refine wcond_cases ?_ ?_ <;> intro hb) | (with_reducible refine qd_i (by kernel_rfl) ?_) | (with_reducible refine W_itn_cases ?_ ?_; omega))
        refine ⟨es.length - (i + 1), by omega, i + 1, rfl, by omega, rfl, fun x hx => ?_⟩
        rw [List.take_add_one, he1] at hx
        simp only [Option.toList_some, List.mem_append, List.mem_singleton] at hx
        rcases hx with hx | rfl
        · exact hp x hx
        · exact ⟨by omega, by omega⟩
  · have hd2 : decide ((i : Int) < (es.length : Int)) = false := decide_eq_false (by omega)
    have hin : i = es.length := by omega
    rw [hin, List.take_length] at hp
    repeat' (first | (simp -implicitDefEqProofs only [ze, Nat.reduceEqDiff, Nat.reduceAdd, Nat.reduceMul, reduceIte, Nat.reduceLT, Nat.reduceLeDiff, reduceCtorEq, Int.reduceEq, Int.reduceLT, Int.reduceLE, Int.reduceNeg, Int.reduceToNat, Nat.reduceBEq, Nat.reduceSub, qp, qf, kop, av, RQ, PQ, kres, kres1, kresL, fin, fins, fin1, V.pur?, V.pur1?, V.cells, kld, ones, V.one, Value.oneCell', own, owns, own1, xfill, ksrc, kint, vint, ksub, keqs, kok, V.val1?, ofRes, h3, h0, hd2, List.length_map]) | (with_reducible refine wgd_cases ?_ ?_ <;> intro hb) | (with_reducible refine wcond_cases ?_ ?_ <;> intro hb) | (with_reducible refine qd_i (by kernel_rfl) ?_) | (with_reducible refine W_itn_cases ?_ ?_; omega))
    exact ⟨true, rfl, fun _ => ⟨by omega, hp⟩⟩
end Go.Proofs.YtkbheoganajhaaaDoor.Vm
set_option maxRecDepth 10000
set_option linter.unusedVariables false
set_option linter.unusedSimpArgs false
namespace Go.Proofs.YtkbheoganajhaaaDoor.Vm
open Go Go.Proofs
theorem lgSt8 {st st' : St} {nx nx' id : Nat} {out : List Int} {s : Int} {es : List Entry} (h : LG st nx id out s es) (h8 : 8 ≤ id) (hk : ∀ i, 8 ≤ i → i < nx → st' i = st i) (hn : nx ≤ nx') : LG st' nx' id out s es := by
  obtain ⟨w, ⟨h1, v, h2, h3⟩, h4⟩ := h
  refine ⟨w, ⟨by omega, v, by rw [hk id h8 h1]; exact h2, ?_⟩, ?_⟩
  · rcases h3 with h | ⟨r, a, b, c, d⟩
    · exact .inl h
    · exact .inr ⟨r, a, by omega, c, by rw [hk r a b]; exact d⟩
  · rcases h4 with h | ⟨r, a, b, c, d⟩
    · exact .inl h
    · exact .inr ⟨r, a, by omega, c, by rw [hk r a b]; exact d⟩
theorem lgKQ {st st' : St} {nx nx' nx'' id id2 : Nat} {out : List Int} {s : Int} {es : List Entry} (h : LG st nx id2 out s es) (k : KQ st st' nx' id) (hn : nx ≤ nx') (hn2 : nx ≤ nx'') (hne : id2 ≠ id) (hnt : id2 ∉ toksAt st id) (ht : ∀ k, k ∈ toksAt st id2 → k = 1 ∨ (k ≠ id ∧ k ∉ toksAt st id)) : LG st' nx'' id2 out s es := by
  obtain ⟨w, ⟨h1, v, h2, h3⟩, h4⟩ := h
  simp only [toksAt, h2, List.mem_cons, List.not_mem_nil, or_false] at ht
  refine ⟨w, ⟨by omega, v, by rw [k.1 id2 (by omega) hne hnt]; exact h2, ?_⟩, ?_⟩
  · rcases h3 with h | ⟨r, a, b, c, d⟩
    · exact .inl h
    · obtain q | ⟨q1, q2⟩ := ht r (.inl (by rw [c]; rfl))
      · omega
      · exact .inr ⟨r, a, by omega, c, by rw [k.1 r (by omega) q1 q2]; exact d⟩
  · rcases h4 with h | ⟨r, a, b, c, d⟩
    · exact .inl h
    · obtain q | ⟨q1, q2⟩ := ht r (.inr (by rw [c]; rfl))
      · omega
      · exact .inr ⟨r, a, by omega, c, by rw [k.1 r (by omega) q1 q2]; exact d⟩
theorem good_lens {e : Entry} (h : goodE e) : e.lines.length < 1000000 ∧ ∀ l ∈ e.lines, l.tags.length < 1000000 := by
  have hp := h.plain
  exact ⟨by have := hp.len; omega, fun l hl => by have := (hp.lines l hl).len; omega⟩
theorem fix_nil (e : Entry) : nilE (fixE e) := by
  refine ⟨fun h => ?_, fun l hl => ?_⟩
  · have h : e.lines.isEmpty = true := h
    have : e.lines = [] := by simpa using h
    show e.lines.map fixL = []
    rw [this]; rfl
  · obtain ⟨l0, _, rfl⟩ := List.mem_map.1 hl
    intro h
    have h : l0.tags.isEmpty = true := h
    show l0.tags = []
    simpa using h
theorem opened_same (kept : List Entry) (hg : ∀ e ∈ kept, goodE e) (hl : kept.length < 1000000) (t1 t2 r1 r2 : Nat) (h1 : kept = [] ∨ t1 = 31) (h2 : kept = [] ∨ t2 = 31) :
    L.pl 18 [.list t1 (((kept.map fixE).map copE).map encE) r1, .list t2 (kept.map encE) r2] = some (.ret (.sc (.bool true))) := by
  refine sames_true ((kept.map fixE).map copE) kept (by simp only [List.map_map]; apply List.map_congr_left; intro e he; show (copE (fixE e)).k = e.k; rw [cop_k, fix_k]) (fun e he => ?_) (fun e he => (hg e he).sm.nils) (by rw [List.length_map, List.length_map]; omega) t1 t2 r1 r2 (h1.imp_left fun h => by rw [h]; rfl) h2
  obtain ⟨e1, he1, rfl⟩ := List.mem_map.1 he
  obtain ⟨e2, he2, rfl⟩ := List.mem_map.1 he1
  obtain ⟨a, b⟩ := good_lens (hg e2 he2)
  refine ⟨?_, ?_, cop_nil _⟩
  · show ((e2.lines.map fixL).map copL).length < 1000000
    rw [List.length_map, List.length_map]; exact a
  · intro l hl
    obtain ⟨l1, hl1, rfl⟩ := List.mem_map.1 hl
    obtain ⟨l2, hl2, rfl⟩ := List.mem_map.1 hl1
    exact b l2 hl2
theorem frames_inR : ∀ (l : List Entry) (s : Int), u64r s → (∀ e ∈ l, goodE e) → bOK (framesB s l)
  | [], _, _, _ => fun b hb => by simp [framesB] at hb
  | y :: r, s, hs, hg => fun b hb => by
    simp only [framesB, frameB_eq, List.mem_append] at hb
    have hy := hg y (List.mem_cons_self ..)
    rcases hb with (((hb | hb) | hb) | hb) | hb
    · exact four_ok _ b hb
    · exact four_ok _ b hb
    · exact entryB_inR hy.plain b hb
    · exact sumB_inR _ (nextI_r _ _ hs) b hb
    · exact frames_inR r _ (nextI_r _ _ hs) (fun e he => hg e (List.mem_cons_of_mem _ he)) b hb
set_option maxHeartbeats 1000000 in
theorem sback_ok (l : List Entry) (x : Entry) (hs : ∀ e ∈ l, smallE e ∧ rangeE e) (hl : l.length < 4611686018427387904) (hx : smallE x) (rx : rangeE x) : L.pl 4 [.list 31 (l.map encE) 0, encE x] = some (.ret (.sc (.bool true))) := by
  refine W_of (pl_w k4_eq ?_)
  simp only [k4]
  obtain ⟨_, hq, b, rfl, hb1⟩ := light_ok l (fun e he => (hs e he).1) hl 0
  have hel : encE x = .agg [.i64 x.no, .str x.ent, .i64 x.book, .i64 x.val, .i64 x.kind, .str x.ref, .str x.who, .i64 x.rev, .list (te x.lr 61) (x.lines.map encL) (nr x.lr)] := rfl
  have hX := light_ok [x] (fun e he => by rw [List.mem_singleton.1 he]; exact hx) (by simp) 0
  obtain ⟨_, hqx, bx, rfl, hbx⟩ := hX
  simp only [List.map_cons, List.map_nil, encE] at hqx
  rw [hel]
  cases b
  · repeat' (first | (simp -implicitDefEqProofs only [ze, Nat.reduceEqDiff, Nat.reduceAdd, Nat.reduceMul, reduceIte, Nat.reduceLT, Nat.reduceLeDiff, reduceCtorEq, Int.reduceEq, Int.reduceLT, Int.reduceLE, Int.reduceNeg, Int.reduceToNat, Nat.reduceBEq, Nat.reduceSub, qp, qf, kop, av, RQ, PQ, kres, kres1, kresL, fin, fins, fin1, V.pur?, V.pur1?, V.cells, kld, ones, V.one, Value.oneCell', own, owns, own1, xfill, ksrc, kint, vint, ksub, keqs, kok, V.val1?, ofRes, hq, slives_ok]) | (with_reducible refine wgd_cases ?_ ?_ <;> intro hb) | (with_reducible refine wcond_cases ?_ ?_ <;> intro hb) | (with_reducible refine qd_i (by kernel_rfl) ?_) | (with_reducible refine W_itn_cases ?_ ?_; omega))
  obtain ⟨hl12, hlight⟩ := hb1 rfl
  cases bx
  · repeat' (first | (simp -implicitDefEqProofs only [ze, Nat.reduceEqDiff, Nat.reduceAdd, Nat.reduceMul, reduceIte, Nat.reduceLT, Nat.reduceLeDiff, reduceCtorEq, Int.reduceEq, Int.reduceLT, Int.reduceLE, Int.reduceNeg, Int.reduceToNat, Nat.reduceBEq, Nat.reduceSub, qp, qf, kop, av, RQ, PQ, kres, kres1, kresL, fin, fins, fin1, V.pur?, V.pur1?, V.cells, kld, ones, V.one, Value.oneCell', own, owns, own1, xfill, ksrc, kint, vint, ksub, keqs, kok, V.val1?, ofRes, hq, hqx, nr_pur, slives_ok]) | (with_reducible refine wgd_cases ?_ ?_ <;> intro hb) | (with_reducible refine wcond_cases ?_ ?_ <;> intro hb) | (with_reducible refine qd_i (by kernel_rfl) ?_) | (with_reducible refine W_itn_cases ?_ ?_; omega))
  repeat' (first | (simp -implicitDefEqProofs only [ze, Nat.reduceEqDiff, Nat.reduceAdd, Nat.reduceMul, reduceIte, Nat.reduceLT, Nat.reduceLeDiff, reduceCtorEq, Int.reduceEq, Int.reduceLT, Int.reduceLE, Int.reduceNeg, Int.reduceToNat, Nat.reduceBEq, Nat.reduceSub, qp, qf, kop, av, RQ, PQ, kres, kres1, kresL, fin, fins, fin1, V.pur?, V.pur1?, V.cells, kld, ones, V.one, Value.oneCell', own, owns, own1, xfill, ksrc, kint, vint, ksub, keqs, kok, V.val1?, ofRes, hq, hqx, nr_pur, slives_ok]) | (with_reducible refine wgd_cases ?_ ?_ <;> intro hb) | (with_reducible refine wcond_cases ?_ ?_ <;> intro hb) | (with_reducible refine qd_i (by kernel_rfl) ?_) | (with_reducible refine W_itn_cases ?_ ?_; omega))
  refine W_hp (fill_ok l hs hl12 _ _ (by omega) _) ?_
  rintro _ ⟨st1, nx1, g, v, kept, rfl, hn1, hg1, hG, hown, hnew, hgood, hnum, hkl, hk1, hvq⟩
  have hfl := framesB_len2 kept start hgood
  have hkc : (kept.map copE).length = kept.length := List.length_map _
  have hkf : (kept.map fixE).length = kept.length := List.length_map _
  have hopen := openS_all kept start 0 _ hgood hnum (Nat.le_refl _)
  have hbx1 : st1 8 = some (.cells [V.i64 x.no, V.str x.ent, V.i64 x.book, V.i64 x.val, V.i64 x.kind, V.str x.ref, V.str x.who, V.i64 x.rev, V.list (te x.lr 61) (List.map encL x.lines) (nr x.lr)]) := (hk1 8 (by omega) (by omega)).trans (by simp [upd_at])
  obtain ⟨ve, vr, rfl, hve⟩ : ∃ ve vr, v = .list ve (kept.map encE) vr ∧ (kept = [] ∨ ve = 31) := by
    rcases hown with ⟨rfl, rfl⟩ | ⟨q, _, _, _, _, rfl, _⟩
    · exact ⟨0, 1, rfl, .inl rfl⟩
    · exact ⟨_, q, rfl, .inr rfl⟩
  repeat' (first | (simp -implicitDefEqProofs only [ze, Nat.reduceEqDiff, Nat.reduceAdd, Nat.reduceMul, reduceIte, Nat.reduceLT, Nat.reduceLeDiff, reduceCtorEq, Int.reduceEq, Int.reduceLT, Int.reduceLE, Int.reduceNeg, Int.reduceToNat, Nat.reduceBEq, Nat.reduceSub, qp, qf, kop, av, RQ, PQ, kres, kres1, kresL, fin, fins, fin1, V.pur?, V.pur1?, V.cells, kld, ones, V.one, Value.oneCell', own, owns, own1, xfill, ksrc, kint, vint, ksub, keqs, kok, V.val1?, ofRes]) | (with_reducible refine wgd_cases ?_ ?_ <;> intro hb) | (with_reducible refine wcond_cases ?_ ?_ <;> intro hb) | (with_reducible refine qd_i (by kernel_rfl) ?_) | (with_reducible refine W_itn_cases ?_ ?_; omega))
  refine W_hp (lbytes_ok (lgLe hG (by omega)) (by omega)) ?_
  rintro _ ⟨st2, nx2, j2, rfl, hn2, hj2, hk2⟩
  repeat' (first | (simp -implicitDefEqProofs only [ze, Nat.reduceEqDiff, Nat.reduceAdd, Nat.reduceMul, reduceIte, Nat.reduceLT, Nat.reduceLeDiff, reduceCtorEq, Int.reduceEq, Int.reduceLT, Int.reduceLE, Int.reduceNeg, Int.reduceToNat, Nat.reduceBEq, Nat.reduceSub, qp, qf, kop, av, RQ, PQ, kres, kres1, kresL, fin, fins, fin1, V.pur?, V.pur1?, V.cells, kld, ones, V.one, Value.oneCell', own, owns, own1, xfill, ksrc, kint, vint, ksub, keqs, kok, V.val1?, ofRes]) | (with_reducible refine wgd_cases ?_ ?_ <;> intro hb) | (with_reducible refine wcond_cases ?_ ?_ <;> intro hb) | (with_reducible refine qd_i (by kernel_rfl) ?_) | (with_reducible refine W_itn_cases ?_ ?_; omega))
  refine W_hp (open_ok (framesB start kept) (frames_inR kept start start_r hgood) (by omega) _ _ (by omega) _) ?_
  rw [hopen]
  rintro _ ⟨st3, nx3, h, rfl, hn3, hh3, hH, hk3, hnewh⟩
  simp only [List.take_length] at hH
  have hg3 : LG st3 nx3 g (framesB start kept) (sumE start kept) (kept.map copE) := lgSt8 hG (by omega) (fun i i1 i2 => by rw [hk3 i i1 (by omega), hk2 i (by omega)]) (by omega)
  have hgl : g < nx1 := hG.choose_spec.1.1
  have hbx3 := (hk3 8 (by omega) (by omega)).trans ((hk2 8 (by omega)).trans hbx1)
  have hdl : decide (((framesB start kept).length : Int) = ((framesB start kept).length : Int)) = true := decide_eq_true rfl
  have hz : decide ((0 : Int) = 0) = true := rfl
  have hdu : decide (sumE start kept = sumE start kept) = true := decide_eq_true rfl
  repeat' (first | (simp -implicitDefEqProofs only [ze, Nat.reduceEqDiff, Nat.reduceAdd, Nat.reduceMul, reduceIte, Nat.reduceLT, Nat.reduceLeDiff, reduceCtorEq, Int.reduceEq, Int.reduceLT, Int.reduceLE, Int.reduceNeg, Int.reduceToNat, Nat.reduceBEq, Nat.reduceSub, qp, qf, kop, av, RQ, PQ, kres, kres1, kresL, fin, fins, fin1, V.pur?, V.pur1?, V.cells, kld, ones, V.one, Value.oneCell', own, owns, own1, xfill, ksrc, kint, vint, ksub, keqs, kok, V.val1?, ofRes, hdl, hz, bv_len]) | (with_reducible refine wgd_cases ?_ ?_ <;> intro hb) | (with_reducible refine wcond_cases ?_ ?_ <;> intro hb) | (with_reducible refine qd_i (by kernel_rfl) ?_) | (with_reducible refine W_itn_cases ?_ ?_; omega))
  refine W_hp (lent_ok (lgLe hH (by omega)) (by rw [hkf]; omega) (fun e he => ?_)) ?_
  · obtain ⟨e2, he2, rfl⟩ := List.mem_map.1 he
    obtain ⟨a, b⟩ := good_lens (hgood e2 he2)
    refine ⟨fix_nil _, ?_, ?_⟩
    · show (e2.lines.map fixL).length < 1000000
      rw [List.length_map]; exact a
    · intro l hl
      obtain ⟨l2, hl2, rfl⟩ := List.mem_map.1 hl
      exact b l2 hl2
  rintro _ ⟨st4, nx4, t4, q4, rfl, hn4, ht4, hk4⟩
  have hE := opened_same kept hgood (by omega) t4 ve (if q4 = 1 then 1 else 0) (if vr = 1 then 1 else 0) (ht4.imp_left fun h => by simpa using h) hve
  have hmm : ((kept.map fixE).map fun e => encE (copE e)) = ((kept.map fixE).map copE).map encE := by simp only [List.map_map]; rfl
  rw [hmm]
  repeat' (first | (simp -implicitDefEqProofs only [ze, Nat.reduceEqDiff, Nat.reduceAdd, Nat.reduceMul, reduceIte, Nat.reduceLT, Nat.reduceLeDiff, reduceCtorEq, Int.reduceEq, Int.reduceLT, Int.reduceLE, Int.reduceNeg, Int.reduceToNat, Nat.reduceBEq, Nat.reduceSub, qp, qf, kop, av, RQ, PQ, kres, kres1, kresL, fin, fins, fin1, V.pur?, V.pur1?, V.cells, kld, ones, V.one, Value.oneCell', own, owns, own1, xfill, ksrc, kint, vint, ksub, keqs, kok, V.val1?, ofRes, hE]) | (with_reducible refine wgd_cases ?_ ?_ <;> intro hb) | (with_reducible refine wcond_cases ?_ ?_ <;> intro hb) | (with_reducible refine qd_i (by kernel_rfl) ?_) | (with_reducible refine W_itn_cases ?_ ?_; omega))
  have hH4 := lgSt hH (fun i hi => hk4 i (by omega)) (show nx3 ≤ nx4 by omega)
  have hG4 := lgSt hg3 (fun i hi => hk4 i (by omega)) (show nx3 ≤ nx4 by omega)
  have hbx4 := (hk4 8 (by omega)).trans hbx3
  have htH : ∀ k, k ∈ toksAt st4 h → k = 1 ∨ nx2 + 72 ≤ k := fun k hk => hnewh k (by
    have e : toksAt st4 h = toksAt st3 h := by unfold toksAt; rw [hk4 h (by have := hH.choose_spec.1.1; omega)]
    rw [e] at hk; exact hk)
  have htG : ∀ k, k ∈ toksAt st4 g → k = 1 ∨ (152 ≤ k ∧ k < nx1) := fun k hk => by
    have e : toksAt st4 g = toksAt st1 g := by unfold toksAt; rw [hk4 g (by omega), hk3 g (by omega) (by omega), hk2 g (by omega)]
    rw [e] at hk
    rcases lgTok hG hk with h | h <;> rcases hnew k hk with h' | h' <;> omega
  refine W_hp (lsum_ok hH4) ?_
  rintro _ ⟨nx5, rfl, hn5⟩
  repeat' (first | (simp -implicitDefEqProofs only [ze, Nat.reduceEqDiff, Nat.reduceAdd, Nat.reduceMul, reduceIte, Nat.reduceLT, Nat.reduceLeDiff, reduceCtorEq, Int.reduceEq, Int.reduceLT, Int.reduceLE, Int.reduceNeg, Int.reduceToNat, Nat.reduceBEq, Nat.reduceSub, qp, qf, kop, av, RQ, PQ, kres, kres1, kresL, fin, fins, fin1, V.pur?, V.pur1?, V.cells, kld, ones, V.one, Value.oneCell', own, owns, own1, xfill, ksrc, kint, vint, ksub, keqs, kok, V.val1?, ofRes]) | (with_reducible refine wgd_cases ?_ ?_ <;> intro hb) | (with_reducible refine wcond_cases ?_ ?_ <;> intro hb) | (with_reducible refine qd_i (by kernel_rfl) ?_) | (with_reducible refine W_itn_cases ?_ ?_; omega))
  refine W_hp (lsum_ok (lgLe hG4 (by omega))) ?_
  rintro _ ⟨nx6, rfl, hn6⟩
  repeat' (first | (simp -implicitDefEqProofs only [ze, Nat.reduceEqDiff, Nat.reduceAdd, Nat.reduceMul, reduceIte, Nat.reduceLT, Nat.reduceLeDiff, reduceCtorEq, Int.reduceEq, Int.reduceLT, Int.reduceLE, Int.reduceNeg, Int.reduceToNat, Nat.reduceBEq, Nat.reduceSub, qp, qf, kop, av, RQ, PQ, kres, kres1, kresL, fin, fins, fin1, V.pur?, V.pur1?, V.cells, kld, ones, V.one, Value.oneCell', own, owns, own1, xfill, ksrc, kint, vint, ksub, keqs, kok, V.val1?, ofRes, hdu, hbx4]) | (with_reducible refine W_itn_cases ?_ ?_; omega))
  have hA := append_ok (lgLe hG4 (show nx4 ≤ nx6 + 56 by omega)) x hx rx (sumE_r _ start_r) (by omega) (by rw [hkc]; omega)
  rw [hkc, hel] at hA
  refine W_hp hA ?_
  rintro _ ⟨st5, nx7, rfl, hn7, hKO5, hKQ5, hor5⟩
  have hhl : h < nx3 := hH.choose_spec.1.1
  have hgood2 : appC kept.length x = 0 → goodE x := fun hac => by
    refine ⟨hx, rx, ?_⟩
    unfold appC at hac
    split at hac
    · assumption
    · rename_i h; exact absurd hac h
  obtain ⟨out', s', eg, hG5, ho5, ho1, ho2, ho3⟩ : ∃ out' s' eg, LG st5 nx7 g out' s' eg ∧ s' = (if appC kept.length x = 0 then nextI (sumE start kept) (entryB x) else sumE start kept) ∧ out' = (if appC kept.length x = 0 then framesB start kept ++ frameB (entryB x) (nextI (sumE start kept) (entryB x)) else framesB start kept) ∧ eg.length = (if appC kept.length x = 0 then kept.length + 1 else kept.length) ∧ out'.length ≤ 1000000000 := by
    rcases hor5 with ⟨h, h'⟩ | ⟨h, h'⟩
    · refine ⟨_, _, _, h', by rw [if_pos h], by rw [if_pos h], by rw [if_pos h, List.length_append, hkc]; rfl, ?_⟩
      have := entryB_len2 (hgood2 h).plain
      rw [List.length_append, frameB_len]; omega
    · exact ⟨_, _, _, h', by rw [if_neg h], by rw [if_neg h], by rw [if_neg h, hkc], by omega⟩
  have hbx5 : st5 8 = st4 8 := hKQ5.1 8 (by omega) (by omega) (fun hm => by rcases htG 8 hm with h | h <;> omega)
  have hH5 := lgKQ hH4 hKQ5 (by omega) (show nx4 ≤ nx7 by omega) (by omega) (fun hm => by rcases htG h hm with h | h <;> omega) (fun k hk => by
    rcases htH k hk with h | h
    · exact .inl h
    · refine .inr ⟨by omega, fun hm => by rcases htG k hm with h | h <;> omega⟩)
  have hB := append_ok hH5 x hx rx (sumE_r _ start_r) (by omega) (by rw [hkf]; omega)
  rw [hkf, hel] at hB
  repeat' (first | (simp -implicitDefEqProofs only [ze, Nat.reduceEqDiff, Nat.reduceAdd, Nat.reduceMul, reduceIte, Nat.reduceLT, Nat.reduceLeDiff, reduceCtorEq, Int.reduceEq, Int.reduceLT, Int.reduceLE, Int.reduceNeg, Int.reduceToNat, Nat.reduceBEq, Nat.reduceSub, qp, qf, kop, av, RQ, PQ, kres, kres1, kresL, fin, fins, fin1, V.pur?, V.pur1?, V.cells, kld, ones, V.one, Value.oneCell', own, owns, own1, xfill, ksrc, kint, vint, ksub, keqs, kok, V.val1?, ofRes, hdu, hbx4, hbx5, wnx_tb, wnx_tbn]) | (with_reducible refine W_itn_cases ?_ ?_; omega))
  refine W_hp hB ?_
  rintro _ ⟨st6, nx8, rfl, hn8, hKO6, hKQ6, hor6⟩
  have hda : decide (appC kept.length x = appC kept.length x) = true := decide_eq_true rfl
  repeat' (first | (simp -implicitDefEqProofs only [ze, Nat.reduceEqDiff, Nat.reduceAdd, Nat.reduceMul, reduceIte, Nat.reduceLT, Nat.reduceLeDiff, reduceCtorEq, Int.reduceEq, Int.reduceLT, Int.reduceLE, Int.reduceNeg, Int.reduceToNat, Nat.reduceBEq, Nat.reduceSub, qp, qf, kop, av, RQ, PQ, kres, kres1, kresL, fin, fins, fin1, V.pur?, V.pur1?, V.cells, kld, ones, V.one, Value.oneCell', own, owns, own1, xfill, ksrc, kint, vint, ksub, keqs, kok, V.val1?, ofRes, hdu, hbx4, hbx5, hda, wnx_tb, wnx_tbn]) | (with_reducible refine W_itn_cases ?_ ?_; omega))
  refine qd_2 ?_ ?_
  · simp [recsOk2, ordB, pairOk, bigF, δF, rF, disj, List.range, List.range.loop, seqSt, upds_nil, hbx5]
    exact ⟨.inl (by decide), by decide, .inl (by decide)⟩
  obtain ⟨eh, hH6, ho4⟩ : ∃ eh, LG st6 nx8 h out' s' eh ∧ eh.length = eg.length := by
    rcases hor6 with ⟨h, h'⟩ | ⟨h, h'⟩
    · rw [if_pos h] at ho1 ho2 ho5
      rw [ho1, ho2, ho5]
      exact ⟨_, h', by rw [List.length_append, hkf]; rfl⟩
    · rw [if_neg h] at ho1 ho2 ho5
      rw [ho1, ho2, ho5]
      exact ⟨_, h', hkf⟩
  have hegl : eg.length ≤ 1000 := by rw [ho2]; split <;> omega
  have htG5 : ∀ k, k ∈ toksAt st5 g → k = 1 ∨ (152 ≤ k ∧ k < nx1) ∨ nx6 + 56 ≤ k := fun k hk => by
    rcases hKQ5.2 k hk with h | h
    · rcases htG k h with h | h
      · exact .inl h
      · exact .inr (.inl h)
    · exact .inr (.inr h)
  have htH5 : ∀ k, k ∈ toksAt st5 h → k = 1 ∨ (nx2 + 72 ≤ k ∧ k < nx4) := fun k hk => by
    have e : toksAt st5 h = toksAt st4 h := by
      unfold toksAt
      rw [hKQ5.1 h (by omega) (by omega) (fun hm => by rcases htG h hm with h | h <;> omega)]
    rw [e] at hk
    rcases htH k hk with h | h <;> rcases lgTok hH4 hk with h' | h' <;> omega
  have hG6 := lgKQ hG5 hKQ6 (Nat.le_refl _) hn8 (by omega) (fun hm => by rcases htH5 g hm with h | h <;> omega) (fun k hk => by
    rcases htG5 k hk with h1 | h1 | h1
    · exact .inl h1
    · exact .inr ⟨by omega, fun hm => by rcases htH5 k hm with h | h <;> omega⟩
    · exact .inr ⟨by omega, fun hm => by rcases htH5 k hm with h | h <;> omega⟩)
  have hdb : decide (({ data := (out'.map fun n => UInt8.ofNat n.toNat).toArray } : ByteArray) = { data := (out'.map fun n => UInt8.ofNat n.toNat).toArray }) = true := decide_eq_true rfl
  have hde : decide ((eg.length : Int) = (eg.length : Int)) = true := decide_eq_true rfl
  repeat' (first | (simp -implicitDefEqProofs only [ze, Nat.reduceEqDiff, Nat.reduceAdd, Nat.reduceMul, reduceIte, Nat.reduceLT, Nat.reduceLeDiff, reduceCtorEq, Int.reduceEq, Int.reduceLT, Int.reduceLE, Int.reduceNeg, Int.reduceToNat, Nat.reduceBEq, Nat.reduceSub, qp, qf, kop, av, RQ, PQ, kres, kres1, kresL, fin, fins, fin1, V.pur?, V.pur1?, V.cells, kld, ones, V.one, Value.oneCell', own, owns, own1, xfill, ksrc, kint, vint, ksub, keqs, kok, V.val1?, ofRes, wnx_tb, wnx_tbn]) | (with_reducible refine W_itn_cases ?_ ?_; omega))
  refine W_hp (lbytes_ok (lgLe hG6 (by omega)) (by omega)) ?_
  rintro _ ⟨st7, nx9, j7, rfl, hn9, hj7, hk7⟩
  repeat' (first | (simp -implicitDefEqProofs only [ze, Nat.reduceEqDiff, Nat.reduceAdd, Nat.reduceMul, reduceIte, Nat.reduceLT, Nat.reduceLeDiff, reduceCtorEq, Int.reduceEq, Int.reduceLT, Int.reduceLE, Int.reduceNeg, Int.reduceToNat, Nat.reduceBEq, Nat.reduceSub, qp, qf, kop, av, RQ, PQ, kres, kres1, kresL, fin, fins, fin1, V.pur?, V.pur1?, V.cells, kld, ones, V.one, Value.oneCell', own, owns, own1, xfill, ksrc, kint, vint, ksub, keqs, kok, V.val1?, ofRes, bytesOfV_bv, wnx_tb, wnx_tbn]) | (with_reducible refine W_itn_cases ?_ ?_; omega))
  have hG7 := lgSt hG6 (fun i hi => hk7 i (by omega)) (show nx8 ≤ nx9 by omega)
  have hH7 := lgSt hH6 (fun i hi => hk7 i (by omega)) (show nx8 ≤ nx9 by omega)
  refine W_hp (lbytes_ok (lgLe hH7 (by omega)) (by omega)) ?_
  rintro _ ⟨st8, nx10, j8, rfl, hn10, hj8, hk8⟩
  have hG8 := lgSt hG7 (fun i hi => hk8 i (by omega)) (show nx9 ≤ nx10 by omega)
  have hH8 := lgSt hH7 (fun i hi => hk8 i (by omega)) (show nx9 ≤ nx10 by omega)
  repeat' (first | (simp -implicitDefEqProofs only [ze, Nat.reduceEqDiff, Nat.reduceAdd, Nat.reduceMul, reduceIte, Nat.reduceLT, Nat.reduceLeDiff, reduceCtorEq, Int.reduceEq, Int.reduceLT, Int.reduceLE, Int.reduceNeg, Int.reduceToNat, Nat.reduceBEq, Nat.reduceSub, qp, qf, kop, av, RQ, PQ, kres, kres1, kresL, fin, fins, fin1, V.pur?, V.pur1?, V.cells, kld, ones, V.one, Value.oneCell', own, owns, own1, xfill, ksrc, kint, vint, ksub, keqs, kok, V.val1?, ofRes, bytesOfV_bv, hdb, wnx_tb, wnx_tbn]) | (with_reducible refine W_itn_cases ?_ ?_; omega))
  refine W_hp (len_ok (lgLe hG8 (by omega)) (by omega)) ?_
  rintro _ ⟨nx11, rfl, hn11⟩
  repeat' (first | (simp -implicitDefEqProofs only [ze, Nat.reduceEqDiff, Nat.reduceAdd, Nat.reduceMul, reduceIte, Nat.reduceLT, Nat.reduceLeDiff, reduceCtorEq, Int.reduceEq, Int.reduceLT, Int.reduceLE, Int.reduceNeg, Int.reduceToNat, Nat.reduceBEq, Nat.reduceSub, qp, qf, kop, av, RQ, PQ, kres, kres1, kresL, fin, fins, fin1, V.pur?, V.pur1?, V.cells, kld, ones, V.one, Value.oneCell', own, owns, own1, xfill, ksrc, kint, vint, ksub, keqs, kok, V.val1?, ofRes, bytesOfV_bv, hdb, wnx_tb, wnx_tbn]) | (with_reducible refine W_itn_cases ?_ ?_; omega))
  refine W_hp (len_ok (lgLe hH8 (by omega)) (by omega)) ?_
  rintro _ ⟨nx12, rfl, hn12⟩
  rw [ho4]
  repeat' (first | (simp -implicitDefEqProofs only [ze, Nat.reduceEqDiff, Nat.reduceAdd, Nat.reduceMul, reduceIte, Nat.reduceLT, Nat.reduceLeDiff, reduceCtorEq, Int.reduceEq, Int.reduceLT, Int.reduceLE, Int.reduceNeg, Int.reduceToNat, Nat.reduceBEq, Nat.reduceSub, qp, qf, kop, av, RQ, PQ, kres, kres1, kresL, fin, fins, fin1, V.pur?, V.pur1?, V.cells, kld, ones, V.one, Value.oneCell', own, owns, own1, xfill, ksrc, kint, vint, ksub, keqs, kok, V.val1?, ofRes, bytesOfV_bv, hdb, hde, slives_ok, wnx_tb, wnx_tbn]) | (with_reducible refine W_itn_cases ?_ ?_; omega))
  refine qd_2 ?_ ?_
  · simp [recsOk2, ordB, pairOk, bigF, δF, rF, disj, List.range, List.range.loop, seqSt, upds_nil]
    try decide
  · simp -implicitDefEqProofs only [ze, Nat.reduceEqDiff, Nat.reduceAdd, Nat.reduceMul, reduceIte, Nat.reduceLT, Nat.reduceLeDiff, reduceCtorEq, Int.reduceEq, Int.reduceLT, Int.reduceLE, Int.reduceNeg, Int.reduceToNat, Nat.reduceBEq, Nat.reduceSub, qp, qf, kop, av, RQ, PQ, kres, kres1, kresL, fin, fins, fin1, V.pur?, V.pur1?, V.cells, kld, ones, V.one, Value.oneCell', own, owns, own1, xfill, ksrc, kint, vint, ksub, keqs, kok, V.val1?, ofRes]
    try rfl
end Go.Proofs.YtkbheoganajhaaaDoor.Vm
namespace Go.Proofs.YtkbheoganajhaaaDoor.storeBack
open Go.ChangeShapes Go.WideShapes Go.ChangeAt Go.RowKit Go.Proofs Go.Proofs.YtkbheoganajhaaaDoor.Vm
set_option linter.unusedVariables false
theorem own : ownKnob Tryd.prog.godebug = none := by kernel_rfl
theorem laidOut : laidOutB Tryd.prog = true := by kernel_rfl
set_option maxRecDepth 100000 in
theorem door_met (os : Os) (args : Array Value) : laidMetH Tryd.prog Rows.storeBackRow.laid ((World.doorLaid Tryd.prog 400 os).forCall (fun _ _ => 0) ⟨#[], args, []⟩).memory :=
  laidMetH_of_parts3 (fuel := 8) (laidMet_of_run' 8 (by kernel_rfl) (by kernel_rfl)) (by kernel_rfl) (by kernel_rfl)
set_option maxRecDepth 100000 in
theorem lifted (os : Os) (started : os.Started) (H : Type) (enc : TypeId × Value → H) :
    ReturnsInHanded {} Tryd.checked os 4 .any (fun w args => (Rows.storeBackSpec.pre enc Tryd.prog Tryd.f4 [] false w args ∧ laidMetH Tryd.prog Rows.storeBackRow.laid w) ∧ sizedMet enc Tryd.prog Tryd.f4 (OpenSpec.ofChange Rows.storeBackSpec) false w args) (Rows.storeBackSpec.post enc Tryd.prog Tryd.f4 false true false false) := by
  refine returnsInHanded_of_change_and (C := Tryd.checked) (X := fun w _ => laidMetH Tryd.prog Rows.storeBackRow.laid w) (fun _ _ _ hh h => h.of_heap hh) own started (by kernel_rfl) Tryd.func4
    (ChangeSpec.witness_shaped (enc := enc) (C := Tryd.checked) (os := os) (X := fun w _ => laidMetH Tryd.prog Rows.storeBackRow.laid w) false (World.doorLaid Tryd.prog 400 os) #[.slice none 0 0, .agg #[.int .i64 0, .string ByteArray.empty, .int .i64 0, .int .i64 0, .int .i64 0, .string ByteArray.empty, .string ByteArray.empty, .int .i64 0, .slice none 0 0]] 8 rfl (World.shaped_of_RefB (by kernel_rfl) (by kernel_rfl)) (by kernel_rfl) (by kernel_rfl) (by kernel_rfl) (door_met os _)) ?_
  intro W base args ds gs before hval0 hW hcnd hsz0 hL _
  have hval : ∀ (j : Nat) t v, Tryd.f4.params[j]? = some t → args[j]? = some v → Value.okWide Tryd.prog W .any base t v := hval0
  have hW' := hW
  obtain ⟨p, q, hA0, hV, rfl, hfz, hnd⟩ := hW
  have hA : DataW.TrodAll enc Tryd.prog W 0 (fun _ => true) true Tryd.f4.params.toList args.toList ds p := hA0
  rw [Tryd.params4] at hA hval
  obtain ⟨v0, vs0, d0, ds0, p0, q0, hargs, rfl, rfl, h0, r0⟩ := trodAll_cons hA
  obtain ⟨v1, vs1, d1, ds1, p1, q1, rfl, rfl, rfl, h1, r1⟩ := trodAll_cons r0
  obtain ⟨rfl, rfl, rfl⟩ := trodAll_nil r1
  obtain rfl : args = #[v0, v1] := by cases args; simp_all
  obtain ⟨rfl, rfl⟩ := trodVars_none hV
  have hw0 : ∀ n ∈ d0.weights Tryd.prog 22, n ≤ reachBytes := fun n hn => by have := List.all_eq_true.1 hsz0 n (DataW.weights_mem_each (t := 22) (d := d0) (j := 0) (by kernel_rfl) rfl n hn); simpa using this
  have k0 := h0
  have lt0 : ∀ x ∈ p0, x.block < W.heap.size := by obtain ⟨m, hm⟩ := k0; exact DataW.trod_lt m _ _ _ hm
  obtain ⟨a0, len0, cap0, rfl⟩ := okWide_slice Tryd.underlying22 (hval 0 22 v0 rfl rfl)
  obtain ⟨fuel0, hf0⟩ := h0
  obtain ⟨x0, K0, o0, g0⟩ := opEntries hf0 hw0
  have R0 : RepP Tryd.prog (pw W) (V.list 31 (x0.map encE) 0) (.slice a0 len0 cap0) := by
    cases K0 with
    | cons h _ => exact h
  have hw1 : ∀ n ∈ d1.weights Tryd.prog 31, n ≤ reachBytes := fun n hn => by have := List.all_eq_true.1 hsz0 n (DataW.weights_mem_each (t := 31) (d := d1) (j := 1) (by kernel_rfl) rfl n hn); simpa using this
  have k1 := h1
  have lt1 : ∀ x ∈ p1, x.block < W.heap.size := by obtain ⟨m, hm⟩ := k1; exact DataW.trod_lt m _ _ _ hm
  obtain ⟨cs1, rfl, hzz1⟩ := okWide_struct Tryd.underlying31 (hval 1 31 v1 rfl rfl)
  obtain ⟨fuel1, hf1⟩ := h1
  obtain ⟨x1, K1, o1, g1⟩ := opEntry hf1 hw1
  have R1 : RepP Tryd.prog (pw W) (encE x1) (.agg cs1) := by
    have e : (.agg cs1 : Value) = .agg cs1.toList.toArray := by simp
    rw [e]; exact .agg o1 K1
  have hx := sback_ok x0 x1 (fun e he => ⟨gE_small (g0.2 e he), gE_range (g0.2 e he)⟩) (gEs_len g0) (gE_small g1) (gE_range g1)
  refine (lim_bool (p := pw W) progOK (extOK_none _ _) (f := 4) (by kernel_rfl) hx (glOK_of (lens_of_laid hL)) (fun _ _ _ h => h) (.cons R0 (.cons R1 .nil))).mono fun e W' ⟨he, bel0⟩ => ?_
  have bel : Below W.heap.size W W' := bel0
  subst he
  exact ⟨_, rfl, _, _, _, [], _, [], hW', trodAll_mk1 (shut_bool Tryd.underlying4 _), (trodAll_cons_mk (Below.trod laidOut (by kernel_rfl) (of_decide_eq_true (by kernel_rfl)) k0 bel lt0) (trodAll_cons_mk (Below.trod laidOut (by kernel_rfl) (of_decide_eq_true (by kernel_rfl)) k1 bel lt1) trodAll_mk0)), rfl, bel.frame _, fun h => by cases h⟩
theorem over : Rows.storeBackRow.holds Tryd.pinned (OpenSpec.ofChange Rows.storeBackSpec) :=
  OpenClaim.holds_of_wide 4 Tryd.f4 rfl rfl rfl rfl rfl rfl rfl ⟨rfl, rfl, rfl, rfl, rfl⟩ rfl rfl rfl rfl rfl (by kernel_rfl) Tryd.func4 (by kernel_rfl)
    (of_decide_eq_true (by kernel_rfl)) (by unfold Func.isWrapper; first | (rw [if_pos (by decide +kernel)]; kernel_rfl) | (rw [if_neg (by decide +kernel)]; exact ⟨rfl, rfl⟩))
    (fun os started H enc _ => lifted os started H enc)
theorem proved : Rows.StoreBackCardSaid :=
  Claim7.holds_tied_plain_at .later [] [.data] true (true, "dab5baafd3f7e2d3dd590dded3ffba4af860eca88e8101f43347723f7eadb8b9") true
    over (fun _ h => by cases h) (by kernel_rfl) (fun _ h => by cases h) storeBack_row_tie rfl ⟨rfl, rfl⟩ (by kernel_rfl) rfl
    (fun f fn hf hfn => by
      obtain rfl : f = 4 := Option.some.inj ((show Tryd.prog.funcNamed "accounting/accountinglaw18.StoreBack" = some 4 by kernel_rfl).symm.trans hf) |>.symm
      obtain rfl : fn = Tryd.f4 := (Option.some.inj (Tryd.func4.symm.trans hfn)).symm
      exact ⟨by kernel_rfl, fun j t ht => by
        rw [Tryd.params4] at ht
        have hm : t ∈ [22, 31] := by simpa using Array.mem_of_getElem? ht
        have hall : ([22, 31].all fun u => !Tryd.prog.wantsStandIn u) = true := by kernel_rfl
        exact (show Tryd.prog.wantsStandIn t = false by simpa using List.all_eq_true.1 hall t hm)⟩)
    (by kernel_rfl)
end Go.Proofs.YtkbheoganajhaaaDoor.storeBack
namespace Go.Proofs.YtkbheoganajhaaaDoor
theorem storeBack_holds : Rows.StoreBackCardSaid := storeBack.proved
end Go.Proofs.YtkbheoganajhaaaDoor
