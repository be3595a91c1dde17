/- Proved here: what the columns' methods return and do. Conditions: none. -/
import Derived.Test.YtkbheoganajhaaaDoorVs11
set_option maxRecDepth 10000
set_option linter.unusedVariables false
set_option linter.unusedSimpArgs false
namespace Go.Proofs.YtkbheoganajhaaaDoor.Vm
open Go Go.Proofs
def sumOk (l : List Int) (m : Int) : Bool := inI64 l.sum && within l.sum m
theorem sum_ok (l : List Int) (r : Nat) (m : Int) (hi : ∀ x ∈ l, i64r x) (hl : l.length < 1073741824) (h0 : 0 ≤ m) (h1 : m < 4611686018427387904) : L.pl 93 [.i64 m, .list 3 (iv l) r] = some (.ret (.tup [.i64 (if sumOk l m = true then l.sum else 0), .i64 (if sumOk l m = true then 0 else 4)])) := by
  have hn : ∀ r, L.pl 102 [.list 3 (iv l) r] = some (.ret (.tup [.i64 (if inI64 l.sum = true then l.sum else 0), .bool (inI64 l.sum)])) := fun r => numsum_ok l r hi hl
  refine W_of (pl_w k93_eq ?_)
  simp only [k93]
  cases h : inI64 l.sum with
  | true =>
    simp only [h, if_true] at hn
    repeat' (first | (simp -implicitDefEqProofs only [ze, Nat.reduceEqDiff, Nat.reduceAdd, Nat.reduceMul, reduceIte, Nat.reduceLT, Nat.reduceLeDiff, reduceCtorEq, Int.reduceEq, Int.reduceLT, Int.reduceLE, Int.reduceNeg, Int.reduceToNat, Nat.reduceBEq, Nat.reduceSub, qp, qf, kop, av, RQ, PQ, kres, kres1, kresL, fin, fins, fin1, V.pur?, V.pur1?, V.cells, kld, ones, V.one, Value.oneCell', own, owns, own1, xfill, ksrc, kint, vint, ksub, keqs, kok, V.val1?, ofRes, hn, within_ok l.sum m h0 h1]) | (with_reducible refine wgd_cases ?_ ?_ <;> intro hb) | (with_reducible refine wcond_cases ?_ ?_ <;> intro hb) | (with_reducible refine qd_i (by kernel_rfl) ?_) | (with_reducible refine W_itn_cases ?_ ?_; omega))
    all_goals simp_all [sumOk]
  | false =>
    simp only [h, Bool.false_eq_true, if_false] at hn
    repeat' (first | (simp -implicitDefEqProofs only [ze, Nat.reduceEqDiff, Nat.reduceAdd, Nat.reduceMul, reduceIte, Nat.reduceLT, Nat.reduceLeDiff, reduceCtorEq, Int.reduceEq, Int.reduceLT, Int.reduceLE, Int.reduceNeg, Int.reduceToNat, Nat.reduceBEq, Nat.reduceSub, qp, qf, kop, av, RQ, PQ, kres, kres1, kresL, fin, fins, fin1, V.pur?, V.pur1?, V.cells, kld, ones, V.one, Value.oneCell', own, owns, own1, xfill, ksrc, kint, vint, ksub, keqs, kok, V.val1?, ofRes, hn]) | (with_reducible refine wgd_cases ?_ ?_ <;> intro hb) | (with_reducible refine wcond_cases ?_ ?_ <;> intro hb) | (with_reducible refine qd_i (by kernel_rfl) ?_) | (with_reducible refine W_itn_cases ?_ ?_; omega))
    all_goals simp_all [sumOk]
theorem both_ok {st : St} {nx id : Nat} {A B : List Int} {ra rb : Nat} (hid : id < nx) (hc : st id = some (.cells [.list 3 (iv A) ra, .list 3 (iv B) rb])) (hA : ∀ x ∈ A, i64r x) (hB : ∀ x ∈ B, i64r x) (hlA : A.length < 1073741824) (hlB : B.length < 1073741824) (m : Int) (h0 : 0 ≤ m) (h1 : m < 4611686018427387904) :
    W (L.hp 75 [.ptr id 0, .i64 m] st nx) fun r => ∃ nx', r = .ret (.tup [.i64 (if (sumOk A m && sumOk B m) = true then A.sum else 0), .i64 (if (sumOk A m && sumOk B m) = true then B.sum else 0), .i64 (if (sumOk A m && sumOk B m) = true then 0 else 4)]) st nx' ∧ nx ≤ nx' := by
  refine hp_w k75_eq ?_
  simp only [k75]
  have ha := fun r => sum_ok A r m hA hlA h0 h1
  have hb := fun r => sum_ok B r m hB hlB h0 h1
  cases hsA : sumOk A m with
  | true =>
    cases hsB : sumOk B m with
    | true =>
      simp only [hsA, hsB, if_true] at ha hb
      repeat' (first | (simp -implicitDefEqProofs only [ze, Nat.reduceEqDiff, Nat.reduceAdd, Nat.reduceMul, reduceIte, Nat.reduceLT, Nat.reduceLeDiff, reduceCtorEq, Int.reduceEq, Int.reduceLT, Int.reduceLE, Int.reduceNeg, Int.reduceToNat, Nat.reduceBEq, Nat.reduceSub, qp, qf, kop, av, RQ, PQ, kres, kres1, kresL, fin, fins, fin1, V.pur?, V.pur1?, V.cells, kld, ones, V.one, Value.oneCell', own, owns, own1, xfill, ksrc, kint, vint, ksub, keqs, kok, V.val1?, ofRes, hc, ha, hb]) | (with_reducible refine wgd_cases ?_ ?_ <;> intro hb) | (with_reducible refine wcond_cases ?_ ?_ <;> intro hb) | (with_reducible refine qd_i (by kernel_rfl) ?_) | (with_reducible refine W_itn_cases ?_ ?_; omega))
      all_goals (first | (exact ⟨_, rfl, by omega⟩) | simp_all)
    | false =>
      simp only [hsA, hsB, if_true, Bool.false_eq_true, if_false] at ha hb
      repeat' (first | (simp -implicitDefEqProofs only [ze, Nat.reduceEqDiff, Nat.reduceAdd, Nat.reduceMul, reduceIte, Nat.reduceLT, Nat.reduceLeDiff, reduceCtorEq, Int.reduceEq, Int.reduceLT, Int.reduceLE, Int.reduceNeg, Int.reduceToNat, Nat.reduceBEq, Nat.reduceSub, qp, qf, kop, av, RQ, PQ, kres, kres1, kresL, fin, fins, fin1, V.pur?, V.pur1?, V.cells, kld, ones, V.one, Value.oneCell', own, owns, own1, xfill, ksrc, kint, vint, ksub, keqs, kok, V.val1?, ofRes, hc, ha, hb]) | (with_reducible refine wgd_cases ?_ ?_ <;> intro hb) | (with_reducible refine wcond_cases ?_ ?_ <;> intro hb) | (with_reducible refine qd_i (by kernel_rfl) ?_) | (with_reducible refine W_itn_cases ?_ ?_; omega))
      all_goals (first | (exact ⟨_, rfl, by omega⟩) | simp_all)
  | false =>
    simp only [hsA, Bool.false_eq_true, if_false] at ha
    repeat' (first | (simp -implicitDefEqProofs only [ze, Nat.reduceEqDiff, Nat.reduceAdd, Nat.reduceMul, reduceIte, Nat.reduceLT, Nat.reduceLeDiff, reduceCtorEq, Int.reduceEq, Int.reduceLT, Int.reduceLE, Int.reduceNeg, Int.reduceToNat, Nat.reduceBEq, Nat.reduceSub, qp, qf, kop, av, RQ, PQ, kres, kres1, kresL, fin, fins, fin1, V.pur?, V.pur1?, V.cells, kld, ones, V.one, Value.oneCell', own, owns, own1, xfill, ksrc, kint, vint, ksub, keqs, kok, V.val1?, ofRes, hc, ha]) | (with_reducible refine wgd_cases ?_ ?_ <;> intro hb) | (with_reducible refine wcond_cases ?_ ?_ <;> intro hb) | (with_reducible refine qd_i (by kernel_rfl) ?_) | (with_reducible refine W_itn_cases ?_ ?_; omega))
    all_goals (first | (exact ⟨_, rfl, by omega⟩) | simp_all)
/-- A column whose lists have rights. -/
structure Col where
  key : ByteArray
  id : Nat
  A : List Int
  B : List Int
  ra : Nat
  rb : Nat
structure ColOk (st : St) (nx : Nat) (c : Col) : Prop where
  cell : st c.id = some (.cells [.list 3 (iv c.A) c.ra, .list 3 (iv c.B) c.rb])
  a : st c.ra = some (.tok c.A.length 3)
  b : st c.rb = some (.tok c.B.length 3)
  ab : c.ra ≠ c.rb
  id_lt : c.id < nx
  a_lt : c.ra < nx
  b_lt : c.rb < nx
  a8 : 8 ≤ c.ra
  b8 : 8 ≤ c.rb
theorem iv_app (A : List Int) (x : Int) : iv (A ++ [x]) = iv A ++ [V.i64 x] := by simp [iv]
theorem add_new {st : St} {nx id : Nat} (k : ByteArray) (hid : id < nx) (h8 : 8 ≤ nx) (hc : st id = some (.cells [.list 0 [] 1, .list 0 [] 1])) (l : Line) :
    W (L.hp 92 [.ptr id 0, encL l] st nx) fun r => ∃ st' nx' ra rb, r = .ret (.tup []) st' nx' ∧ nx ≤ nx' ∧ ColOk st' nx' ⟨k, id, [l.amt], [l.base], ra, rb⟩ ∧ nx ≤ ra ∧ nx ≤ rb ∧ ∀ i, i < nx → i ≠ id → st' i = st i := by
  refine hp_w k92_eq ?_
  simp only [k92, encL]
  have hne : ∀ j, (id = nx + j) = False := fun j => eq_false (by omega)
  have hne0 : (id = nx) = False := eq_false (by omega)
  have hne' : ∀ j, (nx + j = id) = False := fun j => eq_false (by omega)
  have hne0' : (nx = id) = False := eq_false (by omega)
  have hs : ∀ j, (nx = nx + (j + 1)) = False := fun j => eq_false (by omega)
  repeat' (first | (simp -implicitDefEqProofs only [ze, Nat.reduceEqDiff, Nat.reduceAdd, Nat.reduceMul, reduceIte, Nat.reduceLT, Nat.reduceLeDiff, reduceCtorEq, Int.reduceEq, Int.reduceLT, Int.reduceLE, Int.reduceNeg, Int.reduceToNat, Nat.reduceBEq, Nat.reduceSub, qp, qf, kop, av, RQ, PQ, kres, kres1, kresL, fin, fins, fin1, V.pur?, V.pur1?, V.cells, kld, ones, V.one, Value.oneCell', own, owns, own1, xfill, ksrc, kint, vint, ksub, keqs, kok, V.val1?, ofRes, hc, hne, hne', hne0, hne0', hs]) | (with_reducible refine W_itn_cases ?_ ?_; omega))
  refine qd_i ?_ ?_
  · simp [recsOk, ordB, Rec.free, Rec.wr, disj, List.range, List.range.loop, hne, hne', hne0, hne0']; try decide
  repeat' (first | (simp -implicitDefEqProofs only [ze, Nat.reduceEqDiff, Nat.reduceAdd, Nat.reduceMul, reduceIte, Nat.reduceLT, Nat.reduceLeDiff, reduceCtorEq, Int.reduceEq, Int.reduceLT, Int.reduceLE, Int.reduceNeg, Int.reduceToNat, Nat.reduceBEq, Nat.reduceSub, qp, qf, kop, av, RQ, PQ, kres, kres1, kresL, fin, fins, fin1, V.pur?, V.pur1?, V.cells, kld, ones, V.one, Value.oneCell', own, owns, own1, xfill, ksrc, kint, vint, ksub, keqs, kok, V.val1?, ofRes, hc, hne, hne', hne0, hne0', hs]) | (with_reducible refine W_itn_cases ?_ ?_; omega))
  refine qd_i ?_ ?_
  · simp [recsOk, ordB, Rec.free, Rec.wr, disj, List.range, List.range.loop, hne, hne', hne0, hne0']; try decide
  simp -implicitDefEqProofs only [ze, Nat.reduceEqDiff, Nat.reduceAdd, Nat.reduceMul, reduceIte, Nat.reduceLT, Nat.reduceLeDiff, reduceCtorEq, Int.reduceEq, Int.reduceLT, Int.reduceLE, Int.reduceNeg, Int.reduceToNat, Nat.reduceBEq, Nat.reduceSub, qp, qf, kop, av, RQ, PQ, kres, kres1, kresL, fin, fins, fin1, V.pur?, V.pur1?, V.cells, kld, ones, V.one, Value.oneCell', own, owns, own1, xfill, ksrc, kint, vint, ksub, keqs, kok, V.val1?, ofRes]
  refine ⟨_, _, nx + 72, nx + 168, rfl, by omega, ⟨?_, ?_, ?_, ?_, ?_, ?_, ?_, ?_, ?_⟩, by omega, by omega, fun i h1 h2 => ?_⟩
  · simp only [upd_at, if_true]; rfl
  · simp [upd_at, hne']
  · simp [upd_at, hne']
  · show nx + 72 ≠ nx + 168; omega
  · show id < _; omega
  · show nx + 72 < _; omega
  · show nx + 168 < _; omega
  · show 8 ≤ nx + 72; omega
  · show 8 ≤ nx + 168; omega
  · have c1 : ¬ i = nx := by omega
    have c2 : ¬ i = nx + 64 := by omega
    have c3 : ¬ i = nx + 72 := by omega
    have c4 : ¬ i = nx + 160 := by omega
    have c5 : ¬ i = nx + 168 := by omega
    simp [upd_at, h2, c1, c2, c3, c4, c5]
theorem add_old {st : St} {nx : Nat} {c : Col} (h : ColOk st nx c) (l : Line) (hA : c.A.length < 1073741824) (hB : c.B.length < 1073741824) :
    W (L.hp 92 [.ptr c.id 0, encL l] st nx) fun r => ∃ st' nx', r = .ret (.tup []) st' nx' ∧ nx ≤ nx' ∧ ColOk st' nx' ⟨c.key, c.id, c.A ++ [l.amt], c.B ++ [l.base], c.ra, c.rb⟩ ∧ ∀ i, i < nx → i ≠ c.id → i ≠ c.ra → i ≠ c.rb → st' i = st i := by
  obtain ⟨k, id, A, B, ra, rb⟩ := c
  obtain ⟨hc, ha, hb, hab, hid, hal, hbl, ha8, hb8⟩ := h
  simp only at hc ha hb hab hid hal hbl ha8 hb8 hA hB
  refine hp_w k92_eq ?_
  simp only [k92, encL]
  have hne : ∀ j, (id = nx + j) = False := fun j => eq_false (by omega)
  have hne0 : (id = nx) = False := eq_false (by omega)
  have hne' : ∀ j, (nx + j = id) = False := fun j => eq_false (by omega)
  have hne0' : (nx = id) = False := eq_false (by omega)
  have hs : ∀ j, (nx = nx + (j + 1)) = False := fun j => eq_false (by omega)
  have a0 : (ra = 0) = False := eq_false (by omega)
  have a1 : (ra = 1) = False := eq_false (by omega)
  have an : ∀ j, (ra = nx + j) = False := fun j => eq_false (by omega)
  have an' : ∀ j, (nx + j = ra) = False := fun j => eq_false (by omega)
  have an0 : (ra = nx) = False := eq_false (by omega)
  have an0' : (nx = ra) = False := eq_false (by omega)
  have ai : (ra = id) = False := eq_false fun e => by subst e; rw [hc] at ha; cases ha
  have ai' : (id = ra) = False := eq_false fun e => by subst e; rw [hc] at ha; cases ha
  have b0 : (rb = 0) = False := eq_false (by omega)
  have b1 : (rb = 1) = False := eq_false (by omega)
  have bn : ∀ j, (rb = nx + j) = False := fun j => eq_false (by omega)
  have bn' : ∀ j, (nx + j = rb) = False := fun j => eq_false (by omega)
  have bn0 : (rb = nx) = False := eq_false (by omega)
  have bn0' : (nx = rb) = False := eq_false (by omega)
  have bi : (rb = id) = False := eq_false fun e => by subst e; rw [hc] at hb; cases hb
  have bi' : (id = rb) = False := eq_false fun e => by subst e; rw [hc] at hb; cases hb
  have ab : (ra = rb) = False := eq_false hab
  have ab' : (rb = ra) = False := eq_false fun e => hab e.symm
  have il := iv_len A
  have il' := iv_len B
  repeat' (first | (simp -implicitDefEqProofs only [ze, Nat.reduceEqDiff, Nat.reduceAdd, Nat.reduceMul, reduceIte, Nat.reduceLT, Nat.reduceLeDiff, reduceCtorEq, Int.reduceEq, Int.reduceLT, Int.reduceLE, Int.reduceNeg, Int.reduceToNat, Nat.reduceBEq, Nat.reduceSub, qp, qf, kop, av, RQ, PQ, kres, kres1, kresL, fin, fins, fin1, V.pur?, V.pur1?, V.cells, kld, ones, V.one, Value.oneCell', own, owns, own1, xfill, ksrc, kint, vint, ksub, keqs, kok, V.val1?, ofRes, hc, hne, hne', hne0, hne0', hs, a0, a1, an, an0, an0', bn0', ai, ai', b0, b1, bn, bn0, bi, bi', ab, ab', ha, hb, iv_len]) | (with_reducible refine W_itn_cases ?_ ?_; omega))
  refine qd_i ?_ ?_
  · simp [recsOk, ordB, Rec.free, Rec.wr, disj, List.range, List.range.loop, hne, hne', hne0, hne0', an, an', an0, an0', ai, ai', bn, bn', bn0, bn0', bi, bi', ab, ab']; try decide
  repeat' (first | (simp -implicitDefEqProofs only [ze, Nat.reduceEqDiff, Nat.reduceAdd, Nat.reduceMul, reduceIte, Nat.reduceLT, Nat.reduceLeDiff, reduceCtorEq, Int.reduceEq, Int.reduceLT, Int.reduceLE, Int.reduceNeg, Int.reduceToNat, Nat.reduceBEq, Nat.reduceSub, qp, qf, kop, av, RQ, PQ, kres, kres1, kresL, fin, fins, fin1, V.pur?, V.pur1?, V.cells, kld, ones, V.one, Value.oneCell', own, owns, own1, xfill, ksrc, kint, vint, ksub, keqs, kok, V.val1?, ofRes, hc, hne, hne', hne0, hne0', hs, a0, a1, an, an0, an0', bn0', ai, ai', b0, b1, bn, bn0, bi, bi', ab, ab', ha, hb, iv_len]) | (with_reducible refine W_itn_cases ?_ ?_; omega))
  refine qd_i ?_ ?_
  · simp [recsOk, ordB, Rec.free, Rec.wr, disj, List.range, List.range.loop, hne, hne', hne0, hne0', an, an', an0, an0', ai, ai', bn, bn', bn0, bn0', bi, bi', ab, ab']; try decide
  simp -implicitDefEqProofs only [ze, Nat.reduceEqDiff, Nat.reduceAdd, Nat.reduceMul, reduceIte, Nat.reduceLT, Nat.reduceLeDiff, reduceCtorEq, Int.reduceEq, Int.reduceLT, Int.reduceLE, Int.reduceNeg, Int.reduceToNat, Nat.reduceBEq, Nat.reduceSub, qp, qf, kop, av, RQ, PQ, kres, kres1, kresL, fin, fins, fin1, V.pur?, V.pur1?, V.cells, kld, ones, V.one, Value.oneCell', own, owns, own1, xfill, ksrc, kint, vint, ksub, keqs, kok, V.val1?, ofRes]
  refine ⟨_, _, rfl, by omega, ⟨?_, ?_, ?_, hab, ?_, ?_, ?_, ha8, hb8⟩, fun i h1 h2 h3 h4 => ?_⟩
  · simp only [upd_at, if_true, iv_app]
  · simp [upd_at, ai, ab, hab, an]
  · simp [upd_at, bi, ab', bn]
  · show id < _; omega
  · show ra < _; omega
  · show rb < _; omega
  · have c1 : ¬ i = nx := by omega
    have c2 : ¬ i = nx + 64 := by omega
    have c4 : ¬ i = nx + 160 := by omega
    simp [upd_at, h2, h3, h4, c1, c2, c4]
end Go.Proofs.YtkbheoganajhaaaDoor.Vm
