/- Proved here: what the methods of the decoder do. Conditions: none. -/
import Derived.Test.YtojbkakdhfmjmaaDoorVt1
set_option maxRecDepth 10000
set_option linter.unusedVariables false
set_option linter.unusedSimpArgs false
namespace Go.Proofs.YtojbkakdhfmjmaaDoor.Vm
open Go Go.Proofs
/-- A decoder that has read a part of its bytes. -/
def Dec (st : St) (nx id : Nat) (bs : List Int) (rr at_ : Nat) : Prop := id < nx ∧ at_ ≤ bs.length ∧ st id = some (.cells [.list 5 (bv bs) rr, .i64 at_])
def KeepX (st st' : St) (nx id : Nat) : Prop := ∀ i, i < nx → i ≠ id → st' i = st i
theorem KeepX.trans {s0 s1 s2 : St} {n0 n1 id : Nat} (h : KeepX s0 s1 n0 id) (k : KeepX s1 s2 n1 id) (hn : n0 ≤ n1) : KeepX s0 s2 n0 id := fun i h1 h2 => (k i (by omega) h2).trans (h i h1 h2)
theorem KeepX.refl (st : St) (nx id : Nat) : KeepX st st nx id := fun _ _ _ => rfl
theorem KeepX.upd {s0 s1 : St} {n0 id j : Nat} (h : KeepX s0 s1 n0 id) (hj : n0 ≤ j) (o : Option Ob) : KeepX s0 (upd s1 j o) n0 id := fun i h1 h2 => by rw [upd_at, if_neg (by omega)]; exact h i h1 h2
theorem Dec.upd {st : St} {nx nx' id j : Nat} {bs : List Int} {rr a : Nat} (h : Dec st nx id bs rr a) (hj : nx ≤ j) (hn : nx ≤ nx') (o : Option Ob) : Dec (upd st j o) nx' id bs rr a := ⟨Nat.lt_of_lt_of_le h.1 hn, h.2.1, by rw [upd_at, if_neg (by have := h.1; omega)]; exact h.2.2⟩
theorem Dec.le {st : St} {nx nx' id : Nat} {bs : List Int} {rr a : Nat} (h : Dec st nx id bs rr a) (hn : nx ≤ nx') : Dec st nx' id bs rr a := ⟨Nat.lt_of_lt_of_le h.1 hn, h.2⟩
/-- What a decoder throws. -/
def errV (e : Int) : V := .ifc 61 (.agg [.i64 e])
/-- What reading comes to: the error thrown, or a value. -/
def DP {α : Type} (st : St) (nx id : Nat) (bs : List Int) (rr : Nat) (o : Except Int (α × Nat)) (Q : α → V → St → Nat → Prop) (r : HR) : Prop := match o with
  | .error e => ∃ st' nx', r = .pan (errV e) st' nx' ∧ nx ≤ nx' ∧ KeepX st st' nx id
  | .ok p => ∃ v st' nx', r = .ret v st' nx' ∧ nx ≤ nx' ∧ KeepX st st' nx id ∧ Dec st' nx' id bs rr p.2 ∧ Q p.1 v st' nx'
theorem dend_ok {st : St} {nx id : Nat} {bs : List Int} {rr a : Nat} (h : Dec st nx id bs rr a) (hl : bs.length < 4611686018427387904) (u : Nat) (hu : a + u ≤ bs.length) :
    W (L.hp 25 [.ptr id 0, .i64 u, .i64 0] st nx) fun r => ∃ st' nx', r = .ret (.tup []) st' nx' ∧ nx ≤ nx' ∧ Dec st' nx' id bs rr (a + u) ∧ KeepX st st' nx id := by
  refine hp_w k25_eq ?_
  simp only [k25]
  obtain ⟨h1, h2, h3⟩ := h
  have hw : IntKind.i64.wrap ((a : Int) + (u : Int)) = ((a + u : Nat) : Int) := by rw [wrap_i64 (by omega) (by omega)]; omega
  repeat' (first | (simp -implicitDefEqProofs only [ze, Nat.reduceEqDiff, Nat.reduceAdd, Nat.reduceMul, reduceIte, Nat.reduceLT, Nat.reduceLeDiff, reduceCtorEq, Int.reduceEq, Int.reduceLT, Int.reduceLE, Int.reduceNeg, Int.reduceToNat, Nat.reduceBEq, Nat.reduceSub, qp, qf, kop, av, RQ, PQ, kres, kres1, kresL, fin, fins, fin1, V.pur?, V.pur1?, V.cells, kld, ones, V.one, Value.oneCell', own, owns, own1, xfill, ksrc, kint, vint, ksub, keqs, kok, V.val1?, ofRes, h3, hw]) | (with_reducible refine wgd_cases ?_ ?_ <;> intro hb) | (with_reducible refine wcond_cases ?_ ?_ <;> intro hb) | (with_reducible refine qd_i (by kernel_rfl) ?_) | (with_reducible refine W_itn_cases ?_ ?_; omega))
  exact ⟨_, _, rfl, by omega, ⟨by omega, hu, by rw [upd_at, if_pos rfl]⟩, fun i g1 g2 => by rw [upd_at, if_neg g2]⟩
theorem dend_bad {st : St} {nx id : Nat} (u e : Int) (he : ¬ e = 0) :
    W (L.hp 25 [.ptr id 0, .i64 u, .i64 e] st nx) fun r => ∃ st' nx', r = .pan (errV e) st' nx' ∧ nx ≤ nx' ∧ KeepX st st' nx id := by
  refine hp_w k25_eq ?_
  simp only [k25]
  have hd : decide (e = 0) = false := decide_eq_false he
  repeat' (first | (simp -implicitDefEqProofs only [ze, Nat.reduceEqDiff, Nat.reduceAdd, Nat.reduceMul, reduceIte, Nat.reduceLT, Nat.reduceLeDiff, reduceCtorEq, Int.reduceEq, Int.reduceLT, Int.reduceLE, Int.reduceNeg, Int.reduceToNat, Nat.reduceBEq, Nat.reduceSub, qp, qf, kop, av, RQ, PQ, kres, kres1, kresL, fin, fins, fin1, V.pur?, V.pur1?, V.cells, kld, ones, V.one, Value.oneCell', own, owns, own1, xfill, ksrc, kint, vint, ksub, keqs, kok, V.val1?, ofRes, hd, ne_eq, not_true_eq_false, gt_iff_lt]) | (with_reducible refine wgd_cases ?_ ?_ <;> intro hb) | (with_reducible refine wcond_cases ?_ ?_ <;> intro hb) | (with_reducible refine qd_i (by kernel_rfl) ?_) | (with_reducible refine W_itn_cases ?_ ?_; omega))
  exact ⟨_, _, rfl, by omega, fun i g1 g2 => rfl⟩
def dInt (bs : List Int) (a : Nat) : Except Int (Int × Nat) :=
  if (Co.tS (bs.drop a) 0 0).2.2 = 0 then .ok ((Co.tS (bs.drop a) 0 0).1, a + (Co.tS (bs.drop a) 0 0).2.1.toNat) else .error (Co.tS (bs.drop a) 0 0).2.2
def dText (bs : List Int) (a : Nat) : Except Int (ByteArray × Nat) :=
  if (tT (bs.drop a)).2.2 = 0 then .ok ((tT (bs.drop a)).1, a + (tT (bs.drop a)).2.1.toNat) else .error (tT (bs.drop a)).2.2
def dCount (most : Int) (bs : List Int) (a : Nat) : Except Int (Int × Nat) := match dInt bs a with
  | .error e => .error e
  | .ok p => if p.1 < 0 ∨ most < p.1 then .error 9 else .ok p
theorem W_dec {α : Type} {o : Option HR} {st : St} {nx id : Nat} {bs : List Int} {rr : Nat} {x : Except Int (α × Nat)} {Q : α → V → St → Nat → Prop} {C : R → Prop} (h : W o (DP st nx id bs rr x Q))
    (hbad : ∀ e st' nx', x = .error e → nx ≤ nx' → KeepX st st' nx id → C (.bpan (errV e) st' nx'))
    (hok : ∀ p v st' nx', x = .ok p → nx ≤ nx' → KeepX st st' nx id → Dec st' nx' id bs rr p.2 → Q p.1 v st' nx' → C (.big v st' nx')) : W (match o with | some (.ret v st' n) => some (R.big v st' n) | some (.pan v st' n) => some (.bpan v st' n) | none => none) C := by
  obtain ⟨r, rfl, hd⟩ := h
  cases hx : x with
  | error e =>
    rw [hx] at hd
    obtain ⟨st', nx', rfl, h1, h2⟩ := hd
    exact ⟨_, rfl, hbad e st' nx' hx h1 h2⟩
  | ok p =>
    rw [hx] at hd
    obtain ⟨v, st', nx', rfl, h1, h2, h3, h4⟩ := hd
    exact ⟨_, rfl, hok p v st' nx' hx h1 h2 h3 h4⟩
theorem bv_all (l : List Int) : (bv l).take l.length = bv l := by rw [bv_tk, List.take_length]
theorem dnumber_ok {st : St} {nx id : Nat} {bs : List Int} {rr a : Nat} (h : Dec st nx id bs rr a) (hb : bOK bs) (hl : bs.length < 4611686018427387904) :
    W (L.hp 38 [.ptr id 0] st nx) (DP st nx id bs rr (dInt bs a) fun n v _ _ => v = .i64 n) := by
  refine hp_w k38_eq ?_
  simp only [k38]
  have hD := h
  obtain ⟨h1, h2, h3⟩ := h
  have hi := takeint_ok (bs.drop a) (hb.drop a) (by rw [List.length_drop]; omega)
  have hp := Co.tS_pos (bs.drop a) 0 0
  have hdi : dInt bs a = dInt bs a := rfl
  unfold dInt at hdi
  unfold dInt
  generalize Co.tS (bs.drop a) 0 0 = q at hi hp hdi ⊢
  obtain ⟨n, u, e⟩ := q
  simp only at hi hp hdi ⊢
  rw [List.length_drop] at hp
  have hha : ((0 : Int) ≤ (a : Int)) = True := eq_true (by omega)
  by_cases he : e = 0
  · subst he
    have hk : a + u.toNat ≤ bs.length := by omega
    have hu : (u : Int) = ((u.toNat : Nat) : Int) := by omega
    repeat' (first | (simp -implicitDefEqProofs only [ze, Nat.reduceEqDiff, Nat.reduceAdd, Nat.reduceMul, reduceIte, Nat.reduceLT, Nat.reduceLeDiff, reduceCtorEq, Int.reduceEq, Int.reduceLT, Int.reduceLE, Int.reduceNeg, Int.reduceToNat, Nat.reduceBEq, Nat.reduceSub, qp, qf, kop, av, RQ, PQ, kres, kres1, kresL, fin, fins, fin1, V.pur?, V.pur1?, V.cells, kld, ones, V.one, Value.oneCell', own, owns, own1, xfill, ksrc, kint, vint, ksub, keqs, kok, V.val1?, ofRes, h3, bv_len, bv_all, bv_dp, hi]) | (with_reducible refine W_itn_cases ?_ ?_; omega))
    refine qd_i ?_ ?_
    · simp [recsOk, ordB, Rec.free, Rec.wr, disj, List.range, List.range.loop]; try decide
    · simp -implicitDefEqProofs only [ze, Nat.reduceEqDiff, Nat.reduceAdd, Nat.reduceMul, reduceIte, Nat.reduceLT, Nat.reduceLeDiff, reduceCtorEq, Int.reduceEq, Int.reduceLT, Int.reduceLE, Int.reduceNeg, Int.reduceToNat, Nat.reduceBEq, Nat.reduceSub, qp, qf, kop, av, RQ, PQ, kres, kres1, kresL, fin, fins, fin1, V.pur?, V.pur1?, V.cells, kld, ones, V.one, Value.oneCell', own, owns, own1, xfill, ksrc, kint, vint, ksub, keqs, kok, V.val1?, ofRes]
      rw [hu]
      refine W_hp (dend_ok (hD.le (Nat.le_add_right _ _)) hl u.toNat hk) ?_
      rintro _ ⟨st1, nx1, rfl, hn1, hd1, hk1⟩
      repeat' (first | (simp -implicitDefEqProofs only [ze, Nat.reduceEqDiff, Nat.reduceAdd, Nat.reduceMul, reduceIte, Nat.reduceLT, Nat.reduceLeDiff, reduceCtorEq, Int.reduceEq, Int.reduceLT, Int.reduceLE, Int.reduceNeg, Int.reduceToNat, Nat.reduceBEq, Nat.reduceSub, qp, qf, kop, av, RQ, PQ, kres, kres1, kresL, fin, fins, fin1, V.pur?, V.pur1?, V.cells, kld, ones, V.one, Value.oneCell', own, owns, own1, xfill, ksrc, kint, vint, ksub, keqs, kok, V.val1?, ofRes]) | (with_reducible refine wgd_cases ?_ ?_ <;> intro hb) | (with_reducible refine wcond_cases ?_ ?_ <;> intro hb) | (with_reducible refine qd_i (by kernel_rfl) ?_) | (with_reducible refine W_itn_cases ?_ ?_; omega))
      exact ⟨_, _, _, rfl, by omega, fun i g1 g2 => hk1 i (by omega) g2, hd1.le (by omega), rfl⟩
  · repeat' (first | (simp -implicitDefEqProofs only [ze, Nat.reduceEqDiff, Nat.reduceAdd, Nat.reduceMul, reduceIte, Nat.reduceLT, Nat.reduceLeDiff, reduceCtorEq, Int.reduceEq, Int.reduceLT, Int.reduceLE, Int.reduceNeg, Int.reduceToNat, Nat.reduceBEq, Nat.reduceSub, qp, qf, kop, av, RQ, PQ, kres, kres1, kresL, fin, fins, fin1, V.pur?, V.pur1?, V.cells, kld, ones, V.one, Value.oneCell', own, owns, own1, xfill, ksrc, kint, vint, ksub, keqs, kok, V.val1?, ofRes, h3, bv_len, bv_all, bv_dp, hi]) | (with_reducible refine W_itn_cases ?_ ?_; omega))
    refine qd_i ?_ ?_
    · simp [recsOk, ordB, Rec.free, Rec.wr, disj, List.range, List.range.loop]; try decide
    · simp -implicitDefEqProofs only [ze, Nat.reduceEqDiff, Nat.reduceAdd, Nat.reduceMul, reduceIte, Nat.reduceLT, Nat.reduceLeDiff, reduceCtorEq, Int.reduceEq, Int.reduceLT, Int.reduceLE, Int.reduceNeg, Int.reduceToNat, Nat.reduceBEq, Nat.reduceSub, qp, qf, kop, av, RQ, PQ, kres, kres1, kresL, fin, fins, fin1, V.pur?, V.pur1?, V.cells, kld, ones, V.one, Value.oneCell', own, owns, own1, xfill, ksrc, kint, vint, ksub, keqs, kok, V.val1?, ofRes]
      refine W_hp (dend_bad u e he) ?_
      rintro _ ⟨st1, nx1, rfl, hn1, hk1⟩
      repeat' (first | (simp -implicitDefEqProofs only [ze, Nat.reduceEqDiff, Nat.reduceAdd, Nat.reduceMul, reduceIte, Nat.reduceLT, Nat.reduceLeDiff, reduceCtorEq, Int.reduceEq, Int.reduceLT, Int.reduceLE, Int.reduceNeg, Int.reduceToNat, Nat.reduceBEq, Nat.reduceSub, qp, qf, kop, av, RQ, PQ, kres, kres1, kresL, fin, fins, fin1, V.pur?, V.pur1?, V.cells, kld, ones, V.one, Value.oneCell', own, owns, own1, xfill, ksrc, kint, vint, ksub, keqs, kok, V.val1?, ofRes]) | (with_reducible refine wgd_cases ?_ ?_ <;> intro hb) | (with_reducible refine wcond_cases ?_ ?_ <;> intro hb) | (with_reducible refine qd_i (by kernel_rfl) ?_) | (with_reducible refine W_itn_cases ?_ ?_; omega))
      rw [if_neg he]
      exact ⟨_, _, rfl, by omega, fun i g1 g2 => hk1 i (by omega) g2⟩
theorem tT_pos (bs : List Int) : 0 ≤ (tT bs).2.1 ∧ (tT bs).2.1 ≤ bs.length := by
  have hp := Co.tS_pos bs 0 0
  unfold tT
  generalize Co.tS bs 0 0 = q at hp ⊢
  obtain ⟨n, u, e⟩ := q
  simp only at hp ⊢
  repeat' split
  all_goals (simp only at *; omega)
theorem dtext_ok {st : St} {nx id : Nat} {bs : List Int} {rr a : Nat} (h : Dec st nx id bs rr a) (hb : bOK bs) (hl : bs.length < 4611686018427387904) :
    W (L.hp 39 [.ptr id 0] st nx) (DP st nx id bs rr (dText bs a) fun n v _ _ => v = .str n) := by
  refine hp_w k39_eq ?_
  simp only [k39]
  have hD := h
  obtain ⟨h1, h2, h3⟩ := h
  have hi := taketext_ok (bs.drop a) (hb.drop a) (by rw [List.length_drop]; omega)
  have hp := tT_pos (bs.drop a)
  have hdi : dText bs a = dText bs a := rfl
  unfold dText at hdi
  unfold dText
  generalize tT (bs.drop a) = q at hi hp hdi ⊢
  obtain ⟨n, u, e⟩ := q
  simp only at hi hp hdi ⊢
  rw [List.length_drop] at hp
  have hha : ((0 : Int) ≤ (a : Int)) = True := eq_true (by omega)
  by_cases he : e = 0
  · subst he
    have hk : a + u.toNat ≤ bs.length := by omega
    have hu : (u : Int) = ((u.toNat : Nat) : Int) := by omega
    repeat' (first | (simp -implicitDefEqProofs only [ze, Nat.reduceEqDiff, Nat.reduceAdd, Nat.reduceMul, reduceIte, Nat.reduceLT, Nat.reduceLeDiff, reduceCtorEq, Int.reduceEq, Int.reduceLT, Int.reduceLE, Int.reduceNeg, Int.reduceToNat, Nat.reduceBEq, Nat.reduceSub, qp, qf, kop, av, RQ, PQ, kres, kres1, kresL, fin, fins, fin1, V.pur?, V.pur1?, V.cells, kld, ones, V.one, Value.oneCell', own, owns, own1, xfill, ksrc, kint, vint, ksub, keqs, kok, V.val1?, ofRes, h3, bv_len, bv_all, bv_dp, hi]) | (with_reducible refine W_itn_cases ?_ ?_; omega))
    refine qd_i ?_ ?_
    · simp [recsOk, ordB, Rec.free, Rec.wr, disj, List.range, List.range.loop]; try decide
    · simp -implicitDefEqProofs only [ze, Nat.reduceEqDiff, Nat.reduceAdd, Nat.reduceMul, reduceIte, Nat.reduceLT, Nat.reduceLeDiff, reduceCtorEq, Int.reduceEq, Int.reduceLT, Int.reduceLE, Int.reduceNeg, Int.reduceToNat, Nat.reduceBEq, Nat.reduceSub, qp, qf, kop, av, RQ, PQ, kres, kres1, kresL, fin, fins, fin1, V.pur?, V.pur1?, V.cells, kld, ones, V.one, Value.oneCell', own, owns, own1, xfill, ksrc, kint, vint, ksub, keqs, kok, V.val1?, ofRes]
      rw [hu]
      refine W_hp (dend_ok (hD.le (Nat.le_add_right _ _)) hl u.toNat hk) ?_
      rintro _ ⟨st1, nx1, rfl, hn1, hd1, hk1⟩
      repeat' (first | (simp -implicitDefEqProofs only [ze, Nat.reduceEqDiff, Nat.reduceAdd, Nat.reduceMul, reduceIte, Nat.reduceLT, Nat.reduceLeDiff, reduceCtorEq, Int.reduceEq, Int.reduceLT, Int.reduceLE, Int.reduceNeg, Int.reduceToNat, Nat.reduceBEq, Nat.reduceSub, qp, qf, kop, av, RQ, PQ, kres, kres1, kresL, fin, fins, fin1, V.pur?, V.pur1?, V.cells, kld, ones, V.one, Value.oneCell', own, owns, own1, xfill, ksrc, kint, vint, ksub, keqs, kok, V.val1?, ofRes]) | (with_reducible refine wgd_cases ?_ ?_ <;> intro hb) | (with_reducible refine wcond_cases ?_ ?_ <;> intro hb) | (with_reducible refine qd_i (by kernel_rfl) ?_) | (with_reducible refine W_itn_cases ?_ ?_; omega))
      exact ⟨_, _, _, rfl, by omega, fun i g1 g2 => hk1 i (by omega) g2, hd1.le (by omega), rfl⟩
  · repeat' (first | (simp -implicitDefEqProofs only [ze, Nat.reduceEqDiff, Nat.reduceAdd, Nat.reduceMul, reduceIte, Nat.reduceLT, Nat.reduceLeDiff, reduceCtorEq, Int.reduceEq, Int.reduceLT, Int.reduceLE, Int.reduceNeg, Int.reduceToNat, Nat.reduceBEq, Nat.reduceSub, qp, qf, kop, av, RQ, PQ, kres, kres1, kresL, fin, fins, fin1, V.pur?, V.pur1?, V.cells, kld, ones, V.one, Value.oneCell', own, owns, own1, xfill, ksrc, kint, vint, ksub, keqs, kok, V.val1?, ofRes, h3, bv_len, bv_all, bv_dp, hi]) | (with_reducible refine W_itn_cases ?_ ?_; omega))
    refine qd_i ?_ ?_
    · simp [recsOk, ordB, Rec.free, Rec.wr, disj, List.range, List.range.loop]; try decide
    · simp -implicitDefEqProofs only [ze, Nat.reduceEqDiff, Nat.reduceAdd, Nat.reduceMul, reduceIte, Nat.reduceLT, Nat.reduceLeDiff, reduceCtorEq, Int.reduceEq, Int.reduceLT, Int.reduceLE, Int.reduceNeg, Int.reduceToNat, Nat.reduceBEq, Nat.reduceSub, qp, qf, kop, av, RQ, PQ, kres, kres1, kresL, fin, fins, fin1, V.pur?, V.pur1?, V.cells, kld, ones, V.one, Value.oneCell', own, owns, own1, xfill, ksrc, kint, vint, ksub, keqs, kok, V.val1?, ofRes]
      refine W_hp (dend_bad u e he) ?_
      rintro _ ⟨st1, nx1, rfl, hn1, hk1⟩
      repeat' (first | (simp -implicitDefEqProofs only [ze, Nat.reduceEqDiff, Nat.reduceAdd, Nat.reduceMul, reduceIte, Nat.reduceLT, Nat.reduceLeDiff, reduceCtorEq, Int.reduceEq, Int.reduceLT, Int.reduceLE, Int.reduceNeg, Int.reduceToNat, Nat.reduceBEq, Nat.reduceSub, qp, qf, kop, av, RQ, PQ, kres, kres1, kresL, fin, fins, fin1, V.pur?, V.pur1?, V.cells, kld, ones, V.one, Value.oneCell', own, owns, own1, xfill, ksrc, kint, vint, ksub, keqs, kok, V.val1?, ofRes]) | (with_reducible refine wgd_cases ?_ ?_ <;> intro hb) | (with_reducible refine wcond_cases ?_ ?_ <;> intro hb) | (with_reducible refine qd_i (by kernel_rfl) ?_) | (with_reducible refine W_itn_cases ?_ ?_; omega))
      rw [if_neg he]
      exact ⟨_, _, rfl, by omega, fun i g1 g2 => hk1 i (by omega) g2⟩
theorem dcount_ok {st : St} {nx id : Nat} {bs : List Int} {rr a : Nat} (h : Dec st nx id bs rr a) (hb : bOK bs) (hl : bs.length < 4611686018427387904) (most : Int) :
    W (L.hp 40 [.ptr id 0, .i64 most] st nx) (DP st nx id bs rr (dCount most bs a) fun n v _ _ => v = .i64 n ∧ 0 ≤ n ∧ n ≤ most) := by
  refine hp_w k40_eq ?_
  simp only [k40]
  repeat' (first | (simp -implicitDefEqProofs only [ze, Nat.reduceEqDiff, Nat.reduceAdd, Nat.reduceMul, reduceIte, Nat.reduceLT, Nat.reduceLeDiff, reduceCtorEq, Int.reduceEq, Int.reduceLT, Int.reduceLE, Int.reduceNeg, Int.reduceToNat, Nat.reduceBEq, Nat.reduceSub, qp, qf, kop, av, RQ, PQ, kres, kres1, kresL, fin, fins, fin1, V.pur?, V.pur1?, V.cells, kld, ones, V.one, Value.oneCell', own, owns, own1, xfill, ksrc, kint, vint, ksub, keqs, kok, V.val1?, ofRes]) | (with_reducible refine wgd_cases ?_ ?_ <;> intro hb) | (with_reducible refine wcond_cases ?_ ?_ <;> intro hb) | (with_reducible refine qd_i (by kernel_rfl) ?_) | (with_reducible refine W_itn_cases ?_ ?_; omega))
  refine W_dec (dnumber_ok (h.le (Nat.le_add_right _ _)) hb hl) (fun e st1 nx1 hx hn hk => ?_) (fun p v st1 nx1 hx hn hk hd hv => ?_)
  · repeat' (first | (simp -implicitDefEqProofs only [ze, Nat.reduceEqDiff, Nat.reduceAdd, Nat.reduceMul, reduceIte, Nat.reduceLT, Nat.reduceLeDiff, reduceCtorEq, Int.reduceEq, Int.reduceLT, Int.reduceLE, Int.reduceNeg, Int.reduceToNat, Nat.reduceBEq, Nat.reduceSub, qp, qf, kop, av, RQ, PQ, kres, kres1, kresL, fin, fins, fin1, V.pur?, V.pur1?, V.cells, kld, ones, V.one, Value.oneCell', own, owns, own1, xfill, ksrc, kint, vint, ksub, keqs, kok, V.val1?, ofRes]) | (with_reducible refine wgd_cases ?_ ?_ <;> intro hb) | (with_reducible refine wcond_cases ?_ ?_ <;> intro hb) | (with_reducible refine qd_i (by kernel_rfl) ?_) | (with_reducible refine W_itn_cases ?_ ?_; omega))
    unfold dCount
    rw [hx]
    exact ⟨_, _, rfl, by omega, fun i g1 g2 => hk i (by omega) g2⟩
  · subst hv
    unfold dCount
    rw [hx]
    by_cases hc : p.1 < 0 ∨ most < p.1
    · simp only [if_pos hc]
      repeat' (first | (simp -implicitDefEqProofs only [ze, Nat.reduceEqDiff, Nat.reduceAdd, Nat.reduceMul, reduceIte, Nat.reduceLT, Nat.reduceLeDiff, reduceCtorEq, Int.reduceEq, Int.reduceLT, Int.reduceLE, Int.reduceNeg, Int.reduceToNat, Nat.reduceBEq, Nat.reduceSub, qp, qf, kop, av, RQ, PQ, kres, kres1, kresL, fin, fins, fin1, V.pur?, V.pur1?, V.cells, kld, ones, V.one, Value.oneCell', own, owns, own1, xfill, ksrc, kint, vint, ksub, keqs, kok, V.val1?, ofRes]) | (with_reducible refine wgd_cases ?_ ?_ <;> intro hb) | (with_reducible refine wcond_cases ?_ ?_ <;> intro hb) | (with_reducible refine qd_i (by kernel_rfl) ?_) | (with_reducible refine W_itn_cases ?_ ?_; omega))
      all_goals (simp only [decide_eq_true_eq, decide_eq_false_iff_not] at *)
      all_goals (try (exfalso; omega))
      all_goals (refine W_hp (dend_bad 0 9 (by decide)) ?_; rintro _ ⟨st2, nx2, rfl, hn2, hk2⟩; repeat' (first | (simp -implicitDefEqProofs only [ze, Nat.reduceEqDiff, Nat.reduceAdd, Nat.reduceMul, reduceIte, Nat.reduceLT, Nat.reduceLeDiff, reduceCtorEq, Int.reduceEq, Int.reduceLT, Int.reduceLE, Int.reduceNeg, Int.reduceToNat, Nat.reduceBEq, Nat.reduceSub, qp, qf, kop, av, RQ, PQ, kres, kres1, kresL, fin, fins, fin1, V.pur?, V.pur1?, V.cells, kld, ones, V.one, Value.oneCell', own, owns, own1, xfill, ksrc, kint, vint, ksub, keqs, kok, V.val1?, ofRes]) | (with_reducible refine wgd_cases ?_ ?_ <;> intro hb) | (with_reducible refine wcond_cases ?_ ?_ <;> intro hb) | (with_reducible refine qd_i (by kernel_rfl) ?_) | (with_reducible refine W_itn_cases ?_ ?_; omega)); exact ⟨_, _, rfl, by omega, fun i g1 g2 => (hk2 i (by omega) g2).trans (hk i (by omega) g2)⟩)
    · simp only [if_neg hc]
      have d1 : decide (p.1 < 0) = false := decide_eq_false (by omega)
      have d2 : decide (most < p.1) = false := decide_eq_false (by omega)
      repeat' (first | (simp -implicitDefEqProofs only [ze, Nat.reduceEqDiff, Nat.reduceAdd, Nat.reduceMul, reduceIte, Nat.reduceLT, Nat.reduceLeDiff, reduceCtorEq, Int.reduceEq, Int.reduceLT, Int.reduceLE, Int.reduceNeg, Int.reduceToNat, Nat.reduceBEq, Nat.reduceSub, qp, qf, kop, av, RQ, PQ, kres, kres1, kresL, fin, fins, fin1, V.pur?, V.pur1?, V.cells, kld, ones, V.one, Value.oneCell', own, owns, own1, xfill, ksrc, kint, vint, ksub, keqs, kok, V.val1?, ofRes, d1, d2]) | (with_reducible refine wgd_cases ?_ ?_ <;> intro hb) | (with_reducible refine wcond_cases ?_ ?_ <;> intro hb) | (with_reducible refine qd_i (by kernel_rfl) ?_) | (with_reducible refine W_itn_cases ?_ ?_; omega))
      exact ⟨_, _, _, rfl, by omega, fun i g1 g2 => hk i (by omega) g2, hd.le (by omega), rfl, by omega, by omega⟩
end Go.Proofs.YtojbkakdhfmjmaaDoor.Vm
