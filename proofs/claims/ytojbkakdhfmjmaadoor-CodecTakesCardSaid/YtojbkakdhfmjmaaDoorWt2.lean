/- Proved here: what the reference's decoder of texts and its reader do. Conditions: none. -/
import Derived.Test.YtojbkakdhfmjmaaDoorWt1
import Derived.Test.YtojbkakdhfmjmaaDoorVt5
set_option maxRecDepth 10000
set_option linter.unusedVariables false
set_option linter.unusedSimpArgs false
namespace Go.Proofs.YtojbkakdhfmjmaaDoor.Vm
open Go Go.Proofs
theorem rtaketext_ok (bs : List Int) (hb : bOK bs) (hl : bs.length < 4611686018427387904) (r : Nat) : L.pl 43 [.list 5 (bv bs) r] = some (.ret (.tup [.str (tT bs).1, .i64 (tT bs).2.1, .i64 (tT bs).2.2])) := by
  refine W_of (pl_w k43_eq ?_)
  simp only [k43]
  have hp := Co.tS_pos bs 0 0
  unfold tT
  have ht := rtakeint_ok bs hb hl
  generalize hq : Co.tS bs 0 0 = q at hp ht ⊢
  obtain ⟨n, at_, e⟩ := q
  simp only at hp ht ⊢
  by_cases he : e = 0
  · subst he
    by_cases hn : n < 0 ∨ 60 < n
    · repeat' (first | (simp -implicitDefEqProofs only [ze, Nat.reduceEqDiff, Nat.reduceAdd, Nat.reduceMul, reduceIte, Nat.reduceLT, Nat.reduceLeDiff, reduceCtorEq, Int.reduceEq, Int.reduceLT, Int.reduceLE, Int.reduceNeg, Int.reduceToNat, Nat.reduceBEq, Nat.reduceSub, qp, qf, kop, av, RQ, PQ, kres, kres1, kresL, fin, fins, fin1, V.pur?, V.pur1?, V.cells, kld, ones, V.one, Value.oneCell', own, owns, own1, xfill, ksrc, kint, vint, ksub, keqs, kok, V.val1?, ofRes, ht, bv_len]) | (with_reducible refine wgd_cases ?_ ?_ <;> intro hb) | (with_reducible refine wcond_cases ?_ ?_ <;> intro hb) | (with_reducible refine qd_i (by kernel_rfl) ?_) | (with_reducible refine W_itn_cases ?_ ?_; omega))
      all_goals (simp only [decide_eq_true_eq, decide_eq_false_iff_not] at *)
      all_goals first | (exfalso; omega) | simp [hn]
    · have hd1 : decide (n < 0) = false := decide_eq_false (by omega)
      have hd2 : decide (60 < n) = false := decide_eq_false (by omega)
      have hw : IntKind.i64.wrap ((bs.length : Int) - at_) = (bs.length : Int) - at_ := wrap_i64 (by omega) (by omega)
      have hw2 : IntKind.i64.wrap (at_ + n) = at_ + n := wrap_i64 (by omega) (by omega)
      by_cases hs : (bs.length : Int) - at_ < n
      · have hd3 : decide ((bs.length : Int) - at_ < n) = true := decide_eq_true hs
        repeat' (first | (simp -implicitDefEqProofs only [ze, Nat.reduceEqDiff, Nat.reduceAdd, Nat.reduceMul, reduceIte, Nat.reduceLT, Nat.reduceLeDiff, reduceCtorEq, Int.reduceEq, Int.reduceLT, Int.reduceLE, Int.reduceNeg, Int.reduceToNat, Nat.reduceBEq, Nat.reduceSub, qp, qf, kop, av, RQ, PQ, kres, kres1, kresL, fin, fins, fin1, V.pur?, V.pur1?, V.cells, kld, ones, V.one, Value.oneCell', own, owns, own1, xfill, ksrc, kint, vint, ksub, keqs, kok, V.val1?, ofRes, ht, bv_len, hd1, hd2, hw, hd3]) | (with_reducible refine wgd_cases ?_ ?_ <;> intro hb) | (with_reducible refine wcond_cases ?_ ?_ <;> intro hb) | (with_reducible refine qd_i (by kernel_rfl) ?_) | (with_reducible refine W_itn_cases ?_ ?_; omega))
        simp [hn, hs]
      · have hd3 : decide ((bs.length : Int) - at_ < n) = false := decide_eq_false hs
        have heq : strB ((bs.drop at_.toNat).take n.toNat) = ByteArray.mk (List.map (fun b => UInt8.ofNat b.toNat) (List.drop at_.toNat (List.take (at_ + n).toNat bs))).toArray := by
          unfold strB
          rw [List.take_drop, show at_.toNat + n.toNat = (at_ + n).toNat by omega]
        have hz : (ByteArray.mk (List.map (fun b => UInt8.ofNat b.toNat) (List.drop at_.toNat (List.take (at_ + n).toNat bs))).toArray).size < 4611686018427387904 := by
          rw [← heq, strB_len, List.length_take]; omega
        have hpl := rplain_ok _ hz
        repeat' (first | (simp -implicitDefEqProofs only [ze, Nat.reduceEqDiff, Nat.reduceAdd, Nat.reduceMul, reduceIte, Nat.reduceLT, Nat.reduceLeDiff, reduceCtorEq, Int.reduceEq, Int.reduceLT, Int.reduceLE, Int.reduceNeg, Int.reduceToNat, Nat.reduceBEq, Nat.reduceSub, qp, qf, kop, av, RQ, PQ, kres, kres1, kresL, fin, fins, fin1, V.pur?, V.pur1?, V.cells, kld, ones, V.one, Value.oneCell', own, owns, own1, xfill, ksrc, kint, vint, ksub, keqs, kok, V.val1?, ofRes, ht, bv_len, hd1, hd2, hw, hw2, hd3, bytesOfV_bq, bv_tk, bv_dp, hpl]) | (with_reducible refine wgd_cases ?_ ?_ <;> intro hb) | (with_reducible refine wcond_cases ?_ ?_ <;> intro hb) | (with_reducible refine qd_i (by kernel_rfl) ?_) | (with_reducible refine W_itn_cases ?_ ?_; omega))
        all_goals (simp only [Bool.not_eq_eq_eq_not, Bool.not_true, Bool.not_false] at *; rw [← heq] at *; simp [hn, hs, *])
  · have hd : decide (e = 0) = false := decide_eq_false he
    repeat' (first | (simp -implicitDefEqProofs only [ze, Nat.reduceEqDiff, Nat.reduceAdd, Nat.reduceMul, reduceIte, Nat.reduceLT, Nat.reduceLeDiff, reduceCtorEq, Int.reduceEq, Int.reduceLT, Int.reduceLE, Int.reduceNeg, Int.reduceToNat, Nat.reduceBEq, Nat.reduceSub, qp, qf, kop, av, RQ, PQ, kres, kres1, kresL, fin, fins, fin1, V.pur?, V.pur1?, V.cells, kld, ones, V.one, Value.oneCell', own, owns, own1, xfill, ksrc, kint, vint, ksub, keqs, kok, V.val1?, ofRes, ht, hd]) | (with_reducible refine wgd_cases ?_ ?_ <;> intro hb) | (with_reducible refine wcond_cases ?_ ?_ <;> intro hb) | (with_reducible refine qd_i (by kernel_rfl) ?_) | (with_reducible refine W_itn_cases ?_ ?_; omega))
    simp [he]
/-- A reader: where it stands, and its first error. -/
def Rd (st : St) (nx id : Nat) (bs : List Int) (rr : Nat) (s : Nat × Int) : Prop := id < nx ∧ s.1 ≤ bs.length ∧ st id = some (.cells [.list 5 (bv bs) rr, .i64 s.1, .i64 s.2])
theorem Rd.upd {st : St} {nx nx' id j : Nat} {bs : List Int} {rr : Nat} {s : Nat × Int} (h : Rd st nx id bs rr s) (hj : id ≠ j) (hn : nx ≤ nx') (o : Option Ob) : Rd (upd st j o) nx' id bs rr s := ⟨Nat.lt_of_lt_of_le h.1 hn, h.2.1, by rw [upd_at, if_neg hj]; exact h.2.2⟩
theorem Rd.le {st : St} {nx nx' id : Nat} {bs : List Int} {rr : Nat} {s : Nat × Int} (h : Rd st nx id bs rr s) (hn : nx ≤ nx') : Rd st nx' id bs rr s := ⟨Nat.lt_of_lt_of_le h.1 hn, h.2⟩
def RP {α : Type} (st : St) (nx id : Nat) (bs : List Int) (rr : Nat) (p : α × Nat × Int) (Q : α → V → St → Nat → Prop) (r : HR) : Prop :=
  ∃ v st' nx', r = .ret v st' nx' ∧ nx ≤ nx' ∧ KeepX st st' nx id ∧ Rd st' nx' id bs rr p.2 ∧ Q p.1 v st' nx'
def rI (bs : List Int) (s : Nat × Int) : Int × Nat × Int :=
  if s.2 = 0 then ((Co.tS (bs.drop s.1) 0 0).1, s.1 + (Co.tS (bs.drop s.1) 0 0).2.1.toNat, (Co.tS (bs.drop s.1) 0 0).2.2) else (0, s)
def rT (bs : List Int) (s : Nat × Int) : ByteArray × Nat × Int :=
  if s.2 = 0 then ((tT (bs.drop s.1)).1, s.1 + (tT (bs.drop s.1)).2.1.toNat, (tT (bs.drop s.1)).2.2) else (ByteArray.mk #[], s)
def rC (most : Int) (bs : List Int) (s : Nat × Int) : Int × Nat × Int :=
  if (rI bs s).2.2 = 0 then (if (rI bs s).1 < 0 ∨ most < (rI bs s).1 then (0, (rI bs s).2.1, 9) else rI bs s) else (0, (rI bs s).2)
theorem rint_ok {st : St} {nx id : Nat} {bs : List Int} {rr : Nat} {s : Nat × Int} (h : Rd st nx id bs rr s) (hb : bOK bs) (hl : bs.length < 4611686018427387904) :
    W (L.hp 26 [.ptr id 0] st nx) (RP st nx id bs rr (rI bs s) fun n v _ _ => v = .i64 n) := by
  refine hp_w k26_eq ?_
  simp only [k26]
  obtain ⟨a, er⟩ := s
  obtain ⟨h1, h2, h3⟩ := h
  simp only at h2 h3
  have hha : ((0 : Int) ≤ (a : Int)) = True := eq_true (by omega)
  unfold rI
  by_cases he : er = 0
  · subst he
    have hi := rtakeint_ok (bs.drop a) (hb.drop a) (by rw [List.length_drop]; omega)
    have hp := Co.tS_pos (bs.drop a) 0 0
    generalize Co.tS (bs.drop a) 0 0 = q at hi hp ⊢
    obtain ⟨n, u, e⟩ := q
    simp only at hi hp ⊢
    rw [List.length_drop] at hp
    have hw : IntKind.i64.wrap ((a : Int) + u) = ((a + u.toNat : Nat) : Int) := by rw [wrap_i64 (by omega) (by omega)]; omega
    repeat' (first | (simp -implicitDefEqProofs only [ze, Nat.reduceEqDiff, Nat.reduceAdd, Nat.reduceMul, reduceIte, Nat.reduceLT, Nat.reduceLeDiff, reduceCtorEq, Int.reduceEq, Int.reduceLT, Int.reduceLE, Int.reduceNeg, Int.reduceToNat, Nat.reduceBEq, Nat.reduceSub, qp, qf, kop, av, RQ, PQ, kres, kres1, kresL, fin, fins, fin1, V.pur?, V.pur1?, V.cells, kld, ones, V.one, Value.oneCell', own, owns, own1, xfill, ksrc, kint, vint, ksub, keqs, kok, V.val1?, ofRes, h3, bv_len, bv_all, bv_dp, hi]) | (with_reducible refine W_itn_cases ?_ ?_; omega))
    refine qd_i ?_ ?_
    · simp [recsOk, ordB, Rec.free, Rec.wr, disj, List.range, List.range.loop]; try decide
    · repeat' (first | (simp -implicitDefEqProofs only [ze, Nat.reduceEqDiff, Nat.reduceAdd, Nat.reduceMul, reduceIte, Nat.reduceLT, Nat.reduceLeDiff, reduceCtorEq, Int.reduceEq, Int.reduceLT, Int.reduceLE, Int.reduceNeg, Int.reduceToNat, Nat.reduceBEq, Nat.reduceSub, qp, qf, kop, av, RQ, PQ, kres, kres1, kresL, fin, fins, fin1, V.pur?, V.pur1?, V.cells, kld, ones, V.one, Value.oneCell', own, owns, own1, xfill, ksrc, kint, vint, ksub, keqs, kok, V.val1?, ofRes, h3, hw]) | (with_reducible refine wgd_cases ?_ ?_ <;> intro hb) | (with_reducible refine wcond_cases ?_ ?_ <;> intro hb) | (with_reducible refine qd_i (by kernel_rfl) ?_) | (with_reducible refine W_itn_cases ?_ ?_; omega))
      exact ⟨_, _, _, rfl, by omega, fun i g1 g2 => by rw [upd_at, if_neg g2, upd_at, if_neg g2], ⟨by omega, by simp only; omega, by rw [upd_at, if_pos rfl]⟩, rfl⟩
  · have hd : decide (er = 0) = false := decide_eq_false he
    repeat' (first | (simp -implicitDefEqProofs only [ze, Nat.reduceEqDiff, Nat.reduceAdd, Nat.reduceMul, reduceIte, Nat.reduceLT, Nat.reduceLeDiff, reduceCtorEq, Int.reduceEq, Int.reduceLT, Int.reduceLE, Int.reduceNeg, Int.reduceToNat, Nat.reduceBEq, Nat.reduceSub, qp, qf, kop, av, RQ, PQ, kres, kres1, kresL, fin, fins, fin1, V.pur?, V.pur1?, V.cells, kld, ones, V.one, Value.oneCell', own, owns, own1, xfill, ksrc, kint, vint, ksub, keqs, kok, V.val1?, ofRes, h3, hd]) | (with_reducible refine wgd_cases ?_ ?_ <;> intro hb) | (with_reducible refine wcond_cases ?_ ?_ <;> intro hb) | (with_reducible refine qd_i (by kernel_rfl) ?_) | (with_reducible refine W_itn_cases ?_ ?_; omega))
    rw [if_neg he]
    exact ⟨_, _, _, rfl, by omega, KeepX.refl _ _ _, ⟨by omega, h2, h3⟩, rfl⟩
theorem rtext2_ok {st : St} {nx id : Nat} {bs : List Int} {rr : Nat} {s : Nat × Int} (h : Rd st nx id bs rr s) (hb : bOK bs) (hl : bs.length < 4611686018427387904) :
    W (L.hp 27 [.ptr id 0] st nx) (RP st nx id bs rr (rT bs s) fun n v _ _ => v = .str n) := by
  refine hp_w k27_eq ?_
  simp only [k27]
  obtain ⟨a, er⟩ := s
  obtain ⟨h1, h2, h3⟩ := h
  simp only at h2 h3
  have hha : ((0 : Int) ≤ (a : Int)) = True := eq_true (by omega)
  unfold rT
  by_cases he : er = 0
  · subst he
    have hi := rtaketext_ok (bs.drop a) (hb.drop a) (by rw [List.length_drop]; omega)
    have hp := tT_pos (bs.drop a)
    generalize tT (bs.drop a) = q at hi hp ⊢
    obtain ⟨n, u, e⟩ := q
    simp only at hi hp ⊢
    rw [List.length_drop] at hp
    have hw : IntKind.i64.wrap ((a : Int) + u) = ((a + u.toNat : Nat) : Int) := by rw [wrap_i64 (by omega) (by omega)]; omega
    repeat' (first | (simp -implicitDefEqProofs only [ze, Nat.reduceEqDiff, Nat.reduceAdd, Nat.reduceMul, reduceIte, Nat.reduceLT, Nat.reduceLeDiff, reduceCtorEq, Int.reduceEq, Int.reduceLT, Int.reduceLE, Int.reduceNeg, Int.reduceToNat, Nat.reduceBEq, Nat.reduceSub, qp, qf, kop, av, RQ, PQ, kres, kres1, kresL, fin, fins, fin1, V.pur?, V.pur1?, V.cells, kld, ones, V.one, Value.oneCell', own, owns, own1, xfill, ksrc, kint, vint, ksub, keqs, kok, V.val1?, ofRes, h3, bv_len, bv_all, bv_dp, hi]) | (with_reducible refine W_itn_cases ?_ ?_; omega))
    refine qd_i ?_ ?_
    · simp [recsOk, ordB, Rec.free, Rec.wr, disj, List.range, List.range.loop]; try decide
    · repeat' (first | (simp -implicitDefEqProofs only [ze, Nat.reduceEqDiff, Nat.reduceAdd, Nat.reduceMul, reduceIte, Nat.reduceLT, Nat.reduceLeDiff, reduceCtorEq, Int.reduceEq, Int.reduceLT, Int.reduceLE, Int.reduceNeg, Int.reduceToNat, Nat.reduceBEq, Nat.reduceSub, qp, qf, kop, av, RQ, PQ, kres, kres1, kresL, fin, fins, fin1, V.pur?, V.pur1?, V.cells, kld, ones, V.one, Value.oneCell', own, owns, own1, xfill, ksrc, kint, vint, ksub, keqs, kok, V.val1?, ofRes, h3, hw]) | (with_reducible refine wgd_cases ?_ ?_ <;> intro hb) | (with_reducible refine wcond_cases ?_ ?_ <;> intro hb) | (with_reducible refine qd_i (by kernel_rfl) ?_) | (with_reducible refine W_itn_cases ?_ ?_; omega))
      exact ⟨_, _, _, rfl, by omega, fun i g1 g2 => by rw [upd_at, if_neg g2, upd_at, if_neg g2], ⟨by omega, by simp only; omega, by rw [upd_at, if_pos rfl]⟩, rfl⟩
  · have hd : decide (er = 0) = false := decide_eq_false he
    repeat' (first | (simp -implicitDefEqProofs only [ze, Nat.reduceEqDiff, Nat.reduceAdd, Nat.reduceMul, reduceIte, Nat.reduceLT, Nat.reduceLeDiff, reduceCtorEq, Int.reduceEq, Int.reduceLT, Int.reduceLE, Int.reduceNeg, Int.reduceToNat, Nat.reduceBEq, Nat.reduceSub, qp, qf, kop, av, RQ, PQ, kres, kres1, kresL, fin, fins, fin1, V.pur?, V.pur1?, V.cells, kld, ones, V.one, Value.oneCell', own, owns, own1, xfill, ksrc, kint, vint, ksub, keqs, kok, V.val1?, ofRes, h3, hd]) | (with_reducible refine wgd_cases ?_ ?_ <;> intro hb) | (with_reducible refine wcond_cases ?_ ?_ <;> intro hb) | (with_reducible refine qd_i (by kernel_rfl) ?_) | (with_reducible refine W_itn_cases ?_ ?_; omega))
    rw [if_neg he]
    exact ⟨_, _, _, rfl, by omega, KeepX.refl _ _ _, ⟨by omega, h2, h3⟩, rfl⟩
theorem rcount_ok {st : St} {nx id : Nat} {bs : List Int} {rr : Nat} {s : Nat × Int} (h : Rd st nx id bs rr s) (hb : bOK bs) (hl : bs.length < 4611686018427387904) (most : Int) :
    W (L.hp 28 [.ptr id 0, .i64 most] st nx) (RP st nx id bs rr (rC most bs s) fun n v _ _ => v = .i64 n) := by
  refine hp_w k28_eq ?_
  simp only [k28]
  repeat' (first | (simp -implicitDefEqProofs only [ze, Nat.reduceEqDiff, Nat.reduceAdd, Nat.reduceMul, reduceIte, Nat.reduceLT, Nat.reduceLeDiff, reduceCtorEq, Int.reduceEq, Int.reduceLT, Int.reduceLE, Int.reduceNeg, Int.reduceToNat, Nat.reduceBEq, Nat.reduceSub, qp, qf, kop, av, RQ, PQ, kres, kres1, kresL, fin, fins, fin1, V.pur?, V.pur1?, V.cells, kld, ones, V.one, Value.oneCell', own, owns, own1, xfill, ksrc, kint, vint, ksub, keqs, kok, V.val1?, ofRes]) | (with_reducible refine wgd_cases ?_ ?_ <;> intro hb) | (with_reducible refine wcond_cases ?_ ?_ <;> intro hb) | (with_reducible refine qd_i (by kernel_rfl) ?_) | (with_reducible refine W_itn_cases ?_ ?_; omega))
  refine W_hp (rint_ok (h.le (Nat.le_add_right _ _)) hb hl) ?_
  rintro _ ⟨v, s1, n1, rfl, hn1, hk, hd, rfl⟩
  unfold rC
  generalize rI bs s = q at hd ⊢
  obtain ⟨n, a, er⟩ := q
  obtain ⟨h1, h2, h3⟩ := hd
  simp only at h2 h3 ⊢
  by_cases he : er = 0
  · subst he
    by_cases hn : n < 0 ∨ most < n
    · repeat' (first | (simp -implicitDefEqProofs only [ze, Nat.reduceEqDiff, Nat.reduceAdd, Nat.reduceMul, reduceIte, Nat.reduceLT, Nat.reduceLeDiff, reduceCtorEq, Int.reduceEq, Int.reduceLT, Int.reduceLE, Int.reduceNeg, Int.reduceToNat, Nat.reduceBEq, Nat.reduceSub, qp, qf, kop, av, RQ, PQ, kres, kres1, kresL, fin, fins, fin1, V.pur?, V.pur1?, V.cells, kld, ones, V.one, Value.oneCell', own, owns, own1, xfill, ksrc, kint, vint, ksub, keqs, kok, V.val1?, ofRes, h3]) | (with_reducible refine wgd_cases ?_ ?_ <;> intro hb) | (with_reducible refine wcond_cases ?_ ?_ <;> intro hb) | (with_reducible refine qd_i (by kernel_rfl) ?_) | (with_reducible refine W_itn_cases ?_ ?_; omega))
      all_goals (simp only [decide_eq_true_eq, decide_eq_false_iff_not] at *)
      all_goals (try (exfalso; omega))
      all_goals (rw [if_pos hn]; exact ⟨_, _, _, rfl, by omega, fun i g1 g2 => by rw [upd_at, if_neg g2]; exact hk i (by omega) g2, ⟨by omega, h2, by rw [upd_at, if_pos rfl]⟩, rfl⟩)
    · have d1 : decide (n < 0) = false := decide_eq_false (by omega)
      have d2 : decide (most < n) = false := decide_eq_false (by omega)
      repeat' (first | (simp -implicitDefEqProofs only [ze, Nat.reduceEqDiff, Nat.reduceAdd, Nat.reduceMul, reduceIte, Nat.reduceLT, Nat.reduceLeDiff, reduceCtorEq, Int.reduceEq, Int.reduceLT, Int.reduceLE, Int.reduceNeg, Int.reduceToNat, Nat.reduceBEq, Nat.reduceSub, qp, qf, kop, av, RQ, PQ, kres, kres1, kresL, fin, fins, fin1, V.pur?, V.pur1?, V.cells, kld, ones, V.one, Value.oneCell', own, owns, own1, xfill, ksrc, kint, vint, ksub, keqs, kok, V.val1?, ofRes, h3, d1, d2]) | (with_reducible refine wgd_cases ?_ ?_ <;> intro hb) | (with_reducible refine wcond_cases ?_ ?_ <;> intro hb) | (with_reducible refine qd_i (by kernel_rfl) ?_) | (with_reducible refine W_itn_cases ?_ ?_; omega))
      rw [if_neg hn]
      exact ⟨_, _, _, rfl, by omega, fun i g1 g2 => hk i (by omega) g2, ⟨by omega, h2, h3⟩, rfl⟩
  · have hd : decide (er = 0) = false := decide_eq_false he
    repeat' (first | (simp -implicitDefEqProofs only [ze, Nat.reduceEqDiff, Nat.reduceAdd, Nat.reduceMul, reduceIte, Nat.reduceLT, Nat.reduceLeDiff, reduceCtorEq, Int.reduceEq, Int.reduceLT, Int.reduceLE, Int.reduceNeg, Int.reduceToNat, Nat.reduceBEq, Nat.reduceSub, qp, qf, kop, av, RQ, PQ, kres, kres1, kresL, fin, fins, fin1, V.pur?, V.pur1?, V.cells, kld, ones, V.one, Value.oneCell', own, owns, own1, xfill, ksrc, kint, vint, ksub, keqs, kok, V.val1?, ofRes, h3, hd]) | (with_reducible refine wgd_cases ?_ ?_ <;> intro hb) | (with_reducible refine wcond_cases ?_ ?_ <;> intro hb) | (with_reducible refine qd_i (by kernel_rfl) ?_) | (with_reducible refine W_itn_cases ?_ ?_; omega))
    rw [if_neg he]
    exact ⟨_, _, _, rfl, by omega, fun i g1 g2 => hk i (by omega) g2, ⟨by omega, h2, h3⟩, rfl⟩
end Go.Proofs.YtojbkakdhfmjmaaDoor.Vm
