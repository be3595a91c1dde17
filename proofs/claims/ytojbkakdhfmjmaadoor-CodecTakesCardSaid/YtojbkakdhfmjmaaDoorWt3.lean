/- Proved here: what the reference's reader of lines returns. Conditions: none. -/
import Derived.Test.YtojbkakdhfmjmaaDoorWt2
set_option maxRecDepth 10000
set_option linter.unusedVariables false
set_option linter.unusedSimpArgs false
namespace Go.Proofs.YtojbkakdhfmjmaaDoor.Vm
open Go Go.Proofs
def bindR {α β : Type} (X : Nat × Int → α × Nat × Int) (Y : α → Nat × Int → β × Nat × Int) (s : Nat × Int) : β × Nat × Int := Y (X s).1 (X s).2
def rTags (bs : List Int) : Nat → List Tag → Nat × Int → List Tag × Nat × Int
  | 0, acc => fun s => (acc, s)
  | n + 1, acc => bindR (rT bs) fun x => bindR (rT bs) fun y => rTags bs n (acc ++ [⟨x, y⟩])
def rLine (bs : List Int) : Nat × Int → Line × Nat × Int :=
  bindR (rT bs) fun acc => bindR (rT bs) fun cur => bindR (rI bs) fun amt => bindR (rI bs) fun base => bindR (rT bs) fun par => bindR (rT bs) fun pty => bindR (rC 6 bs) fun n => bindR (rTags bs n.toNat []) fun tags s => (⟨acc, cur, amt, base, par, pty, tags, tags.isEmpty⟩, s)
theorem rC_le {bs : List Int} {most : Int} {s : Nat × Int} {q : Int × Nat × Int} (h : rC most bs s = q) (hm : 0 ≤ most) : 0 ≤ q.1 ∧ q.1 ≤ most := by
  subst h
  unfold rC
  split
  · split
    · simp only; omega
    · omega
  · simp only; omega
theorem rdline_ok {st : St} {nx id : Nat} {bs : List Int} {rr : Nat} {s : Nat × Int} (h : Rd st nx id bs rr s) (hb : bOK bs) (hl : bs.length < 4611686018427387904) :
    W (L.hp 29 [.ptr id 0] st nx) (RP st nx id bs rr (rLine bs s) lineQ) := by
  refine hp_w k29_eq ?_
  simp only [k29]
  have hid := h.1
  repeat' (first | (simp -implicitDefEqProofs only [ze, Nat.reduceEqDiff, Nat.reduceAdd, Nat.reduceMul, reduceIte, Nat.reduceLT, Nat.reduceLeDiff, reduceCtorEq, Int.reduceEq, Int.reduceLT, Int.reduceLE, Int.reduceNeg, Int.reduceToNat, Nat.reduceBEq, Nat.reduceSub, qp, qf, kop, av, RQ, PQ, kres, kres1, kresL, fin, fins, fin1, V.pur?, V.pur1?, V.cells, kld, ones, V.one, Value.oneCell', own, owns, own1, xfill, ksrc, kint, vint, ksub, keqs, kok, V.val1?, ofRes]) | (with_reducible refine wgd_cases ?_ ?_ <;> intro hb) | (with_reducible refine wcond_cases ?_ ?_ <;> intro hb) | (with_reducible refine qd_i (by kernel_rfl) ?_) | (with_reducible refine W_itn_cases ?_ ?_; omega))
  refine W_hp (rtext2_ok ((((h.upd (j := nx) (by omega) (Nat.le_refl _) _).upd (j := nx + 16) (by omega) (Nat.le_refl _) _).upd (j := nx + 16) (by omega) (Nat.le_refl _) _).le (by omega)) hb hl) ?_
  rintro _ ⟨v, s1, n1, rfl, hn1, hk, hd, rfl⟩
  generalize hq1 : rT bs s = q1 at hd ⊢
  have kk : KeepX st s1 nx id := ((((KeepX.refl st nx id).upd (j := nx) (by omega) _).upd (j := nx + 16) (by omega) _).upd (j := nx + 16) (by omega) _).trans hk (by omega)
  have hO := (hk (nx + 16) (by omega) (by omega)).trans (by rw [upd_at, if_pos rfl])
  have hR := (hk (nx) (by omega) (by omega)).trans (by rw [upd_at, if_neg (by omega), upd_at, if_neg (by omega), upd_at, if_pos rfl])
  clear hk
  repeat' (first | (simp -implicitDefEqProofs only [ze, Nat.reduceEqDiff, Nat.reduceAdd, Nat.reduceMul, reduceIte, Nat.reduceLT, Nat.reduceLeDiff, reduceCtorEq, Int.reduceEq, Int.reduceLT, Int.reduceLE, Int.reduceNeg, Int.reduceToNat, Nat.reduceBEq, Nat.reduceSub, qp, qf, kop, av, RQ, PQ, kres, kres1, kresL, fin, fins, fin1, V.pur?, V.pur1?, V.cells, kld, ones, V.one, Value.oneCell', own, owns, own1, xfill, ksrc, kint, vint, ksub, keqs, kok, V.val1?, ofRes, hO]) | (with_reducible refine wgd_cases ?_ ?_ <;> intro hb) | (with_reducible refine wcond_cases ?_ ?_ <;> intro hb) | (with_reducible refine qd_i (by kernel_rfl) ?_) | (with_reducible refine W_itn_cases ?_ ?_; omega))
  refine W_hp (rtext2_ok ((hd.upd (j := nx + 16) (by omega) (Nat.le_refl _) _).le (by omega)) hb hl) ?_
  clear hd
  rintro _ ⟨v, s2, n2, rfl, hn2, hk, hd, rfl⟩
  generalize hq2 : rT bs q1.2 = q2 at hd ⊢
  replace kk := (kk.upd (j := nx + 16) (by omega) _).trans hk (by omega)
  replace hO := (hk (nx + 16) (by omega) (by omega)).trans (by rw [upd_at, if_pos rfl])
  replace hR := (hk (nx) (by omega) (by omega)).trans (Eq.trans (by rw [upd_at, if_neg (by omega)]) hR)
  clear hk
  repeat' (first | (simp -implicitDefEqProofs only [ze, Nat.reduceEqDiff, Nat.reduceAdd, Nat.reduceMul, reduceIte, Nat.reduceLT, Nat.reduceLeDiff, reduceCtorEq, Int.reduceEq, Int.reduceLT, Int.reduceLE, Int.reduceNeg, Int.reduceToNat, Nat.reduceBEq, Nat.reduceSub, qp, qf, kop, av, RQ, PQ, kres, kres1, kresL, fin, fins, fin1, V.pur?, V.pur1?, V.cells, kld, ones, V.one, Value.oneCell', own, owns, own1, xfill, ksrc, kint, vint, ksub, keqs, kok, V.val1?, ofRes, hO]) | (with_reducible refine wgd_cases ?_ ?_ <;> intro hb) | (with_reducible refine wcond_cases ?_ ?_ <;> intro hb) | (with_reducible refine qd_i (by kernel_rfl) ?_) | (with_reducible refine W_itn_cases ?_ ?_; omega))
  refine W_hp (rint_ok ((hd.upd (j := nx + 16) (by omega) (Nat.le_refl _) _).le (by omega)) hb hl) ?_
  clear hd
  rintro _ ⟨v, s3, n3, rfl, hn3, hk, hd, rfl⟩
  generalize hq3 : rI bs q2.2 = q3 at hd ⊢
  replace kk := (kk.upd (j := nx + 16) (by omega) _).trans hk (by omega)
  replace hO := (hk (nx + 16) (by omega) (by omega)).trans (by rw [upd_at, if_pos rfl])
  replace hR := (hk (nx) (by omega) (by omega)).trans (Eq.trans (by rw [upd_at, if_neg (by omega)]) hR)
  clear hk
  repeat' (first | (simp -implicitDefEqProofs only [ze, Nat.reduceEqDiff, Nat.reduceAdd, Nat.reduceMul, reduceIte, Nat.reduceLT, Nat.reduceLeDiff, reduceCtorEq, Int.reduceEq, Int.reduceLT, Int.reduceLE, Int.reduceNeg, Int.reduceToNat, Nat.reduceBEq, Nat.reduceSub, qp, qf, kop, av, RQ, PQ, kres, kres1, kresL, fin, fins, fin1, V.pur?, V.pur1?, V.cells, kld, ones, V.one, Value.oneCell', own, owns, own1, xfill, ksrc, kint, vint, ksub, keqs, kok, V.val1?, ofRes, hO]) | (with_reducible refine wgd_cases ?_ ?_ <;> intro hb) | (with_reducible refine wcond_cases ?_ ?_ <;> intro hb) | (with_reducible refine qd_i (by kernel_rfl) ?_) | (with_reducible refine W_itn_cases ?_ ?_; omega))
  refine W_hp (rint_ok ((hd.upd (j := nx + 16) (by omega) (Nat.le_refl _) _).le (by omega)) hb hl) ?_
  clear hd
  rintro _ ⟨v, s4, n4, rfl, hn4, hk, hd, rfl⟩
  generalize hq4 : rI bs q3.2 = q4 at hd ⊢
  replace kk := (kk.upd (j := nx + 16) (by omega) _).trans hk (by omega)
  replace hO := (hk (nx + 16) (by omega) (by omega)).trans (by rw [upd_at, if_pos rfl])
  replace hR := (hk (nx) (by omega) (by omega)).trans (Eq.trans (by rw [upd_at, if_neg (by omega)]) hR)
  clear hk
  repeat' (first | (simp -implicitDefEqProofs only [ze, Nat.reduceEqDiff, Nat.reduceAdd, Nat.reduceMul, reduceIte, Nat.reduceLT, Nat.reduceLeDiff, reduceCtorEq, Int.reduceEq, Int.reduceLT, Int.reduceLE, Int.reduceNeg, Int.reduceToNat, Nat.reduceBEq, Nat.reduceSub, qp, qf, kop, av, RQ, PQ, kres, kres1, kresL, fin, fins, fin1, V.pur?, V.pur1?, V.cells, kld, ones, V.one, Value.oneCell', own, owns, own1, xfill, ksrc, kint, vint, ksub, keqs, kok, V.val1?, ofRes, hO]) | (with_reducible refine wgd_cases ?_ ?_ <;> intro hb) | (with_reducible refine wcond_cases ?_ ?_ <;> intro hb) | (with_reducible refine qd_i (by kernel_rfl) ?_) | (with_reducible refine W_itn_cases ?_ ?_; omega))
  refine W_hp (rtext2_ok ((hd.upd (j := nx + 16) (by omega) (Nat.le_refl _) _).le (by omega)) hb hl) ?_
  clear hd
  rintro _ ⟨v, s5, n5, rfl, hn5, hk, hd, rfl⟩
  generalize hq5 : rT bs q4.2 = q5 at hd ⊢
  replace kk := (kk.upd (j := nx + 16) (by omega) _).trans hk (by omega)
  replace hO := (hk (nx + 16) (by omega) (by omega)).trans (by rw [upd_at, if_pos rfl])
  replace hR := (hk (nx) (by omega) (by omega)).trans (Eq.trans (by rw [upd_at, if_neg (by omega)]) hR)
  clear hk
  repeat' (first | (simp -implicitDefEqProofs only [ze, Nat.reduceEqDiff, Nat.reduceAdd, Nat.reduceMul, reduceIte, Nat.reduceLT, Nat.reduceLeDiff, reduceCtorEq, Int.reduceEq, Int.reduceLT, Int.reduceLE, Int.reduceNeg, Int.reduceToNat, Nat.reduceBEq, Nat.reduceSub, qp, qf, kop, av, RQ, PQ, kres, kres1, kresL, fin, fins, fin1, V.pur?, V.pur1?, V.cells, kld, ones, V.one, Value.oneCell', own, owns, own1, xfill, ksrc, kint, vint, ksub, keqs, kok, V.val1?, ofRes, hO]) | (with_reducible refine wgd_cases ?_ ?_ <;> intro hb) | (with_reducible refine wcond_cases ?_ ?_ <;> intro hb) | (with_reducible refine qd_i (by kernel_rfl) ?_) | (with_reducible refine W_itn_cases ?_ ?_; omega))
  refine W_hp (rtext2_ok ((hd.upd (j := nx + 16) (by omega) (Nat.le_refl _) _).le (by omega)) hb hl) ?_
  clear hd
  rintro _ ⟨v, s6, n6, rfl, hn6, hk, hd, rfl⟩
  generalize hq6 : rT bs q5.2 = q6 at hd ⊢
  replace kk := (kk.upd (j := nx + 16) (by omega) _).trans hk (by omega)
  replace hO := (hk (nx + 16) (by omega) (by omega)).trans (by rw [upd_at, if_pos rfl])
  replace hR := (hk (nx) (by omega) (by omega)).trans (Eq.trans (by rw [upd_at, if_neg (by omega)]) hR)
  clear hk
  repeat' (first | (simp -implicitDefEqProofs only [ze, Nat.reduceEqDiff, Nat.reduceAdd, Nat.reduceMul, reduceIte, Nat.reduceLT, Nat.reduceLeDiff, reduceCtorEq, Int.reduceEq, Int.reduceLT, Int.reduceLE, Int.reduceNeg, Int.reduceToNat, Nat.reduceBEq, Nat.reduceSub, qp, qf, kop, av, RQ, PQ, kres, kres1, kresL, fin, fins, fin1, V.pur?, V.pur1?, V.cells, kld, ones, V.one, Value.oneCell', own, owns, own1, xfill, ksrc, kint, vint, ksub, keqs, kok, V.val1?, ofRes, hO]) | (with_reducible refine wgd_cases ?_ ?_ <;> intro hb) | (with_reducible refine wcond_cases ?_ ?_ <;> intro hb) | (with_reducible refine qd_i (by kernel_rfl) ?_) | (with_reducible refine W_itn_cases ?_ ?_; omega))
  refine W_hp (rcount_ok ((hd.upd (j := nx + 16) (by omega) (Nat.le_refl _) _).le (by omega)) hb hl 6) ?_
  clear hd
  rintro _ ⟨v, s7, n7, rfl, hn7, hk, hd, rfl⟩
  generalize hq7 : rC 6 bs q6.2 = q7 at hd ⊢
  replace kk := (kk.upd (j := nx + 16) (by omega) _).trans hk (by omega)
  replace hO := (hk (nx + 16) (by omega) (by omega)).trans (by rw [upd_at, if_pos rfl])
  replace hR := (hk (nx) (by omega) (by omega)).trans (Eq.trans (by rw [upd_at, if_neg (by omega)]) hR)
  clear hk
  repeat' (first | (simp -implicitDefEqProofs only [ze, Nat.reduceEqDiff, Nat.reduceAdd, Nat.reduceMul, reduceIte, Nat.reduceLT, Nat.reduceLeDiff, reduceCtorEq, Int.reduceEq, Int.reduceLT, Int.reduceLE, Int.reduceNeg, Int.reduceToNat, Nat.reduceBEq, Nat.reduceSub, qp, qf, kop, av, RQ, PQ, kres, kres1, kresL, fin, fins, fin1, V.pur?, V.pur1?, V.cells, kld, ones, V.one, Value.oneCell', own, owns, own1, xfill, ksrc, kint, vint, ksub, keqs, kok, V.val1?, ofRes, hO]) | (with_reducible refine wgd_cases ?_ ?_ <;> intro hb) | (with_reducible refine wcond_cases ?_ ?_ <;> intro hb) | (with_reducible refine qd_i (by kernel_rfl) ?_) | (with_reducible refine W_itn_cases ?_ ?_; omega))
  obtain ⟨hc0, hc1⟩ := rC_le hq7 (by omega)
  refine loop_w (fun m tm st' nx' => ∃ (i : Nat) (acc : List Tag) (si : Nat × Int) (vt : V), m = q7.1.toNat - i ∧ i ≤ q7.1.toNat ∧ acc.length = i ∧ rTags bs q7.1.toNat [] q7.2 = rTags bs (q7.1.toNat - i) acc si ∧ tm 5 = .i64 i ∧ tm 4 = .i64 q7.1 ∧ tm 0 = .ptr id 0 ∧ tm 2 = .ptr nx 0 ∧ tm 3 = .ptr (nx + 16) 0 ∧ nx + 32 ≤ nx' ∧ KeepX st st' nx id ∧
      st' (nx + 16) = some (.cells [.str q1.1, .str q2.1, .i64 q3.1, .i64 q4.1, .str q5.1, .str q6.1, vt]) ∧ st' nx = some (.cells [V.sc (Value.string (ByteArray.mk #[])), V.sc (Value.string (ByteArray.mk #[])), V.sc (Value.int IntKind.i64 0), V.sc (Value.int IntKind.i64 0), V.sc (Value.string (ByteArray.mk #[])), V.sc (Value.string (ByteArray.mk #[])), V.list 0 [] 1]) ∧ Rd st' nx' id bs rr si ∧ GrowN st' (nx + 16) nx' 45 (acc.map encT) vt) q7.1.toNat ⟨0, [], q7.2, .list 0 [] 1, by omega, by omega, rfl, rfl, ?_, ?_, ?_, ?_, ?_, by omega, kk, hO, hR, hd.le (by omega), .inl ⟨rfl, rfl⟩⟩ ?_
  · simp -implicitDefEqProofs only [ze, Nat.reduceEqDiff, Nat.reduceAdd, Nat.reduceMul, reduceIte, Nat.reduceLT, Nat.reduceLeDiff, reduceCtorEq, Int.reduceEq, Int.reduceLT, Int.reduceLE, Int.reduceNeg, Int.reduceToNat, Nat.reduceBEq, Nat.reduceSub, qp, qf, kop, av, RQ, PQ, kres, kres1, kresL, fin, fins, fin1, V.pur?, V.pur1?, V.cells, kld, ones, V.one, Value.oneCell', own, owns, own1, xfill, ksrc, kint, vint, ksub, keqs, kok, V.val1?, ofRes]; rfl
  · simp -implicitDefEqProofs only [ze, Nat.reduceEqDiff, Nat.reduceAdd, Nat.reduceMul, reduceIte, Nat.reduceLT, Nat.reduceLeDiff, reduceCtorEq, Int.reduceEq, Int.reduceLT, Int.reduceLE, Int.reduceNeg, Int.reduceToNat, Nat.reduceBEq, Nat.reduceSub, qp, qf, kop, av, RQ, PQ, kres, kres1, kresL, fin, fins, fin1, V.pur?, V.pur1?, V.cells, kld, ones, V.one, Value.oneCell', own, owns, own1, xfill, ksrc, kint, vint, ksub, keqs, kok, V.val1?, ofRes]
  · simp -implicitDefEqProofs only [ze, Nat.reduceEqDiff, Nat.reduceAdd, Nat.reduceMul, reduceIte, Nat.reduceLT, Nat.reduceLeDiff, reduceCtorEq, Int.reduceEq, Int.reduceLT, Int.reduceLE, Int.reduceNeg, Int.reduceToNat, Nat.reduceBEq, Nat.reduceSub, qp, qf, kop, av, RQ, PQ, kres, kres1, kresL, fin, fins, fin1, V.pur?, V.pur1?, V.cells, kld, ones, V.one, Value.oneCell', own, owns, own1, xfill, ksrc, kint, vint, ksub, keqs, kok, V.val1?, ofRes]
  · simp -implicitDefEqProofs only [ze, Nat.reduceEqDiff, Nat.reduceAdd, Nat.reduceMul, reduceIte, Nat.reduceLT, Nat.reduceLeDiff, reduceCtorEq, Int.reduceEq, Int.reduceLT, Int.reduceLE, Int.reduceNeg, Int.reduceToNat, Nat.reduceBEq, Nat.reduceSub, qp, qf, kop, av, RQ, PQ, kres, kres1, kresL, fin, fins, fin1, V.pur?, V.pur1?, V.cells, kld, ones, V.one, Value.oneCell', own, owns, own1, xfill, ksrc, kint, vint, ksub, keqs, kok, V.val1?, ofRes]
  · simp -implicitDefEqProofs only [ze, Nat.reduceEqDiff, Nat.reduceAdd, Nat.reduceMul, reduceIte, Nat.reduceLT, Nat.reduceLeDiff, reduceCtorEq, Int.reduceEq, Int.reduceLT, Int.reduceLE, Int.reduceNeg, Int.reduceToNat, Nat.reduceBEq, Nat.reduceSub, qp, qf, kop, av, RQ, PQ, kres, kres1, kresL, fin, fins, fin1, V.pur?, V.pur1?, V.cells, kld, ones, V.one, Value.oneCell', own, owns, own1, xfill, ksrc, kint, vint, ksub, keqs, kok, V.val1?, ofRes]
  clear hd kk hO hR
  rintro m tm st' nx' ⟨i, acc, si, vt, hm, hi, hacc, hdt, h5, h4, h0, h2, h3, hnx, kk, hO, hR, hD, hg⟩
  simp only [k29_l0]
  have hne : id ≠ nx := by omega
  have hne' : id ≠ nx + 16 := by omega
  by_cases hlt : i < q7.1.toNat
  · have hd : decide ((i : Int) < q7.1) = true := decide_eq_true (by omega)
    obtain ⟨k, hki⟩ : ∃ k, q7.1.toNat - i = k + 1 := ⟨q7.1.toNat - i - 1, by omega⟩
    rw [hki] at hdt
    have hidn := hD.1
    repeat' (first | (simp -implicitDefEqProofs only [ze, Nat.reduceEqDiff, Nat.reduceAdd, Nat.reduceMul, reduceIte, Nat.reduceLT, Nat.reduceLeDiff, reduceCtorEq, Int.reduceEq, Int.reduceLT, Int.reduceLE, Int.reduceNeg, Int.reduceToNat, Nat.reduceBEq, Nat.reduceSub, qp, qf, kop, av, RQ, PQ, kres, kres1, kresL, fin, fins, fin1, V.pur?, V.pur1?, V.cells, kld, ones, V.one, Value.oneCell', own, owns, own1, xfill, ksrc, kint, vint, ksub, keqs, kok, V.val1?, ofRes, h5, h4, h0, h2, h3, hd]) | (with_reducible refine wgd_cases ?_ ?_ <;> intro hb) | (with_reducible refine wcond_cases ?_ ?_ <;> intro hb) | (with_reducible refine qd_i (by kernel_rfl) ?_) | (with_reducible refine W_itn_cases ?_ ?_; omega))
    refine W_hp (rtext2_ok (((hD.upd (j := nx' + 32) (by omega) (Nat.le_refl _) _).upd (j := nx' + 32) (by omega) (Nat.le_refl _) _).le (by omega)) hb hl) ?_
    rintro _ ⟨v, sa, na, rfl, hna, hka, hDa, rfl⟩
    have hOa := (hka (nx + 16) (by omega) (by omega)).trans (Eq.trans (by rw [upd_at, if_neg (by omega), upd_at, if_neg (by omega)]) hO)
    have hRa := (hka nx (by omega) (by omega)).trans (Eq.trans (by rw [upd_at, if_neg (by omega), upd_at, if_neg (by omega)]) hR)
    have hPa := (hka (nx' + 32) (by omega) (by omega)).trans (by rw [upd_at, if_pos rfl])
    have kka := ((kk.upd (j := nx' + 32) (by omega) _).upd (j := nx' + 32) (by omega) _).trans hka (by omega)
    repeat' (first | (simp -implicitDefEqProofs only [ze, Nat.reduceEqDiff, Nat.reduceAdd, Nat.reduceMul, reduceIte, Nat.reduceLT, Nat.reduceLeDiff, reduceCtorEq, Int.reduceEq, Int.reduceLT, Int.reduceLE, Int.reduceNeg, Int.reduceToNat, Nat.reduceBEq, Nat.reduceSub, qp, qf, kop, av, RQ, PQ, kres, kres1, kresL, fin, fins, fin1, V.pur?, V.pur1?, V.cells, kld, ones, V.one, Value.oneCell', own, owns, own1, xfill, ksrc, kint, vint, ksub, keqs, kok, V.val1?, ofRes, hPa, h5, h4, h0, h2, h3]) | (with_reducible refine wgd_cases ?_ ?_ <;> intro hb) | (with_reducible refine wcond_cases ?_ ?_ <;> intro hb) | (with_reducible refine qd_i (by kernel_rfl) ?_) | (with_reducible refine W_itn_cases ?_ ?_; omega))
    refine W_hp (rtext2_ok ((hDa.upd (j := nx' + 32) (by omega) (Nat.le_refl _) _).le (by omega)) hb hl) ?_
    rintro _ ⟨v, sb, nb, rfl, hnb, hkb, hDb, rfl⟩
    have hOb := (hkb (nx + 16) (by omega) (by omega)).trans (Eq.trans (by rw [upd_at, if_neg (by omega)]) hOa)
    have hRb := (hkb nx (by omega) (by omega)).trans (Eq.trans (by rw [upd_at, if_neg (by omega)]) hRa)
    have hPb := (hkb (nx' + 32) (by omega) (by omega)).trans (by rw [upd_at, if_pos rfl])
    have kkb := (kka.upd (j := nx' + 32) (by omega) _).trans hkb (by omega)
    have f1 : (nx + 16 = nx' + 32) = False := eq_false (by omega)
    have f2 : ∀ j, (nx + 16 = nb + j) = False := fun j => eq_false (by omega)
    have f3 : ∀ j, (nx' + 32 = nb + j) = False := fun j => eq_false (by omega)
    have f4 : (nx' + 32 = nx + 16) = False := eq_false (by omega)
    rcases hg with ⟨hb0, rfl⟩ | ⟨hb1, r, hr0, hr8, hrn, rfl, hst⟩
    · repeat' (first | (simp -implicitDefEqProofs only [ze, Nat.reduceEqDiff, Nat.reduceAdd, Nat.reduceMul, reduceIte, Nat.reduceLT, Nat.reduceLeDiff, reduceCtorEq, Int.reduceEq, Int.reduceLT, Int.reduceLE, Int.reduceNeg, Int.reduceToNat, Nat.reduceBEq, Nat.reduceSub, qp, qf, kop, av, RQ, PQ, kres, kres1, kresL, fin, fins, fin1, V.pur?, V.pur1?, V.cells, kld, ones, V.one, Value.oneCell', own, owns, own1, xfill, ksrc, kint, vint, ksub, keqs, kok, V.val1?, ofRes, hOb, hPb, f1, f2, f3, f4, h5, h4, h0, h2, h3]) | (with_reducible refine wgd_cases ?_ ?_ <;> intro hb) | (with_reducible refine wcond_cases ?_ ?_ <;> intro hb) | (with_reducible refine qd_i (by kernel_rfl) ?_) | (with_reducible refine W_itn_cases ?_ ?_; omega))
      have hacc0 : acc = [] := by simpa using hb0
      subst hacc0
      have hi0 : i = 0 := hacc.symm
      subst hi0
      refine ⟨q7.1.toNat - 1, by omega, 1, [⟨(rT bs si).1, (rT bs (rT bs si).2).1⟩], _, _, rfl, by omega, rfl, ?_, up64 (by omega), by omega, (((kkb.upd (by omega) _).upd (by omega) _).upd (by omega) _).upd (by omega) _, rfl, ?_,
        ((((hDb.upd (by omega) (Nat.le_refl _) _).upd (by omega) (Nat.le_refl _) _).upd (by omega) (Nat.le_refl _) _).upd hne' (by omega) _), .inr ⟨by simp, nb + 32, by omega, by omega, by omega, rfl, ?_⟩⟩
      · rw [hdt, show q7.1.toNat - 1 = k by omega]; simp only [rTags, bindR, List.nil_append]
      · rw [if_neg (by omega), if_neg (by omega), if_neg (by omega), if_neg (by omega)]; exact hRb
      · rw [upd_at, if_neg (by omega), upd_at, if_pos rfl]; rfl
    · have hstb := (hkb r (by omega) (by omega)).trans (Eq.trans (by rw [upd_at, if_neg (by omega)]) ((hka r (by omega) (by omega)).trans (Eq.trans (by rw [upd_at, if_neg (by omega), upd_at, if_neg (by omega)]) hst)))
      have g1 : (r = 0) = False := eq_false (by omega)
      have g2 : (r = 1) = False := eq_false (by omega)
      have g3 : ∀ j, (r = nb + j) = False := fun j => eq_false (by omega)
      have g4 : (r = nx' + 32) = False := eq_false (by omega)
      have g5 : (nx + 16 = r) = False := eq_false (by omega)
      have g6 : (nx' + 32 = r) = False := eq_false (by omega)
      repeat' (first | (simp -implicitDefEqProofs only [ze, Nat.reduceEqDiff, Nat.reduceAdd, Nat.reduceMul, reduceIte, Nat.reduceLT, Nat.reduceLeDiff, reduceCtorEq, Int.reduceEq, Int.reduceLT, Int.reduceLE, Int.reduceNeg, Int.reduceToNat, Nat.reduceBEq, Nat.reduceSub, qp, qf, kop, av, RQ, PQ, kres, kres1, kresL, fin, fins, fin1, V.pur?, V.pur1?, V.cells, kld, ones, V.one, Value.oneCell', own, owns, own1, xfill, ksrc, kint, vint, ksub, keqs, kok, V.val1?, ofRes, hOb, hPb, hstb, f1, f2, f3, f4, g1, g2, g3, g4, g5, g6, h5, h4, h0, h2, h3, List.length_map]) | (with_reducible refine wgd_cases ?_ ?_ <;> intro hb) | (with_reducible refine wcond_cases ?_ ?_ <;> intro hb) | (with_reducible refine qd_i (by kernel_rfl) ?_) | (with_reducible refine W_itn_cases ?_ ?_; omega))
      refine ⟨q7.1.toNat - (i + 1), by omega, i + 1, acc ++ [⟨(rT bs si).1, (rT bs (rT bs si).2).1⟩], _, _, rfl, by omega, by simp [hacc], ?_, up64 (by omega), by omega, (((kkb.upd (by omega) _).upd (by omega) _).upd (by omega) _).upd (by omega) _, rfl, ?_,
        ((((hDb.upd (by omega) (Nat.le_refl _) _).upd (by omega) (Nat.le_refl _) _).upd (by omega) (Nat.le_refl _) _).upd hne' (by omega) _), .inr ⟨by simp, r, by omega, by omega, by omega, by simp [encT], ?_⟩⟩
      · rw [hdt, show q7.1.toNat - (i + 1) = k by omega]; simp only [rTags, bindR]
      · rw [if_neg (by omega), if_neg (by omega), if_neg (by omega), if_neg (by omega)]; exact hRb
      · rw [upd_at, if_neg (by omega), upd_at, if_pos rfl]; simp
  · have hd : decide ((i : Int) < q7.1) = false := decide_eq_false (by omega)
    have hin : i = q7.1.toNat := by omega
    rw [hin, Nat.sub_self] at hdt
    have e0 : rLine bs s = (⟨q1.1, q2.1, q3.1, q4.1, q5.1, q6.1, acc, acc.isEmpty⟩, si) := by simp only [rLine, bindR, hq1, hq2, hq3, hq4, hq5, hq6, hq7, hdt, rTags]
    rcases hg with ⟨hb0, rfl⟩ | ⟨hb1, r, hr0, hr8, hrn, rfl, hst⟩
    · repeat' (first | (simp -implicitDefEqProofs only [ze, Nat.reduceEqDiff, Nat.reduceAdd, Nat.reduceMul, reduceIte, Nat.reduceLT, Nat.reduceLeDiff, reduceCtorEq, Int.reduceEq, Int.reduceLT, Int.reduceLE, Int.reduceNeg, Int.reduceToNat, Nat.reduceBEq, Nat.reduceSub, qp, qf, kop, av, RQ, PQ, kres, kres1, kresL, fin, fins, fin1, V.pur?, V.pur1?, V.cells, kld, ones, V.one, Value.oneCell', own, owns, own1, xfill, ksrc, kint, vint, ksub, keqs, kok, V.val1?, ofRes, h5, h4, h0, h2, h3, hd, k29_t0, hO, hR]) | (with_reducible refine wgd_cases ?_ ?_ <;> intro hb) | (with_reducible refine wcond_cases ?_ ?_ <;> intro hb) | (with_reducible refine qd_i (by kernel_rfl) ?_) | (with_reducible refine W_itn_cases ?_ ?_; omega))
      rw [e0]
      exact ⟨_, _, _, rfl, by omega, kk.upd (Nat.le_refl _) _, (hD.upd hne (by omega) _), _, .inl ⟨hb0, rfl⟩, rfl, rfl⟩
    · repeat' (first | (simp -implicitDefEqProofs only [ze, Nat.reduceEqDiff, Nat.reduceAdd, Nat.reduceMul, reduceIte, Nat.reduceLT, Nat.reduceLeDiff, reduceCtorEq, Int.reduceEq, Int.reduceLT, Int.reduceLE, Int.reduceNeg, Int.reduceToNat, Nat.reduceBEq, Nat.reduceSub, qp, qf, kop, av, RQ, PQ, kres, kres1, kresL, fin, fins, fin1, V.pur?, V.pur1?, V.cells, kld, ones, V.one, Value.oneCell', own, owns, own1, xfill, ksrc, kint, vint, ksub, keqs, kok, V.val1?, ofRes, h5, h4, h0, h2, h3, hd, k29_t0, hO, hR]) | (with_reducible refine wgd_cases ?_ ?_ <;> intro hb) | (with_reducible refine wcond_cases ?_ ?_ <;> intro hb) | (with_reducible refine qd_i (by kernel_rfl) ?_) | (with_reducible refine W_itn_cases ?_ ?_; omega))
      rw [e0]
      exact ⟨_, _, _, rfl, by omega, kk.upd (Nat.le_refl _) _, (hD.upd hne (by omega) _), _, .inr ⟨hb1, r, hr8, rfl⟩, rfl, rfl⟩
end Go.Proofs.YtojbkakdhfmjmaaDoor.Vm
