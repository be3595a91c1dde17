/- Proved here: what the reference's Take returns: what the program's returns. Conditions: none. -/
import Derived.Test.YtojbkakdhfmjmaaDoorWt3
import Derived.Test.YtojbkakdhfmjmaaDoorVu4
set_option maxRecDepth 10000
set_option linter.unusedVariables false
set_option linter.unusedSimpArgs false
namespace Go.Proofs.YtojbkakdhfmjmaaDoor.Vm
open Go Go.Proofs
def rLines (bs : List Int) : Nat → List Line → Nat × Int → List Line × Nat × Int
  | 0, acc => fun s => (acc, s)
  | n + 1, acc => bindR (rLine bs) fun x => rLines bs n (acc ++ [x])
def rEntry (bs : List Int) : Nat × Int → Entry × Nat × Int :=
  bindR (rI bs) fun no => bindR (rT bs) fun ent => bindR (rI bs) fun book => bindR (rI bs) fun val => bindR (rI bs) fun kind => bindR (rT bs) fun ref => bindR (rT bs) fun who => bindR (rI bs) fun rev => bindR (rC 100 bs) fun n => bindR (rLines bs n.toNat []) fun lines s => (⟨no, ent, book, val, kind, ref, who, rev, lines, lines.isEmpty⟩, s)
/-- A reader that keeps its first error, and a decoder that throws it. -/
structure Rel {α : Type} (X : Nat × Int → α × Nat × Int) (D : Nat → Except Int (α × Nat)) : Prop where
  stuck : ∀ s, s.2 ≠ 0 → (X s).2.2 = s.2
  ok : ∀ a p, D a = .ok p → X (a, 0) = (p.1, p.2, 0)
  bad : ∀ a e, D a = .error e → (X (a, 0)).2.2 = e ∧ e ≠ 0
theorem Rel.pure {α : Type} (x : α) : Rel (fun s => (x, s)) (fun a => .ok (x, a)) := ⟨fun _ _ => rfl, fun a p h => by obtain rfl := Except.ok.inj h; rfl, fun a e h => by cases h⟩
theorem Rel.bind {α β : Type} {X : Nat × Int → α × Nat × Int} {D : Nat → Except Int (α × Nat)} {Y : α → Nat × Int → β × Nat × Int} {F : α → Nat → Except Int (β × Nat)} (h : Rel X D) (k : ∀ x, Rel (Y x) (F x)) : Rel (bindR X Y) (fun a => bindD (D a) F) := by
  refine ⟨fun s hs => ?_, fun a p hp => ?_, fun a e he => ?_⟩ <;> unfold bindR
  · rw [(k _).stuck _ (by rw [h.stuck s hs]; exact hs), h.stuck s hs]
  · obtain ⟨q, h1, h2⟩ := bindD_inv hp
    rw [h.ok a q h1]; exact (k _).ok _ _ h2
  · cases hd : D a with
    | error e' =>
      rw [hd] at he
      obtain rfl : e' = e := Except.error.inj he
      obtain ⟨g1, g2⟩ := h.bad a e' hd
      exact ⟨by rw [(k _).stuck _ (by rw [g1]; exact g2), g1], g2⟩
    | ok q =>
      rw [hd] at he
      rw [h.ok a q hd]; exact (k _).bad _ _ he
theorem rel_I (bs : List Int) : Rel (rI bs) (dInt bs) := by
  refine ⟨fun s hs => by rw [rI, if_neg hs], fun a p hp => ?_, fun a e he => ?_⟩
  · unfold dInt at hp
    split at hp
    · rename_i h0; obtain rfl := Except.ok.inj hp; simp only [rI, if_true, h0]
    · cases hp
  · unfold dInt at he
    split at he
    · cases he
    · rename_i h0; obtain rfl := Except.error.inj he; exact ⟨by simp only [rI, if_true], h0⟩
theorem rel_T (bs : List Int) : Rel (rT bs) (dText bs) := by
  refine ⟨fun s hs => by rw [rT, if_neg hs], fun a p hp => ?_, fun a e he => ?_⟩
  · unfold dText at hp
    split at hp
    · rename_i h0; obtain rfl := Except.ok.inj hp; simp only [rT, if_true, h0]
    · cases hp
  · unfold dText at he
    split at he
    · cases he
    · rename_i h0; obtain rfl := Except.error.inj he; exact ⟨by simp only [rT, if_true], h0⟩
theorem rel_C (most : Int) (bs : List Int) : Rel (rC most bs) (dCount most bs) := by
  refine ⟨fun s hs => ?_, fun a p hp => ?_, fun a e he => ?_⟩
  · have h1 := (rel_I bs).stuck s hs
    rw [rC, if_neg (by rw [h1]; exact hs), h1]
  · unfold dCount at hp
    split at hp
    · cases hp
    · rename_i q hq
      have h1 := (rel_I bs).ok a q hq
      split at hp
      · cases hp
      · rename_i hc
        obtain rfl := Except.ok.inj hp
        rw [rC, h1, if_pos rfl, if_neg hc]
  · unfold dCount at he
    split at he
    · rename_i e' hq
      obtain rfl := Except.error.inj he
      obtain ⟨g1, g2⟩ := (rel_I bs).bad a e' hq
      rw [rC, if_neg (by rw [g1]; exact g2)]
      exact ⟨g1, g2⟩
    · rename_i q hq
      have h1 := (rel_I bs).ok a q hq
      split at he
      · rename_i hc
        obtain rfl := Except.error.inj he
        rw [rC, h1, if_pos rfl, if_pos hc]
        exact ⟨rfl, by decide⟩
      · cases he
theorem rel_Tags (bs : List Int) : ∀ (n : Nat) (acc : List Tag), Rel (rTags bs n acc) (dTags bs n acc)
  | 0, acc => Rel.pure acc
  | n + 1, acc => (rel_T bs).bind fun x => (rel_T bs).bind fun y => rel_Tags bs n (acc ++ [⟨x, y⟩])
theorem rel_Line (bs : List Int) : Rel (rLine bs) (dLine bs) :=
  (rel_T bs).bind fun acc => (rel_T bs).bind fun cur => (rel_I bs).bind fun amt => (rel_I bs).bind fun base => (rel_T bs).bind fun par => (rel_T bs).bind fun pty => (rel_C 6 bs).bind fun n => (rel_Tags bs n.toNat []).bind fun tags => Rel.pure _
theorem rel_Lines (bs : List Int) : ∀ (n : Nat) (acc : List Line), Rel (rLines bs n acc) (dLines bs n acc)
  | 0, acc => Rel.pure acc
  | n + 1, acc => (rel_Line bs).bind fun x => rel_Lines bs n (acc ++ [x])
theorem rel_Entry (bs : List Int) : Rel (rEntry bs) (dEntry bs) :=
  (rel_I bs).bind fun no => (rel_T bs).bind fun ent => (rel_I bs).bind fun book => (rel_I bs).bind fun val => (rel_I bs).bind fun kind => (rel_T bs).bind fun ref => (rel_T bs).bind fun who => (rel_I bs).bind fun rev => (rel_C 100 bs).bind fun n => (rel_Lines bs n.toNat []).bind fun lines => Rel.pure _
theorem rtake_ok (bs : List Int) (hb : bOK bs) (hl : bs.length < 4611686018427387904) (r : Nat) : L.pl 12 [.list 5 (bv bs) r] = some (.ret (.tup [encE (takeS bs).1, .i64 (takeS bs).2.1, .i64 (takeS bs).2.2])) := by
  refine W_of (pl_w k12_eq ?_)
  simp only [k12]
  repeat' (first | (simp -implicitDefEqProofs only [ze, Nat.reduceEqDiff, Nat.reduceAdd, Nat.reduceMul, reduceIte, Nat.reduceLT, Nat.reduceLeDiff, reduceCtorEq, Int.reduceEq, Int.reduceLT, Int.reduceLE, Int.reduceNeg, Int.reduceToNat, Nat.reduceBEq, Nat.reduceSub, qp, qf, kop, av, RQ, PQ, kres, kres1, kresL, fin, fins, fin1, V.pur?, V.pur1?, V.cells, kld, ones, V.one, Value.oneCell', own, owns, own1, xfill, ksrc, kint, vint, ksub, keqs, kok, V.val1?, ofRes, ne_eq, not_true_eq_false, gt_iff_lt]) | (with_reducible refine wgd_cases ?_ ?_ <;> intro hb) | (with_reducible refine wcond_cases ?_ ?_ <;> intro hb) | (with_reducible refine qd_i (by kernel_rfl) ?_) | (with_reducible refine W_itn_cases ?_ ?_; omega))
  have hd0 : Rd (upd (upd (upd (upd (fun _ => none) 8 (some (.cells [V.sc (Value.int IntKind.i64 0), V.sc (Value.string (ByteArray.mk #[])), V.sc (Value.int IntKind.i64 0), V.sc (Value.int IntKind.i64 0), V.sc (Value.int IntKind.i64 0), V.sc (Value.string (ByteArray.mk #[])), V.sc (Value.string (ByteArray.mk #[])), V.sc (Value.int IntKind.i64 0), V.list 0 [] 1]))) 48 (some (.cells [.list 5 (bv bs) r, .i64 0, .i64 0]))) 72 (some (.cells [V.sc (Value.int IntKind.i64 0), V.sc (Value.string (ByteArray.mk #[])), V.sc (Value.int IntKind.i64 0), V.sc (Value.int IntKind.i64 0), V.sc (Value.int IntKind.i64 0), V.sc (Value.string (ByteArray.mk #[])), V.sc (Value.string (ByteArray.mk #[])), V.sc (Value.int IntKind.i64 0), V.list 0 [] 1]))) 72 (some (.cells [V.sc (Value.int IntKind.i64 0), V.sc (Value.string (ByteArray.mk #[])), V.sc (Value.int IntKind.i64 0), V.sc (Value.int IntKind.i64 0), V.sc (Value.int IntKind.i64 0), V.sc (Value.string (ByteArray.mk #[])), V.sc (Value.string (ByteArray.mk #[])), V.sc (Value.int IntKind.i64 0), V.list 0 [] 1]))) 88 48 bs r (0, 0) := ⟨by omega, by simp, by rw [upd_at, if_neg (by omega), upd_at, if_neg (by omega), upd_at, if_pos rfl]; rfl⟩
  refine W_hp (rint_ok (hd0.le (by omega)) hb hl) ?_
  rintro _ ⟨v, s1, n1, rfl, hn1, hk, hd, rfl⟩
  generalize hq1 : rI bs ((0, 0) : Nat × Int) = q1 at hd ⊢
  have hO := (hk 72 (by omega) (by omega)).trans (by rw [upd_at, if_pos rfl])
  have hR := (hk 8 (by omega) (by omega)).trans (by rw [upd_at, if_neg (by omega), upd_at, if_neg (by omega), upd_at, if_neg (by omega), upd_at, if_pos rfl])
  clear hk
  repeat' (first | (simp -implicitDefEqProofs only [ze, Nat.reduceEqDiff, Nat.reduceAdd, Nat.reduceMul, reduceIte, Nat.reduceLT, Nat.reduceLeDiff, reduceCtorEq, Int.reduceEq, Int.reduceLT, Int.reduceLE, Int.reduceNeg, Int.reduceToNat, Nat.reduceBEq, Nat.reduceSub, qp, qf, kop, av, RQ, PQ, kres, kres1, kresL, fin, fins, fin1, V.pur?, V.pur1?, V.cells, kld, ones, V.one, Value.oneCell', own, owns, own1, xfill, ksrc, kint, vint, ksub, keqs, kok, V.val1?, ofRes, hO]) | (with_reducible refine wgd_cases ?_ ?_ <;> intro hb) | (with_reducible refine wcond_cases ?_ ?_ <;> intro hb) | (with_reducible refine qd_i (by kernel_rfl) ?_) | (with_reducible refine W_itn_cases ?_ ?_; omega))
  refine W_hp (rtext2_ok ((hd.upd (j := 72) (by omega) (Nat.le_refl _) _).le (by omega)) hb hl) ?_
  clear hd
  rintro _ ⟨v, s2, n2, rfl, hn2, hk, hd, rfl⟩
  generalize hq2 : rT bs q1.2 = q2 at hd ⊢
  replace hO := (hk 72 (by omega) (by omega)).trans (by rw [upd_at, if_pos rfl])
  replace hR := (hk 8 (by omega) (by omega)).trans (Eq.trans (by rw [upd_at, if_neg (by omega)]) hR)
  clear hk
  repeat' (first | (simp -implicitDefEqProofs only [ze, Nat.reduceEqDiff, Nat.reduceAdd, Nat.reduceMul, reduceIte, Nat.reduceLT, Nat.reduceLeDiff, reduceCtorEq, Int.reduceEq, Int.reduceLT, Int.reduceLE, Int.reduceNeg, Int.reduceToNat, Nat.reduceBEq, Nat.reduceSub, qp, qf, kop, av, RQ, PQ, kres, kres1, kresL, fin, fins, fin1, V.pur?, V.pur1?, V.cells, kld, ones, V.one, Value.oneCell', own, owns, own1, xfill, ksrc, kint, vint, ksub, keqs, kok, V.val1?, ofRes, hO]) | (with_reducible refine wgd_cases ?_ ?_ <;> intro hb) | (with_reducible refine wcond_cases ?_ ?_ <;> intro hb) | (with_reducible refine qd_i (by kernel_rfl) ?_) | (with_reducible refine W_itn_cases ?_ ?_; omega))
  refine W_hp (rint_ok ((hd.upd (j := 72) (by omega) (Nat.le_refl _) _).le (by omega)) hb hl) ?_
  clear hd
  rintro _ ⟨v, s3, n3, rfl, hn3, hk, hd, rfl⟩
  generalize hq3 : rI bs q2.2 = q3 at hd ⊢
  replace hO := (hk 72 (by omega) (by omega)).trans (by rw [upd_at, if_pos rfl])
  replace hR := (hk 8 (by omega) (by omega)).trans (Eq.trans (by rw [upd_at, if_neg (by omega)]) hR)
  clear hk
  repeat' (first | (simp -implicitDefEqProofs only [ze, Nat.reduceEqDiff, Nat.reduceAdd, Nat.reduceMul, reduceIte, Nat.reduceLT, Nat.reduceLeDiff, reduceCtorEq, Int.reduceEq, Int.reduceLT, Int.reduceLE, Int.reduceNeg, Int.reduceToNat, Nat.reduceBEq, Nat.reduceSub, qp, qf, kop, av, RQ, PQ, kres, kres1, kresL, fin, fins, fin1, V.pur?, V.pur1?, V.cells, kld, ones, V.one, Value.oneCell', own, owns, own1, xfill, ksrc, kint, vint, ksub, keqs, kok, V.val1?, ofRes, hO]) | (with_reducible refine wgd_cases ?_ ?_ <;> intro hb) | (with_reducible refine wcond_cases ?_ ?_ <;> intro hb) | (with_reducible refine qd_i (by kernel_rfl) ?_) | (with_reducible refine W_itn_cases ?_ ?_; omega))
  refine W_hp (rint_ok ((hd.upd (j := 72) (by omega) (Nat.le_refl _) _).le (by omega)) hb hl) ?_
  clear hd
  rintro _ ⟨v, s4, n4, rfl, hn4, hk, hd, rfl⟩
  generalize hq4 : rI bs q3.2 = q4 at hd ⊢
  replace hO := (hk 72 (by omega) (by omega)).trans (by rw [upd_at, if_pos rfl])
  replace hR := (hk 8 (by omega) (by omega)).trans (Eq.trans (by rw [upd_at, if_neg (by omega)]) hR)
  clear hk
  repeat' (first | (simp -implicitDefEqProofs only [ze, Nat.reduceEqDiff, Nat.reduceAdd, Nat.reduceMul, reduceIte, Nat.reduceLT, Nat.reduceLeDiff, reduceCtorEq, Int.reduceEq, Int.reduceLT, Int.reduceLE, Int.reduceNeg, Int.reduceToNat, Nat.reduceBEq, Nat.reduceSub, qp, qf, kop, av, RQ, PQ, kres, kres1, kresL, fin, fins, fin1, V.pur?, V.pur1?, V.cells, kld, ones, V.one, Value.oneCell', own, owns, own1, xfill, ksrc, kint, vint, ksub, keqs, kok, V.val1?, ofRes, hO]) | (with_reducible refine wgd_cases ?_ ?_ <;> intro hb) | (with_reducible refine wcond_cases ?_ ?_ <;> intro hb) | (with_reducible refine qd_i (by kernel_rfl) ?_) | (with_reducible refine W_itn_cases ?_ ?_; omega))
  refine W_hp (rint_ok ((hd.upd (j := 72) (by omega) (Nat.le_refl _) _).le (by omega)) hb hl) ?_
  clear hd
  rintro _ ⟨v, s5, n5, rfl, hn5, hk, hd, rfl⟩
  generalize hq5 : rI bs q4.2 = q5 at hd ⊢
  replace hO := (hk 72 (by omega) (by omega)).trans (by rw [upd_at, if_pos rfl])
  replace hR := (hk 8 (by omega) (by omega)).trans (Eq.trans (by rw [upd_at, if_neg (by omega)]) hR)
  clear hk
  repeat' (first | (simp -implicitDefEqProofs only [ze, Nat.reduceEqDiff, Nat.reduceAdd, Nat.reduceMul, reduceIte, Nat.reduceLT, Nat.reduceLeDiff, reduceCtorEq, Int.reduceEq, Int.reduceLT, Int.reduceLE, Int.reduceNeg, Int.reduceToNat, Nat.reduceBEq, Nat.reduceSub, qp, qf, kop, av, RQ, PQ, kres, kres1, kresL, fin, fins, fin1, V.pur?, V.pur1?, V.cells, kld, ones, V.one, Value.oneCell', own, owns, own1, xfill, ksrc, kint, vint, ksub, keqs, kok, V.val1?, ofRes, hO]) | (with_reducible refine wgd_cases ?_ ?_ <;> intro hb) | (with_reducible refine wcond_cases ?_ ?_ <;> intro hb) | (with_reducible refine qd_i (by kernel_rfl) ?_) | (with_reducible refine W_itn_cases ?_ ?_; omega))
  refine W_hp (rtext2_ok ((hd.upd (j := 72) (by omega) (Nat.le_refl _) _).le (by omega)) hb hl) ?_
  clear hd
  rintro _ ⟨v, s6, n6, rfl, hn6, hk, hd, rfl⟩
  generalize hq6 : rT bs q5.2 = q6 at hd ⊢
  replace hO := (hk 72 (by omega) (by omega)).trans (by rw [upd_at, if_pos rfl])
  replace hR := (hk 8 (by omega) (by omega)).trans (Eq.trans (by rw [upd_at, if_neg (by omega)]) hR)
  clear hk
  repeat' (first | (simp -implicitDefEqProofs only [ze, Nat.reduceEqDiff, Nat.reduceAdd, Nat.reduceMul, reduceIte, Nat.reduceLT, Nat.reduceLeDiff, reduceCtorEq, Int.reduceEq, Int.reduceLT, Int.reduceLE, Int.reduceNeg, Int.reduceToNat, Nat.reduceBEq, Nat.reduceSub, qp, qf, kop, av, RQ, PQ, kres, kres1, kresL, fin, fins, fin1, V.pur?, V.pur1?, V.cells, kld, ones, V.one, Value.oneCell', own, owns, own1, xfill, ksrc, kint, vint, ksub, keqs, kok, V.val1?, ofRes, hO]) | (with_reducible refine wgd_cases ?_ ?_ <;> intro hb) | (with_reducible refine wcond_cases ?_ ?_ <;> intro hb) | (with_reducible refine qd_i (by kernel_rfl) ?_) | (with_reducible refine W_itn_cases ?_ ?_; omega))
  refine W_hp (rtext2_ok ((hd.upd (j := 72) (by omega) (Nat.le_refl _) _).le (by omega)) hb hl) ?_
  clear hd
  rintro _ ⟨v, s7, n7, rfl, hn7, hk, hd, rfl⟩
  generalize hq7 : rT bs q6.2 = q7 at hd ⊢
  replace hO := (hk 72 (by omega) (by omega)).trans (by rw [upd_at, if_pos rfl])
  replace hR := (hk 8 (by omega) (by omega)).trans (Eq.trans (by rw [upd_at, if_neg (by omega)]) hR)
  clear hk
  repeat' (first | (simp -implicitDefEqProofs only [ze, Nat.reduceEqDiff, Nat.reduceAdd, Nat.reduceMul, reduceIte, Nat.reduceLT, Nat.reduceLeDiff, reduceCtorEq, Int.reduceEq, Int.reduceLT, Int.reduceLE, Int.reduceNeg, Int.reduceToNat, Nat.reduceBEq, Nat.reduceSub, qp, qf, kop, av, RQ, PQ, kres, kres1, kresL, fin, fins, fin1, V.pur?, V.pur1?, V.cells, kld, ones, V.one, Value.oneCell', own, owns, own1, xfill, ksrc, kint, vint, ksub, keqs, kok, V.val1?, ofRes, hO]) | (with_reducible refine wgd_cases ?_ ?_ <;> intro hb) | (with_reducible refine wcond_cases ?_ ?_ <;> intro hb) | (with_reducible refine qd_i (by kernel_rfl) ?_) | (with_reducible refine W_itn_cases ?_ ?_; omega))
  refine W_hp (rint_ok ((hd.upd (j := 72) (by omega) (Nat.le_refl _) _).le (by omega)) hb hl) ?_
  clear hd
  rintro _ ⟨v, s8, n8, rfl, hn8, hk, hd, rfl⟩
  generalize hq8 : rI bs q7.2 = q8 at hd ⊢
  replace hO := (hk 72 (by omega) (by omega)).trans (by rw [upd_at, if_pos rfl])
  replace hR := (hk 8 (by omega) (by omega)).trans (Eq.trans (by rw [upd_at, if_neg (by omega)]) hR)
  clear hk
  repeat' (first | (simp -implicitDefEqProofs only [ze, Nat.reduceEqDiff, Nat.reduceAdd, Nat.reduceMul, reduceIte, Nat.reduceLT, Nat.reduceLeDiff, reduceCtorEq, Int.reduceEq, Int.reduceLT, Int.reduceLE, Int.reduceNeg, Int.reduceToNat, Nat.reduceBEq, Nat.reduceSub, qp, qf, kop, av, RQ, PQ, kres, kres1, kresL, fin, fins, fin1, V.pur?, V.pur1?, V.cells, kld, ones, V.one, Value.oneCell', own, owns, own1, xfill, ksrc, kint, vint, ksub, keqs, kok, V.val1?, ofRes, hO]) | (with_reducible refine wgd_cases ?_ ?_ <;> intro hb) | (with_reducible refine wcond_cases ?_ ?_ <;> intro hb) | (with_reducible refine qd_i (by kernel_rfl) ?_) | (with_reducible refine W_itn_cases ?_ ?_; omega))
  refine W_hp (rcount_ok ((hd.upd (j := 72) (by omega) (Nat.le_refl _) _).le (by omega)) hb hl 100) ?_
  clear hd
  rintro _ ⟨v, s9, n9, rfl, hn9, hk, hd, rfl⟩
  generalize hq9 : rC 100 bs q8.2 = q9 at hd ⊢
  replace hO := (hk 72 (by omega) (by omega)).trans (by rw [upd_at, if_pos rfl])
  replace hR := (hk 8 (by omega) (by omega)).trans (Eq.trans (by rw [upd_at, if_neg (by omega)]) hR)
  clear hk
  repeat' (first | (simp -implicitDefEqProofs only [ze, Nat.reduceEqDiff, Nat.reduceAdd, Nat.reduceMul, reduceIte, Nat.reduceLT, Nat.reduceLeDiff, reduceCtorEq, Int.reduceEq, Int.reduceLT, Int.reduceLE, Int.reduceNeg, Int.reduceToNat, Nat.reduceBEq, Nat.reduceSub, qp, qf, kop, av, RQ, PQ, kres, kres1, kresL, fin, fins, fin1, V.pur?, V.pur1?, V.cells, kld, ones, V.one, Value.oneCell', own, owns, own1, xfill, ksrc, kint, vint, ksub, keqs, kok, V.val1?, ofRes, hO]) | (with_reducible refine wgd_cases ?_ ?_ <;> intro hb) | (with_reducible refine wcond_cases ?_ ?_ <;> intro hb) | (with_reducible refine qd_i (by kernel_rfl) ?_) | (with_reducible refine W_itn_cases ?_ ?_; omega))
  obtain ⟨hc0, hc1⟩ := rC_le hq9 (by omega)
  refine loop_w (fun m tm st' nx' => ∃ (i : Nat) (acc : List Line) (si : Nat × Int) (vt : V), m = q9.1.toNat - i ∧ i ≤ q9.1.toNat ∧ acc.length = i ∧ rLines bs q9.1.toNat [] q9.2 = rLines bs (q9.1.toNat - i) acc si ∧ tm 8 = .i64 i ∧ tm 7 = .i64 q9.1 ∧ tm 5 = .ptr 48 0 ∧ tm 6 = .ptr 72 0 ∧ tm 2 = .ptr 8 0 ∧ 88 ≤ nx' ∧
      st' 72 = some (.cells [.i64 q1.1, .str q2.1, .i64 q3.1, .i64 q4.1, .i64 q5.1, .str q6.1, .str q7.1, .i64 q8.1, vt]) ∧ st' 8 = some (.cells [V.sc (Value.int IntKind.i64 0), V.sc (Value.string (ByteArray.mk #[])), V.sc (Value.int IntKind.i64 0), V.sc (Value.int IntKind.i64 0), V.sc (Value.int IntKind.i64 0), V.sc (Value.string (ByteArray.mk #[])), V.sc (Value.string (ByteArray.mk #[])), V.sc (Value.int IntKind.i64 0), V.list 0 [] 1]) ∧ Rd st' nx' 48 bs r si ∧ GrowN st' 72 nx' 43 (acc.map encL) vt) q9.1.toNat ⟨0, [], q9.2, .list 0 [] 1, by omega, by omega, rfl, rfl, ?_, ?_, ?_, ?_, ?_, by omega, hO, hR, hd.le (by omega), .inl ⟨rfl, rfl⟩⟩ ?_
  · simp -implicitDefEqProofs only [ze, Nat.reduceEqDiff, Nat.reduceAdd, Nat.reduceMul, reduceIte, Nat.reduceLT, Nat.reduceLeDiff, reduceCtorEq, Int.reduceEq, Int.reduceLT, Int.reduceLE, Int.reduceNeg, Int.reduceToNat, Nat.reduceBEq, Nat.reduceSub, qp, qf, kop, av, RQ, PQ, kres, kres1, kresL, fin, fins, fin1, V.pur?, V.pur1?, V.cells, kld, ones, V.one, Value.oneCell', own, owns, own1, xfill, ksrc, kint, vint, ksub, keqs, kok, V.val1?, ofRes]; rfl
  · simp -implicitDefEqProofs only [ze, Nat.reduceEqDiff, Nat.reduceAdd, Nat.reduceMul, reduceIte, Nat.reduceLT, Nat.reduceLeDiff, reduceCtorEq, Int.reduceEq, Int.reduceLT, Int.reduceLE, Int.reduceNeg, Int.reduceToNat, Nat.reduceBEq, Nat.reduceSub, qp, qf, kop, av, RQ, PQ, kres, kres1, kresL, fin, fins, fin1, V.pur?, V.pur1?, V.cells, kld, ones, V.one, Value.oneCell', own, owns, own1, xfill, ksrc, kint, vint, ksub, keqs, kok, V.val1?, ofRes]
  · simp -implicitDefEqProofs only [ze, Nat.reduceEqDiff, Nat.reduceAdd, Nat.reduceMul, reduceIte, Nat.reduceLT, Nat.reduceLeDiff, reduceCtorEq, Int.reduceEq, Int.reduceLT, Int.reduceLE, Int.reduceNeg, Int.reduceToNat, Nat.reduceBEq, Nat.reduceSub, qp, qf, kop, av, RQ, PQ, kres, kres1, kresL, fin, fins, fin1, V.pur?, V.pur1?, V.cells, kld, ones, V.one, Value.oneCell', own, owns, own1, xfill, ksrc, kint, vint, ksub, keqs, kok, V.val1?, ofRes]
  · simp -implicitDefEqProofs only [ze, Nat.reduceEqDiff, Nat.reduceAdd, Nat.reduceMul, reduceIte, Nat.reduceLT, Nat.reduceLeDiff, reduceCtorEq, Int.reduceEq, Int.reduceLT, Int.reduceLE, Int.reduceNeg, Int.reduceToNat, Nat.reduceBEq, Nat.reduceSub, qp, qf, kop, av, RQ, PQ, kres, kres1, kresL, fin, fins, fin1, V.pur?, V.pur1?, V.cells, kld, ones, V.one, Value.oneCell', own, owns, own1, xfill, ksrc, kint, vint, ksub, keqs, kok, V.val1?, ofRes]
  · simp -implicitDefEqProofs only [ze, Nat.reduceEqDiff, Nat.reduceAdd, Nat.reduceMul, reduceIte, Nat.reduceLT, Nat.reduceLeDiff, reduceCtorEq, Int.reduceEq, Int.reduceLT, Int.reduceLE, Int.reduceNeg, Int.reduceToNat, Nat.reduceBEq, Nat.reduceSub, qp, qf, kop, av, RQ, PQ, kres, kres1, kresL, fin, fins, fin1, V.pur?, V.pur1?, V.cells, kld, ones, V.one, Value.oneCell', own, owns, own1, xfill, ksrc, kint, vint, ksub, keqs, kok, V.val1?, ofRes]
  clear hd hO hR hd0
  rintro m tm st' nx' ⟨i, acc, si, vt, hm, hi, hacc, hdt, h8, h7, h5, h6, h2, hnx, hO, hR, hD, hg⟩
  simp only [k12_l0]
  by_cases hlt : i < q9.1.toNat
  · have hd : decide ((i : Int) < q9.1) = true := decide_eq_true (by omega)
    obtain ⟨k, hki⟩ : ∃ k, q9.1.toNat - i = k + 1 := ⟨q9.1.toNat - i - 1, by omega⟩
    rw [hki] at hdt
    repeat' (first | (simp -implicitDefEqProofs only [ze, Nat.reduceEqDiff, Nat.reduceAdd, Nat.reduceMul, reduceIte, Nat.reduceLT, Nat.reduceLeDiff, reduceCtorEq, Int.reduceEq, Int.reduceLT, Int.reduceLE, Int.reduceNeg, Int.reduceToNat, Nat.reduceBEq, Nat.reduceSub, qp, qf, kop, av, RQ, PQ, kres, kres1, kresL, fin, fins, fin1, V.pur?, V.pur1?, V.cells, kld, ones, V.one, Value.oneCell', own, owns, own1, xfill, ksrc, kint, vint, ksub, keqs, kok, V.val1?, ofRes, hO, h8, h7, h5, h6, h2, hd]))
    refine W_hp (rdline_ok (hD.le (by omega)) hb hl) ?_
    rintro _ ⟨v, sa, na, rfl, hna, hka, hDa, vt2, hf, htr, rfl⟩
    have hOa := (hka 72 (by omega) (by omega)).trans hO
    have hRa := (hka 8 (by omega) (by omega)).trans hR
    have f2 : ∀ j, (72 = na + j) = False := fun j => eq_false (by omega)
    have f5 : ∀ j, (72 = nx' + j) = False := fun j => eq_false (by omega)
    rcases hf with ⟨hfb, rfl⟩ | ⟨hfb, r2, hr28, rfl⟩
    · have htg : (rLine bs si).1.tags = [] := by simpa using hfb
      have hel : encL (rLine bs si).1 = .agg [.str (rLine bs si).1.acc, .str (rLine bs si).1.cur, .i64 (rLine bs si).1.amt, .i64 (rLine bs si).1.base, .str (rLine bs si).1.par, .str (rLine bs si).1.pty, .list 0 [] 1] := by
        unfold encL; rw [htr, htg]; rfl
      rcases hg with ⟨hb0, rfl⟩ | ⟨hb1, r3, hr0, hr8, hrn, rfl, hst⟩
      · have hacc0 : acc = [] := by simpa using hb0
        subst hacc0
        have hi0 : i = 0 := hacc.symm
        subst hi0
        repeat' (first | (simp -implicitDefEqProofs only [ze, Nat.reduceEqDiff, Nat.reduceAdd, Nat.reduceMul, reduceIte, Nat.reduceLT, Nat.reduceLeDiff, reduceCtorEq, Int.reduceEq, Int.reduceLT, Int.reduceLE, Int.reduceNeg, Int.reduceToNat, Nat.reduceBEq, Nat.reduceSub, qp, qf, kop, av, RQ, PQ, kres, kres1, kresL, fin, fins, fin1, V.pur?, V.pur1?, V.cells, kld, ones, V.one, Value.oneCell', own, owns, own1, xfill, ksrc, kint, vint, ksub, keqs, kok, V.val1?, ofRes, hOa, f2, f5, h8, h7, h5, h6, h2, wnx_tb, wnx_tbn]) | (with_reducible refine W_itn_cases ?_ ?_; omega))
        refine qd_2 ?_ ?_
        · simp [recsOk2, ordB, pairOk, bigF, δF, rF, disj, List.range, List.range.loop, seqSt, upds_nil]
          exact ⟨.inr (hOa.trans hO.symm), ⟨.inr (by omega), by decide⟩, ⟨.inr (by omega), by decide⟩, by decide, by decide, .inr (by omega), .inr (by omega)⟩
        · repeat' (first | (simp -implicitDefEqProofs only [ze, Nat.reduceEqDiff, Nat.reduceAdd, Nat.reduceMul, reduceIte, Nat.reduceLT, Nat.reduceLeDiff, reduceCtorEq, Int.reduceEq, Int.reduceLT, Int.reduceLE, Int.reduceNeg, Int.reduceToNat, Nat.reduceBEq, Nat.reduceSub, qp, qf, kop, av, RQ, PQ, kres, kres1, kresL, fin, fins, fin1, V.pur?, V.pur1?, V.cells, kld, ones, V.one, Value.oneCell', own, owns, own1, xfill, ksrc, kint, vint, ksub, keqs, kok, V.val1?, ofRes, h8, h7, h5, h6, h2, f2, f5]) | (with_reducible refine wgd_cases ?_ ?_ <;> intro hb) | (with_reducible refine wcond_cases ?_ ?_ <;> intro hb) | (with_reducible refine qd_i (by kernel_rfl) ?_) | (with_reducible refine W_itn_cases ?_ ?_; omega))
          refine ⟨q9.1.toNat - 1, by omega, 1, [(rLine bs si).1], _, _, rfl, by omega, rfl, ?_, up64 (by omega), by omega, rfl, ?_, (((hDa.upd (by omega) (Nat.le_refl _) _).upd (by omega) (Nat.le_refl _) _).upd (by omega) (by omega) _), .inr ⟨by simp, nx' + 64, by omega, by omega, by omega, by rw [List.map_cons, hel]; rfl, ?_⟩⟩
          · rw [hdt, show q9.1.toNat - 1 = k by omega]; simp only [rLines, bindR, List.nil_append]
          · exact hRa
          · rw [upd_at, if_neg (by omega), upd_at, if_pos rfl]; rfl
      · have hstb := (hka r3 (by omega) (by omega)).trans hst
        have g1 : (r3 = 0) = False := eq_false (by omega)
        have g2 : (r3 = 1) = False := eq_false (by omega)
        have g3 : ∀ j, (r3 = nx' + j) = False := fun j => eq_false (by omega)
        have g5 : (72 = r3) = False := eq_false (by omega)
        repeat' (first | (simp -implicitDefEqProofs only [ze, Nat.reduceEqDiff, Nat.reduceAdd, Nat.reduceMul, reduceIte, Nat.reduceLT, Nat.reduceLeDiff, reduceCtorEq, Int.reduceEq, Int.reduceLT, Int.reduceLE, Int.reduceNeg, Int.reduceToNat, Nat.reduceBEq, Nat.reduceSub, qp, qf, kop, av, RQ, PQ, kres, kres1, kresL, fin, fins, fin1, V.pur?, V.pur1?, V.cells, kld, ones, V.one, Value.oneCell', own, owns, own1, xfill, ksrc, kint, vint, ksub, keqs, kok, V.val1?, ofRes, hOa, hstb, f2, f5, g1, g2, g3, g5, h8, h7, h5, h6, h2, List.length_map, wnx_tb, wnx_tbn]) | (with_reducible refine W_itn_cases ?_ ?_; omega))
        refine qd_2 ?_ ?_
        · simp [recsOk2, ordB, pairOk, bigF, δF, rF, disj, List.range, List.range.loop, seqSt, upds_nil]
          exact ⟨.inr (hOa.trans hO.symm), ⟨.inr (by omega), by decide⟩, ⟨.inr (by omega), by decide, .inr (by omega)⟩, by decide, by decide, .inr (by omega), .inr (by omega)⟩
        · repeat' (first | (simp -implicitDefEqProofs only [ze, Nat.reduceEqDiff, Nat.reduceAdd, Nat.reduceMul, reduceIte, Nat.reduceLT, Nat.reduceLeDiff, reduceCtorEq, Int.reduceEq, Int.reduceLT, Int.reduceLE, Int.reduceNeg, Int.reduceToNat, Nat.reduceBEq, Nat.reduceSub, qp, qf, kop, av, RQ, PQ, kres, kres1, kresL, fin, fins, fin1, V.pur?, V.pur1?, V.cells, kld, ones, V.one, Value.oneCell', own, owns, own1, xfill, ksrc, kint, vint, ksub, keqs, kok, V.val1?, ofRes, h8, h7, h5, h6, h2, f2, f5, g5]) | (with_reducible refine wgd_cases ?_ ?_ <;> intro hb) | (with_reducible refine wcond_cases ?_ ?_ <;> intro hb) | (with_reducible refine qd_i (by kernel_rfl) ?_) | (with_reducible refine W_itn_cases ?_ ?_; omega))
          refine ⟨q9.1.toNat - (i + 1), by omega, i + 1, acc ++ [(rLine bs si).1], _, _, rfl, by omega, by simp [hacc], ?_, up64 (by omega), by omega, rfl, ?_, (((hDa.upd (by omega) (Nat.le_refl _) _).upd (by omega) (Nat.le_refl _) _).upd (by omega) (by omega) _), .inr ⟨by simp, r3, by omega, by omega, by omega, by rw [List.map_append, List.map_cons, hel]; rfl, ?_⟩⟩
          · rw [hdt, show q9.1.toNat - (i + 1) = k by omega]; simp only [rLines, bindR]
          · rw [if_neg (by omega)]; exact hRa
          · rw [upd_at, if_neg (by omega), upd_at, if_pos rfl]; simp
    · have htg : (rLine bs si).1.tags ≠ [] := by intro h; exact hfb (by rw [h]; rfl)
      have g7 : (r2 = 1) = False := eq_false (by omega)
      have hel : encL (rLine bs si).1 = .agg [.str (rLine bs si).1.acc, .str (rLine bs si).1.cur, .i64 (rLine bs si).1.amt, .i64 (rLine bs si).1.base, .str (rLine bs si).1.par, .str (rLine bs si).1.pty, .list 45 ((rLine bs si).1.tags.map encT) 0] := by
        have : (rLine bs si).1.tr = false := by rw [htr]; simpa using htg
        unfold encL; rw [this]; rfl
      rcases hg with ⟨hb0, rfl⟩ | ⟨hb1, r3, hr0, hr8, hrn, rfl, hst⟩
      · have hacc0 : acc = [] := by simpa using hb0
        subst hacc0
        have hi0 : i = 0 := hacc.symm
        subst hi0
        repeat' (first | (simp -implicitDefEqProofs only [ze, Nat.reduceEqDiff, Nat.reduceAdd, Nat.reduceMul, reduceIte, Nat.reduceLT, Nat.reduceLeDiff, reduceCtorEq, Int.reduceEq, Int.reduceLT, Int.reduceLE, Int.reduceNeg, Int.reduceToNat, Nat.reduceBEq, Nat.reduceSub, qp, qf, kop, av, RQ, PQ, kres, kres1, kresL, fin, fins, fin1, V.pur?, V.pur1?, V.cells, kld, ones, V.one, Value.oneCell', own, owns, own1, xfill, ksrc, kint, vint, ksub, keqs, kok, V.val1?, ofRes, hOa, f2, f5, h8, h7, h5, h6, h2, wnx_tb, wnx_tbn, g7]) | (with_reducible refine W_itn_cases ?_ ?_; omega))
        refine qd_2 ?_ ?_
        · simp [recsOk2, ordB, pairOk, bigF, δF, rF, disj, List.range, List.range.loop, seqSt, upds_nil]
          exact ⟨.inr (hOa.trans hO.symm), ⟨.inr (by omega), by decide⟩, ⟨.inr (by omega), by decide⟩, by decide, by decide, .inr (by omega), .inr (by omega)⟩
        · repeat' (first | (simp -implicitDefEqProofs only [ze, Nat.reduceEqDiff, Nat.reduceAdd, Nat.reduceMul, reduceIte, Nat.reduceLT, Nat.reduceLeDiff, reduceCtorEq, Int.reduceEq, Int.reduceLT, Int.reduceLE, Int.reduceNeg, Int.reduceToNat, Nat.reduceBEq, Nat.reduceSub, qp, qf, kop, av, RQ, PQ, kres, kres1, kresL, fin, fins, fin1, V.pur?, V.pur1?, V.cells, kld, ones, V.one, Value.oneCell', own, owns, own1, xfill, ksrc, kint, vint, ksub, keqs, kok, V.val1?, ofRes, h8, h7, h5, h6, h2, f2, f5]) | (with_reducible refine wgd_cases ?_ ?_ <;> intro hb) | (with_reducible refine wcond_cases ?_ ?_ <;> intro hb) | (with_reducible refine qd_i (by kernel_rfl) ?_) | (with_reducible refine W_itn_cases ?_ ?_; omega))
          refine ⟨q9.1.toNat - 1, by omega, 1, [(rLine bs si).1], _, _, rfl, by omega, rfl, ?_, up64 (by omega), by omega, rfl, ?_, (((hDa.upd (by omega) (Nat.le_refl _) _).upd (by omega) (Nat.le_refl _) _).upd (by omega) (by omega) _), .inr ⟨by simp, nx' + 64, by omega, by omega, by omega, by rw [List.map_cons, hel]; rfl, ?_⟩⟩
          · rw [hdt, show q9.1.toNat - 1 = k by omega]; simp only [rLines, bindR, List.nil_append]
          · exact hRa
          · rw [upd_at, if_neg (by omega), upd_at, if_pos rfl]; rfl
      · have hstb := (hka r3 (by omega) (by omega)).trans hst
        have g1 : (r3 = 0) = False := eq_false (by omega)
        have g2 : (r3 = 1) = False := eq_false (by omega)
        have g3 : ∀ j, (r3 = nx' + j) = False := fun j => eq_false (by omega)
        have g5 : (72 = r3) = False := eq_false (by omega)
        repeat' (first | (simp -implicitDefEqProofs only [ze, Nat.reduceEqDiff, Nat.reduceAdd, Nat.reduceMul, reduceIte, Nat.reduceLT, Nat.reduceLeDiff, reduceCtorEq, Int.reduceEq, Int.reduceLT, Int.reduceLE, Int.reduceNeg, Int.reduceToNat, Nat.reduceBEq, Nat.reduceSub, qp, qf, kop, av, RQ, PQ, kres, kres1, kresL, fin, fins, fin1, V.pur?, V.pur1?, V.cells, kld, ones, V.one, Value.oneCell', own, owns, own1, xfill, ksrc, kint, vint, ksub, keqs, kok, V.val1?, ofRes, hOa, hstb, f2, f5, g1, g2, g3, g5, h8, h7, h5, h6, h2, List.length_map, wnx_tb, wnx_tbn, g7]) | (with_reducible refine W_itn_cases ?_ ?_; omega))
        refine qd_2 ?_ ?_
        · simp [recsOk2, ordB, pairOk, bigF, δF, rF, disj, List.range, List.range.loop, seqSt, upds_nil]
          exact ⟨.inr (hOa.trans hO.symm), ⟨.inr (by omega), by decide⟩, ⟨.inr (by omega), by decide, .inr (by omega)⟩, by decide, by decide, .inr (by omega), .inr (by omega)⟩
        · repeat' (first | (simp -implicitDefEqProofs only [ze, Nat.reduceEqDiff, Nat.reduceAdd, Nat.reduceMul, reduceIte, Nat.reduceLT, Nat.reduceLeDiff, reduceCtorEq, Int.reduceEq, Int.reduceLT, Int.reduceLE, Int.reduceNeg, Int.reduceToNat, Nat.reduceBEq, Nat.reduceSub, qp, qf, kop, av, RQ, PQ, kres, kres1, kresL, fin, fins, fin1, V.pur?, V.pur1?, V.cells, kld, ones, V.one, Value.oneCell', own, owns, own1, xfill, ksrc, kint, vint, ksub, keqs, kok, V.val1?, ofRes, h8, h7, h5, h6, h2, f2, f5, g5]) | (with_reducible refine wgd_cases ?_ ?_ <;> intro hb) | (with_reducible refine wcond_cases ?_ ?_ <;> intro hb) | (with_reducible refine qd_i (by kernel_rfl) ?_) | (with_reducible refine W_itn_cases ?_ ?_; omega))
          refine ⟨q9.1.toNat - (i + 1), by omega, i + 1, acc ++ [(rLine bs si).1], _, _, rfl, by omega, by simp [hacc], ?_, up64 (by omega), by omega, rfl, ?_, (((hDa.upd (by omega) (Nat.le_refl _) _).upd (by omega) (Nat.le_refl _) _).upd (by omega) (by omega) _), .inr ⟨by simp, r3, by omega, by omega, by omega, by rw [List.map_append, List.map_cons, hel]; rfl, ?_⟩⟩
          · rw [hdt, show q9.1.toNat - (i + 1) = k by omega]; simp only [rLines, bindR]
          · rw [if_neg (by omega)]; exact hRa
          · rw [upd_at, if_neg (by omega), upd_at, if_pos rfl]; simp
  · have hd : decide ((i : Int) < q9.1) = false := decide_eq_false (by omega)
    have hin : i = q9.1.toNat := by omega
    rw [hin, Nat.sub_self] at hdt
    have e0 : rEntry bs (0, 0) = (⟨q1.1, q2.1, q3.1, q4.1, q5.1, q6.1, q7.1, q8.1, acc, acc.isEmpty⟩, si) := by simp only [rEntry, bindR, hq1, hq2, hq3, hq4, hq5, hq6, hq7, hq8, hq9, hdt, rLines]
    have hrel := rel_Entry bs
    have hz : encE zeroE = .agg [.i64 0, .str (ByteArray.mk #[]), .i64 0, .i64 0, .i64 0, .str (ByteArray.mk #[]), .str (ByteArray.mk #[]), .i64 0, .list 0 [] 1] := rfl
    obtain ⟨hD1, hD2, hD3⟩ := hD
    simp only [k12_t0]
    cases hx : dEntry bs 0 with
    | error e =>
      obtain ⟨g1, g2⟩ := hrel.bad 0 e hx
      rw [e0] at g1
      have g1 : si.2 = e := g1
      rw [g1] at hD3
      have hde : decide (e = 0) = false := decide_eq_false g2
      rcases hg with ⟨hb0, rfl⟩ | ⟨hb1, r3, hr0, hr8, hrn, rfl, hst⟩
      all_goals
        repeat' (first | (simp -implicitDefEqProofs only [ze, Nat.reduceEqDiff, Nat.reduceAdd, Nat.reduceMul, reduceIte, Nat.reduceLT, Nat.reduceLeDiff, reduceCtorEq, Int.reduceEq, Int.reduceLT, Int.reduceLE, Int.reduceNeg, Int.reduceToNat, Nat.reduceBEq, Nat.reduceSub, qp, qf, kop, av, RQ, PQ, kres, kres1, kresL, fin, fins, fin1, V.pur?, V.pur1?, V.cells, kld, ones, V.one, Value.oneCell', own, owns, own1, xfill, ksrc, kint, vint, ksub, keqs, kok, V.val1?, ofRes, h8, h7, h5, h6, h2, hd, hO, hR, hD3, hde, ne_eq, not_true_eq_false, gt_iff_lt]) | (with_reducible refine W_itn_cases ?_ ?_; omega))
        refine qd_i ?_ ?_
        · simp [recsOk, ordB, Rec.free, Rec.wr, disj, List.range, List.range.loop]; try decide
        · repeat' (first | (simp -implicitDefEqProofs only [ze, Nat.reduceEqDiff, Nat.reduceAdd, Nat.reduceMul, reduceIte, Nat.reduceLT, Nat.reduceLeDiff, reduceCtorEq, Int.reduceEq, Int.reduceLT, Int.reduceLE, Int.reduceNeg, Int.reduceToNat, Nat.reduceBEq, Nat.reduceSub, qp, qf, kop, av, RQ, PQ, kres, kres1, kresL, fin, fins, fin1, V.pur?, V.pur1?, V.cells, kld, ones, V.one, Value.oneCell', own, owns, own1, xfill, ksrc, kint, vint, ksub, keqs, kok, V.val1?, ofRes, hR, h2]) | (with_reducible refine wgd_cases ?_ ?_ <;> intro hb) | (with_reducible refine wcond_cases ?_ ?_ <;> intro hb) | (with_reducible refine qd_i (by kernel_rfl) ?_) | (with_reducible refine W_itn_cases ?_ ?_; omega))
          simp only [takeS, hx, hz]
    | ok p =>
      have g1 := hrel.ok 0 p hx
      rw [e0] at g1
      have ga := congrArg Prod.fst g1
      have gb := congrArg Prod.snd g1
      simp only at ga gb
      subst gb
      simp only at hD1 hD2 hD3
      have hgd := dEntry_good hb hx
      have hck := rcheck_ok p.1 hgd.1 hgd.2.amts
      have hlr : p.1.lr = p.1.lines.isEmpty := by rw [← ga]
      have hpl : p.1.lines = acc := by rw [← ga]
      rcases hg with ⟨hb0, rfl⟩ | ⟨hb1, r3, hr0, hr8, hrn, rfl, hst⟩
      · have h1 : acc = [] := by simpa using hb0
        have v4 : encE p.1 = .agg [.i64 q1.1, .str q2.1, .i64 q3.1, .i64 q4.1, .i64 q5.1, .str q6.1, .str q7.1, .i64 q8.1, .list 0 [] 1] := by unfold encE; rw [hlr, hpl, h1, ← ga]; rfl
        rw [v4] at hck
        by_cases hc : (checkS p.1).2 = 0
        · rw [hc] at hck
          repeat' (first | (simp -implicitDefEqProofs only [ze, Nat.reduceEqDiff, Nat.reduceAdd, Nat.reduceMul, reduceIte, Nat.reduceLT, Nat.reduceLeDiff, reduceCtorEq, Int.reduceEq, Int.reduceLT, Int.reduceLE, Int.reduceNeg, Int.reduceToNat, Nat.reduceBEq, Nat.reduceSub, qp, qf, kop, av, RQ, PQ, kres, kres1, kresL, fin, fins, fin1, V.pur?, V.pur1?, V.cells, kld, ones, V.one, Value.oneCell', own, owns, own1, xfill, ksrc, kint, vint, ksub, keqs, kok, V.val1?, ofRes, h8, h7, h5, h6, h2, hd, hO, hR, hD3, hck]) | (with_reducible refine W_itn_cases ?_ ?_; omega))
          refine qd_i ?_ ?_
          · simp [recsOk, ordB, Rec.free, Rec.wr, disj, List.range, List.range.loop]; try decide
          · repeat' (first | (simp -implicitDefEqProofs only [ze, Nat.reduceEqDiff, Nat.reduceAdd, Nat.reduceMul, reduceIte, Nat.reduceLT, Nat.reduceLeDiff, reduceCtorEq, Int.reduceEq, Int.reduceLT, Int.reduceLE, Int.reduceNeg, Int.reduceToNat, Nat.reduceBEq, Nat.reduceSub, qp, qf, kop, av, RQ, PQ, kres, kres1, kresL, fin, fins, fin1, V.pur?, V.pur1?, V.cells, kld, ones, V.one, Value.oneCell', own, owns, own1, xfill, ksrc, kint, vint, ksub, keqs, kok, V.val1?, ofRes, hR, h2, hO, hD3]) | (with_reducible refine wgd_cases ?_ ?_ <;> intro hb) | (with_reducible refine wcond_cases ?_ ?_ <;> intro hb) | (with_reducible refine qd_i (by kernel_rfl) ?_) | (with_reducible refine W_itn_cases ?_ ?_; omega))
            simp only [takeS, hx, hc, if_true, v4]
        · have hcd : decide ((checkS p.1).2 = 0) = false := decide_eq_false hc
          repeat' (first | (simp -implicitDefEqProofs only [ze, Nat.reduceEqDiff, Nat.reduceAdd, Nat.reduceMul, reduceIte, Nat.reduceLT, Nat.reduceLeDiff, reduceCtorEq, Int.reduceEq, Int.reduceLT, Int.reduceLE, Int.reduceNeg, Int.reduceToNat, Nat.reduceBEq, Nat.reduceSub, qp, qf, kop, av, RQ, PQ, kres, kres1, kresL, fin, fins, fin1, V.pur?, V.pur1?, V.cells, kld, ones, V.one, Value.oneCell', own, owns, own1, xfill, ksrc, kint, vint, ksub, keqs, kok, V.val1?, ofRes, h8, h7, h5, h6, h2, hd, hO, hR, hD3, hck, hcd, ne_eq, not_true_eq_false, gt_iff_lt]) | (with_reducible refine wgd_cases ?_ ?_ <;> intro hb) | (with_reducible refine wcond_cases ?_ ?_ <;> intro hb) | (with_reducible refine qd_i (by kernel_rfl) ?_) | (with_reducible refine W_itn_cases ?_ ?_; omega))
          simp only [takeS, hx, hc, if_false, hz]
      · have h1 : acc ≠ [] := by intro h; exact hb1 (by rw [h]; rfl)
        have h2' : p.1.lr = false := by rw [hlr, hpl]; simpa using h1
        have v4 : encE p.1 = .agg [.i64 q1.1, .str q2.1, .i64 q3.1, .i64 q4.1, .i64 q5.1, .str q6.1, .str q7.1, .i64 q8.1, .list 43 (acc.map encL) 0] := by unfold encE; rw [h2', hpl, ← ga]; rfl
        have g7 : (r3 = 1) = False := eq_false (by omega)
        rw [v4] at hck
        by_cases hc : (checkS p.1).2 = 0
        · rw [hc] at hck
          repeat' (first | (simp -implicitDefEqProofs only [ze, Nat.reduceEqDiff, Nat.reduceAdd, Nat.reduceMul, reduceIte, Nat.reduceLT, Nat.reduceLeDiff, reduceCtorEq, Int.reduceEq, Int.reduceLT, Int.reduceLE, Int.reduceNeg, Int.reduceToNat, Nat.reduceBEq, Nat.reduceSub, qp, qf, kop, av, RQ, PQ, kres, kres1, kresL, fin, fins, fin1, V.pur?, V.pur1?, V.cells, kld, ones, V.one, Value.oneCell', own, owns, own1, xfill, ksrc, kint, vint, ksub, keqs, kok, V.val1?, ofRes, h8, h7, h5, h6, h2, hd, hO, hR, hD3, hck, g7]) | (with_reducible refine W_itn_cases ?_ ?_; omega))
          refine qd_i ?_ ?_
          · simp [recsOk, ordB, Rec.free, Rec.wr, disj, List.range, List.range.loop]; try decide
          · repeat' (first | (simp -implicitDefEqProofs only [ze, Nat.reduceEqDiff, Nat.reduceAdd, Nat.reduceMul, reduceIte, Nat.reduceLT, Nat.reduceLeDiff, reduceCtorEq, Int.reduceEq, Int.reduceLT, Int.reduceLE, Int.reduceNeg, Int.reduceToNat, Nat.reduceBEq, Nat.reduceSub, qp, qf, kop, av, RQ, PQ, kres, kres1, kresL, fin, fins, fin1, V.pur?, V.pur1?, V.cells, kld, ones, V.one, Value.oneCell', own, owns, own1, xfill, ksrc, kint, vint, ksub, keqs, kok, V.val1?, ofRes, hR, h2, hO, hD3, g7]) | (with_reducible refine wgd_cases ?_ ?_ <;> intro hb) | (with_reducible refine wcond_cases ?_ ?_ <;> intro hb) | (with_reducible refine qd_i (by kernel_rfl) ?_) | (with_reducible refine W_itn_cases ?_ ?_; omega))
            simp only [takeS, hx, hc, if_true, v4]
        · have hcd : decide ((checkS p.1).2 = 0) = false := decide_eq_false hc
          repeat' (first | (simp -implicitDefEqProofs only [ze, Nat.reduceEqDiff, Nat.reduceAdd, Nat.reduceMul, reduceIte, Nat.reduceLT, Nat.reduceLeDiff, reduceCtorEq, Int.reduceEq, Int.reduceLT, Int.reduceLE, Int.reduceNeg, Int.reduceToNat, Nat.reduceBEq, Nat.reduceSub, qp, qf, kop, av, RQ, PQ, kres, kres1, kresL, fin, fins, fin1, V.pur?, V.pur1?, V.cells, kld, ones, V.one, Value.oneCell', own, owns, own1, xfill, ksrc, kint, vint, ksub, keqs, kok, V.val1?, ofRes, h8, h7, h5, h6, h2, hd, hO, hR, hD3, hck, hcd, ne_eq, not_true_eq_false, gt_iff_lt, g7]) | (with_reducible refine wgd_cases ?_ ?_ <;> intro hb) | (with_reducible refine wcond_cases ?_ ?_ <;> intro hb) | (with_reducible refine qd_i (by kernel_rfl) ?_) | (with_reducible refine W_itn_cases ?_ ?_; omega))
          simp only [takeS, hx, hc, if_false, hz]
end Go.Proofs.YtojbkakdhfmjmaaDoor.Vm
