/- Proved here: what Put returns. Conditions: none. -/
import Derived.Test.YtkbheoganajhaaaDoorVs9
set_option maxRecDepth 10000
set_option linter.unusedVariables false
set_option linter.unusedSimpArgs false
namespace Go.Proofs.YtkbheoganajhaaaDoor.Vm
open Go Go.Proofs
def linesB (l : List Line) : List Int := l.flatMap lineB
def headB (e : Entry) : List Int := Co.putS e.no ++ ptB e.ent ++ Co.putS e.book ++ Co.putS e.val ++ Co.putS e.kind ++ ptB e.ref ++ ptB e.who ++ Co.putS e.rev ++ Co.putS e.lines.length
def entryB (e : Entry) : List Int := headB e ++ linesB e.lines
structure plainE (e : Entry) : Prop where
  no : i64r e.no
  ent : plainS e.ent = true
  book : i64r e.book
  val : i64r e.val
  kind : i64r e.kind
  ref : plainS e.ref = true
  who : plainS e.who = true
  rev : i64r e.rev
  lines : ∀ l ∈ e.lines, plainL l
  len : e.lines.length ≤ 100
  nil : e.lr = true → e.lines = []
theorem lineB_len (l : Line) (h : plainL l) : (lineB l).length ≤ 150000 := by
  have b1 := ptB_len l.acc h.acc
  have b2 := ptB_len l.cur h.cur
  have b3 := Co.putS_len l.amt
  have b4 := Co.putS_len l.base
  have b5 := ptB_len l.par h.par
  have b6 := ptB_len l.pty h.pty
  have b7 := Co.putS_len l.tags.length
  have hlen := h.len
  have c := tagsB_len l.tags l.tags.length (by rw [List.take_length]; exact h.tags)
  rw [List.take_length] at c
  simp only [lineB, List.length_append]; omega
theorem linesB_len : ∀ (l : List Line) (i : Nat), (∀ t ∈ l.take i, plainL t) → (linesB (l.take i)).length ≤ 150000 * i
  | [], i, _ => by simp [linesB]
  | t :: l, 0, _ => by simp [linesB]
  | t :: l, i + 1, h => by
    have h1 := lineB_len t (h t (by simp))
    have h2 := linesB_len l i fun x hx => h x (by simp [hx])
    have e : linesB ((t :: l).take (i + 1)) = lineB t ++ linesB (l.take i) := by simp [linesB]
    rw [e, List.length_append]; omega
theorem headB_len (e : Entry) (hp : plainE e) : (headB e).length ≤ 1000 := by
  have b1 := Co.putS_len e.no
  have b2 := ptB_len e.ent hp.ent
  have b3 := Co.putS_len e.book
  have b4 := Co.putS_len e.val
  have b5 := Co.putS_len e.kind
  have b6 := ptB_len e.ref hp.ref
  have b7 := ptB_len e.who hp.who
  have b8 := Co.putS_len e.rev
  have b9 := Co.putS_len e.lines.length
  simp only [headB, List.length_append]; omega
theorem put_bad (e : Entry) (a er : Int) (hck : L.pl 27 [encE e] = some (.ret (.tup [.i64 a, .i64 er]))) (h : ¬ er = 0) : L.pl 28 [encE e] = some (.ret (.tup [.list 0 [] 1, .i64 er])) := by
  refine W_of (pl_w k28_eq ?_)
  simp only [encE] at hck
  simp only [k28, encE]
  have hd : decide (er = 0) = false := decide_eq_false h
  repeat' (first | (simp -implicitDefEqProofs only [ze, Nat.reduceEqDiff, Nat.reduceAdd, Nat.reduceMul, reduceIte, Nat.reduceLT, Nat.reduceLeDiff, reduceCtorEq, Int.reduceEq, Int.reduceLT, Int.reduceLE, Int.reduceNeg, Int.reduceToNat, Nat.reduceBEq, Nat.reduceSub, qp, qf, kop, av, RQ, PQ, kres, kres1, kresL, fin, fins, fin1, V.pur?, V.pur1?, V.cells, kld, ones, V.one, Value.oneCell', own, owns, own1, xfill, ksrc, kint, vint, ksub, keqs, kok, V.val1?, ofRes, hck, nr_pur, hd]) | (with_reducible refine wgd_cases ?_ ?_ <;> intro hb) | (with_reducible refine wcond_cases ?_ ?_ <;> intro hb) | (with_reducible refine qd_i (by kernel_rfl) ?_) | (with_reducible refine W_itn_cases ?_ ?_; omega))
theorem put_ok (e : Entry) (hp : plainE e) (a : Int) (hck : L.pl 27 [encE e] = some (.ret (.tup [.i64 a, .i64 0]))) : L.pl 28 [encE e] = some (.ret (.tup [.list 5 (bv (entryB e)) (8 + 5), .i64 0])) := by
  refine W_of (pl_w k28_eq ?_)
  simp only [encE] at hck
  simp only [k28, encE]
  have hlen := hp.len
  have hbl := headB_len e hp
  simp only [headB, List.length_append] at hbl
  have hemp : entryB e ≠ [] := by
    have : Co.putS e.no ≠ [] := Co.putS_ne e.no
    intro h
    have h2 := congrArg List.length h
    have h3 : 0 < (Co.putS e.no).length := List.length_pos_iff.mpr this
    simp only [entryB, headB, List.length_append, List.length_nil] at h2
    omega
  repeat' (first | (simp -implicitDefEqProofs only [ze, Nat.reduceEqDiff, Nat.reduceAdd, Nat.reduceMul, reduceIte, Nat.reduceLT, Nat.reduceLeDiff, reduceCtorEq, Int.reduceEq, Int.reduceLT, Int.reduceLE, Int.reduceNeg, Int.reduceToNat, Nat.reduceBEq, Nat.reduceSub, qp, qf, kop, av, RQ, PQ, kres, kres1, kresL, fin, fins, fin1, V.pur?, V.pur1?, V.cells, kld, ones, V.one, Value.oneCell', own, owns, own1, xfill, ksrc, kint, vint, ksub, keqs, kok, V.val1?, ofRes, hck, nr_pur]) | (with_reducible refine wgd_cases ?_ ?_ <;> intro hb) | (with_reducible refine wcond_cases ?_ ?_ <;> intro hb) | (with_reducible refine qd_i (by kernel_rfl) ?_) | (with_reducible refine W_itn_cases ?_ ?_; omega))
  refine W_hp (number_ok (out := []) ⟨by omega, _, by rw [upd_at, if_pos rfl], .inl ⟨rfl, rfl⟩⟩ e.no hp.no (by simp)) ?_
  rintro _ ⟨st1, nx1, rfl, hn1, he1, hk1⟩
  have hx1 := hk1 8 _ (by omega) (by omega) (by rw [upd_at, if_neg (by omega), upd_at, if_pos rfl])
  repeat' (first | (simp -implicitDefEqProofs only [ze, Nat.reduceEqDiff, Nat.reduceAdd, Nat.reduceMul, reduceIte, Nat.reduceLT, Nat.reduceLeDiff, reduceCtorEq, Int.reduceEq, Int.reduceLT, Int.reduceLE, Int.reduceNeg, Int.reduceToNat, Nat.reduceBEq, Nat.reduceSub, qp, qf, kop, av, RQ, PQ, kres, kres1, kresL, fin, fins, fin1, V.pur?, V.pur1?, V.cells, kld, ones, V.one, Value.oneCell', own, owns, own1, xfill, ksrc, kint, vint, ksub, keqs, kok, V.val1?, ofRes, hx1]) | (with_reducible refine wgd_cases ?_ ?_ <;> intro hb) | (with_reducible refine wcond_cases ?_ ?_ <;> intro hb) | (with_reducible refine qd_i (by kernel_rfl) ?_) | (with_reducible refine W_itn_cases ?_ ?_; omega))
  refine W_hp (text_ok (he1.le (Nat.le_add_right _ _)) e.ent hp.ent (by simp only [List.length_append, List.nil_append]; omega)) ?_
  rintro _ ⟨st2, nx2, rfl, hn2, he2, hk2⟩
  have hx2 := hk2 8 _ (by omega) (by omega) hx1
  repeat' (first | (simp -implicitDefEqProofs only [ze, Nat.reduceEqDiff, Nat.reduceAdd, Nat.reduceMul, reduceIte, Nat.reduceLT, Nat.reduceLeDiff, reduceCtorEq, Int.reduceEq, Int.reduceLT, Int.reduceLE, Int.reduceNeg, Int.reduceToNat, Nat.reduceBEq, Nat.reduceSub, qp, qf, kop, av, RQ, PQ, kres, kres1, kresL, fin, fins, fin1, V.pur?, V.pur1?, V.cells, kld, ones, V.one, Value.oneCell', own, owns, own1, xfill, ksrc, kint, vint, ksub, keqs, kok, V.val1?, ofRes, hx2, List.length_map]) | (with_reducible refine wgd_cases ?_ ?_ <;> intro hb) | (with_reducible refine wcond_cases ?_ ?_ <;> intro hb) | (with_reducible refine qd_i (by kernel_rfl) ?_) | (with_reducible refine W_itn_cases ?_ ?_; omega))
  refine W_hp (number_ok (he2.le (Nat.le_add_right _ _)) e.book hp.book (by simp only [List.length_append, List.nil_append]; omega)) ?_
  rintro _ ⟨st3, nx3, rfl, hn3, he3, hk3⟩
  have hx3 := hk3 8 _ (by omega) (by omega) hx2
  repeat' (first | (simp -implicitDefEqProofs only [ze, Nat.reduceEqDiff, Nat.reduceAdd, Nat.reduceMul, reduceIte, Nat.reduceLT, Nat.reduceLeDiff, reduceCtorEq, Int.reduceEq, Int.reduceLT, Int.reduceLE, Int.reduceNeg, Int.reduceToNat, Nat.reduceBEq, Nat.reduceSub, qp, qf, kop, av, RQ, PQ, kres, kres1, kresL, fin, fins, fin1, V.pur?, V.pur1?, V.cells, kld, ones, V.one, Value.oneCell', own, owns, own1, xfill, ksrc, kint, vint, ksub, keqs, kok, V.val1?, ofRes, hx3, List.length_map]) | (with_reducible refine wgd_cases ?_ ?_ <;> intro hb) | (with_reducible refine wcond_cases ?_ ?_ <;> intro hb) | (with_reducible refine qd_i (by kernel_rfl) ?_) | (with_reducible refine W_itn_cases ?_ ?_; omega))
  refine W_hp (number_ok (he3.le (Nat.le_add_right _ _)) e.val hp.val (by simp only [List.length_append, List.nil_append]; omega)) ?_
  rintro _ ⟨st4, nx4, rfl, hn4, he4, hk4⟩
  have hx4 := hk4 8 _ (by omega) (by omega) hx3
  repeat' (first | (simp -implicitDefEqProofs only [ze, Nat.reduceEqDiff, Nat.reduceAdd, Nat.reduceMul, reduceIte, Nat.reduceLT, Nat.reduceLeDiff, reduceCtorEq, Int.reduceEq, Int.reduceLT, Int.reduceLE, Int.reduceNeg, Int.reduceToNat, Nat.reduceBEq, Nat.reduceSub, qp, qf, kop, av, RQ, PQ, kres, kres1, kresL, fin, fins, fin1, V.pur?, V.pur1?, V.cells, kld, ones, V.one, Value.oneCell', own, owns, own1, xfill, ksrc, kint, vint, ksub, keqs, kok, V.val1?, ofRes, hx4, List.length_map]) | (with_reducible refine wgd_cases ?_ ?_ <;> intro hb) | (with_reducible refine wcond_cases ?_ ?_ <;> intro hb) | (with_reducible refine qd_i (by kernel_rfl) ?_) | (with_reducible refine W_itn_cases ?_ ?_; omega))
  refine W_hp (number_ok (he4.le (Nat.le_add_right _ _)) e.kind hp.kind (by simp only [List.length_append, List.nil_append]; omega)) ?_
  rintro _ ⟨st5, nx5, rfl, hn5, he5, hk5⟩
  have hx5 := hk5 8 _ (by omega) (by omega) hx4
  repeat' (first | (simp -implicitDefEqProofs only [ze, Nat.reduceEqDiff, Nat.reduceAdd, Nat.reduceMul, reduceIte, Nat.reduceLT, Nat.reduceLeDiff, reduceCtorEq, Int.reduceEq, Int.reduceLT, Int.reduceLE, Int.reduceNeg, Int.reduceToNat, Nat.reduceBEq, Nat.reduceSub, qp, qf, kop, av, RQ, PQ, kres, kres1, kresL, fin, fins, fin1, V.pur?, V.pur1?, V.cells, kld, ones, V.one, Value.oneCell', own, owns, own1, xfill, ksrc, kint, vint, ksub, keqs, kok, V.val1?, ofRes, hx5, List.length_map]) | (with_reducible refine wgd_cases ?_ ?_ <;> intro hb) | (with_reducible refine wcond_cases ?_ ?_ <;> intro hb) | (with_reducible refine qd_i (by kernel_rfl) ?_) | (with_reducible refine W_itn_cases ?_ ?_; omega))
  refine W_hp (text_ok (he5.le (Nat.le_add_right _ _)) e.ref hp.ref (by simp only [List.length_append, List.nil_append]; omega)) ?_
  rintro _ ⟨st6, nx6, rfl, hn6, he6, hk6⟩
  have hx6 := hk6 8 _ (by omega) (by omega) hx5
  repeat' (first | (simp -implicitDefEqProofs only [ze, Nat.reduceEqDiff, Nat.reduceAdd, Nat.reduceMul, reduceIte, Nat.reduceLT, Nat.reduceLeDiff, reduceCtorEq, Int.reduceEq, Int.reduceLT, Int.reduceLE, Int.reduceNeg, Int.reduceToNat, Nat.reduceBEq, Nat.reduceSub, qp, qf, kop, av, RQ, PQ, kres, kres1, kresL, fin, fins, fin1, V.pur?, V.pur1?, V.cells, kld, ones, V.one, Value.oneCell', own, owns, own1, xfill, ksrc, kint, vint, ksub, keqs, kok, V.val1?, ofRes, hx6, List.length_map]) | (with_reducible refine wgd_cases ?_ ?_ <;> intro hb) | (with_reducible refine wcond_cases ?_ ?_ <;> intro hb) | (with_reducible refine qd_i (by kernel_rfl) ?_) | (with_reducible refine W_itn_cases ?_ ?_; omega))
  refine W_hp (text_ok (he6.le (Nat.le_add_right _ _)) e.who hp.who (by simp only [List.length_append, List.nil_append]; omega)) ?_
  rintro _ ⟨st7, nx7, rfl, hn7, he7, hk7⟩
  have hx7 := hk7 8 _ (by omega) (by omega) hx6
  repeat' (first | (simp -implicitDefEqProofs only [ze, Nat.reduceEqDiff, Nat.reduceAdd, Nat.reduceMul, reduceIte, Nat.reduceLT, Nat.reduceLeDiff, reduceCtorEq, Int.reduceEq, Int.reduceLT, Int.reduceLE, Int.reduceNeg, Int.reduceToNat, Nat.reduceBEq, Nat.reduceSub, qp, qf, kop, av, RQ, PQ, kres, kres1, kresL, fin, fins, fin1, V.pur?, V.pur1?, V.cells, kld, ones, V.one, Value.oneCell', own, owns, own1, xfill, ksrc, kint, vint, ksub, keqs, kok, V.val1?, ofRes, hx7, List.length_map]) | (with_reducible refine wgd_cases ?_ ?_ <;> intro hb) | (with_reducible refine wcond_cases ?_ ?_ <;> intro hb) | (with_reducible refine qd_i (by kernel_rfl) ?_) | (with_reducible refine W_itn_cases ?_ ?_; omega))
  refine W_hp (number_ok (he7.le (Nat.le_add_right _ _)) e.rev hp.rev (by simp only [List.length_append, List.nil_append]; omega)) ?_
  rintro _ ⟨st8, nx8, rfl, hn8, he8, hk8⟩
  have hx8 := hk8 8 _ (by omega) (by omega) hx7
  repeat' (first | (simp -implicitDefEqProofs only [ze, Nat.reduceEqDiff, Nat.reduceAdd, Nat.reduceMul, reduceIte, Nat.reduceLT, Nat.reduceLeDiff, reduceCtorEq, Int.reduceEq, Int.reduceLT, Int.reduceLE, Int.reduceNeg, Int.reduceToNat, Nat.reduceBEq, Nat.reduceSub, qp, qf, kop, av, RQ, PQ, kres, kres1, kresL, fin, fins, fin1, V.pur?, V.pur1?, V.cells, kld, ones, V.one, Value.oneCell', own, owns, own1, xfill, ksrc, kint, vint, ksub, keqs, kok, V.val1?, ofRes, hx8, List.length_map]) | (with_reducible refine wgd_cases ?_ ?_ <;> intro hb) | (with_reducible refine wcond_cases ?_ ?_ <;> intro hb) | (with_reducible refine qd_i (by kernel_rfl) ?_) | (with_reducible refine W_itn_cases ?_ ?_; omega))
  refine W_hp (number_ok (he8.le (Nat.le_add_right _ _)) e.lines.length ⟨by omega, by omega⟩ (by simp only [List.length_append, List.nil_append]; omega)) ?_
  rintro _ ⟨st9, nx9, rfl, hn9, he9, hk9⟩
  have hx9 := hk9 8 _ (by omega) (by omega) hx8
  repeat' (first | (simp -implicitDefEqProofs only [ze, Nat.reduceEqDiff, Nat.reduceAdd, Nat.reduceMul, reduceIte, Nat.reduceLT, Nat.reduceLeDiff, reduceCtorEq, Int.reduceEq, Int.reduceLT, Int.reduceLE, Int.reduceNeg, Int.reduceToNat, Nat.reduceBEq, Nat.reduceSub, qp, qf, kop, av, RQ, PQ, kres, kres1, kresL, fin, fins, fin1, V.pur?, V.pur1?, V.cells, kld, ones, V.one, Value.oneCell', own, owns, own1, xfill, ksrc, kint, vint, ksub, keqs, kok, V.val1?, ofRes, hx9, List.length_map]) | (with_reducible refine wgd_cases ?_ ?_ <;> intro hb) | (with_reducible refine wcond_cases ?_ ?_ <;> intro hb) | (with_reducible refine qd_i (by kernel_rfl) ?_) | (with_reducible refine W_itn_cases ?_ ?_; omega))
  refine loop_w (fun n tm st' nx' => ∃ i : Nat, n = e.lines.length - i ∧ i ≤ e.lines.length ∧ tm 48 = .i64 i ∧ tm 47 = .i64 e.lines.length ∧ tm 46 = .list (te e.lr 61) (e.lines.map encL) (nr e.lr) ∧ tm 6 = .ptr 104 0 ∧ 136 ≤ nx' ∧
      Enc st' nx' 104 (headB e ++ linesB (e.lines.take i))) e.lines.length ⟨0, by omega, by omega, ?_, ?_, ?_, ?_, by omega, ?_⟩ ?_
  · simp -implicitDefEqProofs only [ze, Nat.reduceEqDiff, Nat.reduceAdd, Nat.reduceMul, reduceIte, Nat.reduceLT, Nat.reduceLeDiff, reduceCtorEq, Int.reduceEq, Int.reduceLT, Int.reduceLE, Int.reduceNeg, Int.reduceToNat, Nat.reduceBEq, Nat.reduceSub, qp, qf, kop, av, RQ, PQ, kres, kres1, kresL, fin, fins, fin1, V.pur?, V.pur1?, V.cells, kld, ones, V.one, Value.oneCell', own, owns, own1, xfill, ksrc, kint, vint, ksub, keqs, kok, V.val1?, ofRes]; rfl
  · simp -implicitDefEqProofs only [ze, Nat.reduceEqDiff, Nat.reduceAdd, Nat.reduceMul, reduceIte, Nat.reduceLT, Nat.reduceLeDiff, reduceCtorEq, Int.reduceEq, Int.reduceLT, Int.reduceLE, Int.reduceNeg, Int.reduceToNat, Nat.reduceBEq, Nat.reduceSub, qp, qf, kop, av, RQ, PQ, kres, kres1, kresL, fin, fins, fin1, V.pur?, V.pur1?, V.cells, kld, ones, V.one, Value.oneCell', own, owns, own1, xfill, ksrc, kint, vint, ksub, keqs, kok, V.val1?, ofRes]
  · simp -implicitDefEqProofs only [ze, Nat.reduceEqDiff, Nat.reduceAdd, Nat.reduceMul, reduceIte, Nat.reduceLT, Nat.reduceLeDiff, reduceCtorEq, Int.reduceEq, Int.reduceLT, Int.reduceLE, Int.reduceNeg, Int.reduceToNat, Nat.reduceBEq, Nat.reduceSub, qp, qf, kop, av, RQ, PQ, kres, kres1, kresL, fin, fins, fin1, V.pur?, V.pur1?, V.cells, kld, ones, V.one, Value.oneCell', own, owns, own1, xfill, ksrc, kint, vint, ksub, keqs, kok, V.val1?, ofRes]
  · simp -implicitDefEqProofs only [ze, Nat.reduceEqDiff, Nat.reduceAdd, Nat.reduceMul, reduceIte, Nat.reduceLT, Nat.reduceLeDiff, reduceCtorEq, Int.reduceEq, Int.reduceLT, Int.reduceLE, Int.reduceNeg, Int.reduceToNat, Nat.reduceBEq, Nat.reduceSub, qp, qf, kop, av, RQ, PQ, kres, kres1, kresL, fin, fins, fin1, V.pur?, V.pur1?, V.cells, kld, ones, V.one, Value.oneCell', own, owns, own1, xfill, ksrc, kint, vint, ksub, keqs, kok, V.val1?, ofRes]
  · have h9 := he9.le (nx' := nx9 + 32) (Nat.le_add_right _ _)
    simpa [linesB, headB] using h9
  rintro n tm st' nx' ⟨i, hi, hi2, h48, h47, h46, h6, hnx, hen⟩
  simp only [k28_l0]
  by_cases hlt : i < e.lines.length
  · have hlr : e.lr = false := by
      cases h : e.lr
      · rfl
      · rw [hp.nil h] at hlt; simp at hlt
    rw [hlr, te_f] at h46
    obtain ⟨l, hl⟩ := get_lt hlt
    have hpl := hp.lines l (List.mem_of_getElem? hl)
    have hd : decide ((i : Int) < (e.lines.length : Int)) = true := decide_eq_true (by omega)
    have c3 := linesB_len e.lines i fun t h => hp.lines t (List.mem_of_mem_take h)
    have c4 := headB_len e hp
    have e1 : e.lines.take (i + 1) = e.lines.take i ++ [l] := by rw [List.take_add_one, hl]; rfl
    have hli := fun (st : St) (nx : Nat) (h : Enc st nx 104 (headB e ++ linesB (e.lines.take i))) => encline_ok h l hpl (by simp only [List.length_append]; omega)
    simp only [encL] at hli
    repeat' (first | (simp -implicitDefEqProofs only [ze, Nat.reduceEqDiff, Nat.reduceAdd, Nat.reduceMul, reduceIte, Nat.reduceLT, Nat.reduceLeDiff, reduceCtorEq, Int.reduceEq, Int.reduceLT, Int.reduceLE, Int.reduceNeg, Int.reduceToNat, Nat.reduceBEq, Nat.reduceSub, qp, qf, kop, av, RQ, PQ, kres, kres1, kresL, fin, fins, fin1, V.pur?, V.pur1?, V.cells, kld, ones, V.one, Value.oneCell', own, owns, own1, xfill, ksrc, kint, vint, ksub, keqs, kok, V.val1?, ofRes, h48, h47, h46, h6, hd, hl, encL, nr_pur]) | (with_reducible refine wgd_cases ?_ ?_ <;> intro hb) | (with_reducible refine wcond_cases ?_ ?_ <;> intro hb) | (with_reducible refine qd_i (by kernel_rfl) ?_) | (with_reducible refine W_itn_cases ?_ ?_; omega))
    refine W_hp (hli _ _ ((hen.upd (j := nx' + 24) (nx' := nx') (by omega) (Nat.le_refl _) _).upd (j := nx' + 24) (nx' := _) (by omega) (Nat.le_add_right _ _) _)) ?_
    rintro _ ⟨sa, na, rfl, hna, hea, hka⟩
    repeat' (first | (simp -implicitDefEqProofs only [ze, Nat.reduceEqDiff, Nat.reduceAdd, Nat.reduceMul, reduceIte, Nat.reduceLT, Nat.reduceLeDiff, reduceCtorEq, Int.reduceEq, Int.reduceLT, Int.reduceLE, Int.reduceNeg, Int.reduceToNat, Nat.reduceBEq, Nat.reduceSub, qp, qf, kop, av, RQ, PQ, kres, kres1, kresL, fin, fins, fin1, V.pur?, V.pur1?, V.cells, kld, ones, V.one, Value.oneCell', own, owns, own1, xfill, ksrc, kint, vint, ksub, keqs, kok, V.val1?, ofRes, h48, h47, h46, h6, hlr, te_f]) | (with_reducible refine wgd_cases ?_ ?_ <;> intro hb) | (with_reducible refine wcond_cases ?_ ?_ <;> intro hb) | (with_reducible refine qd_i (by kernel_rfl) ?_) | (with_reducible refine W_itn_cases ?_ ?_; omega))
    refine ⟨e.lines.length - (i + 1), by omega, i + 1, rfl, by omega, up64 (by omega), by omega, ?_⟩
    have : linesB (e.lines.take (i + 1)) = linesB (e.lines.take i) ++ lineB l := by rw [e1]; simp [linesB]
    rw [this]
    have h9 := hea.le (nx' := na + 16) (Nat.le_add_right _ _)
    simpa only [List.append_assoc] using h9
  · have hd : decide ((i : Int) < (e.lines.length : Int)) = false := decide_eq_false (by omega)
    have hie : i = e.lines.length := by omega
    rw [hie, List.take_length] at hen
    obtain ⟨_, v, hv, hg⟩ := hen
    rcases hg with ⟨hb, _⟩ | ⟨r, hr8, hrn, rfl, hst⟩
    · exact absurd (show entryB e = [] by unfold entryB; simpa [bv] using hb) hemp
    · have hr1 : (r = 1) = False := eq_false (by omega)
      have hr9 : (r < 8) = False := eq_false (by omega)
      repeat' (first | (simp -implicitDefEqProofs only [ze, Nat.reduceEqDiff, Nat.reduceAdd, Nat.reduceMul, reduceIte, Nat.reduceLT, Nat.reduceLeDiff, reduceCtorEq, Int.reduceEq, Int.reduceLT, Int.reduceLE, Int.reduceNeg, Int.reduceToNat, Nat.reduceBEq, Nat.reduceSub, qp, qf, kop, av, RQ, PQ, kres, kres1, kresL, fin, fins, fin1, V.pur?, V.pur1?, V.cells, kld, ones, V.one, Value.oneCell', own, owns, own1, xfill, ksrc, kint, vint, ksub, keqs, kok, V.val1?, ofRes, h48, h47, h46, h6, hd, k28_t0, hv, hst, hr1, hr9, bv_len]) | (with_reducible refine wgd_cases ?_ ?_ <;> intro hb) | (with_reducible refine wcond_cases ?_ ?_ <;> intro hb) | (with_reducible refine qd_i (by kernel_rfl) ?_) | (with_reducible refine W_itn_cases ?_ ?_; omega))
      rfl
end Go.Proofs.YtkbheoganajhaaaDoor.Vm
