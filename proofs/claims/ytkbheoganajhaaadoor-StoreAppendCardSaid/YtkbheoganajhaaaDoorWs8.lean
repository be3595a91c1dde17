/- Proved here: what a new log is, and what a log tells. Conditions: none. -/
import Derived.Test.YtkbheoganajhaaaDoorWs6
set_option maxRecDepth 10000
set_option linter.unusedVariables false
set_option linter.unusedSimpArgs false
namespace Go.Proofs.YtkbheoganajhaaaDoor.Vm
open Go Go.Proofs
theorem new_ok (st : St) (nx : Nat) : W (L.hp 10 [] st nx) fun r => ∃ st' nx' id, r = .ret (.ptr id 0) st' nx' ∧ nx ≤ nx' ∧ nx ≤ id ∧ LG st' nx' id [] start [] ∧ ∀ i, i < nx → st' i = st i := by
  refine hp_w k10_eq ?_
  simp only [k10]
  repeat' (first | (simp -implicitDefEqProofs only [ze, Nat.reduceEqDiff, Nat.reduceAdd, Nat.reduceMul, reduceIte, Nat.reduceLT, Nat.reduceLeDiff, reduceCtorEq, Int.reduceEq, Int.reduceLT, Int.reduceLE, Int.reduceNeg, Int.reduceToNat, Nat.reduceBEq, Nat.reduceSub, qp, qf, kop, av, RQ, PQ, kres, kres1, kresL, fin, fins, fin1, V.pur?, V.pur1?, V.cells, kld, ones, V.one, Value.oneCell', own, owns, own1, xfill, ksrc, kint, vint, ksub, keqs, kok, V.val1?, ofRes, ne_eq, not_true_eq_false, gt_iff_lt]) | (with_reducible refine wgd_cases ?_ ?_ <;> intro hb) | (with_reducible refine wcond_cases ?_ ?_ <;> intro hb) | (with_reducible refine qd_i (by kernel_rfl) ?_) | (with_reducible refine W_itn_cases ?_ ?_; omega))
  refine ⟨_, _, _, rfl, by omega, ?_, ⟨.list 0 [] 1, ⟨?_, .list 0 [] 1, by rw [upd_at, if_pos rfl]; rfl, .inl ⟨rfl, rfl⟩⟩, .inl ⟨rfl, rfl⟩⟩, fun i hi => by rw [upd_at, if_neg (by omega)]⟩ <;> omega
theorem lsum_ok {st : St} {nx id : Nat} {out : List Int} {s : Int} {es : List Entry} (h : LG st nx id out s es) : W (L.hp 14 [.ptr id 0] st nx) fun r => ∃ nx', r = .ret (.sc (.int .u64 s)) st nx' ∧ nx ≤ nx' := by
  refine hp_w k14_eq ?_
  simp only [k14]
  obtain ⟨w, ⟨hid, v, hv, hg⟩, hw⟩ := h
  repeat' (first | (simp -implicitDefEqProofs only [ze, Nat.reduceEqDiff, Nat.reduceAdd, Nat.reduceMul, reduceIte, Nat.reduceLT, Nat.reduceLeDiff, reduceCtorEq, Int.reduceEq, Int.reduceLT, Int.reduceLE, Int.reduceNeg, Int.reduceToNat, Nat.reduceBEq, Nat.reduceSub, qp, qf, kop, av, RQ, PQ, kres, kres1, kresL, fin, fins, fin1, V.pur?, V.pur1?, V.cells, kld, ones, V.one, Value.oneCell', own, owns, own1, xfill, ksrc, kint, vint, ksub, keqs, kok, V.val1?, ofRes, hv]) | (with_reducible refine wgd_cases ?_ ?_ <;> intro hb) | (with_reducible refine wcond_cases ?_ ?_ <;> intro hb) | (with_reducible refine qd_i (by kernel_rfl) ?_) | (with_reducible refine W_itn_cases ?_ ?_; omega))
  exact ⟨_, rfl, by omega⟩
theorem len_ok {st : St} {nx id : Nat} {out : List Int} {s : Int} {es : List Entry} (h : LG st nx id out s es) (hl : es.length ≤ 1000000) : W (L.hp 13 [.ptr id 0] st nx) fun r => ∃ nx', r = .ret (.i64 es.length) st nx' ∧ nx ≤ nx' := by
  refine hp_w k13_eq ?_
  simp only [k13]
  obtain ⟨w, ⟨hid, v, hv, hg⟩, hw⟩ := h
  rcases hw with ⟨hb0, rfl⟩ | ⟨q, hr8, hrn, rfl, hst⟩
  · obtain rfl : es = [] := by simpa using hb0
    repeat' (first | (simp -implicitDefEqProofs only [ze, Nat.reduceEqDiff, Nat.reduceAdd, Nat.reduceMul, reduceIte, Nat.reduceLT, Nat.reduceLeDiff, reduceCtorEq, Int.reduceEq, Int.reduceLT, Int.reduceLE, Int.reduceNeg, Int.reduceToNat, Nat.reduceBEq, Nat.reduceSub, qp, qf, kop, av, RQ, PQ, kres, kres1, kresL, fin, fins, fin1, V.pur?, V.pur1?, V.cells, kld, ones, V.one, Value.oneCell', own, owns, own1, xfill, ksrc, kint, vint, ksub, keqs, kok, V.val1?, ofRes, hv, List.length_nil]) | (with_reducible refine wgd_cases ?_ ?_ <;> intro hb) | (with_reducible refine wcond_cases ?_ ?_ <;> intro hb) | (with_reducible refine qd_i (by kernel_rfl) ?_) | (with_reducible refine W_itn_cases ?_ ?_; omega))
    exact ⟨_, rfl, by omega⟩
  · repeat' (first | (simp -implicitDefEqProofs only [ze, Nat.reduceEqDiff, Nat.reduceAdd, Nat.reduceMul, reduceIte, Nat.reduceLT, Nat.reduceLeDiff, reduceCtorEq, Int.reduceEq, Int.reduceLT, Int.reduceLE, Int.reduceNeg, Int.reduceToNat, Nat.reduceBEq, Nat.reduceSub, qp, qf, kop, av, RQ, PQ, kres, kres1, kresL, fin, fins, fin1, V.pur?, V.pur1?, V.cells, kld, ones, V.one, Value.oneCell', own, owns, own1, xfill, ksrc, kint, vint, ksub, keqs, kok, V.val1?, ofRes, hv, List.length_map]) | (with_reducible refine wgd_cases ?_ ?_ <;> intro hb) | (with_reducible refine wcond_cases ?_ ?_ <;> intro hb) | (with_reducible refine qd_i (by kernel_rfl) ?_) | (with_reducible refine W_itn_cases ?_ ?_; omega))
    exact ⟨_, rfl, by omega⟩
theorem lbytes_ok {st : St} {nx id : Nat} {out : List Int} {s : Int} {es : List Entry} (h : LG st nx id out s es) (hl : out.length ≤ 100000000000) : W (L.hp 16 [.ptr id 0] st nx) fun r => ∃ st' nx' j, r = .ret (.list 5 (bv out) j) st' nx' ∧ nx ≤ nx' ∧ nx ≤ j ∧ ∀ i, i < nx → st' i = st i := by
  refine hp_w k16_eq ?_
  simp only [k16]
  obtain ⟨w, ⟨hid, v, hv, hg⟩, hw⟩ := h
  rcases hg with ⟨hb0, rfl⟩ | ⟨q, hr8, hrn, rfl, hst⟩
  · obtain rfl : out = [] := by simpa [bv] using hb0
    repeat' (first | (simp -implicitDefEqProofs only [ze, Nat.reduceEqDiff, Nat.reduceAdd, Nat.reduceMul, reduceIte, Nat.reduceLT, Nat.reduceLeDiff, reduceCtorEq, Int.reduceEq, Int.reduceLT, Int.reduceLE, Int.reduceNeg, Int.reduceToNat, Nat.reduceBEq, Nat.reduceSub, qp, qf, kop, av, RQ, PQ, kres, kres1, kresL, fin, fins, fin1, V.pur?, V.pur1?, V.cells, kld, ones, V.one, Value.oneCell', own, owns, own1, xfill, ksrc, kint, vint, ksub, keqs, kok, V.val1?, ofRes, hv, List.length_nil]) | (with_reducible refine wgd_cases ?_ ?_ <;> intro hb) | (with_reducible refine wcond_cases ?_ ?_ <;> intro hb) | (with_reducible refine qd_i (by kernel_rfl) ?_) | (with_reducible refine W_itn_cases ?_ ?_; omega))
    exact ⟨_, _, _, rfl, by omega, by omega, fun i hi => by rw [upd_at, if_neg (by omega)]⟩
  · repeat' (first | (simp -implicitDefEqProofs only [ze, Nat.reduceEqDiff, Nat.reduceAdd, Nat.reduceMul, reduceIte, Nat.reduceLT, Nat.reduceLeDiff, reduceCtorEq, Int.reduceEq, Int.reduceLT, Int.reduceLE, Int.reduceNeg, Int.reduceToNat, Nat.reduceBEq, Nat.reduceSub, qp, qf, kop, av, RQ, PQ, kres, kres1, kresL, fin, fins, fin1, V.pur?, V.pur1?, V.cells, kld, ones, V.one, Value.oneCell', own, owns, own1, xfill, ksrc, kint, vint, ksub, keqs, kok, V.val1?, ofRes, hv, bv_len]) | (with_reducible refine wgd_cases ?_ ?_ <;> intro hb) | (with_reducible refine wcond_cases ?_ ?_ <;> intro hb) | (with_reducible refine qd_i (by kernel_rfl) ?_) | (with_reducible refine W_itn_cases ?_ ?_; omega))
    exact ⟨_, _, _, rfl, by omega, by omega, fun i hi => by rw [upd_at, if_neg (by omega)]⟩
theorem lent_ok {st : St} {nx id : Nat} {out : List Int} {s : Int} {es : List Entry} (h : LG st nx id out s es) (hl : es.length ≤ 1000000) (he : ∀ e ∈ es, nilE e ∧ e.lines.length < 1000000 ∧ ∀ l ∈ e.lines, l.tags.length < 1000000) : W (L.hp 19 [.ptr id 0] st nx) fun r => ∃ st' nx' t q, r = .ret (.list t (es.map fun e => encE (copE e)) q) st' nx' ∧ nx ≤ nx' ∧ (es = [] ∨ t = 31) ∧ ∀ i, i < nx → st' i = st i := by
  refine hp_w k19_eq ?_
  simp only [k19]
  obtain ⟨w, ⟨hid, v, hv, hg⟩, hw⟩ := h
  obtain ⟨we, wr, rfl, hwe⟩ : ∃ we wr, w = .list we (es.map encE) wr ∧ (es = [] ∨ we = 31) := by
    rcases hw with ⟨a, b⟩ | ⟨r, _, _, a, _⟩
    · have : es = [] := by simpa using a
      subst this
      exact ⟨0, 1, b, .inl rfl⟩
    · exact ⟨_, r, a, .inr rfl⟩
  have hdec : ((.ptr id 0 : V) = .ptr id 0) := rfl
  repeat' (first | (simp -implicitDefEqProofs only [ze, Nat.reduceEqDiff, Nat.reduceAdd, Nat.reduceMul, reduceIte, Nat.reduceLT, Nat.reduceLeDiff, reduceCtorEq, Int.reduceEq, Int.reduceLT, Int.reduceLE, Int.reduceNeg, Int.reduceToNat, Nat.reduceBEq, Nat.reduceSub, qp, qf, kop, av, RQ, PQ, kres, kres1, kresL, fin, fins, fin1, V.pur?, V.pur1?, V.cells, kld, ones, V.one, Value.oneCell', own, owns, own1, xfill, ksrc, kint, vint, ksub, keqs, kok, V.val1?, ofRes, hv, List.length_map]) | (with_reducible refine wgd_cases ?_ ?_ <;> intro hb) | (with_reducible refine wcond_cases ?_ ?_ <;> intro hb) | (with_reducible refine qd_i (by kernel_rfl) ?_) | (with_reducible refine W_itn_cases ?_ ?_; omega))
  refine loop_w (fun n tm st1 nx1 => ∃ (i : Nat) (v : V), n = es.length - i ∧ i ≤ es.length ∧ nx ≤ nx1 ∧ tm 12 = .i64 i ∧ tm 11 = .i64 es.length ∧ tm 10 = .list we (es.map encE) wr ∧ tm 2 = v ∧ (∀ j, j < nx → st1 j = st j) ∧ Grow st1 nx1 31 ((es.take i).map fun e => encE (copE e)) v ∧ (∀ r e xs, v = .list e xs r → r = 1 ∨ nx ≤ r)) es.length ⟨0, .list 0 [] 1, by omega, by omega, by omega, ?_, ?_, ?_, ?_, fun j _ => rfl, .inl ⟨rfl, rfl⟩, fun r e xs h => by injection h; omega⟩ ?_
  · simp -implicitDefEqProofs only [ze, Nat.reduceEqDiff, Nat.reduceAdd, Nat.reduceMul, reduceIte, Nat.reduceLT, Nat.reduceLeDiff, reduceCtorEq, Int.reduceEq, Int.reduceLT, Int.reduceLE, Int.reduceNeg, Int.reduceToNat, Nat.reduceBEq, Nat.reduceSub, qp, qf, kop, av, RQ, PQ, kres, kres1, kresL, fin, fins, fin1, V.pur?, V.pur1?, V.cells, kld, ones, V.one, Value.oneCell', own, owns, own1, xfill, ksrc, kint, vint, ksub, keqs, kok, V.val1?, ofRes]; try rfl
  · simp -implicitDefEqProofs only [ze, Nat.reduceEqDiff, Nat.reduceAdd, Nat.reduceMul, reduceIte, Nat.reduceLT, Nat.reduceLeDiff, reduceCtorEq, Int.reduceEq, Int.reduceLT, Int.reduceLE, Int.reduceNeg, Int.reduceToNat, Nat.reduceBEq, Nat.reduceSub, qp, qf, kop, av, RQ, PQ, kres, kres1, kresL, fin, fins, fin1, V.pur?, V.pur1?, V.cells, kld, ones, V.one, Value.oneCell', own, owns, own1, xfill, ksrc, kint, vint, ksub, keqs, kok, V.val1?, ofRes]; try rfl
  · simp -implicitDefEqProofs only [ze, Nat.reduceEqDiff, Nat.reduceAdd, Nat.reduceMul, reduceIte, Nat.reduceLT, Nat.reduceLeDiff, reduceCtorEq, Int.reduceEq, Int.reduceLT, Int.reduceLE, Int.reduceNeg, Int.reduceToNat, Nat.reduceBEq, Nat.reduceSub, qp, qf, kop, av, RQ, PQ, kres, kres1, kresL, fin, fins, fin1, V.pur?, V.pur1?, V.cells, kld, ones, V.one, Value.oneCell', own, owns, own1, xfill, ksrc, kint, vint, ksub, keqs, kok, V.val1?, ofRes]; try rfl
  · simp -implicitDefEqProofs only [ze, Nat.reduceEqDiff, Nat.reduceAdd, Nat.reduceMul, reduceIte, Nat.reduceLT, Nat.reduceLeDiff, reduceCtorEq, Int.reduceEq, Int.reduceLT, Int.reduceLE, Int.reduceNeg, Int.reduceToNat, Nat.reduceBEq, Nat.reduceSub, qp, qf, kop, av, RQ, PQ, kres, kres1, kresL, fin, fins, fin1, V.pur?, V.pur1?, V.cells, kld, ones, V.one, Value.oneCell', own, owns, own1, xfill, ksrc, kint, vint, ksub, keqs, kok, V.val1?, ofRes]; try rfl
  rintro n tm st1 nx1 ⟨i, v1, hn, hi, hnx, h12, h11, h10, h2, hk, hg1, hr⟩
  simp only [k19_l0, k19_t0]
  by_cases hlt : i < es.length
  · obtain rfl : we = 31 := by
      rcases hwe with rfl | h
      · simp at hlt
      · exact h
    have hd : decide ((i : Int) < (es.length : Int)) = true := decide_eq_true (by omega)
    obtain ⟨x, hx1⟩ := get_lt (l := es) (i := i) hlt
    obtain ⟨e1, e2, e3⟩ := he x (List.mem_of_getElem? hx1)
    have hcp := copied_ok x e1 e2 e3
    have hup : IntKind.i64.wrap ((i : Int) + 1) = ((i + 1 : Nat) : Int) := wrap_i64 (by omega) (by omega)
    have hel : encE x = .agg [.i64 x.no, .str x.ent, .i64 x.book, .i64 x.val, .i64 x.kind, .str x.ref, .str x.who, .i64 x.rev, .list (te x.lr 61) (x.lines.map encL) (nr x.lr)] := rfl
    rw [hel] at hcp
    have hmap : (es.take (i + 1)).map (fun e => encE (copE e)) = (es.take i).map (fun e => encE (copE e)) ++ [encE (copE x)] := by rw [take_get hx1, List.map_append]; rfl
    have htk : (List.take i es).length = i := by rw [List.length_take]; omega
    have hel2 : encE (copE x) = .agg [.i64 (copE x).no, .str (copE x).ent, .i64 (copE x).book, .i64 (copE x).val, .i64 (copE x).kind, .str (copE x).ref, .str (copE x).who, .i64 (copE x).rev, .list (te (copE x).lr 61) ((copE x).lines.map encL) (nr (copE x).lr)] := rfl
    rcases hg1 with ⟨hb0, rfl⟩ | ⟨q, hr8, hrn, rfl, hst⟩
    · repeat' (first | (simp -implicitDefEqProofs only [ze, Nat.reduceEqDiff, Nat.reduceAdd, Nat.reduceMul, reduceIte, Nat.reduceLT, Nat.reduceLeDiff, reduceCtorEq, Int.reduceEq, Int.reduceLT, Int.reduceLE, Int.reduceNeg, Int.reduceToNat, Nat.reduceBEq, Nat.reduceSub, qp, qf, kop, av, RQ, PQ, kres, kres1, kresL, fin, fins, fin1, V.pur?, V.pur1?, V.cells, kld, ones, V.one, Value.oneCell', own, owns, own1, xfill, ksrc, kint, vint, ksub, keqs, kok, V.val1?, ofRes, h12, h11, h10, h2, hd, enc_get, hx1, hel, hcp, hel2, nxj, nr_pur, List.length_map, hup]) | (with_reducible refine wgd_cases ?_ ?_ <;> intro hb) | (with_reducible refine wcond_cases ?_ ?_ <;> intro hb) | (with_reducible refine qd_i (by kernel_rfl) ?_) | (with_reducible refine W_itn_cases ?_ ?_; omega))
      exact ⟨es.length - (i + 1), by omega, i + 1, _, rfl, by omega, by omega, rfl, rfl, fun j hj => by rw [if_neg (by omega), if_neg (by omega), if_neg (by omega), if_neg (by omega)]; exact hk j hj, .inr ⟨nx1 + 72, by omega, by omega, by rw [hmap, hb0]; rfl, by rw [hmap, hb0, upd_at, if_pos rfl]; rfl⟩, fun r e xs h => by injection h; omega⟩
    · have hr0 : (q = 0) = False := eq_false (by omega)
      have hr1 : (q = 1) = False := eq_false (by omega)
      have hrx : ∀ j, (q = nx1 + j) = False := fun j => eq_false (by omega)
      have hrx' : ∀ j, (nx1 + j = q) = False := fun j => eq_false (by omega)
      repeat' (first | (simp -implicitDefEqProofs only [ze, Nat.reduceEqDiff, Nat.reduceAdd, Nat.reduceMul, reduceIte, Nat.reduceLT, Nat.reduceLeDiff, reduceCtorEq, Int.reduceEq, Int.reduceLT, Int.reduceLE, Int.reduceNeg, Int.reduceToNat, Nat.reduceBEq, Nat.reduceSub, qp, qf, kop, av, RQ, PQ, kres, kres1, kresL, fin, fins, fin1, V.pur?, V.pur1?, V.cells, kld, ones, V.one, Value.oneCell', own, owns, own1, xfill, ksrc, kint, vint, ksub, keqs, kok, V.val1?, ofRes, h12, h11, h10, h2, hd, enc_get, hx1, hel, hcp, hel2, nxj, nr_pur, List.length_map, htk, hup, hr0, hr1, hrx, hrx', hst]) | (with_reducible refine wgd_cases ?_ ?_ <;> intro hb) | (with_reducible refine wcond_cases ?_ ?_ <;> intro hb) | (with_reducible refine qd_i (by kernel_rfl) ?_) | (with_reducible refine W_itn_cases ?_ ?_; omega))
      have hqn : nx ≤ q := by rcases hr q _ _ rfl with h | h <;> omega
      exact ⟨es.length - (i + 1), by omega, i + 1, _, rfl, by omega, by omega, rfl, rfl, fun j hj => by rw [if_neg (by omega), if_neg (by omega), if_neg (by omega), if_neg (by omega)]; exact hk j hj, .inr ⟨q, by omega, by omega, by rw [hmap]; rfl, by rw [hmap, upd_at, if_pos rfl, List.length_append, List.length_map, htk]; rfl⟩, fun r e xs h => by injection h; omega⟩
  · have hd : decide ((i : Int) < (es.length : Int)) = false := decide_eq_false (by omega)
    have hin : i = es.length := by omega
    rw [hin, List.take_length] at hg1
    rcases hg1 with ⟨hb0, rfl⟩ | ⟨q, hr8, hrn, rfl, hst⟩
    · have hnil : es = [] := by simpa using hb0
      repeat' (first | (simp -implicitDefEqProofs only [ze, Nat.reduceEqDiff, Nat.reduceAdd, Nat.reduceMul, reduceIte, Nat.reduceLT, Nat.reduceLeDiff, reduceCtorEq, Int.reduceEq, Int.reduceLT, Int.reduceLE, Int.reduceNeg, Int.reduceToNat, Nat.reduceBEq, Nat.reduceSub, qp, qf, kop, av, RQ, PQ, kres, kres1, kresL, fin, fins, fin1, V.pur?, V.pur1?, V.cells, kld, ones, V.one, Value.oneCell', own, owns, own1, xfill, ksrc, kint, vint, ksub, keqs, kok, V.val1?, ofRes, h12, h11, h10, h2, hd]) | (with_reducible refine wgd_cases ?_ ?_ <;> intro hb) | (with_reducible refine wcond_cases ?_ ?_ <;> intro hb) | (with_reducible refine qd_i (by kernel_rfl) ?_) | (with_reducible refine W_itn_cases ?_ ?_; omega))
      exact ⟨_, _, 0, 1, by rw [hnil]; rfl, by omega, .inl hnil, hk⟩
    · repeat' (first | (simp -implicitDefEqProofs only [ze, Nat.reduceEqDiff, Nat.reduceAdd, Nat.reduceMul, reduceIte, Nat.reduceLT, Nat.reduceLeDiff, reduceCtorEq, Int.reduceEq, Int.reduceLT, Int.reduceLE, Int.reduceNeg, Int.reduceToNat, Nat.reduceBEq, Nat.reduceSub, qp, qf, kop, av, RQ, PQ, kres, kres1, kresL, fin, fins, fin1, V.pur?, V.pur1?, V.cells, kld, ones, V.one, Value.oneCell', own, owns, own1, xfill, ksrc, kint, vint, ksub, keqs, kok, V.val1?, ofRes, h12, h11, h10, h2, hd]) | (with_reducible refine wgd_cases ?_ ?_ <;> intro hb) | (with_reducible refine wcond_cases ?_ ?_ <;> intro hb) | (with_reducible refine qd_i (by kernel_rfl) ?_) | (with_reducible refine W_itn_cases ?_ ?_; omega))
      exact ⟨_, _, _, q, rfl, by omega, .inr rfl, hk⟩
end Go.Proofs.YtkbheoganajhaaaDoor.Vm
