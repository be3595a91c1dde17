/- Proved here: what the encoder does with a line. Conditions: none. -/
import Derived.Test.YtkbheoganajhaaaDoorVs8
set_option maxRecDepth 10000
set_option linter.unusedVariables false
set_option linter.unusedSimpArgs false
namespace Go.Proofs.YtkbheoganajhaaaDoor.Vm
open Go Go.Proofs
def Adds (o : Option HR) (st : St) (nx id : Nat) (out bs : List Int) : Prop := W o fun r => ∃ st' nx', r = .ret (.tup []) st' nx' ∧ nx ≤ nx' ∧ Enc st' nx' id (out ++ bs) ∧ Keep st st' nx id
theorem Enc.upd {st : St} {nx nx' id j : Nat} {out : List Int} (h : Enc st nx id out) (hj : nx ≤ j) (hn : nx ≤ nx') (o : Option Ob) : Enc (upd st j o) nx' id out := by
  obtain ⟨hid, v, hv, hg⟩ := h
  refine ⟨by omega, v, by rw [upd_at, if_neg (by omega)]; exact hv, ?_⟩
  rcases hg with hg | ⟨r, h1, h2, h3, h4⟩
  · exact .inl hg
  · exact .inr ⟨r, h1, by omega, h3, by rw [upd_at, if_neg (by omega)]; exact h4⟩
theorem Enc.le {st : St} {nx nx' id : Nat} {out : List Int} (h : Enc st nx id out) (hn : nx ≤ nx') : Enc st nx' id out := by
  obtain ⟨hid, v, hv, hg⟩ := h
  refine ⟨by omega, v, hv, ?_⟩
  rcases hg with hg | ⟨r, h1, h2, h3, h4⟩
  · exact .inl hg
  · exact .inr ⟨r, h1, by omega, h3, h4⟩
theorem Keep.trans {st st' st'' : St} {nx nx' id : Nat} (h : Keep st st' nx id) (k : Keep st' st'' nx' id) (hn : nx ≤ nx') : Keep st st'' nx id := fun i cs h1 h2 h3 => k i cs (by omega) h2 (h i cs h1 h2 h3)
theorem Keep.upd {st : St} {nx id j : Nat} (hj : nx ≤ j) (o : Option Ob) : Keep st (upd st j o) nx id := fun i cs h1 h2 h3 => by rw [upd_at, if_neg (by omega)]; exact h3
def tagsB (l : List Tag) : List Int := l.flatMap fun t => ptB t.n ++ ptB t.v
def lineB (l : Line) : List Int := ptB l.acc ++ ptB l.cur ++ Co.putS l.amt ++ Co.putS l.base ++ ptB l.par ++ ptB l.pty ++ Co.putS l.tags.length ++ tagsB l.tags
structure plainL (l : Line) : Prop where
  acc : plainS l.acc = true
  cur : plainS l.cur = true
  amt : i64r l.amt
  base : i64r l.base
  par : plainS l.par = true
  pty : plainS l.pty = true
  tags : ∀ t ∈ l.tags, plainS t.n = true ∧ plainS t.v = true
  len : l.tags.length ≤ 1000
  nil : l.tr = true → l.tags = []
theorem ptB_len (s : ByteArray) (h : plainS s = true) : (ptB s).length ≤ 70 := by
  have a1 := Co.putS_len s.size
  have a2 := bytesOf_len s
  have a3 := plain_size h
  rw [ptB, List.length_append]; omega
theorem tagsB_len : ∀ (l : List Tag) (i : Nat), (∀ t ∈ l.take i, plainS t.n = true ∧ plainS t.v = true) → (tagsB (l.take i)).length ≤ 140 * i
  | [], i, _ => by simp [tagsB]
  | t :: l, 0, _ => by simp [tagsB]
  | t :: l, i + 1, h => by
    have h1 := h t (by simp)
    have h2 := tagsB_len l i fun x hx => h x (by simp [hx])
    have a1 := ptB_len t.n h1.1
    have a2 := ptB_len t.v h1.2
    have e : tagsB ((t :: l).take (i + 1)) = (ptB t.n ++ ptB t.v) ++ tagsB (l.take i) := by simp [tagsB]
    rw [e, List.length_append, List.length_append]; omega
theorem encline_ok {st : St} {nx id : Nat} {out : List Int} (he : Enc st nx id out) (l : Line) (hp : plainL l) (hl : out.length ≤ 100000000) :
    Adds (L.hp 50 [.ptr id 0, encL l] st nx) st nx id out (lineB l) := by
  unfold Adds
  refine hp_w k50_eq ?_
  simp only [k50, encL]
  have hid := he.1
  have b1 := ptB_len l.acc hp.acc
  have b2 := ptB_len l.cur hp.cur
  have b3 := Co.putS_len l.amt
  have b4 := Co.putS_len l.base
  have b5 := ptB_len l.par hp.par
  have b6 := ptB_len l.pty hp.pty
  have b7 := Co.putS_len l.tags.length
  have hlen := hp.len
  repeat' (first | (simp -implicitDefEqProofs only [ze, Nat.reduceEqDiff, Nat.reduceAdd, Nat.reduceMul, reduceIte, Nat.reduceLT, Nat.reduceLeDiff, reduceCtorEq, Int.reduceEq, Int.reduceLT, Int.reduceLE, Int.reduceNeg, Int.reduceToNat, Nat.reduceBEq, Nat.reduceSub, qp, qf, kop, av, RQ, PQ, kres, kres1, kresL, fin, fins, fin1, V.pur?, V.pur1?, V.cells, kld, ones, V.one, Value.oneCell', own, owns, own1, xfill, ksrc, kint, vint, ksub, keqs, kok, V.val1?, ofRes]) | (with_reducible refine wgd_cases ?_ ?_ <;> intro hb) | (with_reducible refine wcond_cases ?_ ?_ <;> intro hb) | (with_reducible refine qd_i (by kernel_rfl) ?_) | (with_reducible refine W_itn_cases ?_ ?_; omega))
  refine W_hp (text_ok (he.upd (Nat.le_refl nx) (by omega) _) l.acc hp.acc (by omega)) ?_
  rintro _ ⟨st1, nx1, rfl, hn1, he1, hk1⟩
  have hx1 := hk1 nx _ (by omega) (by omega) (by rw [upd_at, if_pos rfl])
  repeat' (first | (simp -implicitDefEqProofs only [ze, Nat.reduceEqDiff, Nat.reduceAdd, Nat.reduceMul, reduceIte, Nat.reduceLT, Nat.reduceLeDiff, reduceCtorEq, Int.reduceEq, Int.reduceLT, Int.reduceLE, Int.reduceNeg, Int.reduceToNat, Nat.reduceBEq, Nat.reduceSub, qp, qf, kop, av, RQ, PQ, kres, kres1, kresL, fin, fins, fin1, V.pur?, V.pur1?, V.cells, kld, ones, V.one, Value.oneCell', own, owns, own1, xfill, ksrc, kint, vint, ksub, keqs, kok, V.val1?, ofRes, hx1]) | (with_reducible refine wgd_cases ?_ ?_ <;> intro hb) | (with_reducible refine wcond_cases ?_ ?_ <;> intro hb) | (with_reducible refine qd_i (by kernel_rfl) ?_) | (with_reducible refine W_itn_cases ?_ ?_; omega))
  refine W_hp (text_ok (he1.le (Nat.le_add_right _ _)) l.cur hp.cur (by simp only [List.length_append]; omega)) ?_
  rintro _ ⟨st2, nx2, rfl, hn2, he2, hk2⟩
  have hx2 := hk2 nx _ (by omega) (by omega) hx1
  repeat' (first | (simp -implicitDefEqProofs only [ze, Nat.reduceEqDiff, Nat.reduceAdd, Nat.reduceMul, reduceIte, Nat.reduceLT, Nat.reduceLeDiff, reduceCtorEq, Int.reduceEq, Int.reduceLT, Int.reduceLE, Int.reduceNeg, Int.reduceToNat, Nat.reduceBEq, Nat.reduceSub, qp, qf, kop, av, RQ, PQ, kres, kres1, kresL, fin, fins, fin1, V.pur?, V.pur1?, V.cells, kld, ones, V.one, Value.oneCell', own, owns, own1, xfill, ksrc, kint, vint, ksub, keqs, kok, V.val1?, ofRes, hx2]) | (with_reducible refine wgd_cases ?_ ?_ <;> intro hb) | (with_reducible refine wcond_cases ?_ ?_ <;> intro hb) | (with_reducible refine qd_i (by kernel_rfl) ?_) | (with_reducible refine W_itn_cases ?_ ?_; omega))
  refine W_hp (number_ok (he2.le (Nat.le_add_right _ _)) l.amt hp.amt (by simp only [List.length_append]; omega)) ?_
  rintro _ ⟨st3, nx3, rfl, hn3, he3, hk3⟩
  have hx3 := hk3 nx _ (by omega) (by omega) hx2
  repeat' (first | (simp -implicitDefEqProofs only [ze, Nat.reduceEqDiff, Nat.reduceAdd, Nat.reduceMul, reduceIte, Nat.reduceLT, Nat.reduceLeDiff, reduceCtorEq, Int.reduceEq, Int.reduceLT, Int.reduceLE, Int.reduceNeg, Int.reduceToNat, Nat.reduceBEq, Nat.reduceSub, qp, qf, kop, av, RQ, PQ, kres, kres1, kresL, fin, fins, fin1, V.pur?, V.pur1?, V.cells, kld, ones, V.one, Value.oneCell', own, owns, own1, xfill, ksrc, kint, vint, ksub, keqs, kok, V.val1?, ofRes, hx3]) | (with_reducible refine wgd_cases ?_ ?_ <;> intro hb) | (with_reducible refine wcond_cases ?_ ?_ <;> intro hb) | (with_reducible refine qd_i (by kernel_rfl) ?_) | (with_reducible refine W_itn_cases ?_ ?_; omega))
  refine W_hp (number_ok (he3.le (Nat.le_add_right _ _)) l.base hp.base (by simp only [List.length_append]; omega)) ?_
  rintro _ ⟨st4, nx4, rfl, hn4, he4, hk4⟩
  have hx4 := hk4 nx _ (by omega) (by omega) hx3
  repeat' (first | (simp -implicitDefEqProofs only [ze, Nat.reduceEqDiff, Nat.reduceAdd, Nat.reduceMul, reduceIte, Nat.reduceLT, Nat.reduceLeDiff, reduceCtorEq, Int.reduceEq, Int.reduceLT, Int.reduceLE, Int.reduceNeg, Int.reduceToNat, Nat.reduceBEq, Nat.reduceSub, qp, qf, kop, av, RQ, PQ, kres, kres1, kresL, fin, fins, fin1, V.pur?, V.pur1?, V.cells, kld, ones, V.one, Value.oneCell', own, owns, own1, xfill, ksrc, kint, vint, ksub, keqs, kok, V.val1?, ofRes, hx4]) | (with_reducible refine wgd_cases ?_ ?_ <;> intro hb) | (with_reducible refine wcond_cases ?_ ?_ <;> intro hb) | (with_reducible refine qd_i (by kernel_rfl) ?_) | (with_reducible refine W_itn_cases ?_ ?_; omega))
  refine W_hp (text_ok (he4.le (Nat.le_add_right _ _)) l.par hp.par (by simp only [List.length_append]; omega)) ?_
  rintro _ ⟨st5, nx5, rfl, hn5, he5, hk5⟩
  have hx5 := hk5 nx _ (by omega) (by omega) hx4
  repeat' (first | (simp -implicitDefEqProofs only [ze, Nat.reduceEqDiff, Nat.reduceAdd, Nat.reduceMul, reduceIte, Nat.reduceLT, Nat.reduceLeDiff, reduceCtorEq, Int.reduceEq, Int.reduceLT, Int.reduceLE, Int.reduceNeg, Int.reduceToNat, Nat.reduceBEq, Nat.reduceSub, qp, qf, kop, av, RQ, PQ, kres, kres1, kresL, fin, fins, fin1, V.pur?, V.pur1?, V.cells, kld, ones, V.one, Value.oneCell', own, owns, own1, xfill, ksrc, kint, vint, ksub, keqs, kok, V.val1?, ofRes, hx5]) | (with_reducible refine wgd_cases ?_ ?_ <;> intro hb) | (with_reducible refine wcond_cases ?_ ?_ <;> intro hb) | (with_reducible refine qd_i (by kernel_rfl) ?_) | (with_reducible refine W_itn_cases ?_ ?_; omega))
  refine W_hp (text_ok (he5.le (Nat.le_add_right _ _)) l.pty hp.pty (by simp only [List.length_append]; omega)) ?_
  rintro _ ⟨st6, nx6, rfl, hn6, he6, hk6⟩
  have hx6 := hk6 nx _ (by omega) (by omega) hx5
  repeat' (first | (simp -implicitDefEqProofs only [ze, Nat.reduceEqDiff, Nat.reduceAdd, Nat.reduceMul, reduceIte, Nat.reduceLT, Nat.reduceLeDiff, reduceCtorEq, Int.reduceEq, Int.reduceLT, Int.reduceLE, Int.reduceNeg, Int.reduceToNat, Nat.reduceBEq, Nat.reduceSub, qp, qf, kop, av, RQ, PQ, kres, kres1, kresL, fin, fins, fin1, V.pur?, V.pur1?, V.cells, kld, ones, V.one, Value.oneCell', own, owns, own1, xfill, ksrc, kint, vint, ksub, keqs, kok, V.val1?, ofRes, hx6, List.length_map]) | (with_reducible refine wgd_cases ?_ ?_ <;> intro hb) | (with_reducible refine wcond_cases ?_ ?_ <;> intro hb) | (with_reducible refine qd_i (by kernel_rfl) ?_) | (with_reducible refine W_itn_cases ?_ ?_; omega))
  refine W_hp (number_ok (he6.le (Nat.le_add_right _ _)) l.tags.length ⟨by omega, by omega⟩ (by simp only [List.length_append]; omega)) ?_
  rintro _ ⟨st7, nx7, rfl, hn7, he7, hk7⟩
  have hx7 := hk7 nx _ (by omega) (by omega) hx6
  repeat' (first | (simp -implicitDefEqProofs only [ze, Nat.reduceEqDiff, Nat.reduceAdd, Nat.reduceMul, reduceIte, Nat.reduceLT, Nat.reduceLeDiff, reduceCtorEq, Int.reduceEq, Int.reduceLT, Int.reduceLE, Int.reduceNeg, Int.reduceToNat, Nat.reduceBEq, Nat.reduceSub, qp, qf, kop, av, RQ, PQ, kres, kres1, kresL, fin, fins, fin1, V.pur?, V.pur1?, V.cells, kld, ones, V.one, Value.oneCell', own, owns, own1, xfill, ksrc, kint, vint, ksub, keqs, kok, V.val1?, ofRes, hx7, List.length_map]) | (with_reducible refine wgd_cases ?_ ?_ <;> intro hb) | (with_reducible refine wcond_cases ?_ ?_ <;> intro hb) | (with_reducible refine qd_i (by kernel_rfl) ?_) | (with_reducible refine W_itn_cases ?_ ?_; omega))
  have hk7' : Keep st st7 nx id := fun i cs h1 h2 h3 => by
    refine hk7 i cs (by omega) h2 (hk6 i cs (by omega) h2 (hk5 i cs (by omega) h2 (hk4 i cs (by omega) h2 (hk3 i cs (by omega) h2 (hk2 i cs (by omega) h2 (hk1 i cs (by omega) h2 ?_))))))
    rw [upd_at, if_neg (by omega)]; exact h3
  refine loop_w (fun n tm st' nx' => ∃ i : Nat, n = l.tags.length - i ∧ i ≤ l.tags.length ∧ tm 38 = .i64 i ∧ tm 37 = .i64 l.tags.length ∧ tm 36 = .list (te l.tr 97) (l.tags.map encT) (nr l.tr) ∧ tm 0 = .ptr id 0 ∧ nx ≤ nx' ∧
      Enc st' nx' id (out ++ ptB l.acc ++ ptB l.cur ++ Co.putS l.amt ++ Co.putS l.base ++ ptB l.par ++ ptB l.pty ++ Co.putS l.tags.length ++ tagsB (l.tags.take i)) ∧ Keep st st' nx id) l.tags.length ⟨0, by omega, by omega, ?_, ?_, ?_, ?_, by omega, ?_, hk7'⟩ ?_
  · simp -implicitDefEqProofs only [ze, Nat.reduceEqDiff, Nat.reduceAdd, Nat.reduceMul, reduceIte, Nat.reduceLT, Nat.reduceLeDiff, reduceCtorEq, Int.reduceEq, Int.reduceLT, Int.reduceLE, Int.reduceNeg, Int.reduceToNat, Nat.reduceBEq, Nat.reduceSub, qp, qf, kop, av, RQ, PQ, kres, kres1, kresL, fin, fins, fin1, V.pur?, V.pur1?, V.cells, kld, ones, V.one, Value.oneCell', own, owns, own1, xfill, ksrc, kint, vint, ksub, keqs, kok, V.val1?, ofRes]; rfl
  · simp -implicitDefEqProofs only [ze, Nat.reduceEqDiff, Nat.reduceAdd, Nat.reduceMul, reduceIte, Nat.reduceLT, Nat.reduceLeDiff, reduceCtorEq, Int.reduceEq, Int.reduceLT, Int.reduceLE, Int.reduceNeg, Int.reduceToNat, Nat.reduceBEq, Nat.reduceSub, qp, qf, kop, av, RQ, PQ, kres, kres1, kresL, fin, fins, fin1, V.pur?, V.pur1?, V.cells, kld, ones, V.one, Value.oneCell', own, owns, own1, xfill, ksrc, kint, vint, ksub, keqs, kok, V.val1?, ofRes]
  · simp -implicitDefEqProofs only [ze, Nat.reduceEqDiff, Nat.reduceAdd, Nat.reduceMul, reduceIte, Nat.reduceLT, Nat.reduceLeDiff, reduceCtorEq, Int.reduceEq, Int.reduceLT, Int.reduceLE, Int.reduceNeg, Int.reduceToNat, Nat.reduceBEq, Nat.reduceSub, qp, qf, kop, av, RQ, PQ, kres, kres1, kresL, fin, fins, fin1, V.pur?, V.pur1?, V.cells, kld, ones, V.one, Value.oneCell', own, owns, own1, xfill, ksrc, kint, vint, ksub, keqs, kok, V.val1?, ofRes]
  · simp -implicitDefEqProofs only [ze, Nat.reduceEqDiff, Nat.reduceAdd, Nat.reduceMul, reduceIte, Nat.reduceLT, Nat.reduceLeDiff, reduceCtorEq, Int.reduceEq, Int.reduceLT, Int.reduceLE, Int.reduceNeg, Int.reduceToNat, Nat.reduceBEq, Nat.reduceSub, qp, qf, kop, av, RQ, PQ, kres, kres1, kresL, fin, fins, fin1, V.pur?, V.pur1?, V.cells, kld, ones, V.one, Value.oneCell', own, owns, own1, xfill, ksrc, kint, vint, ksub, keqs, kok, V.val1?, ofRes]
  · simpa [tagsB] using he7.le (Nat.le_add_right _ _)
  rintro n tm st' nx' ⟨i, hi, hi2, h38, h37, h36, h0, hnx, hen, hke⟩
  simp only [k50_l0]
  by_cases hlt : i < l.tags.length
  · have htr : l.tr = false := by
      cases h : l.tr
      · rfl
      · rw [hp.nil h] at hlt; simp at hlt
    rw [htr, te_f] at h36
    obtain ⟨t, ht⟩ := get_lt hlt
    have hpt := hp.tags t (List.mem_of_getElem? ht)
    have hd : decide ((i : Int) < (l.tags.length : Int)) = true := decide_eq_true (by omega)
    have c1 := ptB_len t.n hpt.1
    have c2 := ptB_len t.v hpt.2
    have c3 : (tagsB (l.tags.take i)).length ≤ 140 * i := tagsB_len _ _ fun t h => hp.tags t (List.mem_of_mem_take h)
    have e1 : l.tags.take (i + 1) = l.tags.take i ++ [t] := by rw [List.take_add_one, ht]; rfl
    repeat' (first | (simp -implicitDefEqProofs only [ze, Nat.reduceEqDiff, Nat.reduceAdd, Nat.reduceMul, reduceIte, Nat.reduceLT, Nat.reduceLeDiff, reduceCtorEq, Int.reduceEq, Int.reduceLT, Int.reduceLE, Int.reduceNeg, Int.reduceToNat, Nat.reduceBEq, Nat.reduceSub, qp, qf, kop, av, RQ, PQ, kres, kres1, kresL, fin, fins, fin1, V.pur?, V.pur1?, V.cells, kld, ones, V.one, Value.oneCell', own, owns, own1, xfill, ksrc, kint, vint, ksub, keqs, kok, V.val1?, ofRes, h38, h37, h36, h0, hd, ht, encT]) | (with_reducible refine wgd_cases ?_ ?_ <;> intro hb) | (with_reducible refine wcond_cases ?_ ?_ <;> intro hb) | (with_reducible refine qd_i (by kernel_rfl) ?_) | (with_reducible refine W_itn_cases ?_ ?_; omega))
    refine W_hp (text_ok ((hen.upd (j := nx' + 24) (nx' := nx') (by omega) (Nat.le_refl _) _).upd (j := nx' + 24) (nx' := nx' + 72) (by omega) (by omega) _) t.n hpt.1 (by simp only [List.length_append]; omega)) ?_
    rintro _ ⟨sa, na, rfl, hna, hea, hka⟩
    have hxa := hka (nx' + 24) _ (by omega) (by omega) (by rw [upd_at, if_pos rfl])
    repeat' (first | (simp -implicitDefEqProofs only [ze, Nat.reduceEqDiff, Nat.reduceAdd, Nat.reduceMul, reduceIte, Nat.reduceLT, Nat.reduceLeDiff, reduceCtorEq, Int.reduceEq, Int.reduceLT, Int.reduceLE, Int.reduceNeg, Int.reduceToNat, Nat.reduceBEq, Nat.reduceSub, qp, qf, kop, av, RQ, PQ, kres, kres1, kresL, fin, fins, fin1, V.pur?, V.pur1?, V.cells, kld, ones, V.one, Value.oneCell', own, owns, own1, xfill, ksrc, kint, vint, ksub, keqs, kok, V.val1?, ofRes, hxa, h0]) | (with_reducible refine wgd_cases ?_ ?_ <;> intro hb) | (with_reducible refine wcond_cases ?_ ?_ <;> intro hb) | (with_reducible refine qd_i (by kernel_rfl) ?_) | (with_reducible refine W_itn_cases ?_ ?_; omega))
    refine W_hp (text_ok (hea.le (Nat.le_add_right _ _)) t.v hpt.2 (by simp only [List.length_append]; omega)) ?_
    rintro _ ⟨sb, nb, rfl, hnb, heb, hkb⟩
    repeat' (first | (simp -implicitDefEqProofs only [ze, Nat.reduceEqDiff, Nat.reduceAdd, Nat.reduceMul, reduceIte, Nat.reduceLT, Nat.reduceLeDiff, reduceCtorEq, Int.reduceEq, Int.reduceLT, Int.reduceLE, Int.reduceNeg, Int.reduceToNat, Nat.reduceBEq, Nat.reduceSub, qp, qf, kop, av, RQ, PQ, kres, kres1, kresL, fin, fins, fin1, V.pur?, V.pur1?, V.cells, kld, ones, V.one, Value.oneCell', own, owns, own1, xfill, ksrc, kint, vint, ksub, keqs, kok, V.val1?, ofRes, h38, h37, h36, h0, htr, te_f]) | (with_reducible refine wgd_cases ?_ ?_ <;> intro hb) | (with_reducible refine wcond_cases ?_ ?_ <;> intro hb) | (with_reducible refine qd_i (by kernel_rfl) ?_) | (with_reducible refine W_itn_cases ?_ ?_; omega))
    refine ⟨l.tags.length - (i + 1), by omega, i + 1, rfl, by omega, up64 (by omega), by omega, ?_, ?_⟩
    · have : tagsB (l.tags.take (i + 1)) = tagsB (l.tags.take i) ++ (ptB t.n ++ ptB t.v) := by rw [e1]; simp [tagsB]
      rw [this]
      have h9 := heb.le (nx' := nb + 16) (Nat.le_add_right _ _)
      simpa only [List.append_assoc] using h9
    · intro j cs h1 h2 h3
      refine hkb j cs (by omega) h2 (hka j cs (by omega) h2 ?_)
      rw [upd_at, if_neg (by omega), upd_at, if_neg (by omega)]
      exact hke j cs h1 h2 h3
  · have hd : decide ((i : Int) < (l.tags.length : Int)) = false := decide_eq_false (by omega)
    have hie : i = l.tags.length := by omega
    repeat' (first | (simp -implicitDefEqProofs only [ze, Nat.reduceEqDiff, Nat.reduceAdd, Nat.reduceMul, reduceIte, Nat.reduceLT, Nat.reduceLeDiff, reduceCtorEq, Int.reduceEq, Int.reduceLT, Int.reduceLE, Int.reduceNeg, Int.reduceToNat, Nat.reduceBEq, Nat.reduceSub, qp, qf, kop, av, RQ, PQ, kres, kres1, kresL, fin, fins, fin1, V.pur?, V.pur1?, V.cells, kld, ones, V.one, Value.oneCell', own, owns, own1, xfill, ksrc, kint, vint, ksub, keqs, kok, V.val1?, ofRes, h38, h37, h36, h0, hd]) | (with_reducible refine wgd_cases ?_ ?_ <;> intro hb) | (with_reducible refine wcond_cases ?_ ?_ <;> intro hb) | (with_reducible refine qd_i (by kernel_rfl) ?_) | (with_reducible refine W_itn_cases ?_ ?_; omega))
    refine ⟨_, _, rfl, by omega, ?_, hke⟩
    have h9 := hen.le (nx' := nx' + 8) (Nat.le_add_right _ _)
    rw [hie, List.take_length] at h9
    simpa only [lineB, List.append_assoc] using h9
end Go.Proofs.YtkbheoganajhaaaDoor.Vm
