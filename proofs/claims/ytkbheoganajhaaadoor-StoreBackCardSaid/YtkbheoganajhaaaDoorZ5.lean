/- Proved here: the law, on a machine over pure data, and what it needs, part 5. Conditions: none. -/
import Derived.Test.YtkbheoganajhaaaDoorRows
import Derived.Test.YtkbheoganajhaaaDoorCards
import Derived.Test.YtkbheoganajhaaaDoorTie
import Derived.Test.YtkbheoganajhaaaDoorZ4
set_option maxRecDepth 10000
set_option linter.unusedVariables false
set_option linter.unusedSimpArgs false
namespace Go.Proofs.YtkbheoganajhaaaDoor.Vm
open Go Go.Proofs
def Adds (o : Option HR) (st : St) (nx id : Nat) (out bs : List Int) : Prop := W o fun r => ∃ st' nx', r = .ret (.tup []) st' nx' ∧ nx ≤ nx' ∧ Enc st' nx' id (out ++ bs) ∧ Keep st st' nx id
theorem Enc.upd {st : St} {nx nx' id j : Nat} {out : List Int} (h : Enc st nx id out) (hj : nx ≤ j) (hn : nx ≤ nx') (o : Option Ob) : Enc (upd st j o) nx' id out := by
  obtain ⟨hid, v, hv, hg⟩ := h
  refine ⟨by omega, v, by rw [upd_at, if_neg (by omega)]; exact hv, ?_⟩
  rcases hg with hg | ⟨r, h1, h2, h3, h4⟩
  · exact .inl hg
  · exact .inr ⟨r, h1, by omega, h3, by rw [upd_at, if_neg (by omega)]; exact h4⟩
theorem Enc.le {st : St} {nx nx' id : Nat} {out : List Int} (h : Enc st nx id out) (hn : nx ≤ nx') : Enc st nx' id out := by
  obtain ⟨hid, v, hv, hg⟩ := h
  refine ⟨by omega, v, hv, ?_⟩
  rcases hg with hg | ⟨r, h1, h2, h3, h4⟩
  · exact .inl hg
  · exact .inr ⟨r, h1, by omega, h3, h4⟩
theorem Keep.trans {st st' st'' : St} {nx nx' id : Nat} (h : Keep st st' nx id) (k : Keep st' st'' nx' id) (hn : nx ≤ nx') : Keep st st'' nx id := fun i cs h1 h2 h3 => k i cs (by omega) h2 (h i cs h1 h2 h3)
theorem Keep.upd {st : St} {nx id j : Nat} (hj : nx ≤ j) (o : Option Ob) : Keep st (upd st j o) nx id := fun i cs h1 h2 h3 => by rw [upd_at, if_neg (by omega)]; exact h3
def tagsB (l : List Tag) : List Int := l.flatMap fun t => ptB t.n ++ ptB t.v
def lineB (l : Line) : List Int := ptB l.acc ++ ptB l.cur ++ Co.putS l.amt ++ Co.putS l.base ++ ptB l.par ++ ptB l.pty ++ Co.putS l.tags.length ++ tagsB l.tags
structure plainL (l : Line) : Prop where
  acc : plainS l.acc = true
  cur : plainS l.cur = true
  amt : i64r l.amt
  base : i64r l.base
  par : plainS l.par = true
  pty : plainS l.pty = true
  tags : ∀ t ∈ l.tags, plainS t.n = true ∧ plainS t.v = true
  len : l.tags.length ≤ 1000
  nil : l.tr = true → l.tags = []
theorem ptB_len (s : ByteArray) (h : plainS s = true) : (ptB s).length ≤ 70 := by
  have a1 := Co.putS_len s.size
  have a2 := bytesOf_len s
  have a3 := plain_size h
  rw [ptB, List.length_append]; omega
theorem tagsB_len : ∀ (l : List Tag) (i : Nat), (∀ t ∈ l.take i, plainS t.n = true ∧ plainS t.v = true) → (tagsB (l.take i)).length ≤ 140 * i
  | [], i, _ => by simp [tagsB]
  | t :: l, 0, _ => by simp [tagsB]
  | t :: l, i + 1, h => by
    have h1 := h t (by simp)
    have h2 := tagsB_len l i fun x hx => h x (by simp [hx])
    have a1 := ptB_len t.n h1.1
    have a2 := ptB_len t.v h1.2
    have e : tagsB ((t :: l).take (i + 1)) = (ptB t.n ++ ptB t.v) ++ tagsB (l.take i) := by simp [tagsB]
    rw [e, List.length_append, List.length_append]; omega
theorem encline_ok {st : St} {nx id : Nat} {out : List Int} (he : Enc st nx id out) (l : Line) (hp : plainL l) (hl : out.length ≤ 100000000) :
    Adds (L.hp 50 [.ptr id 0, encL l] st nx) st nx id out (lineB l) := by
  unfold Adds
  refine hp_w k50_eq ?_
  simp only [k50, encL]
  have hid := he.1
  have b1 := ptB_len l.acc hp.acc
  have b2 := ptB_len l.cur hp.cur
  have b3 := Co.putS_len l.amt
  have b4 := Co.putS_len l.base
  have b5 := ptB_len l.par hp.par
  have b6 := ptB_len l.pty hp.pty
  have b7 := Co.putS_len l.tags.length
  have hlen := hp.len
  repeat' (first | (simp -implicitDefEqProofs only [ze, Nat.reduceEqDiff, Nat.reduceAdd, Nat.reduceMul, reduceIte, Nat.reduceLT, Nat.reduceLeDiff, reduceCtorEq, Int.reduceEq, Int.reduceLT, Int.reduceLE, Int.reduceNeg, Int.reduceToNat, Nat.reduceBEq, Nat.reduceSub, qp, qf, kop, av, RQ, PQ, kres, kres1, kresL, fin, fins, fin1, V.pur?, V.pur1?, V.cells, kld, ones, V.one, Value.oneCell', own, owns, own1, xfill, ksrc, kint, vint, ksub, keqs, kok, V.val1?, ofRes]) | (with_reducible refine wgd_cases ?_ ?_ <;> intro hb) | (with_reducible refine wcond_cases ?_ ?_ <;> intro hb) | (with_reducible refine qd_i (by kernel_rfl) ?_) | (with_reducible refine W_itn_cases ?_ ?_; omega))
  refine W_hp (text_ok (he.upd (Nat.le_refl nx) (by omega) _) l.acc hp.acc (by omega)) ?_
  rintro _ ⟨st1, nx1, rfl, hn1, he1, hk1⟩
  have hx1 := hk1 nx _ (by omega) (by omega) (by rw [upd_at, if_pos rfl])
  repeat' (first | (simp -implicitDefEqProofs only [ze, Nat.reduceEqDiff, Nat.reduceAdd, Nat.reduceMul, reduceIte, Nat.reduceLT, Nat.reduceLeDiff, reduceCtorEq, Int.reduceEq, Int.reduceLT, Int.reduceLE, Int.reduceNeg, Int.reduceToNat, Nat.reduceBEq, Nat.reduceSub, qp, qf, kop, av, RQ, PQ, kres, kres1, kresL, fin, fins, fin1, V.pur?, V.pur1?, V.cells, kld, ones, V.one, Value.oneCell', own, owns, own1, xfill, ksrc, kint, vint, ksub, keqs, kok, V.val1?, ofRes, hx1]) | (with_reducible refine wgd_cases ?_ ?_ <;> intro hb) | (with_reducible refine wcond_cases ?_ ?_ <;> intro hb) | (with_reducible refine qd_i (by kernel_rfl) ?_) | (with_reducible refine W_itn_cases ?_ ?_; omega))
  refine W_hp (text_ok (he1.le (Nat.le_add_right _ _)) l.cur hp.cur (by simp only [List.length_append]; omega)) ?_
  rintro _ ⟨st2, nx2, rfl, hn2, he2, hk2⟩
  have hx2 := hk2 nx _ (by omega) (by omega) hx1
  repeat' (first | (simp -implicitDefEqProofs only [ze, Nat.reduceEqDiff, Nat.reduceAdd, Nat.reduceMul, reduceIte, Nat.reduceLT, Nat.reduceLeDiff, reduceCtorEq, Int.reduceEq, Int.reduceLT, Int.reduceLE, Int.reduceNeg, Int.reduceToNat, Nat.reduceBEq, Nat.reduceSub, qp, qf, kop, av, RQ, PQ, kres, kres1, kresL, fin, fins, fin1, V.pur?, V.pur1?, V.cells, kld, ones, V.one, Value.oneCell', own, owns, own1, xfill, ksrc, kint, vint, ksub, keqs, kok, V.val1?, ofRes, hx2]) | (with_reducible refine wgd_cases ?_ ?_ <;> intro hb) | (with_reducible refine wcond_cases ?_ ?_ <;> intro hb) | (with_reducible refine qd_i (by kernel_rfl) ?_) | (with_reducible refine W_itn_cases ?_ ?_; omega))
  refine W_hp (number_ok (he2.le (Nat.le_add_right _ _)) l.amt hp.amt (by simp only [List.length_append]; omega)) ?_
  rintro _ ⟨st3, nx3, rfl, hn3, he3, hk3⟩
  have hx3 := hk3 nx _ (by omega) (by omega) hx2
  repeat' (first | (simp -implicitDefEqProofs only [ze, Nat.reduceEqDiff, Nat.reduceAdd, Nat.reduceMul, reduceIte, Nat.reduceLT, Nat.reduceLeDiff, reduceCtorEq, Int.reduceEq, Int.reduceLT, Int.reduceLE, Int.reduceNeg, Int.reduceToNat, Nat.reduceBEq, Nat.reduceSub, qp, qf, kop, av, RQ, PQ, kres, kres1, kresL, fin, fins, fin1, V.pur?, V.pur1?, V.cells, kld, ones, V.one, Value.oneCell', own, owns, own1, xfill, ksrc, kint, vint, ksub, keqs, kok, V.val1?, ofRes, hx3]) | (with_reducible refine wgd_cases ?_ ?_ <;> intro hb) | (with_reducible refine wcond_cases ?_ ?_ <;> intro hb) | (with_reducible refine qd_i (by kernel_rfl) ?_) | (with_reducible refine W_itn_cases ?_ ?_; omega))
  refine W_hp (number_ok (he3.le (Nat.le_add_right _ _)) l.base hp.base (by simp only [List.length_append]; omega)) ?_
  rintro _ ⟨st4, nx4, rfl, hn4, he4, hk4⟩
  have hx4 := hk4 nx _ (by omega) (by omega) hx3
  repeat' (first | (simp -implicitDefEqProofs only [ze, Nat.reduceEqDiff, Nat.reduceAdd, Nat.reduceMul, reduceIte, Nat.reduceLT, Nat.reduceLeDiff, reduceCtorEq, Int.reduceEq, Int.reduceLT, Int.reduceLE, Int.reduceNeg, Int.reduceToNat, Nat.reduceBEq, Nat.reduceSub, qp, qf, kop, av, RQ, PQ, kres, kres1, kresL, fin, fins, fin1, V.pur?, V.pur1?, V.cells, kld, ones, V.one, Value.oneCell', own, owns, own1, xfill, ksrc, kint, vint, ksub, keqs, kok, V.val1?, ofRes, hx4]) | (with_reducible refine wgd_cases ?_ ?_ <;> intro hb) | (with_reducible refine wcond_cases ?_ ?_ <;> intro hb) | (with_reducible refine qd_i (by kernel_rfl) ?_) | (with_reducible refine W_itn_cases ?_ ?_; omega))
  refine W_hp (text_ok (he4.le (Nat.le_add_right _ _)) l.par hp.par (by simp only [List.length_append]; omega)) ?_
  rintro _ ⟨st5, nx5, rfl, hn5, he5, hk5⟩
  have hx5 := hk5 nx _ (by omega) (by omega) hx4
  repeat' (first | (simp -implicitDefEqProofs only [ze, Nat.reduceEqDiff, Nat.reduceAdd, Nat.reduceMul, reduceIte, Nat.reduceLT, Nat.reduceLeDiff, reduceCtorEq, Int.reduceEq, Int.reduceLT, Int.reduceLE, Int.reduceNeg, Int.reduceToNat, Nat.reduceBEq, Nat.reduceSub, qp, qf, kop, av, RQ, PQ, kres, kres1, kresL, fin, fins, fin1, V.pur?, V.pur1?, V.cells, kld, ones, V.one, Value.oneCell', own, owns, own1, xfill, ksrc, kint, vint, ksub, keqs, kok, V.val1?, ofRes, hx5]) | (with_reducible refine wgd_cases ?_ ?_ <;> intro hb) | (with_reducible refine wcond_cases ?_ ?_ <;> intro hb) | (with_reducible refine qd_i (by kernel_rfl) ?_) | (with_reducible refine W_itn_cases ?_ ?_; omega))
  refine W_hp (text_ok (he5.le (Nat.le_add_right _ _)) l.pty hp.pty (by simp only [List.length_append]; omega)) ?_
  rintro _ ⟨st6, nx6, rfl, hn6, he6, hk6⟩
  have hx6 := hk6 nx _ (by omega) (by omega) hx5
  repeat' (first | (simp -implicitDefEqProofs only [ze, Nat.reduceEqDiff, Nat.reduceAdd, Nat.reduceMul, reduceIte, Nat.reduceLT, Nat.reduceLeDiff, reduceCtorEq, Int.reduceEq, Int.reduceLT, Int.reduceLE, Int.reduceNeg, Int.reduceToNat, Nat.reduceBEq, Nat.reduceSub, qp, qf, kop, av, RQ, PQ, kres, kres1, kresL, fin, fins, fin1, V.pur?, V.pur1?, V.cells, kld, ones, V.one, Value.oneCell', own, owns, own1, xfill, ksrc, kint, vint, ksub, keqs, kok, V.val1?, ofRes, hx6, List.length_map]) | (with_reducible refine wgd_cases ?_ ?_ <;> intro hb) | (with_reducible refine wcond_cases ?_ ?_ <;> intro hb) | (with_reducible refine qd_i (by kernel_rfl) ?_) | (with_reducible refine W_itn_cases ?_ ?_; omega))
  refine W_hp (number_ok (he6.le (Nat.le_add_right _ _)) l.tags.length ⟨by omega, by omega⟩ (by simp only [List.length_append]; omega)) ?_
  rintro _ ⟨st7, nx7, rfl, hn7, he7, hk7⟩
  have hx7 := hk7 nx _ (by omega) (by omega) hx6
  repeat' (first | (simp -implicitDefEqProofs only [ze, Nat.reduceEqDiff, Nat.reduceAdd, Nat.reduceMul, reduceIte, Nat.reduceLT, Nat.reduceLeDiff, reduceCtorEq, Int.reduceEq, Int.reduceLT, Int.reduceLE, Int.reduceNeg, Int.reduceToNat, Nat.reduceBEq, Nat.reduceSub, qp, qf, kop, av, RQ, PQ, kres, kres1, kresL, fin, fins, fin1, V.pur?, V.pur1?, V.cells, kld, ones, V.one, Value.oneCell', own, owns, own1, xfill, ksrc, kint, vint, ksub, keqs, kok, V.val1?, ofRes, hx7, List.length_map]) | (with_reducible refine wgd_cases ?_ ?_ <;> intro hb) | (with_reducible refine wcond_cases ?_ ?_ <;> intro hb) | (with_reducible refine qd_i (by kernel_rfl) ?_) | (with_reducible refine W_itn_cases ?_ ?_; omega))
  have hk7' : Keep st st7 nx id := fun i cs h1 h2 h3 => by
    refine hk7 i cs (by omega) h2 (hk6 i cs (by omega) h2 (hk5 i cs (by omega) h2 (hk4 i cs (by omega) h2 (hk3 i cs (by omega) h2 (hk2 i cs (by omega) h2 (hk1 i cs (by omega) h2 ?_))))))
    rw [upd_at, if_neg (by omega)]; exact h3
  refine loop_w (fun n tm st' nx' => ∃ i : Nat, n = l.tags.length - i ∧ i ≤ l.tags.length ∧ tm 38 = .i64 i ∧ tm 37 = .i64 l.tags.length ∧ tm 36 = .list (te l.tr 97) (l.tags.map encT) (nr l.tr) ∧ tm 0 = .ptr id 0 ∧ nx ≤ nx' ∧
      Enc st' nx' id (out ++ ptB l.acc ++ ptB l.cur ++ Co.putS l.amt ++ Co.putS l.base ++ ptB l.par ++ ptB l.pty ++ Co.putS l.tags.length ++ tagsB (l.tags.take i)) ∧ Keep st st' nx id) l.tags.length ⟨0, by omega, by omega, ?_, ?_, ?_, ?_, by omega, ?_, hk7'⟩ ?_
  · simp -implicitDefEqProofs only [ze, Nat.reduceEqDiff, Nat.reduceAdd, Nat.reduceMul, reduceIte, Nat.reduceLT, Nat.reduceLeDiff, reduceCtorEq, Int.reduceEq, Int.reduceLT, Int.reduceLE, Int.reduceNeg, Int.reduceToNat, Nat.reduceBEq, Nat.reduceSub, qp, qf, kop, av, RQ, PQ, kres, kres1, kresL, fin, fins, fin1, V.pur?, V.pur1?, V.cells, kld, ones, V.one, Value.oneCell', own, owns, own1, xfill, ksrc, kint, vint, ksub, keqs, kok, V.val1?, ofRes]; rfl
  · simp -implicitDefEqProofs only [ze, Nat.reduceEqDiff, Nat.reduceAdd, Nat.reduceMul, reduceIte, Nat.reduceLT, Nat.reduceLeDiff, reduceCtorEq, Int.reduceEq, Int.reduceLT, Int.reduceLE, Int.reduceNeg, Int.reduceToNat, Nat.reduceBEq, Nat.reduceSub, qp, qf, kop, av, RQ, PQ, kres, kres1, kresL, fin, fins, fin1, V.pur?, V.pur1?, V.cells, kld, ones, V.one, Value.oneCell', own, owns, own1, xfill, ksrc, kint, vint, ksub, keqs, kok, V.val1?, ofRes]
  · simp -implicitDefEqProofs only [ze, Nat.reduceEqDiff, Nat.reduceAdd, Nat.reduceMul, reduceIte, Nat.reduceLT, Nat.reduceLeDiff, reduceCtorEq, Int.reduceEq, Int.reduceLT, Int.reduceLE, Int.reduceNeg, Int.reduceToNat, Nat.reduceBEq, Nat.reduceSub, qp, qf, kop, av, RQ, PQ, kres, kres1, kresL, fin, fins, fin1, V.pur?, V.pur1?, V.cells, kld, ones, V.one, Value.oneCell', own, owns, own1, xfill, ksrc, kint, vint, ksub, keqs, kok, V.val1?, ofRes]
  · simp -implicitDefEqProofs only [ze, Nat.reduceEqDiff, Nat.reduceAdd, Nat.reduceMul, reduceIte, Nat.reduceLT, Nat.reduceLeDiff, reduceCtorEq, Int.reduceEq, Int.reduceLT, Int.reduceLE, Int.reduceNeg, Int.reduceToNat, Nat.reduceBEq, Nat.reduceSub, qp, qf, kop, av, RQ, PQ, kres, kres1, kresL, fin, fins, fin1, V.pur?, V.pur1?, V.cells, kld, ones, V.one, Value.oneCell', own, owns, own1, xfill, ksrc, kint, vint, ksub, keqs, kok, V.val1?, ofRes]
  · simpa [tagsB] using he7.le (Nat.le_add_right _ _)
  rintro n tm st' nx' ⟨i, hi, hi2, h38, h37, h36, h0, hnx, hen, hke⟩
  simp only [k50_l0]
  by_cases hlt : i < l.tags.length
  · have htr : l.tr = false := by
      cases h : l.tr
      · rfl
      · rw [hp.nil h] at hlt; simp at hlt
    rw [htr, te_f] at h36
    obtain ⟨t, ht⟩ := get_lt hlt
    have hpt := hp.tags t (List.mem_of_getElem? ht)
    have hd : decide ((i : Int) < (l.tags.length : Int)) = true := decide_eq_true (by omega)
    have c1 := ptB_len t.n hpt.1
    have c2 := ptB_len t.v hpt.2
    have c3 : (tagsB (l.tags.take i)).length ≤ 140 * i := tagsB_len _ _ fun t h => hp.tags t (List.mem_of_mem_take h)
    have e1 : l.tags.take (i + 1) = l.tags.take i ++ [t] := by rw [List.take_add_one, ht]; rfl
    repeat' (first | (simp -implicitDefEqProofs only [ze, Nat.reduceEqDiff, Nat.reduceAdd, Nat.reduceMul, reduceIte, Nat.reduceLT, Nat.reduceLeDiff, reduceCtorEq, Int.reduceEq, Int.reduceLT, Int.reduceLE, Int.reduceNeg, Int.reduceToNat, Nat.reduceBEq, Nat.reduceSub, qp, qf, kop, av, RQ, PQ, kres, kres1, kresL, fin, fins, fin1, V.pur?, V.pur1?, V.cells, kld, ones, V.one, Value.oneCell', own, owns, own1, xfill, ksrc, kint, vint, ksub, keqs, kok, V.val1?, ofRes, h38, h37, h36, h0, hd, ht, encT]) | (with_reducible refine wgd_cases ?_ ?_ <;> intro hb) | (with_reducible refine wcond_cases ?_ ?_ <;> intro hb) | (with_reducible refine qd_i (by kernel_rfl) ?_) | (with_reducible refine W_itn_cases ?_ ?_; omega))
    refine W_hp (text_ok ((hen.upd (j := nx' + 24) (nx' := nx') (by omega) (Nat.le_refl _) _).upd (j := nx' + 24) (nx' := nx' + 72) (by omega) (by omega) _) t.n hpt.1 (by simp only [List.length_append]; omega)) ?_
    rintro _ ⟨sa, na, rfl, hna, hea, hka⟩
    have hxa := hka (nx' + 24) _ (by omega) (by omega) (by rw [upd_at, if_pos rfl])
    repeat' (first | (simp -implicitDefEqProofs only [ze, Nat.reduceEqDiff, Nat.reduceAdd, Nat.reduceMul, reduceIte, Nat.reduceLT, Nat.reduceLeDiff, reduceCtorEq, Int.reduceEq, Int.reduceLT, Int.reduceLE, Int.reduceNeg, Int.reduceToNat, Nat.reduceBEq, Nat.reduceSub, qp, qf, kop, av, RQ, PQ, kres, kres1, kresL, fin, fins, fin1, V.pur?, V.pur1?, V.cells, kld, ones, V.one, Value.oneCell', own, owns, own1, xfill, ksrc, kint, vint, ksub, keqs, kok, V.val1?, ofRes, hxa, h0]) | (with_reducible refine wgd_cases ?_ ?_ <;> intro hb) | (with_reducible refine wcond_cases ?_ ?_ <;> intro hb) | (with_reducible refine qd_i (by kernel_rfl) ?_) | (with_reducible refine W_itn_cases ?_ ?_; omega))
    refine W_hp (text_ok (hea.le (Nat.le_add_right _ _)) t.v hpt.2 (by simp only [List.length_append]; omega)) ?_
    rintro _ ⟨sb, nb, rfl, hnb, heb, hkb⟩
    repeat' (first | (simp -implicitDefEqProofs only [ze, Nat.reduceEqDiff, Nat.reduceAdd, Nat.reduceMul, reduceIte, Nat.reduceLT, Nat.reduceLeDiff, reduceCtorEq, Int.reduceEq, Int.reduceLT, Int.reduceLE, Int.reduceNeg, Int.reduceToNat, Nat.reduceBEq, Nat.reduceSub, qp, qf, kop, av, RQ, PQ, kres, kres1, kresL, fin, fins, fin1, V.pur?, V.pur1?, V.cells, kld, ones, V.one, Value.oneCell', own, owns, own1, xfill, ksrc, kint, vint, ksub, keqs, kok, V.val1?, ofRes, h38, h37, h36, h0, htr, te_f]) | (with_reducible refine wgd_cases ?_ ?_ <;> intro hb) | (with_reducible refine wcond_cases ?_ ?_ <;> intro hb) | (with_reducible refine qd_i (by kernel_rfl) ?_) | (with_reducible refine W_itn_cases ?_ ?_; omega))
    refine ⟨l.tags.length - (i + 1), by omega, i + 1, rfl, by omega, up64 (by omega), by omega, ?_, ?_⟩
    · have : tagsB (l.tags.take (i + 1)) = tagsB (l.tags.take i) ++ (ptB t.n ++ ptB t.v) := by rw [e1]; simp [tagsB]
      rw [this]
      have h9 := heb.le (nx' := nb + 16) (Nat.le_add_right _ _)
      simpa only [List.append_assoc] using h9
    · intro j cs h1 h2 h3
      refine hkb j cs (by omega) h2 (hka j cs (by omega) h2 ?_)
      rw [upd_at, if_neg (by omega), upd_at, if_neg (by omega)]
      exact hke j cs h1 h2 h3
  · have hd : decide ((i : Int) < (l.tags.length : Int)) = false := decide_eq_false (by omega)
    have hie : i = l.tags.length := by omega
    repeat' (first | (simp -implicitDefEqProofs only [ze, Nat.reduceEqDiff, Nat.reduceAdd, Nat.reduceMul, reduceIte, Nat.reduceLT, Nat.reduceLeDiff, reduceCtorEq, Int.reduceEq, Int.reduceLT, Int.reduceLE, Int.reduceNeg, Int.reduceToNat, Nat.reduceBEq, Nat.reduceSub, qp, qf, kop, av, RQ, PQ, kres, kres1, kresL, fin, fins, fin1, V.pur?, V.pur1?, V.cells, kld, ones, V.one, Value.oneCell', own, owns, own1, xfill, ksrc, kint, vint, ksub, keqs, kok, V.val1?, ofRes, h38, h37, h36, h0, hd]) | (with_reducible refine wgd_cases ?_ ?_ <;> intro hb) | (with_reducible refine wcond_cases ?_ ?_ <;> intro hb) | (with_reducible refine qd_i (by kernel_rfl) ?_) | (with_reducible refine W_itn_cases ?_ ?_; omega))
    refine ⟨_, _, rfl, by omega, ?_, hke⟩
    have h9 := hen.le (nx' := nx' + 8) (Nat.le_add_right _ _)
    rw [hie, List.take_length] at h9
    simpa only [lineB, List.append_assoc] using h9
end Go.Proofs.YtkbheoganajhaaaDoor.Vm
set_option maxRecDepth 10000
set_option linter.unusedVariables false
set_option linter.unusedSimpArgs false
namespace Go.Proofs.YtkbheoganajhaaaDoor.Vm
open Go Go.Proofs
def linesB (l : List Line) : List Int := l.flatMap lineB
def headB (e : Entry) : List Int := Co.putS e.no ++ ptB e.ent ++ Co.putS e.book ++ Co.putS e.val ++ Co.putS e.kind ++ ptB e.ref ++ ptB e.who ++ Co.putS e.rev ++ Co.putS e.lines.length
def entryB (e : Entry) : List Int := headB e ++ linesB e.lines
structure plainE (e : Entry) : Prop where
  no : i64r e.no
  ent : plainS e.ent = true
  book : i64r e.book
  val : i64r e.val
  kind : i64r e.kind
  ref : plainS e.ref = true
  who : plainS e.who = true
  rev : i64r e.rev
  lines : ∀ l ∈ e.lines, plainL l
  len : e.lines.length ≤ 100
  nil : e.lr = true → e.lines = []
theorem lineB_len (l : Line) (h : plainL l) : (lineB l).length ≤ 150000 := by
  have b1 := ptB_len l.acc h.acc
  have b2 := ptB_len l.cur h.cur
  have b3 := Co.putS_len l.amt
  have b4 := Co.putS_len l.base
  have b5 := ptB_len l.par h.par
  have b6 := ptB_len l.pty h.pty
  have b7 := Co.putS_len l.tags.length
  have hlen := h.len
  have c := tagsB_len l.tags l.tags.length (by rw [List.take_length]; exact h.tags)
  rw [List.take_length] at c
  simp only [lineB, List.length_append]; omega
theorem linesB_len : ∀ (l : List Line) (i : Nat), (∀ t ∈ l.take i, plainL t) → (linesB (l.take i)).length ≤ 150000 * i
  | [], i, _ => by simp [linesB]
  | t :: l, 0, _ => by simp [linesB]
  | t :: l, i + 1, h => by
    have h1 := lineB_len t (h t (by simp))
    have h2 := linesB_len l i fun x hx => h x (by simp [hx])
    have e : linesB ((t :: l).take (i + 1)) = lineB t ++ linesB (l.take i) := by simp [linesB]
    rw [e, List.length_append]; omega
theorem headB_len (e : Entry) (hp : plainE e) : (headB e).length ≤ 1000 := by
  have b1 := Co.putS_len e.no
  have b2 := ptB_len e.ent hp.ent
  have b3 := Co.putS_len e.book
  have b4 := Co.putS_len e.val
  have b5 := Co.putS_len e.kind
  have b6 := ptB_len e.ref hp.ref
  have b7 := ptB_len e.who hp.who
  have b8 := Co.putS_len e.rev
  have b9 := Co.putS_len e.lines.length
  simp only [headB, List.length_append]; omega
theorem put_ok (e : Entry) (hp : plainE e) (a : Int) (hck : L.pl 27 [encE e] = some (.ret (.tup [.i64 a, .i64 0]))) : L.pl 28 [encE e] = some (.ret (.tup [.list 5 (bv (entryB e)) (8 + 5), .i64 0])) := by
  refine W_of (pl_w k28_eq ?_)
  simp only [encE] at hck
  simp only [k28, encE]
  have hlen := hp.len
  have hbl := headB_len e hp
  simp only [headB, List.length_append] at hbl
  have hemp : entryB e ≠ [] := by
    have : Co.putS e.no ≠ [] := Co.putS_ne e.no
    intro h
    have h2 := congrArg List.length h
    have h3 : 0 < (Co.putS e.no).length := List.length_pos_iff.mpr this
    simp only [entryB, headB, List.length_append, List.length_nil] at h2
    omega
  repeat' (first | (simp -implicitDefEqProofs only [ze, Nat.reduceEqDiff, Nat.reduceAdd, Nat.reduceMul, reduceIte, Nat.reduceLT, Nat.reduceLeDiff, reduceCtorEq, Int.reduceEq, Int.reduceLT, Int.reduceLE, Int.reduceNeg, Int.reduceToNat, Nat.reduceBEq, Nat.reduceSub, qp, qf, kop, av, RQ, PQ, kres, kres1, kresL, fin, fins, fin1, V.pur?, V.pur1?, V.cells, kld, ones, V.one, Value.oneCell', own, owns, own1, xfill, ksrc, kint, vint, ksub, keqs, kok, V.val1?, ofRes, hck, nr_pur]) | (with_reducible refine wgd_cases ?_ ?_ <;> intro hb) | (with_reducible refine wcond_cases ?_ ?_ <;> intro hb) | (with_reducible refine qd_i (by kernel_rfl) ?_) | (with_reducible refine W_itn_cases ?_ ?_; omega))
  refine W_hp (number_ok (out := []) ⟨by omega, _, by rw [upd_at, if_pos rfl], .inl ⟨rfl, rfl⟩⟩ e.no hp.no (by simp)) ?_
  rintro _ ⟨st1, nx1, rfl, hn1, he1, hk1⟩
  have hx1 := hk1 8 _ (by omega) (by omega) (by rw [upd_at, if_neg (by omega), upd_at, if_pos rfl])
  repeat' (first | (simp -implicitDefEqProofs only [ze, Nat.reduceEqDiff, Nat.reduceAdd, Nat.reduceMul, reduceIte, Nat.reduceLT, Nat.reduceLeDiff, reduceCtorEq, Int.reduceEq, Int.reduceLT, Int.reduceLE, Int.reduceNeg, Int.reduceToNat, Nat.reduceBEq, Nat.reduceSub, qp, qf, kop, av, RQ, PQ, kres, kres1, kresL, fin, fins, fin1, V.pur?, V.pur1?, V.cells, kld, ones, V.one, Value.oneCell', own, owns, own1, xfill, ksrc, kint, vint, ksub, keqs, kok, V.val1?, ofRes, hx1]) | (with_reducible refine wgd_cases ?_ ?_ <;> intro hb) | (with_reducible refine wcond_cases ?_ ?_ <;> intro hb) | (with_reducible refine qd_i (by kernel_rfl) ?_) | (with_reducible refine W_itn_cases ?_ ?_; omega))
  refine W_hp (text_ok (he1.le (Nat.le_add_right _ _)) e.ent hp.ent (by simp only [List.length_append, List.nil_append]; omega)) ?_
  rintro _ ⟨st2, nx2, rfl, hn2, he2, hk2⟩
  have hx2 := hk2 8 _ (by omega) (by omega) hx1
  repeat' (first | (simp -implicitDefEqProofs only [ze, Nat.reduceEqDiff, Nat.reduceAdd, Nat.reduceMul, reduceIte, Nat.reduceLT, Nat.reduceLeDiff, reduceCtorEq, Int.reduceEq, Int.reduceLT, Int.reduceLE, Int.reduceNeg, Int.reduceToNat, Nat.reduceBEq, Nat.reduceSub, qp, qf, kop, av, RQ, PQ, kres, kres1, kresL, fin, fins, fin1, V.pur?, V.pur1?, V.cells, kld, ones, V.one, Value.oneCell', own, owns, own1, xfill, ksrc, kint, vint, ksub, keqs, kok, V.val1?, ofRes, hx2, List.length_map]) | (with_reducible refine wgd_cases ?_ ?_ <;> intro hb) | (with_reducible refine wcond_cases ?_ ?_ <;> intro hb) | (with_reducible refine qd_i (by kernel_rfl) ?_) | (with_reducible refine W_itn_cases ?_ ?_; omega))
  refine W_hp (number_ok (he2.le (Nat.le_add_right _ _)) e.book hp.book (by simp only [List.length_append, List.nil_append]; omega)) ?_
  rintro _ ⟨st3, nx3, rfl, hn3, he3, hk3⟩
  have hx3 := hk3 8 _ (by omega) (by omega) hx2
  repeat' (first | (simp -implicitDefEqProofs only [ze, Nat.reduceEqDiff, Nat.reduceAdd, Nat.reduceMul, reduceIte, Nat.reduceLT, Nat.reduceLeDiff, reduceCtorEq, Int.reduceEq, Int.reduceLT, Int.reduceLE, Int.reduceNeg, Int.reduceToNat, Nat.reduceBEq, Nat.reduceSub, qp, qf, kop, av, RQ, PQ, kres, kres1, kresL, fin, fins, fin1, V.pur?, V.pur1?, V.cells, kld, ones, V.one, Value.oneCell', own, owns, own1, xfill, ksrc, kint, vint, ksub, keqs, kok, V.val1?, ofRes, hx3, List.length_map]) | (with_reducible refine wgd_cases ?_ ?_ <;> intro hb) | (with_reducible refine wcond_cases ?_ ?_ <;> intro hb) | (with_reducible refine qd_i (by kernel_rfl) ?_) | (with_reducible refine W_itn_cases ?_ ?_; omega))
  refine W_hp (number_ok (he3.le (Nat.le_add_right _ _)) e.val hp.val (by simp only [List.length_append, List.nil_append]; omega)) ?_
  rintro _ ⟨st4, nx4, rfl, hn4, he4, hk4⟩
  have hx4 := hk4 8 _ (by omega) (by omega) hx3
  repeat' (first | (simp -implicitDefEqProofs only [ze, Nat.reduceEqDiff, Nat.reduceAdd, Nat.reduceMul, reduceIte, Nat.reduceLT, Nat.reduceLeDiff, reduceCtorEq, Int.reduceEq, Int.reduceLT, Int.reduceLE, Int.reduceNeg, Int.reduceToNat, Nat.reduceBEq, Nat.reduceSub, qp, qf, kop, av, RQ, PQ, kres, kres1, kresL, fin, fins, fin1, V.pur?, V.pur1?, V.cells, kld, ones, V.one, Value.oneCell', own, owns, own1, xfill, ksrc, kint, vint, ksub, keqs, kok, V.val1?, ofRes, hx4, List.length_map]) | (with_reducible refine wgd_cases ?_ ?_ <;> intro hb) | (with_reducible refine wcond_cases ?_ ?_ <;> intro hb) | (with_reducible refine qd_i (by kernel_rfl) ?_) | (with_reducible refine W_itn_cases ?_ ?_; omega))
  refine W_hp (number_ok (he4.le (Nat.le_add_right _ _)) e.kind hp.kind (by simp only [List.length_append, List.nil_append]; omega)) ?_
  rintro _ ⟨st5, nx5, rfl, hn5, he5, hk5⟩
  have hx5 := hk5 8 _ (by omega) (by omega) hx4
  repeat' (first | (simp -implicitDefEqProofs only [ze, Nat.reduceEqDiff, Nat.reduceAdd, Nat.reduceMul, reduceIte, Nat.reduceLT, Nat.reduceLeDiff, reduceCtorEq, Int.reduceEq, Int.reduceLT, Int.reduceLE, Int.reduceNeg, Int.reduceToNat, Nat.reduceBEq, Nat.reduceSub, qp, qf, kop, av, RQ, PQ, kres, kres1, kresL, fin, fins, fin1, V.pur?, V.pur1?, V.cells, kld, ones, V.one, Value.oneCell', own, owns, own1, xfill, ksrc, kint, vint, ksub, keqs, kok, V.val1?, ofRes, hx5, List.length_map]) | (with_reducible refine wgd_cases ?_ ?_ <;> intro hb) | (with_reducible refine wcond_cases ?_ ?_ <;> intro hb) | (with_reducible refine qd_i (by kernel_rfl) ?_) | (with_reducible refine W_itn_cases ?_ ?_; omega))
  refine W_hp (text_ok (he5.le (Nat.le_add_right _ _)) e.ref hp.ref (by simp only [List.length_append, List.nil_append]; omega)) ?_
  rintro _ ⟨st6, nx6, rfl, hn6, he6, hk6⟩
  have hx6 := hk6 8 _ (by omega) (by omega) hx5
  repeat' (first | (simp -implicitDefEqProofs only [ze, Nat.reduceEqDiff, Nat.reduceAdd, Nat.reduceMul, reduceIte, Nat.reduceLT, Nat.reduceLeDiff, reduceCtorEq, Int.reduceEq, Int.reduceLT, Int.reduceLE, Int.reduceNeg, Int.reduceToNat, Nat.reduceBEq, Nat.reduceSub, qp, qf, kop, av, RQ, PQ, kres, kres1, kresL, fin, fins, fin1, V.pur?, V.pur1?, V.cells, kld, ones, V.one, Value.oneCell', own, owns, own1, xfill, ksrc, kint, vint, ksub, keqs, kok, V.val1?, ofRes, hx6, List.length_map]) | (with_reducible refine wgd_cases ?_ ?_ <;> intro hb) | (with_reducible refine wcond_cases ?_ ?_ <;> intro hb) | (with_reducible refine qd_i (by kernel_rfl) ?_) | (with_reducible refine W_itn_cases ?_ ?_; omega))
  refine W_hp (text_ok (he6.le (Nat.le_add_right _ _)) e.who hp.who (by simp only [List.length_append, List.nil_append]; omega)) ?_
  rintro _ ⟨st7, nx7, rfl, hn7, he7, hk7⟩
  have hx7 := hk7 8 _ (by omega) (by omega) hx6
  repeat' (first | (simp -implicitDefEqProofs only [ze, Nat.reduceEqDiff, Nat.reduceAdd, Nat.reduceMul, reduceIte, Nat.reduceLT, Nat.reduceLeDiff, reduceCtorEq, Int.reduceEq, Int.reduceLT, Int.reduceLE, Int.reduceNeg, Int.reduceToNat, Nat.reduceBEq, Nat.reduceSub, qp, qf, kop, av, RQ, PQ, kres, kres1, kresL, fin, fins, fin1, V.pur?, V.pur1?, V.cells, kld, ones, V.one, Value.oneCell', own, owns, own1, xfill, ksrc, kint, vint, ksub, keqs, kok, V.val1?, ofRes, hx7, List.length_map]) | (with_reducible refine wgd_cases ?_ ?_ <;> intro hb) | (with_reducible refine wcond_cases ?_ ?_ <;> intro hb) | (with_reducible refine qd_i (by kernel_rfl) ?_) | (with_reducible refine W_itn_cases ?_ ?_; omega))
  refine W_hp (number_ok (he7.le (Nat.le_add_right _ _)) e.rev hp.rev (by simp only [List.length_append, List.nil_append]; omega)) ?_
  rintro _ ⟨st8, nx8, rfl, hn8, he8, hk8⟩
  have hx8 := hk8 8 _ (by omega) (by omega) hx7
  repeat' (first | (simp -implicitDefEqProofs only [ze, Nat.reduceEqDiff, Nat.reduceAdd, Nat.reduceMul, reduceIte, Nat.reduceLT, Nat.reduceLeDiff, reduceCtorEq, Int.reduceEq, Int.reduceLT, Int.reduceLE, Int.reduceNeg, Int.reduceToNat, Nat.reduceBEq, Nat.reduceSub, qp, qf, kop, av, RQ, PQ, kres, kres1, kresL, fin, fins, fin1, V.pur?, V.pur1?, V.cells, kld, ones, V.one, Value.oneCell', own, owns, own1, xfill, ksrc, kint, vint, ksub, keqs, kok, V.val1?, ofRes, hx8, List.length_map]) | (with_reducible refine wgd_cases ?_ ?_ <;> intro hb) | (with_reducible refine wcond_cases ?_ ?_ <;> intro hb) | (with_reducible refine qd_i (by kernel_rfl) ?_) | (with_reducible refine W_itn_cases ?_ ?_; omega))
  refine W_hp (number_ok (he8.le (Nat.le_add_right _ _)) e.lines.length ⟨by omega, by omega⟩ (by simp only [List.length_append, List.nil_append]; omega)) ?_
  rintro _ ⟨st9, nx9, rfl, hn9, he9, hk9⟩
  have hx9 := hk9 8 _ (by omega) (by omega) hx8
  repeat' (first | (simp -implicitDefEqProofs only [ze, Nat.reduceEqDiff, Nat.reduceAdd, Nat.reduceMul, reduceIte, Nat.reduceLT, Nat.reduceLeDiff, reduceCtorEq, Int.reduceEq, Int.reduceLT, Int.reduceLE, Int.reduceNeg, Int.reduceToNat, Nat.reduceBEq, Nat.reduceSub, qp, qf, kop, av, RQ, PQ, kres, kres1, kresL, fin, fins, fin1, V.pur?, V.pur1?, V.cells, kld, ones, V.one, Value.oneCell', own, owns, own1, xfill, ksrc, kint, vint, ksub, keqs, kok, V.val1?, ofRes, hx9, List.length_map]) | (with_reducible refine wgd_cases ?_ ?_ <;> intro hb) | (with_reducible refine wcond_cases ?_ ?_ <;> intro hb) | (with_reducible refine qd_i (by kernel_rfl) ?_) | (with_reducible refine W_itn_cases ?_ ?_; omega))
  refine loop_w (fun n tm st' nx' => ∃ i : Nat, n = e.lines.length - i ∧ i ≤ e.lines.length ∧ tm 48 = .i64 i ∧ tm 47 = .i64 e.lines.length ∧ tm 46 = .list (te e.lr 61) (e.lines.map encL) (nr e.lr) ∧ tm 6 = .ptr 104 0 ∧ 136 ≤ nx' ∧
      Enc st' nx' 104 (headB e ++ linesB (e.lines.take i))) e.lines.length ⟨0, by omega, by omega, ?_, ?_, ?_, ?_, by omega, ?_⟩ ?_
  · simp -implicitDefEqProofs only [ze, Nat.reduceEqDiff, Nat.reduceAdd, Nat.reduceMul, reduceIte, Nat.reduceLT, Nat.reduceLeDiff, reduceCtorEq, Int.reduceEq, Int.reduceLT, Int.reduceLE, Int.reduceNeg, Int.reduceToNat, Nat.reduceBEq, Nat.reduceSub, qp, qf, kop, av, RQ, PQ, kres, kres1, kresL, fin, fins, fin1, V.pur?, V.pur1?, V.cells, kld, ones, V.one, Value.oneCell', own, owns, own1, xfill, ksrc, kint, vint, ksub, keqs, kok, V.val1?, ofRes]; rfl
  · simp -implicitDefEqProofs only [ze, Nat.reduceEqDiff, Nat.reduceAdd, Nat.reduceMul, reduceIte, Nat.reduceLT, Nat.reduceLeDiff, reduceCtorEq, Int.reduceEq, Int.reduceLT, Int.reduceLE, Int.reduceNeg, Int.reduceToNat, Nat.reduceBEq, Nat.reduceSub, qp, qf, kop, av, RQ, PQ, kres, kres1, kresL, fin, fins, fin1, V.pur?, V.pur1?, V.cells, kld, ones, V.one, Value.oneCell', own, owns, own1, xfill, ksrc, kint, vint, ksub, keqs, kok, V.val1?, ofRes]
  · simp -implicitDefEqProofs only [ze, Nat.reduceEqDiff, Nat.reduceAdd, Nat.reduceMul, reduceIte, Nat.reduceLT, Nat.reduceLeDiff, reduceCtorEq, Int.reduceEq, Int.reduceLT, Int.reduceLE, Int.reduceNeg, Int.reduceToNat, Nat.reduceBEq, Nat.reduceSub, qp, qf, kop, av, RQ, PQ, kres, kres1, kresL, fin, fins, fin1, V.pur?, V.pur1?, V.cells, kld, ones, V.one, Value.oneCell', own, owns, own1, xfill, ksrc, kint, vint, ksub, keqs, kok, V.val1?, ofRes]
  · simp -implicitDefEqProofs only [ze, Nat.reduceEqDiff, Nat.reduceAdd, Nat.reduceMul, reduceIte, Nat.reduceLT, Nat.reduceLeDiff, reduceCtorEq, Int.reduceEq, Int.reduceLT, Int.reduceLE, Int.reduceNeg, Int.reduceToNat, Nat.reduceBEq, Nat.reduceSub, qp, qf, kop, av, RQ, PQ, kres, kres1, kresL, fin, fins, fin1, V.pur?, V.pur1?, V.cells, kld, ones, V.one, Value.oneCell', own, owns, own1, xfill, ksrc, kint, vint, ksub, keqs, kok, V.val1?, ofRes]
  · have h9 := he9.le (nx' := nx9 + 32) (Nat.le_add_right _ _)
    simpa [linesB, headB] using h9
  rintro n tm st' nx' ⟨i, hi, hi2, h48, h47, h46, h6, hnx, hen⟩
  simp only [k28_l0]
  by_cases hlt : i < e.lines.length
  · have hlr : e.lr = false := by
      cases h : e.lr
      · rfl
      · rw [hp.nil h] at hlt; simp at hlt
    rw [hlr, te_f] at h46
    obtain ⟨l, hl⟩ := get_lt hlt
    have hpl := hp.lines l (List.mem_of_getElem? hl)
    have hd : decide ((i : Int) < (e.lines.length : Int)) = true := decide_eq_true (by omega)
    have c3 := linesB_len e.lines i fun t h => hp.lines t (List.mem_of_mem_take h)
    have c4 := headB_len e hp
    have e1 : e.lines.take (i + 1) = e.lines.take i ++ [l] := by rw [List.take_add_one, hl]; rfl
    have hli := fun (st : St) (nx : Nat) (h : Enc st nx 104 (headB e ++ linesB (e.lines.take i))) => encline_ok h l hpl (by simp only [List.length_append]; omega)
    simp only [encL] at hli
    repeat' (first | (simp -implicitDefEqProofs only [ze, Nat.reduceEqDiff, Nat.reduceAdd, Nat.reduceMul, reduceIte, Nat.reduceLT, Nat.reduceLeDiff, reduceCtorEq, Int.reduceEq, Int.reduceLT, Int.reduceLE, Int.reduceNeg, Int.reduceToNat, Nat.reduceBEq, Nat.reduceSub, qp, qf, kop, av, RQ, PQ, kres, kres1, kresL, fin, fins, fin1, V.pur?, V.pur1?, V.cells, kld, ones, V.one, Value.oneCell', own, owns, own1, xfill, ksrc, kint, vint, ksub, keqs, kok, V.val1?, ofRes, h48, h47, h46, h6, hd, hl, encL, nr_pur]) | (with_reducible refine wgd_cases ?_ ?_ <;> intro hb) | (with_reducible refine wcond_cases ?_ ?_ <;> intro hb) | (with_reducible refine qd_i (by kernel_rfl) ?_) | (with_reducible refine W_itn_cases ?_ ?_; omega))
    refine W_hp (hli _ _ ((hen.upd (j := nx' + 24) (nx' := nx') (by omega) (Nat.le_refl _) _).upd (j := nx' + 24) (nx' := _) (by omega) (Nat.le_add_right _ _) _)) ?_
    rintro _ ⟨sa, na, rfl, hna, hea, hka⟩
    repeat' (first | (simp -implicitDefEqProofs only [ze, Nat.reduceEqDiff, Nat.reduceAdd, Nat.reduceMul, reduceIte, Nat.reduceLT, Nat.reduceLeDiff, reduceCtorEq, Int.reduceEq, Int.reduceLT, Int.reduceLE, Int.reduceNeg, Int.reduceToNat, Nat.reduceBEq, Nat.reduceSub, qp, qf, kop, av, RQ, PQ, kres, kres1, kresL, fin, fins, fin1, V.pur?, V.pur1?, V.cells, kld, ones, V.one, Value.oneCell', own, owns, own1, xfill, ksrc, kint, vint, ksub, keqs, kok, V.val1?, ofRes, h48, h47, h46, h6, hlr, te_f]) | (with_reducible refine wgd_cases ?_ ?_ <;> intro hb) | (with_reducible refine wcond_cases ?_ ?_ <;> intro hb) | (with_reducible refine qd_i (by kernel_rfl) ?_) | (with_reducible refine W_itn_cases ?_ ?_; omega))
    refine ⟨e.lines.length - (i + 1), by omega, i + 1, rfl, by omega, up64 (by omega), by omega, ?_⟩
    have : linesB (e.lines.take (i + 1)) = linesB (e.lines.take i) ++ lineB l := by rw [e1]; simp [linesB]
    rw [this]
    have h9 := hea.le (nx' := na + 16) (Nat.le_add_right _ _)
    simpa only [List.append_assoc] using h9
  · have hd : decide ((i : Int) < (e.lines.length : Int)) = false := decide_eq_false (by omega)
    have hie : i = e.lines.length := by omega
    rw [hie, List.take_length] at hen
    obtain ⟨_, v, hv, hg⟩ := hen
    rcases hg with ⟨hb, _⟩ | ⟨r, hr8, hrn, rfl, hst⟩
    · exact absurd (show entryB e = [] by unfold entryB; simpa [bv] using hb) hemp
    · have hr1 : (r = 1) = False := eq_false (by omega)
      have hr9 : (r < 8) = False := eq_false (by omega)
      repeat' (first | (simp -implicitDefEqProofs only [ze, Nat.reduceEqDiff, Nat.reduceAdd, Nat.reduceMul, reduceIte, Nat.reduceLT, Nat.reduceLeDiff, reduceCtorEq, Int.reduceEq, Int.reduceLT, Int.reduceLE, Int.reduceNeg, Int.reduceToNat, Nat.reduceBEq, Nat.reduceSub, qp, qf, kop, av, RQ, PQ, kres, kres1, kresL, fin, fins, fin1, V.pur?, V.pur1?, V.cells, kld, ones, V.one, Value.oneCell', own, owns, own1, xfill, ksrc, kint, vint, ksub, keqs, kok, V.val1?, ofRes, h48, h47, h46, h6, hd, k28_t0, hv, hst, hr1, hr9, bv_len]) | (with_reducible refine wgd_cases ?_ ?_ <;> intro hb) | (with_reducible refine wcond_cases ?_ ?_ <;> intro hb) | (with_reducible refine qd_i (by kernel_rfl) ?_) | (with_reducible refine W_itn_cases ?_ ?_; omega))
      rfl
end Go.Proofs.YtkbheoganajhaaaDoor.Vm
set_option maxRecDepth 10000
set_option linter.unusedVariables false
set_option linter.unusedSimpArgs false
namespace Go.Proofs.YtkbheoganajhaaaDoor.Vm
open Go Go.Proofs
def iv (l : List Int) : List V := l.map V.i64
theorem iv_len (l : List Int) : (iv l).length = l.length := by simp [iv]
def inI64 (x : Int) : Bool := decide (-9223372036854775808 ≤ x) && decide (x < 9223372036854775808)
theorem reck_add64 (x y : Int) (hx : 0 ≤ x) (hy : 0 ≤ y) (k : Int) (hk0 : 0 ≤ k) (hk : k ≤ 1) : reck Tryd.prog (callFunc 107 #[.int .u64 x, .int .u64 y, .int .u64 k]) =
    some (.value (.tuple #[.int .u64 ((x + y + k) % 18446744073709551616), .int .u64 ((x + y + k) / 18446744073709551616)])) := by
  have key : ∀ k : Nat, k ≤ 1 → reck Tryd.prog (callFunc 107 #[.int .u64 x, .int .u64 y, .int .u64 (k : Int)]) =
      some (.value (Extern.MathBitsCarry.pair ((x.toNat + y.toNat + k) % Extern.MathBitsCarry.m64) ((x.toNat + y.toNat + k) / Extern.MathBitsCarry.m64))) := by
    intro k hk
    have : k = 0 ∨ k = 1 := by omega
    rcases this with rfl | rfl
    · show _ = _; kernel_rfl
    · show _ = _; kernel_rfl
  obtain ⟨k, rfl⟩ := Int.eq_ofNat_of_zero_le hk0
  rw [key k (by omega)]
  obtain ⟨X, rfl⟩ := Int.eq_ofNat_of_zero_le hx
  obtain ⟨Y, rfl⟩ := Int.eq_ofNat_of_zero_le hy
  simp only [Extern.MathBitsCarry.pair, Extern.MathBitsCarry.m64, Int.toNat_natCast]
  congr 5 <;> simp <;> omega
theorem sum_take (l : List Int) (i : Nat) (x : Int) (h : l[i]? = some x) : (l.take (i + 1)).sum = (l.take i).sum + x := by
  rw [List.take_add_one, h, List.sum_append]; simp
theorem sum_bound (l : List Int) (h : ∀ x ∈ l, i64r x) : -(9223372036854775808 * (l.length : Int)) ≤ l.sum ∧ l.sum ≤ 9223372036854775808 * (l.length : Int) := by
  induction l with
  | nil => simp
  | cons a r ih =>
    have h1 := h a (by simp)
    have h2 := ih fun x hx => h x (by simp [hx])
    simp only [i64r] at h1
    simp only [List.sum_cons, List.length_cons]
    omega
theorem numsum_ok (l : List Int) (r : Nat) (hi : ∀ x ∈ l, i64r x) (hl : l.length < 1073741824) : L.pl 102 [.list 3 (iv l) r] = some (.ret (.tup [.i64 (if inI64 l.sum = true then l.sum else 0), .bool (inI64 l.sum)])) := by
  refine W_of (pl_w k102_eq ?_)
  simp only [k102]
  repeat' (first | (simp -implicitDefEqProofs only [ze, Nat.reduceEqDiff, Nat.reduceAdd, Nat.reduceMul, reduceIte, Nat.reduceLT, Nat.reduceLeDiff, reduceCtorEq, Int.reduceEq, Int.reduceLT, Int.reduceLE, Int.reduceNeg, Int.reduceToNat, Nat.reduceBEq, Nat.reduceSub, qp, qf, kop, av, RQ, PQ, kres, kres1, kresL, fin, fins, fin1, V.pur?, V.pur1?, V.cells, kld, ones, V.one, Value.oneCell', own, owns, own1, xfill, ksrc, kint, vint, ksub, keqs, kok, V.val1?, ofRes, iv_len]) | (with_reducible refine wgd_cases ?_ ?_ <;> intro hb) | (with_reducible refine wcond_cases ?_ ?_ <;> intro hb) | (with_reducible refine qd_i (by kernel_rfl) ?_) | (with_reducible refine W_itn_cases ?_ ?_; omega))
  refine loop_w (fun n tm st nx => ∃ i : Nat, n = l.length - i ∧ i ≤ l.length ∧ tm 11 = .i64 i ∧ tm 10 = .i64 l.length ∧ tm 9 = .list 3 (iv l) r ∧ tm 5 = .sc (.int .u64 ((l.take i).sum % 18446744073709551616)) ∧ tm 4 = .sc (.int .u64 ((l.take i).sum / 18446744073709551616 % 18446744073709551616))) l.length ⟨0, by omega, by omega, ?_, ?_, ?_, ?_, ?_⟩ ?_
  · simp -implicitDefEqProofs only [ze, Nat.reduceEqDiff, Nat.reduceAdd, Nat.reduceMul, reduceIte, Nat.reduceLT, Nat.reduceLeDiff, reduceCtorEq, Int.reduceEq, Int.reduceLT, Int.reduceLE, Int.reduceNeg, Int.reduceToNat, Nat.reduceBEq, Nat.reduceSub, qp, qf, kop, av, RQ, PQ, kres, kres1, kresL, fin, fins, fin1, V.pur?, V.pur1?, V.cells, kld, ones, V.one, Value.oneCell', own, owns, own1, xfill, ksrc, kint, vint, ksub, keqs, kok, V.val1?, ofRes]; rfl
  · simp -implicitDefEqProofs only [ze, Nat.reduceEqDiff, Nat.reduceAdd, Nat.reduceMul, reduceIte, Nat.reduceLT, Nat.reduceLeDiff, reduceCtorEq, Int.reduceEq, Int.reduceLT, Int.reduceLE, Int.reduceNeg, Int.reduceToNat, Nat.reduceBEq, Nat.reduceSub, qp, qf, kop, av, RQ, PQ, kres, kres1, kresL, fin, fins, fin1, V.pur?, V.pur1?, V.cells, kld, ones, V.one, Value.oneCell', own, owns, own1, xfill, ksrc, kint, vint, ksub, keqs, kok, V.val1?, ofRes]
  · simp -implicitDefEqProofs only [ze, Nat.reduceEqDiff, Nat.reduceAdd, Nat.reduceMul, reduceIte, Nat.reduceLT, Nat.reduceLeDiff, reduceCtorEq, Int.reduceEq, Int.reduceLT, Int.reduceLE, Int.reduceNeg, Int.reduceToNat, Nat.reduceBEq, Nat.reduceSub, qp, qf, kop, av, RQ, PQ, kres, kres1, kresL, fin, fins, fin1, V.pur?, V.pur1?, V.cells, kld, ones, V.one, Value.oneCell', own, owns, own1, xfill, ksrc, kint, vint, ksub, keqs, kok, V.val1?, ofRes]
  · simp -implicitDefEqProofs only [ze, Nat.reduceEqDiff, Nat.reduceAdd, Nat.reduceMul, reduceIte, Nat.reduceLT, Nat.reduceLeDiff, reduceCtorEq, Int.reduceEq, Int.reduceLT, Int.reduceLE, Int.reduceNeg, Int.reduceToNat, Nat.reduceBEq, Nat.reduceSub, qp, qf, kop, av, RQ, PQ, kres, kres1, kresL, fin, fins, fin1, V.pur?, V.pur1?, V.cells, kld, ones, V.one, Value.oneCell', own, owns, own1, xfill, ksrc, kint, vint, ksub, keqs, kok, V.val1?, ofRes]; rfl
  · simp -implicitDefEqProofs only [ze, Nat.reduceEqDiff, Nat.reduceAdd, Nat.reduceMul, reduceIte, Nat.reduceLT, Nat.reduceLeDiff, reduceCtorEq, Int.reduceEq, Int.reduceLT, Int.reduceLE, Int.reduceNeg, Int.reduceToNat, Nat.reduceBEq, Nat.reduceSub, qp, qf, kop, av, RQ, PQ, kres, kres1, kresL, fin, fins, fin1, V.pur?, V.pur1?, V.cells, kld, ones, V.one, Value.oneCell', own, owns, own1, xfill, ksrc, kint, vint, ksub, keqs, kok, V.val1?, ofRes]; rfl
  rintro n tm st nx ⟨i, hn, hi2, h11, h10, h9, h5, h4⟩
  simp only [k102_l0]
  generalize hS : (l.take i).sum = S at *
  by_cases hlt : i < l.length
  · obtain ⟨x, hx⟩ := get_lt hlt
    have hxr := hi x (List.mem_of_getElem? hx)
    simp only [i64r] at hxr
    have hd : decide ((i : Int) < (l.length : Int)) = true := decide_eq_true (by omega)
    have hs2 := sum_take l i x hx
    rw [hS] at hs2
    have hix : (iv l)[i]? = some (V.i64 x) := by simp [iv, hx]
    have hw : IntKind.u64.wrap x = x % 18446744073709551616 := by rw [IntKind.wrap_u64]
    have hsh := shr_eq x (Nat.min 63 IntKind.i64.bits) 9223372036854775808 (by decide)
    have hw2 : IntKind.u64.wrap (x / 9223372036854775808) = x / 9223372036854775808 % 18446744073709551616 := by rw [IntKind.wrap_u64]
    have ha := reck_add64 (S % 18446744073709551616) (x % 18446744073709551616) (by omega) (by omega) 0 (by omega) (by omega)
    have hb := reck_add64 (S / 18446744073709551616 % 18446744073709551616) (x / 9223372036854775808 % 18446744073709551616) (by omega) (by omega) ((S % 18446744073709551616 + x % 18446744073709551616 + 0) / 18446744073709551616) (by omega) (by omega)
    repeat' (first | (simp -implicitDefEqProofs only [ze, Nat.reduceEqDiff, Nat.reduceAdd, Nat.reduceMul, reduceIte, Nat.reduceLT, Nat.reduceLeDiff, reduceCtorEq, Int.reduceEq, Int.reduceLT, Int.reduceLE, Int.reduceNeg, Int.reduceToNat, Nat.reduceBEq, Nat.reduceSub, qp, qf, kop, av, RQ, PQ, kres, kres1, kresL, fin, fins, fin1, V.pur?, V.pur1?, V.cells, kld, ones, V.one, Value.oneCell', own, owns, own1, xfill, ksrc, kint, vint, ksub, keqs, kok, V.val1?, ofRes, h11, h10, h9, h5, h4, hd, hix, hw, hsh, hw2, ha, hb]) | (with_reducible refine wgd_cases ?_ ?_ <;> intro hb) | (with_reducible refine wcond_cases ?_ ?_ <;> intro hb) | (with_reducible refine qd_i (by kernel_rfl) ?_) | (with_reducible refine W_itn_cases ?_ ?_; omega))
    exact ⟨l.length - (i + 1), by omega, i + 1, rfl, by omega, up64 (by omega), by rw [hs2]; congr 2; omega, by rw [hs2]; congr 2; omega⟩
  · have hd : decide ((i : Int) < (l.length : Int)) = false := decide_eq_false (by omega)
    repeat' (first | (simp -implicitDefEqProofs only [ze, Nat.reduceEqDiff, Nat.reduceAdd, Nat.reduceMul, reduceIte, Nat.reduceLT, Nat.reduceLeDiff, reduceCtorEq, Int.reduceEq, Int.reduceLT, Int.reduceLE, Int.reduceNeg, Int.reduceToNat, Nat.reduceBEq, Nat.reduceSub, qp, qf, kop, av, RQ, PQ, kres, kres1, kresL, fin, fins, fin1, V.pur?, V.pur1?, V.cells, kld, ones, V.one, Value.oneCell', own, owns, own1, xfill, ksrc, kint, vint, ksub, keqs, kok, V.val1?, ofRes, h11, h10, h9, h5, h4, hd, k102_t0]) | (with_reducible refine wgd_cases ?_ ?_ <;> intro hb) | (with_reducible refine wcond_cases ?_ ?_ <;> intro hb) | (with_reducible refine qd_i (by kernel_rfl) ?_) | (with_reducible refine W_itn_cases ?_ ?_; omega))
    all_goals
      have hie : i = l.length := by omega
      rw [hie, List.take_length] at hS
      have hbd := sum_bound l hi
      rw [hS] at hbd ⊢
      have hw1 : IntKind.i64.wrap (S % 18446744073709551616) = (if S % 18446744073709551616 < 9223372036854775808 then S % 18446744073709551616 else S % 18446744073709551616 - 18446744073709551616) := by
        rw [IntKind.wrap_i64]; split <;> omega
      have hsh := shr_eq (IntKind.i64.wrap (S % 18446744073709551616)) (Nat.min 63 IntKind.i64.bits) 9223372036854775808 (by decide)
      rw [hsh, IntKind.wrap_u64, hw1] at hb
    · have hin : inI64 S = false := by
        simp only [Bool.not_eq_true', decide_eq_false_iff_not] at hb
        simp only [inI64, Bool.and_eq_false_iff, decide_eq_false_iff_not]
        split at hb <;> omega
      rw [hin]; rfl
    · have hin : inI64 S = true ∧ S = (if S % 18446744073709551616 < 9223372036854775808 then S % 18446744073709551616 else S % 18446744073709551616 - 18446744073709551616) := by
        simp only [Bool.not_eq_false', decide_eq_true_eq] at hb
        simp only [inI64, Bool.and_eq_true, decide_eq_true_eq]
        split at hb <;> split <;> omega
      rw [hw1, hin.1, ← hin.2]; rfl
end Go.Proofs.YtkbheoganajhaaaDoor.Vm
set_option maxRecDepth 10000
set_option linter.unusedVariables false
set_option linter.unusedSimpArgs false
namespace Go.Proofs.YtkbheoganajhaaaDoor.Vm
open Go Go.Proofs
def sumOk (l : List Int) (m : Int) : Bool := inI64 l.sum && within l.sum m
theorem sum_ok (l : List Int) (r : Nat) (m : Int) (hi : ∀ x ∈ l, i64r x) (hl : l.length < 1073741824) (h0 : 0 ≤ m) (h1 : m < 4611686018427387904) : L.pl 93 [.i64 m, .list 3 (iv l) r] = some (.ret (.tup [.i64 (if sumOk l m = true then l.sum else 0), .i64 (if sumOk l m = true then 0 else 4)])) := by
  have hn : ∀ r, L.pl 102 [.list 3 (iv l) r] = some (.ret (.tup [.i64 (if inI64 l.sum = true then l.sum else 0), .bool (inI64 l.sum)])) := fun r => numsum_ok l r hi hl
  refine W_of (pl_w k93_eq ?_)
  simp only [k93]
  cases h : inI64 l.sum with
  | true =>
    simp only [h, if_true] at hn
    repeat' (first | (simp -implicitDefEqProofs only [ze, Nat.reduceEqDiff, Nat.reduceAdd, Nat.reduceMul, reduceIte, Nat.reduceLT, Nat.reduceLeDiff, reduceCtorEq, Int.reduceEq, Int.reduceLT, Int.reduceLE, Int.reduceNeg, Int.reduceToNat, Nat.reduceBEq, Nat.reduceSub, qp, qf, kop, av, RQ, PQ, kres, kres1, kresL, fin, fins, fin1, V.pur?, V.pur1?, V.cells, kld, ones, V.one, Value.oneCell', own, owns, own1, xfill, ksrc, kint, vint, ksub, keqs, kok, V.val1?, ofRes, hn, within_ok l.sum m h0 h1]) | (with_reducible refine wgd_cases ?_ ?_ <;> intro hb) | (with_reducible refine wcond_cases ?_ ?_ <;> intro hb) | (with_reducible refine qd_i (by kernel_rfl) ?_) | (with_reducible refine W_itn_cases ?_ ?_; omega))
    all_goals simp_all [sumOk]
  | false =>
    simp only [h, Bool.false_eq_true, if_false] at hn
    repeat' (first | (simp -implicitDefEqProofs only [ze, Nat.reduceEqDiff, Nat.reduceAdd, Nat.reduceMul, reduceIte, Nat.reduceLT, Nat.reduceLeDiff, reduceCtorEq, Int.reduceEq, Int.reduceLT, Int.reduceLE, Int.reduceNeg, Int.reduceToNat, Nat.reduceBEq, Nat.reduceSub, qp, qf, kop, av, RQ, PQ, kres, kres1, kresL, fin, fins, fin1, V.pur?, V.pur1?, V.cells, kld, ones, V.one, Value.oneCell', own, owns, own1, xfill, ksrc, kint, vint, ksub, keqs, kok, V.val1?, ofRes, hn]) | (with_reducible refine wgd_cases ?_ ?_ <;> intro hb) | (with_reducible refine wcond_cases ?_ ?_ <;> intro hb) | (with_reducible refine qd_i (by kernel_rfl) ?_) | (with_reducible refine W_itn_cases ?_ ?_; omega))
    all_goals simp_all [sumOk]
theorem both_ok {st : St} {nx id : Nat} {A B : List Int} {ra rb : Nat} (hid : id < nx) (hc : st id = some (.cells [.list 3 (iv A) ra, .list 3 (iv B) rb])) (hA : ∀ x ∈ A, i64r x) (hB : ∀ x ∈ B, i64r x) (hlA : A.length < 1073741824) (hlB : B.length < 1073741824) (m : Int) (h0 : 0 ≤ m) (h1 : m < 4611686018427387904) :
    W (L.hp 75 [.ptr id 0, .i64 m] st nx) fun r => ∃ nx', r = .ret (.tup [.i64 (if (sumOk A m && sumOk B m) = true then A.sum else 0), .i64 (if (sumOk A m && sumOk B m) = true then B.sum else 0), .i64 (if (sumOk A m && sumOk B m) = true then 0 else 4)]) st nx' ∧ nx ≤ nx' := by
  refine hp_w k75_eq ?_
  simp only [k75]
  have ha := fun r => sum_ok A r m hA hlA h0 h1
  have hb := fun r => sum_ok B r m hB hlB h0 h1
  cases hsA : sumOk A m with
  | true =>
    cases hsB : sumOk B m with
    | true =>
      simp only [hsA, hsB, if_true] at ha hb
      repeat' (first | (simp -implicitDefEqProofs only [ze, Nat.reduceEqDiff, Nat.reduceAdd, Nat.reduceMul, reduceIte, Nat.reduceLT, Nat.reduceLeDiff, reduceCtorEq, Int.reduceEq, Int.reduceLT, Int.reduceLE, Int.reduceNeg, Int.reduceToNat, Nat.reduceBEq, Nat.reduceSub, qp, qf, kop, av, RQ, PQ, kres, kres1, kresL, fin, fins, fin1, V.pur?, V.pur1?, V.cells, kld, ones, V.one, Value.oneCell', own, owns, own1, xfill, ksrc, kint, vint, ksub, keqs, kok, V.val1?, ofRes, hc, ha, hb]) | (with_reducible refine wgd_cases ?_ ?_ <;> intro hb) | (with_reducible refine wcond_cases ?_ ?_ <;> intro hb) | (with_reducible refine qd_i (by kernel_rfl) ?_) | (with_reducible refine W_itn_cases ?_ ?_; omega))
      all_goals (first | (exact ⟨_, rfl, by omega⟩) | simp_all)
    | false =>
      simp only [hsA, hsB, if_true, Bool.false_eq_true, if_false] at ha hb
      repeat' (first | (simp -implicitDefEqProofs only [ze, Nat.reduceEqDiff, Nat.reduceAdd, Nat.reduceMul, reduceIte, Nat.reduceLT, Nat.reduceLeDiff, reduceCtorEq, Int.reduceEq, Int.reduceLT, Int.reduceLE, Int.reduceNeg, Int.reduceToNat, Nat.reduceBEq, Nat.reduceSub, qp, qf, kop, av, RQ, PQ, kres, kres1, kresL, fin, fins, fin1, V.pur?, V.pur1?, V.cells, kld, ones, V.one, Value.oneCell', own, owns, own1, xfill, ksrc, kint, vint, ksub, keqs, kok, V.val1?, ofRes, hc, ha, hb]) | (with_reducible refine wgd_cases ?_ ?_ <;> intro hb) | (with_reducible refine wcond_cases ?_ ?_ <;> intro hb) | (with_reducible refine qd_i (by kernel_rfl) ?_) | (with_reducible refine W_itn_cases ?_ ?_; omega))
      all_goals (first | (exact ⟨_, rfl, by omega⟩) | simp_all)
  | false =>
    simp only [hsA, Bool.false_eq_true, if_false] at ha
    repeat' (first | (simp -implicitDefEqProofs only [ze, Nat.reduceEqDiff, Nat.reduceAdd, Nat.reduceMul, reduceIte, Nat.reduceLT, Nat.reduceLeDiff, reduceCtorEq, Int.reduceEq, Int.reduceLT, Int.reduceLE, Int.reduceNeg, Int.reduceToNat, Nat.reduceBEq, Nat.reduceSub, qp, qf, kop, av, RQ, PQ, kres, kres1, kresL, fin, fins, fin1, V.pur?, V.pur1?, V.cells, kld, ones, V.one, Value.oneCell', own, owns, own1, xfill, ksrc, kint, vint, ksub, keqs, kok, V.val1?, ofRes, hc, ha]) | (with_reducible refine wgd_cases ?_ ?_ <;> intro hb) | (with_reducible refine wcond_cases ?_ ?_ <;> intro hb) | (with_reducible refine qd_i (by kernel_rfl) ?_) | (with_reducible refine W_itn_cases ?_ ?_; omega))
    all_goals (first | (exact ⟨_, rfl, by omega⟩) | simp_all)
structure Col where
  key : ByteArray
  id : Nat
  A : List Int
  B : List Int
  ra : Nat
  rb : Nat
structure ColOk (st : St) (nx : Nat) (c : Col) : Prop where
  cell : st c.id = some (.cells [.list 3 (iv c.A) c.ra, .list 3 (iv c.B) c.rb])
  a : st c.ra = some (.tok c.A.length 3)
  b : st c.rb = some (.tok c.B.length 3)
  ab : c.ra ≠ c.rb
  id_lt : c.id < nx
  a_lt : c.ra < nx
  b_lt : c.rb < nx
  a8 : 8 ≤ c.ra
  b8 : 8 ≤ c.rb
theorem iv_app (A : List Int) (x : Int) : iv (A ++ [x]) = iv A ++ [V.i64 x] := by simp [iv]
theorem add_new {st : St} {nx id : Nat} (k : ByteArray) (hid : id < nx) (h8 : 8 ≤ nx) (hc : st id = some (.cells [.list 0 [] 1, .list 0 [] 1])) (l : Line) :
    W (L.hp 92 [.ptr id 0, encL l] st nx) fun r => ∃ st' nx' ra rb, r = .ret (.tup []) st' nx' ∧ nx ≤ nx' ∧ ColOk st' nx' ⟨k, id, [l.amt], [l.base], ra, rb⟩ ∧ nx ≤ ra ∧ nx ≤ rb ∧ ∀ i, i < nx → i ≠ id → st' i = st i := by
  refine hp_w k92_eq ?_
  simp only [k92, encL]
  have hne : ∀ j, (id = nx + j) = False := fun j => eq_false (by omega)
  have hne0 : (id = nx) = False := eq_false (by omega)
  have hne' : ∀ j, (nx + j = id) = False := fun j => eq_false (by omega)
  have hne0' : (nx = id) = False := eq_false (by omega)
  have hs : ∀ j, (nx = nx + (j + 1)) = False := fun j => eq_false (by omega)
  repeat' (first | (simp -implicitDefEqProofs only [ze, Nat.reduceEqDiff, Nat.reduceAdd, Nat.reduceMul, reduceIte, Nat.reduceLT, Nat.reduceLeDiff, reduceCtorEq, Int.reduceEq, Int.reduceLT, Int.reduceLE, Int.reduceNeg, Int.reduceToNat, Nat.reduceBEq, Nat.reduceSub, qp, qf, kop, av, RQ, PQ, kres, kres1, kresL, fin, fins, fin1, V.pur?, V.pur1?, V.cells, kld, ones, V.one, Value.oneCell', own, owns, own1, xfill, ksrc, kint, vint, ksub, keqs, kok, V.val1?, ofRes, hc, hne, hne', hne0, hne0', hs]) | (with_reducible refine W_itn_cases ?_ ?_; omega))
  refine qd_i ?_ ?_
  · simp [recsOk, ordB, Rec.free, Rec.wr, disj, List.range, List.range.loop, hne, hne', hne0, hne0']; try decide
  repeat' (first | (simp -implicitDefEqProofs only [ze, Nat.reduceEqDiff, Nat.reduceAdd, Nat.reduceMul, reduceIte, Nat.reduceLT, Nat.reduceLeDiff, reduceCtorEq, Int.reduceEq, Int.reduceLT, Int.reduceLE, Int.reduceNeg, Int.reduceToNat, Nat.reduceBEq, Nat.reduceSub, qp, qf, kop, av, RQ, PQ, kres, kres1, kresL, fin, fins, fin1, V.pur?, V.pur1?, V.cells, kld, ones, V.one, Value.oneCell', own, owns, own1, xfill, ksrc, kint, vint, ksub, keqs, kok, V.val1?, ofRes, hc, hne, hne', hne0, hne0', hs]) | (with_reducible refine W_itn_cases ?_ ?_; omega))
  refine qd_i ?_ ?_
  · simp [recsOk, ordB, Rec.free, Rec.wr, disj, List.range, List.range.loop, hne, hne', hne0, hne0']; try decide
  simp -implicitDefEqProofs only [ze, Nat.reduceEqDiff, Nat.reduceAdd, Nat.reduceMul, reduceIte, Nat.reduceLT, Nat.reduceLeDiff, reduceCtorEq, Int.reduceEq, Int.reduceLT, Int.reduceLE, Int.reduceNeg, Int.reduceToNat, Nat.reduceBEq, Nat.reduceSub, qp, qf, kop, av, RQ, PQ, kres, kres1, kresL, fin, fins, fin1, V.pur?, V.pur1?, V.cells, kld, ones, V.one, Value.oneCell', own, owns, own1, xfill, ksrc, kint, vint, ksub, keqs, kok, V.val1?, ofRes]
  refine ⟨_, _, nx + 72, nx + 168, rfl, by omega, ⟨?_, ?_, ?_, ?_, ?_, ?_, ?_, ?_, ?_⟩, by omega, by omega, fun i h1 h2 => ?_⟩
  · simp only [upd_at, if_true]; rfl
  · simp [upd_at, hne']
  · simp [upd_at, hne']
  · show nx + 72 ≠ nx + 168; omega
  · show id < _; omega
  · show nx + 72 < _; omega
  · show nx + 168 < _; omega
  · show 8 ≤ nx + 72; omega
  · show 8 ≤ nx + 168; omega
  · have c1 : ¬ i = nx := by omega
    have c2 : ¬ i = nx + 64 := by omega
    have c3 : ¬ i = nx + 72 := by omega
    have c4 : ¬ i = nx + 160 := by omega
    have c5 : ¬ i = nx + 168 := by omega
    simp [upd_at, h2, c1, c2, c3, c4, c5]
theorem add_old {st : St} {nx : Nat} {c : Col} (h : ColOk st nx c) (l : Line) (hA : c.A.length < 1073741824) (hB : c.B.length < 1073741824) :
    W (L.hp 92 [.ptr c.id 0, encL l] st nx) fun r => ∃ st' nx', r = .ret (.tup []) st' nx' ∧ nx ≤ nx' ∧ ColOk st' nx' ⟨c.key, c.id, c.A ++ [l.amt], c.B ++ [l.base], c.ra, c.rb⟩ ∧ ∀ i, i < nx → i ≠ c.id → i ≠ c.ra → i ≠ c.rb → st' i = st i := by
  obtain ⟨k, id, A, B, ra, rb⟩ := c
  obtain ⟨hc, ha, hb, hab, hid, hal, hbl, ha8, hb8⟩ := h
  simp only at hc ha hb hab hid hal hbl ha8 hb8 hA hB
  refine hp_w k92_eq ?_
  simp only [k92, encL]
  have hne : ∀ j, (id = nx + j) = False := fun j => eq_false (by omega)
  have hne0 : (id = nx) = False := eq_false (by omega)
  have hne' : ∀ j, (nx + j = id) = False := fun j => eq_false (by omega)
  have hne0' : (nx = id) = False := eq_false (by omega)
  have hs : ∀ j, (nx = nx + (j + 1)) = False := fun j => eq_false (by omega)
  have a0 : (ra = 0) = False := eq_false (by omega)
  have a1 : (ra = 1) = False := eq_false (by omega)
  have an : ∀ j, (ra = nx + j) = False := fun j => eq_false (by omega)
  have an' : ∀ j, (nx + j = ra) = False := fun j => eq_false (by omega)
  have an0 : (ra = nx) = False := eq_false (by omega)
  have an0' : (nx = ra) = False := eq_false (by omega)
  have ai : (ra = id) = False := eq_false fun e => by subst e; rw [hc] at ha; cases ha
  have ai' : (id = ra) = False := eq_false fun e => by subst e; rw [hc] at ha; cases ha
  have b0 : (rb = 0) = False := eq_false (by omega)
  have b1 : (rb = 1) = False := eq_false (by omega)
  have bn : ∀ j, (rb = nx + j) = False := fun j => eq_false (by omega)
  have bn' : ∀ j, (nx + j = rb) = False := fun j => eq_false (by omega)
  have bn0 : (rb = nx) = False := eq_false (by omega)
  have bn0' : (nx = rb) = False := eq_false (by omega)
  have bi : (rb = id) = False := eq_false fun e => by subst e; rw [hc] at hb; cases hb
  have bi' : (id = rb) = False := eq_false fun e => by subst e; rw [hc] at hb; cases hb
  have ab : (ra = rb) = False := eq_false hab
  have ab' : (rb = ra) = False := eq_false fun e => hab e.symm
  have il := iv_len A
  have il' := iv_len B
  repeat' (first | (simp -implicitDefEqProofs only [ze, Nat.reduceEqDiff, Nat.reduceAdd, Nat.reduceMul, reduceIte, Nat.reduceLT, Nat.reduceLeDiff, reduceCtorEq, Int.reduceEq, Int.reduceLT, Int.reduceLE, Int.reduceNeg, Int.reduceToNat, Nat.reduceBEq, Nat.reduceSub, qp, qf, kop, av, RQ, PQ, kres, kres1, kresL, fin, fins, fin1, V.pur?, V.pur1?, V.cells, kld, ones, V.one, Value.oneCell', own, owns, own1, xfill, ksrc, kint, vint, ksub, keqs, kok, V.val1?, ofRes, hc, hne, hne', hne0, hne0', hs, a0, a1, an, an0, an0', bn0', ai, ai', b0, b1, bn, bn0, bi, bi', ab, ab', ha, hb, iv_len]) | (with_reducible refine W_itn_cases ?_ ?_; omega))
  refine qd_i ?_ ?_
  · simp [recsOk, ordB, Rec.free, Rec.wr, disj, List.range, List.range.loop, hne, hne', hne0, hne0', an, an', an0, an0', ai, ai', bn, bn', bn0, bn0', bi, bi', ab, ab']; try decide
  repeat' (first | (simp -implicitDefEqProofs only [ze, Nat.reduceEqDiff, Nat.reduceAdd, Nat.reduceMul, reduceIte, Nat.reduceLT, Nat.reduceLeDiff, reduceCtorEq, Int.reduceEq, Int.reduceLT, Int.reduceLE, Int.reduceNeg, Int.reduceToNat, Nat.reduceBEq, Nat.reduceSub, qp, qf, kop, av, RQ, PQ, kres, kres1, kresL, fin, fins, fin1, V.pur?, V.pur1?, V.cells, kld, ones, V.one, Value.oneCell', own, owns, own1, xfill, ksrc, kint, vint, ksub, keqs, kok, V.val1?, ofRes, hc, hne, hne', hne0, hne0', hs, a0, a1, an, an0, an0', bn0', ai, ai', b0, b1, bn, bn0, bi, bi', ab, ab', ha, hb, iv_len]) | (with_reducible refine W_itn_cases ?_ ?_; omega))
  refine qd_i ?_ ?_
  · simp [recsOk, ordB, Rec.free, Rec.wr, disj, List.range, List.range.loop, hne, hne', hne0, hne0', an, an', an0, an0', ai, ai', bn, bn', bn0, bn0', bi, bi', ab, ab']; try decide
  simp -implicitDefEqProofs only [ze, Nat.reduceEqDiff, Nat.reduceAdd, Nat.reduceMul, reduceIte, Nat.reduceLT, Nat.reduceLeDiff, reduceCtorEq, Int.reduceEq, Int.reduceLT, Int.reduceLE, Int.reduceNeg, Int.reduceToNat, Nat.reduceBEq, Nat.reduceSub, qp, qf, kop, av, RQ, PQ, kres, kres1, kresL, fin, fins, fin1, V.pur?, V.pur1?, V.cells, kld, ones, V.one, Value.oneCell', own, owns, own1, xfill, ksrc, kint, vint, ksub, keqs, kok, V.val1?, ofRes]
  refine ⟨_, _, rfl, by omega, ⟨?_, ?_, ?_, hab, ?_, ?_, ?_, ha8, hb8⟩, fun i h1 h2 h3 h4 => ?_⟩
  · simp only [upd_at, if_true, iv_app]
  · simp [upd_at, ai, ab, hab, an]
  · simp [upd_at, bi, ab', bn]
  · show id < _; omega
  · show ra < _; omega
  · show rb < _; omega
  · have c1 : ¬ i = nx := by omega
    have c2 : ¬ i = nx + 64 := by omega
    have c4 : ¬ i = nx + 160 := by omega
    simp [upd_at, h2, h3, h4, c1, c2, c4]
end Go.Proofs.YtkbheoganajhaaaDoor.Vm
set_option maxRecDepth 10000
set_option linter.unusedVariables false
set_option linter.unusedSimpArgs false
namespace Go.Proofs.YtkbheoganajhaaaDoor.Vm
open Go Go.Proofs
def names (cs : List Col) : List Nat := cs.flatMap fun c => [c.id, c.ra, c.rb]
def ents (cs : List Col) : List (V × V) := cs.map fun c => (V.str c.key, V.ptr c.id 0)
structure Cols (st : St) (nx mid : Nat) (cs : List Col) : Prop where
  tab : st mid = some (.map (ents cs))
  lt : mid < nx
  ok : ∀ c ∈ cs, ColOk st nx c
  nd : (names cs).Nodup
  keys : (cs.map (·.key)).Nodup
theorem ColOk.same {st st' : St} {nx nx' : Nat} {c : Col} (h : ColOk st nx c) (hn : nx ≤ nx') (h1 : st' c.id = st c.id) (h2 : st' c.ra = st c.ra) (h3 : st' c.rb = st c.rb) : ColOk st' nx' c :=
  ⟨by rw [h1]; exact h.cell, by rw [h2]; exact h.a, by rw [h3]; exact h.b, h.ab, by have := h.id_lt; omega, by have := h.a_lt; omega, by have := h.b_lt; omega, h.a8, h.b8⟩
theorem names_lt {st : St} {nx mid : Nat} {cs : List Col} (h : Cols st nx mid cs) : ∀ i ∈ names cs, i < nx := by
  intro i hi
  simp only [names, List.mem_flatMap, List.mem_cons, List.not_mem_nil, or_false] at hi
  obtain ⟨c, hc, h1⟩ := hi
  have := h.ok c hc
  rcases h1 with rfl | rfl | rfl
  · exact this.id_lt
  · exact this.a_lt
  · exact this.b_lt
theorem mid_not {st : St} {nx mid : Nat} {cs : List Col} (h : Cols st nx mid cs) : mid ∉ names cs := by
  intro hi
  simp only [names, List.mem_flatMap, List.mem_cons, List.not_mem_nil, or_false] at hi
  obtain ⟨c, hc, h1⟩ := hi
  have h2 := h.ok c hc
  have h3 := h.tab
  rcases h1 with rfl | rfl | rfl
  · rw [h2.cell] at h3; cases h3
  · rw [h2.a] at h3; cases h3
  · rw [h2.b] at h3; cases h3
theorem Cols.old {st st' : St} {nx nx' mid : Nat} {pre post : List Col} {c c' : Col} (h : Cols st nx mid (pre ++ c :: post)) (hn : nx ≤ nx') (hc : ColOk st' nx' c') (e1 : c'.key = c.key) (e2 : c'.id = c.id) (e3 : c'.ra = c.ra) (e4 : c'.rb = c.rb)
    (hk : ∀ i, i < nx → i ≠ c.id → i ≠ c.ra → i ≠ c.rb → st' i = st i) : Cols st' nx' mid (pre ++ c' :: post) := by
  have hnd := h.nd
  have hmid := mid_not h
  have hcn : ∀ d, d ∈ pre ++ post → ∀ i ∈ [d.id, d.ra, d.rb], i ≠ c.id ∧ i ≠ c.ra ∧ i ≠ c.rb := by
    intro d hd i hi
    have hi' : i ∈ names (pre ++ post) := by simp only [names, List.mem_flatMap]; exact ⟨d, hd, hi⟩
    have hp : (names (pre ++ c :: post)).Perm ([c.id, c.ra, c.rb] ++ names (pre ++ post)) := by
      have : names (pre ++ c :: post) = names pre ++ ([c.id, c.ra, c.rb] ++ names post) := by simp [names]
      rw [this]
      have e : names (pre ++ post) = names pre ++ names post := by simp [names]
      rw [e]
      exact List.perm_append_comm_assoc _ _ _
    have hnd2 := hp.nodup_iff.mp hnd
    rw [List.nodup_append] at hnd2
    have := hnd2.2.2
    exact ⟨fun e => this c.id (by simp) i hi' e.symm, fun e => this c.ra (by simp) i hi' e.symm, fun e => this c.rb (by simp) i hi' e.symm⟩
  refine ⟨?_, by have := h.lt; omega, ?_, ?_, ?_⟩
  · have hm : mid ≠ c.id ∧ mid ≠ c.ra ∧ mid ≠ c.rb := by
      have : names (pre ++ c :: post) = names pre ++ ([c.id, c.ra, c.rb] ++ names post) := by simp [names]
      rw [this] at hmid
      simp only [List.mem_append, List.mem_cons, List.not_mem_nil, or_false, not_or] at hmid
      exact ⟨hmid.2.1.1, hmid.2.1.2.1, hmid.2.1.2.2⟩
    rw [hk mid h.lt hm.1 hm.2.1 hm.2.2, h.tab]
    simp [ents, e1, e2]
  · intro d hd
    rcases List.mem_append.mp hd with hd | hd
    · have hd2 := h.ok d (List.mem_append.mpr (.inl hd))
      have hx := hcn d (List.mem_append.mpr (.inl hd))
      exact hd2.same hn (hk _ hd2.id_lt (hx _ (by simp)).1 (hx _ (by simp)).2.1 (hx _ (by simp)).2.2) (hk _ hd2.a_lt (hx _ (by simp)).1 (hx _ (by simp)).2.1 (hx _ (by simp)).2.2) (hk _ hd2.b_lt (hx _ (by simp)).1 (hx _ (by simp)).2.1 (hx _ (by simp)).2.2)
    · rcases List.mem_cons.mp hd with rfl | hd
      · exact hc
      · have hd2 := h.ok d (List.mem_append.mpr (.inr (List.mem_cons_of_mem _ hd)))
        have hx := hcn d (List.mem_append.mpr (.inr hd))
        exact hd2.same hn (hk _ hd2.id_lt (hx _ (by simp)).1 (hx _ (by simp)).2.1 (hx _ (by simp)).2.2) (hk _ hd2.a_lt (hx _ (by simp)).1 (hx _ (by simp)).2.1 (hx _ (by simp)).2.2) (hk _ hd2.b_lt (hx _ (by simp)).1 (hx _ (by simp)).2.1 (hx _ (by simp)).2.2)
  · have : names (pre ++ c' :: post) = names (pre ++ c :: post) := by simp [names, e2, e3, e4]
    rw [this]; exact hnd
  · have := h.keys
    simpa [e1] using this
theorem Cols.more {st st' : St} {nx nx' mid : Nat} {cs : List Col} {c : Col} (h : Cols st nx mid cs) (hn : nx ≤ nx') (hc : ColOk st' nx' c) (h1 : nx ≤ c.id) (h2 : nx ≤ c.ra) (h3 : nx ≤ c.rb) (hid : c.id ≠ c.ra ∧ c.id ≠ c.rb) (hkey : ∀ d ∈ cs, d.key ≠ c.key)
    (hm : st' mid = some (.map (ents (cs ++ [c])))) (hk : ∀ i ∈ names cs, st' i = st i) : Cols st' nx' mid (cs ++ [c]) := by
  have hlt := names_lt h
  have hmid := mid_not h
  refine ⟨hm, by have := h.lt; omega, ?_, ?_, ?_⟩
  · intro d hd
    rcases List.mem_append.mp hd with hd | hd
    · have hd2 := h.ok d hd
      have hne : ∀ i ∈ [d.id, d.ra, d.rb], i ∈ names cs := fun i hi => by simp only [names, List.mem_flatMap]; exact ⟨d, hd, hi⟩
      exact hd2.same hn (hk _ (hne _ (by simp))) (hk _ (hne _ (by simp))) (hk _ (hne _ (by simp)))
    · have : d = c := by simpa using hd
      subst this; exact hc
  · have e : names (cs ++ [c]) = names cs ++ [c.id, c.ra, c.rb] := by simp [names]
    rw [e, List.nodup_append]
    refine ⟨h.nd, by simp [hid.1, hid.2, hc.ab], ?_⟩
    intro a ha b hb
    have := hlt a ha
    simp only [List.mem_cons, List.not_mem_nil, or_false] at hb
    rcases hb with rfl | rfl | rfl <;> omega
  · rw [List.map_append, List.nodup_append]
    refine ⟨h.keys, by simp, ?_⟩
    intro a ha b hb
    simp only [List.mem_map] at ha
    obtain ⟨d, hd, rfl⟩ := ha
    simp only [List.map_cons, List.map_nil, List.mem_singleton] at hb
    subst hb
    exact hkey d hd
theorem find_no : ∀ (cs : List Col) (k : ByteArray) (j : Nat), (∀ d ∈ cs, d.key ≠ k) → mfind (.string k) (ents cs) j = some none
  | [], _, _, _ => rfl
  | c :: cs, k, j, h => by
    have h1 : ¬ c.key = k := h c (by simp)
    have h2 : ¬ k = c.key := fun e => h1 e.symm
    have hk : keyEq (.string k) (.string c.key) = some false := by simp only [keyEq]; rw [ba_beq, decide_eq_false h2]
    have e : ents (c :: cs) = (V.sc (.string c.key), V.ptr c.id 0) :: ents cs := rfl
    rw [e, mfind, hk]
    exact find_no cs k (j + 1) fun d hd => h d (List.mem_cons_of_mem _ hd)
theorem find_yes : ∀ (pre : List Col) (c : Col) (post : List Col) (j : Nat), (∀ d ∈ pre, d.key ≠ c.key) → mfind (.string c.key) (ents (pre ++ c :: post)) j = some (some (j + pre.length, V.ptr c.id 0))
  | [], c, post, j, _ => by
    have hk : keyEq (.string c.key) (.string c.key) = some true := by simp only [keyEq]; rw [ba_beq]; simp
    have e : ents ([] ++ c :: post) = (V.sc (.string c.key), V.ptr c.id 0) :: ents post := rfl
    rw [e, mfind, hk]; rfl
  | d :: pre, c, post, j, h => by
    have h1 : ¬ d.key = c.key := h d (by simp)
    have h2 : ¬ c.key = d.key := fun e => h1 e.symm
    have hk : keyEq (.string c.key) (.string d.key) = some false := by simp only [keyEq]; rw [ba_beq, decide_eq_false h2]
    have e : ents (d :: pre ++ c :: post) = (V.sc (.string d.key), V.ptr d.id 0) :: ents (pre ++ c :: post) := rfl
    rw [e, mfind, hk]
    show mfind _ _ _ = _
    rw [find_yes pre c post (j + 1) fun x hx => h x (List.mem_cons_of_mem _ hx)]
    simp only [List.length_cons, Option.some.injEq, Prod.mk.injEq, and_true]
    omega
end Go.Proofs.YtkbheoganajhaaaDoor.Vm
set_option maxRecDepth 10000
set_option linter.unusedVariables false
set_option linter.unusedSimpArgs false
namespace Go.Proofs.YtkbheoganajhaaaDoor.Vm
open Go Go.Proofs
def selA (ls : List Line) (k : ByteArray) : List Int := (ls.filter fun l => decide (l.cur = k)).map (·.amt)
def selB (ls : List Line) (k : ByteArray) : List Int := (ls.filter fun l => decide (l.cur = k)).map (·.base)
structure Tab (cs : List Col) (ls : List Line) : Prop where
  a : ∀ c ∈ cs, c.A = selA ls c.key ∧ c.B = selB ls c.key ∧ ∃ l ∈ ls, l.cur = c.key
  b : ∀ l ∈ ls, ∃ c ∈ cs, c.key = l.cur
theorem currency_ok (l : Line) : L.pl 74 [encL l] = some (.ret (.str l.cur)) := by
  refine W_of (pl_w k74_eq ?_)
  simp only [k74, encL]
  repeat' (first | (simp -implicitDefEqProofs only [ze, Nat.reduceEqDiff, Nat.reduceAdd, Nat.reduceMul, reduceIte, Nat.reduceLT, Nat.reduceLeDiff, reduceCtorEq, Int.reduceEq, Int.reduceLT, Int.reduceLE, Int.reduceNeg, Int.reduceToNat, Nat.reduceBEq, Nat.reduceSub, qp, qf, kop, av, RQ, PQ, kres, kres1, kresL, fin, fins, fin1, V.pur?, V.pur1?, V.cells, kld, ones, V.one, Value.oneCell', own, owns, own1, xfill, ksrc, kint, vint, ksub, keqs, kok, V.val1?, ofRes]) | (with_reducible refine wgd_cases ?_ ?_ <;> intro hb) | (with_reducible refine wcond_cases ?_ ?_ <;> intro hb) | (with_reducible refine qd_i (by kernel_rfl) ?_) | (with_reducible refine W_itn_cases ?_ ?_; omega))
theorem Grow.upd {st : St} {nx nx' e j : Nat} {xs : List V} {v : V} (h : Grow st nx e xs v) (hj : nx ≤ j) (hn : nx ≤ nx') (o : Option Ob) : Grow (upd st j o) nx' e xs v := by
  rcases h with h | ⟨r, h1, h2, h3, h4⟩
  · exact .inl h
  · exact .inr ⟨r, h1, by omega, h3, by rw [upd_at, if_neg (by omega)]; exact h4⟩
theorem Cols.upd {st : St} {nx nx' mid j : Nat} {cs : List Col} (h : Cols st nx mid cs) (hj : nx ≤ j) (hn : nx ≤ nx') (o : Option Ob) : Cols (upd st j o) nx' mid cs :=
  ⟨by rw [upd_at, if_neg (by have := h.lt; omega)]; exact h.tab, by have := h.lt; omega,
   fun c hc => (h.ok c hc).same hn (by rw [upd_at, if_neg (by have := (h.ok c hc).id_lt; omega)]) (by rw [upd_at, if_neg (by have := (h.ok c hc).a_lt; omega)]) (by rw [upd_at, if_neg (by have := (h.ok c hc).b_lt; omega)]), h.nd, h.keys⟩
theorem Cols.le {st : St} {nx nx' mid : Nat} {cs : List Col} (h : Cols st nx mid cs) (hn : nx ≤ nx') : Cols st nx' mid cs :=
  ⟨h.tab, by have := h.lt; omega, fun c hc => (h.ok c hc).same hn rfl rfl rfl, h.nd, h.keys⟩
theorem Grow.le {st : St} {nx nx' e : Nat} {xs : List V} {v : V} (h : Grow st nx e xs v) (hn : nx ≤ nx') : Grow st nx' e xs v := by
  rcases h with h | ⟨r, h1, h2, h3, h4⟩
  · exact .inl h
  · exact .inr ⟨r, h1, by omega, h3, h4⟩
theorem selA_app (ls : List Line) (l : Line) (k : ByteArray) : selA (ls ++ [l]) k = if l.cur = k then selA ls k ++ [l.amt] else selA ls k := by
  by_cases h : l.cur = k <;> simp [selA, List.filter_append, h]
theorem selB_app (ls : List Line) (l : Line) (k : ByteArray) : selB (ls ++ [l]) k = if l.cur = k then selB ls k ++ [l.base] else selB ls k := by
  by_cases h : l.cur = k <;> simp [selB, List.filter_append, h]
theorem Tab.old {pre post : List Col} {c : Col} {ls : List Line} {l : Line} (h : Tab (pre ++ c :: post) ls) (hk : ((pre ++ c :: post).map (·.key)).Nodup) (e : c.key = l.cur) : Tab (pre ++ ⟨c.key, c.id, c.A ++ [l.amt], c.B ++ [l.base], c.ra, c.rb⟩ :: post) (ls ++ [l]) := by
  have hne : ∀ d, d ∈ pre ∨ d ∈ post → ¬ l.cur = d.key := by
    rw [List.map_append, List.map_cons, List.nodup_append] at hk
    intro d hd e2
    rcases hd with hd | hd
    · exact hk.2.2 d.key (List.mem_map_of_mem hd) c.key (by simp) (by rw [← e2, e])
    · have := hk.2.1
      rw [List.nodup_cons] at this
      exact this.1 (List.mem_map.mpr ⟨d, hd, by rw [← e2, e]⟩)
  have old : ∀ d, d ∈ pre ∨ d ∈ post → d.A = selA (ls ++ [l]) d.key ∧ d.B = selB (ls ++ [l]) d.key ∧ ∃ l2 ∈ ls ++ [l], l2.cur = d.key := by
    intro d hd
    have hd2 := h.a d (by rcases hd with hd | hd; exact List.mem_append.mpr (.inl hd); exact List.mem_append.mpr (.inr (List.mem_cons_of_mem _ hd)))
    rw [selA_app, selB_app, if_neg (hne d hd), if_neg (hne d hd)]
    obtain ⟨g1, g2, l2, g3, g4⟩ := hd2
    exact ⟨g1, g2, l2, List.mem_append.mpr (.inl g3), g4⟩
  refine ⟨fun d hd => ?_, fun l2 hl2 => ?_⟩
  · rcases List.mem_append.mp hd with hd | hd
    · exact old d (.inl hd)
    · rcases List.mem_cons.mp hd with rfl | hd
      · have hc := h.a c (by simp)
        refine ⟨?_, ?_, l, by simp, e.symm⟩
        · show c.A ++ [l.amt] = selA (ls ++ [l]) c.key; rw [selA_app, if_pos e.symm, hc.1]
        · show c.B ++ [l.base] = selB (ls ++ [l]) c.key; rw [selB_app, if_pos e.symm, hc.2.1]
      · exact old d (.inr hd)
  · rcases List.mem_append.mp hl2 with hl2 | hl2
    · obtain ⟨d, hd, hd2⟩ := h.b l2 hl2
      rcases List.mem_append.mp hd with hd | hd
      · exact ⟨d, List.mem_append.mpr (.inl hd), hd2⟩
      · rcases List.mem_cons.mp hd with rfl | hd
        · exact ⟨_, List.mem_append.mpr (.inr List.mem_cons_self), hd2⟩
        · exact ⟨d, List.mem_append.mpr (.inr (List.mem_cons_of_mem _ hd)), hd2⟩
    · have : l2 = l := by simpa using hl2
      subst this
      exact ⟨_, List.mem_append.mpr (.inr List.mem_cons_self), e⟩
theorem Tab.more {cs : List Col} {ls : List Line} {l : Line} (h : Tab cs ls) (hno : ∀ d ∈ cs, d.key ≠ l.cur) (id ra rb : Nat) : Tab (cs ++ [⟨l.cur, id, [l.amt], [l.base], ra, rb⟩]) (ls ++ [l]) := by
  have hnl : ∀ l2 ∈ ls, ¬ l2.cur = l.cur := fun l2 hl2 e => by
    obtain ⟨d, hd, hd2⟩ := h.b l2 hl2
    exact hno d hd (by rw [hd2, e])
  refine ⟨fun d hd => ?_, fun l2 hl2 => ?_⟩
  · rcases List.mem_append.mp hd with hd | hd
    · have hd2 := h.a d hd
      have hne : ¬ l.cur = d.key := fun e => hno d hd e.symm
      rw [selA_app, selB_app, if_neg hne, if_neg hne]
      obtain ⟨g1, g2, l2, g3, g4⟩ := hd2
      exact ⟨g1, g2, l2, List.mem_append.mpr (.inl g3), g4⟩
    · have : d = ⟨l.cur, id, [l.amt], [l.base], ra, rb⟩ := by simpa using hd
      subst this
      refine ⟨?_, ?_, l, by simp, rfl⟩
      · show [l.amt] = selA (ls ++ [l]) l.cur
        rw [selA_app, if_pos rfl]
        have : selA ls l.cur = [] := by simp only [selA, List.map_eq_nil_iff, List.filter_eq_nil_iff]; intro a ha; simpa using hnl a ha
        rw [this]; rfl
      · show [l.base] = selB (ls ++ [l]) l.cur
        rw [selB_app, if_pos rfl]
        have : selB ls l.cur = [] := by simp only [selB, List.map_eq_nil_iff, List.filter_eq_nil_iff]; intro a ha; simpa using hnl a ha
        rw [this]; rfl
  · rcases List.mem_append.mp hl2 with hl2 | hl2
    · obtain ⟨d, hd, hd2⟩ := h.b l2 hl2
      exact ⟨d, List.mem_append.mpr (.inl hd), hd2⟩
    · have : l2 = l := by simpa using hl2
      subst this
      exact ⟨⟨l2.cur, id, [l2.amt], [l2.base], ra, rb⟩, List.mem_append.mpr (.inr (List.mem_singleton.mpr rfl)), rfl⟩
theorem Grow.keep {st st' : St} {nx nx' : Nat} {xs : List V} {v : V} {c : Col} (h : Grow st nx 9 xs v) (hc : ColOk st nx c) (hn : nx ≤ nx') (hk : ∀ i, i < nx → i ≠ c.id → i ≠ c.ra → i ≠ c.rb → st' i = st i) : Grow st' nx' 9 xs v := by
  rcases h with h | ⟨r, h1, h2, h3, h4⟩
  · exact .inl h
  · refine .inr ⟨r, h1, by omega, h3, ?_⟩
    rw [hk r h2 (fun e => by rw [e, hc.cell] at h4; cases h4) (fun e => by rw [e, hc.a] at h4; simp at h4) (fun e => by rw [e, hc.b] at h4; simp at h4)]
    exact h4
theorem sel_len (ls : List Line) (k : ByteArray) : (selA ls k).length ≤ ls.length ∧ (selB ls k).length ≤ ls.length := by
  simp only [selA, selB, List.length_map]
  exact ⟨List.length_filter_le _ _, List.length_filter_le _ _⟩
theorem columns_ok (ls : List Line) (r : Nat) {st : St} {nx : Nat} (h8 : 8 ≤ nx) (hl : ls.length < 1000000) :
    W (L.hp 73 [.list 61 (ls.map encL) r, .fn (.func 74) [] []] st nx) fun q => ∃ st' nx' mid cs v, q = .ret (.tup [.map mid, v]) st' nx' ∧ nx ≤ nx' ∧ cs.length ≤ ls.length ∧ Cols st' nx' mid cs ∧ Tab cs ls ∧ Grow st' nx' 9 (cs.map fun c => V.str c.key) v := by
  refine hp_w k73_eq ?_
  simp only [k73]
  repeat' (first | (simp -implicitDefEqProofs only [ze, Nat.reduceEqDiff, Nat.reduceAdd, Nat.reduceMul, reduceIte, Nat.reduceLT, Nat.reduceLeDiff, reduceCtorEq, Int.reduceEq, Int.reduceLT, Int.reduceLE, Int.reduceNeg, Int.reduceToNat, Nat.reduceBEq, Nat.reduceSub, qp, qf, kop, av, RQ, PQ, kres, kres1, kresL, fin, fins, fin1, V.pur?, V.pur1?, V.cells, kld, ones, V.one, Value.oneCell', own, owns, own1, xfill, ksrc, kint, vint, ksub, keqs, kok, V.val1?, ofRes, List.length_map]) | (with_reducible refine wgd_cases ?_ ?_ <;> intro hb) | (with_reducible refine wcond_cases ?_ ?_ <;> intro hb) | (with_reducible refine qd_i (by kernel_rfl) ?_) | (with_reducible refine W_itn_cases ?_ ?_; omega))
  refine loop_w (fun n tm st' nx' => ∃ (i mid : Nat) (cs : List Col) (v : V), n = ls.length - i ∧ i ≤ ls.length ∧ tm 14 = .i64 i ∧ tm 13 = .i64 ls.length ∧ tm 12 = .list 61 (ls.map encL) r ∧ tm 1 = .fn (.func 74) [] [] ∧ tm 6 = .map mid ∧ tm 7 = v ∧ nx ≤ nx' ∧ cs.length ≤ i ∧
      Cols st' nx' mid cs ∧ Tab cs (ls.take i) ∧ Grow st' nx' 9 (cs.map fun c => V.str c.key) v) ls.length ⟨0, nx + 16, [], _, by omega, by omega, ?_, ?_, ?_, ?_, ?_, rfl, by omega, Nat.le_refl _, ?_, ?_, ?_⟩ ?_
  · simp -implicitDefEqProofs only [ze, Nat.reduceEqDiff, Nat.reduceAdd, Nat.reduceMul, reduceIte, Nat.reduceLT, Nat.reduceLeDiff, reduceCtorEq, Int.reduceEq, Int.reduceLT, Int.reduceLE, Int.reduceNeg, Int.reduceToNat, Nat.reduceBEq, Nat.reduceSub, qp, qf, kop, av, RQ, PQ, kres, kres1, kresL, fin, fins, fin1, V.pur?, V.pur1?, V.cells, kld, ones, V.one, Value.oneCell', own, owns, own1, xfill, ksrc, kint, vint, ksub, keqs, kok, V.val1?, ofRes]; rfl
  · simp -implicitDefEqProofs only [ze, Nat.reduceEqDiff, Nat.reduceAdd, Nat.reduceMul, reduceIte, Nat.reduceLT, Nat.reduceLeDiff, reduceCtorEq, Int.reduceEq, Int.reduceLT, Int.reduceLE, Int.reduceNeg, Int.reduceToNat, Nat.reduceBEq, Nat.reduceSub, qp, qf, kop, av, RQ, PQ, kres, kres1, kresL, fin, fins, fin1, V.pur?, V.pur1?, V.cells, kld, ones, V.one, Value.oneCell', own, owns, own1, xfill, ksrc, kint, vint, ksub, keqs, kok, V.val1?, ofRes]
  · simp -implicitDefEqProofs only [ze, Nat.reduceEqDiff, Nat.reduceAdd, Nat.reduceMul, reduceIte, Nat.reduceLT, Nat.reduceLeDiff, reduceCtorEq, Int.reduceEq, Int.reduceLT, Int.reduceLE, Int.reduceNeg, Int.reduceToNat, Nat.reduceBEq, Nat.reduceSub, qp, qf, kop, av, RQ, PQ, kres, kres1, kresL, fin, fins, fin1, V.pur?, V.pur1?, V.cells, kld, ones, V.one, Value.oneCell', own, owns, own1, xfill, ksrc, kint, vint, ksub, keqs, kok, V.val1?, ofRes]
  · simp -implicitDefEqProofs only [ze, Nat.reduceEqDiff, Nat.reduceAdd, Nat.reduceMul, reduceIte, Nat.reduceLT, Nat.reduceLeDiff, reduceCtorEq, Int.reduceEq, Int.reduceLT, Int.reduceLE, Int.reduceNeg, Int.reduceToNat, Nat.reduceBEq, Nat.reduceSub, qp, qf, kop, av, RQ, PQ, kres, kres1, kresL, fin, fins, fin1, V.pur?, V.pur1?, V.cells, kld, ones, V.one, Value.oneCell', own, owns, own1, xfill, ksrc, kint, vint, ksub, keqs, kok, V.val1?, ofRes]
  · simp -implicitDefEqProofs only [ze, Nat.reduceEqDiff, Nat.reduceAdd, Nat.reduceMul, reduceIte, Nat.reduceLT, Nat.reduceLeDiff, reduceCtorEq, Int.reduceEq, Int.reduceLT, Int.reduceLE, Int.reduceNeg, Int.reduceToNat, Nat.reduceBEq, Nat.reduceSub, qp, qf, kop, av, RQ, PQ, kres, kres1, kresL, fin, fins, fin1, V.pur?, V.pur1?, V.cells, kld, ones, V.one, Value.oneCell', own, owns, own1, xfill, ksrc, kint, vint, ksub, keqs, kok, V.val1?, ofRes]
  · exact ⟨by simp [upd_at, ents], by omega, by simp, by simp [names], by simp⟩
  · exact ⟨by simp, by simp⟩
  · exact .inl ⟨rfl, by simp -implicitDefEqProofs only [ze, Nat.reduceEqDiff, Nat.reduceAdd, Nat.reduceMul, reduceIte, Nat.reduceLT, Nat.reduceLeDiff, reduceCtorEq, Int.reduceEq, Int.reduceLT, Int.reduceLE, Int.reduceNeg, Int.reduceToNat, Nat.reduceBEq, Nat.reduceSub, qp, qf, kop, av, RQ, PQ, kres, kres1, kresL, fin, fins, fin1, V.pur?, V.pur1?, V.cells, kld, ones, V.one, Value.oneCell', own, owns, own1, xfill, ksrc, kint, vint, ksub, keqs, kok, V.val1?, ofRes]⟩
  rintro n tm st' nx' ⟨i, mid, cs, v, hn, hi2, h14, h13, h12, h1, h6, h7, hnx, hcl, hcs, htab, hg⟩
  simp only [k73_l0]
  have hmlt := hcs.lt
  by_cases hlt : i < ls.length
  · obtain ⟨l, hl2⟩ := get_lt hlt
    have hd : decide ((i : Int) < (ls.length : Int)) = true := decide_eq_true (by omega)
    have hcur := currency_ok l
    simp only [encL] at hcur
    have e1 : ls.take (i + 1) = ls.take i ++ [l] := by rw [List.take_add_one, hl2]; rfl
    have hm : ∀ j, (mid = nx' + j) = False := fun j => eq_false (by omega)
    have hm' : ∀ j, (nx' + j = mid) = False := fun j => eq_false (by omega)
    have hs : ∀ j, (nx' = nx' + (j + 1)) = False := fun j => eq_false (by omega)
    have hxc := fun (st : St) (i0 nx : Nat) (l : List V) => xcall_pl (P := Tryd.prog) (E := L) (st := st) (i0 := i0) (nx := nx) (g := 74) (l := l) (by kernel_rfl) rfl
    by_cases hin : ∃ c ∈ cs, c.key = l.cur
    · obtain ⟨c, hc, hck⟩ := hin
      obtain ⟨pre, post, rfl⟩ := List.append_of_mem hc
      have hpre : ∀ d ∈ pre, d.key ≠ c.key := by
        have := hcs.keys
        rw [List.map_append, List.nodup_append] at this
        intro d hd e
        exact this.2.2 d.key (List.mem_map_of_mem hd) c.key (by simp) e
      have hf := find_yes pre c post 0 hpre
      rw [hck] at hf
      have htb := hcs.tab
      repeat' (first | (simp -implicitDefEqProofs only [ze, Nat.reduceEqDiff, Nat.reduceAdd, Nat.reduceMul, reduceIte, Nat.reduceLT, Nat.reduceLeDiff, reduceCtorEq, Int.reduceEq, Int.reduceLT, Int.reduceLE, Int.reduceNeg, Int.reduceToNat, Nat.reduceBEq, Nat.reduceSub, qp, qf, kop, av, RQ, PQ, kres, kres1, kresL, fin, fins, fin1, V.pur?, V.pur1?, V.cells, kld, ones, V.one, Value.oneCell', own, owns, own1, xfill, ksrc, kint, vint, ksub, keqs, kok, V.val1?, ofRes, h14, h13, h12, h1, h6, h7, hd, hl2, encL, hxc, hcur, nr_pur, hm, htb, hf]) | (with_reducible refine wgd_cases ?_ ?_ <;> intro hb) | (with_reducible refine wcond_cases ?_ ?_ <;> intro hb) | (with_reducible refine qd_i (by kernel_rfl) ?_) | (with_reducible refine W_itn_cases ?_ ?_; omega))
      have hcs2 := (hcs.upd (j := nx' + 24) (nx' := nx') (by omega) (Nat.le_refl _) (some (Ob.cells [V.sc (Value.string { data := #[] }), V.sc (Value.string { data := #[] }), V.sc (Value.int IntKind.i64 0), V.sc (Value.int IntKind.i64 0), V.sc (Value.string { data := #[] }), V.sc (Value.string { data := #[] }), V.list 0 [] 1]))).upd (j := nx' + 24) (nx' := nx' + 144) (by omega) (by omega) (some (Ob.cells [V.str l.acc, V.str l.cur, V.i64 l.amt, V.i64 l.base, V.str l.par, V.str l.pty, V.list (te l.tr 97) (List.map encT l.tags) (nr l.tr)]))
      have hca := htab.a c hc
      have hsl := sel_len (ls.take i) c.key
      have htl : (ls.take i).length ≤ ls.length := by rw [List.length_take]; omega
      refine W_hp (add_old (hcs2.ok c hc) l (by rw [hca.1]; omega) (by rw [hca.2.1]; omega)) ?_
      rintro _ ⟨sa, na, rfl, hna, hco, hka⟩
      repeat' (first | (simp -implicitDefEqProofs only [ze, Nat.reduceEqDiff, Nat.reduceAdd, Nat.reduceMul, reduceIte, Nat.reduceLT, Nat.reduceLeDiff, reduceCtorEq, Int.reduceEq, Int.reduceLT, Int.reduceLE, Int.reduceNeg, Int.reduceToNat, Nat.reduceBEq, Nat.reduceSub, qp, qf, kop, av, RQ, PQ, kres, kres1, kresL, fin, fins, fin1, V.pur?, V.pur1?, V.cells, kld, ones, V.one, Value.oneCell', own, owns, own1, xfill, ksrc, kint, vint, ksub, keqs, kok, V.val1?, ofRes, h14, h13, h12, h1, h6, h7]) | (with_reducible refine wgd_cases ?_ ?_ <;> intro hb) | (with_reducible refine wcond_cases ?_ ?_ <;> intro hb) | (with_reducible refine qd_i (by kernel_rfl) ?_) | (with_reducible refine W_itn_cases ?_ ?_; omega))
      refine ⟨ls.length - (i + 1), by omega, i + 1, mid, pre ++ ⟨c.key, c.id, c.A ++ [l.amt], c.B ++ [l.base], c.ra, c.rb⟩ :: post, v, rfl, by omega, up64 (by omega), rfl, rfl, by omega, by simp only [List.length_append, List.length_cons] at hcl ⊢; omega, ?_, ?_, ?_⟩
      · exact (hcs2.old hna hco rfl rfl rfl rfl hka).le (by omega)
      · rw [e1]; exact htab.old hcs.keys hck
      · have hg2 := (hg.upd (j := nx' + 24) (nx' := nx') (by omega) (Nat.le_refl _) (some (Ob.cells [V.sc (Value.string { data := #[] }), V.sc (Value.string { data := #[] }), V.sc (Value.int IntKind.i64 0), V.sc (Value.int IntKind.i64 0), V.sc (Value.string { data := #[] }), V.sc (Value.string { data := #[] }), V.list 0 [] 1]))).upd (j := nx' + 24) (nx' := nx' + 144) (by omega) (by omega) (some (Ob.cells [V.str l.acc, V.str l.cur, V.i64 l.amt, V.i64 l.base, V.str l.par, V.str l.pty, V.list (te l.tr 97) (List.map encT l.tags) (nr l.tr)]))
        have hg3 := hg2.keep (hcs2.ok c hc) hna hka
        have e3 : (pre ++ ⟨c.key, c.id, c.A ++ [l.amt], c.B ++ [l.base], c.ra, c.rb⟩ :: post).map (fun c => V.str c.key) = (pre ++ c :: post).map fun c => V.str c.key := by simp
        rw [e3]
        exact hg3.le (by omega)
    · have hno : ∀ d ∈ cs, d.key ≠ l.cur := fun d hd e => hin ⟨d, hd, e⟩
      have hf := find_no cs l.cur 0 hno
      have hf2 : ∀ n2, mfind (.string l.cur) (ents cs ++ [(V.sc (.string l.cur), V.ptr n2 0)]) 0 = some (some (cs.length, V.ptr n2 0)) := fun n2 => by
        have := find_yes cs ⟨l.cur, n2, [], [], 0, 0⟩ [] 0 hno
        simpa [ents] using this
      have htb := hcs.tab
      have kl : (cs.map fun c => V.str c.key).length = cs.length := by simp
      rcases hg with ⟨hgn, rfl⟩ | ⟨rk, hk8, hkn, rfl, hkt⟩
      · have hcn : cs = [] := by simpa using hgn
        subst hcn
        simp only [ents, List.map_nil, List.nil_append] at hf hf2 htb
        repeat' (first | (simp -implicitDefEqProofs only [ze, Nat.reduceEqDiff, Nat.reduceAdd, Nat.reduceMul, reduceIte, Nat.reduceLT, Nat.reduceLeDiff, reduceCtorEq, Int.reduceEq, Int.reduceLT, Int.reduceLE, Int.reduceNeg, Int.reduceToNat, Nat.reduceBEq, Nat.reduceSub, qp, qf, kop, av, RQ, PQ, kres, kres1, kresL, fin, fins, fin1, V.pur?, V.pur1?, V.cells, kld, ones, V.one, Value.oneCell', own, owns, own1, xfill, ksrc, kint, vint, ksub, keqs, kok, V.val1?, ofRes, h14, h13, h12, h1, h6, h7, hd, hl2, encL, hxc, hcur, nr_pur, hm, hm', hs, htb, hf, hf2]) | (with_reducible refine wgd_cases ?_ ?_ <;> intro hb) | (with_reducible refine wcond_cases ?_ ?_ <;> intro hb) | (with_reducible refine qd_i (by kernel_rfl) ?_) | (with_reducible refine W_itn_cases ?_ ?_; omega))
        refine W_hp (add_new l.cur (by omega) (by omega) (by simp [upd_at, hm, hm', hs]) l) ?_
        rintro _ ⟨sa, na, ra, rb, rfl, hna, hco, hra, hrb, hka⟩
        repeat' (first | (simp -implicitDefEqProofs only [ze, Nat.reduceEqDiff, Nat.reduceAdd, Nat.reduceMul, reduceIte, Nat.reduceLT, Nat.reduceLeDiff, reduceCtorEq, Int.reduceEq, Int.reduceLT, Int.reduceLE, Int.reduceNeg, Int.reduceToNat, Nat.reduceBEq, Nat.reduceSub, qp, qf, kop, av, RQ, PQ, kres, kres1, kresL, fin, fins, fin1, V.pur?, V.pur1?, V.cells, kld, ones, V.one, Value.oneCell', own, owns, own1, xfill, ksrc, kint, vint, ksub, keqs, kok, V.val1?, ofRes, h14, h13, h12, h1, h6, h7]) | (with_reducible refine wgd_cases ?_ ?_ <;> intro hb) | (with_reducible refine wcond_cases ?_ ?_ <;> intro hb) | (with_reducible refine qd_i (by kernel_rfl) ?_) | (with_reducible refine W_itn_cases ?_ ?_; omega))
        refine ⟨ls.length - (i + 1), by omega, i + 1, mid, [] ++ [⟨l.cur, nx' + 128, [l.amt], [l.base], ra, rb⟩], _, rfl, by omega, up64 (by omega), rfl, rfl, by omega, by simp, ?_, ?_, ?_⟩
        · refine (hcs.more (by omega) hco (Nat.le_add_right _ _) (show nx' ≤ ra by omega) (show nx' ≤ rb by omega) ⟨by show nx' + 128 ≠ ra; omega, by show nx' + 128 ≠ rb; omega⟩ (by simp) ?_ (by simp [names])).le (Nat.le_add_right _ _)
          rw [hka mid (by omega) (by omega)]
          simp [upd_at, hm, ents]
        · rw [e1]; exact htab.more hno _ _ _
        · refine .inr ⟨nx' + 168, by omega, by omega, rfl, ?_⟩
          rw [hka _ (by omega) (by omega)]
          simp [upd_at]
      · have hr0 : (rk = 0) = False := eq_false (by omega)
        have hr1 : (rk = 1) = False := eq_false (by omega)
        have hrn : ∀ j, (rk = nx' + j) = False := fun j => eq_false (by omega)
        have hrn' : ∀ j, (nx' + j = rk) = False := fun j => eq_false (by omega)
        have hrm : (rk = mid) = False := eq_false fun e => by rw [e, hcs.tab] at hkt; cases hkt
        have hrm' : (mid = rk) = False := eq_false fun e => by rw [← e, hcs.tab] at hkt; cases hkt
        rw [kl] at hkt
        repeat' (first | (simp -implicitDefEqProofs only [ze, Nat.reduceEqDiff, Nat.reduceAdd, Nat.reduceMul, reduceIte, Nat.reduceLT, Nat.reduceLeDiff, reduceCtorEq, Int.reduceEq, Int.reduceLT, Int.reduceLE, Int.reduceNeg, Int.reduceToNat, Nat.reduceBEq, Nat.reduceSub, qp, qf, kop, av, RQ, PQ, kres, kres1, kresL, fin, fins, fin1, V.pur?, V.pur1?, V.cells, kld, ones, V.one, Value.oneCell', own, owns, own1, xfill, ksrc, kint, vint, ksub, keqs, kok, V.val1?, ofRes, h14, h13, h12, h1, h6, h7, hd, hl2, encL, hxc, hcur, nr_pur, hm, hm', hs, htb, hf, hf2, hr0, hr1, hrn, hrn', hrm, hrm', hkt, kl, List.length_map]) | (with_reducible refine wgd_cases ?_ ?_ <;> intro hb) | (with_reducible refine wcond_cases ?_ ?_ <;> intro hb) | (with_reducible refine qd_i (by kernel_rfl) ?_) | (with_reducible refine W_itn_cases ?_ ?_; omega))
        refine W_hp (add_new l.cur (by omega) (by omega) (by simp [upd_at, hm, hm', hs, hrn, hrn']) l) ?_
        rintro _ ⟨sa, na, ra, rb, rfl, hna, hco, hra, hrb, hka⟩
        repeat' (first | (simp -implicitDefEqProofs only [ze, Nat.reduceEqDiff, Nat.reduceAdd, Nat.reduceMul, reduceIte, Nat.reduceLT, Nat.reduceLeDiff, reduceCtorEq, Int.reduceEq, Int.reduceLT, Int.reduceLE, Int.reduceNeg, Int.reduceToNat, Nat.reduceBEq, Nat.reduceSub, qp, qf, kop, av, RQ, PQ, kres, kres1, kresL, fin, fins, fin1, V.pur?, V.pur1?, V.cells, kld, ones, V.one, Value.oneCell', own, owns, own1, xfill, ksrc, kint, vint, ksub, keqs, kok, V.val1?, ofRes, h14, h13, h12, h1, h6, h7]) | (with_reducible refine wgd_cases ?_ ?_ <;> intro hb) | (with_reducible refine wcond_cases ?_ ?_ <;> intro hb) | (with_reducible refine qd_i (by kernel_rfl) ?_) | (with_reducible refine W_itn_cases ?_ ?_; omega))
        refine ⟨ls.length - (i + 1), by omega, i + 1, mid, cs ++ [⟨l.cur, nx' + 128, [l.amt], [l.base], ra, rb⟩], _, rfl, by omega, up64 (by omega), rfl, rfl, by omega, by simp; omega, ?_, ?_, ?_⟩
        · refine (hcs.more (by omega) hco (Nat.le_add_right _ _) (show nx' ≤ ra by omega) (show nx' ≤ rb by omega) ⟨by show nx' + 128 ≠ ra; omega, by show nx' + 128 ≠ rb; omega⟩ hno ?_ ?_).le (Nat.le_add_right _ _)
          · rw [hka mid (by omega) (by omega)]
            simp [upd_at, hm, hrm', ents]
          · intro j hj
            have h1 := names_lt hcs j hj
            have h2 : ¬ j = mid := fun e => mid_not hcs (e ▸ hj)
            have h3 : ¬ j = rk := fun e => by
              subst e
              simp only [names, List.mem_flatMap, List.mem_cons, List.not_mem_nil, or_false] at hj
              obtain ⟨c, hc, h5⟩ := hj
              have h6 := hcs.ok c hc
              rcases h5 with e | e | e
              · rw [e, h6.cell] at hkt; cases hkt
              · rw [e, h6.a] at hkt; simp at hkt
              · rw [e, h6.b] at hkt; simp at hkt
            have h4 : ∀ k, ¬ j = nx' + k := fun k => by omega
            rw [hka j (by omega) (h4 _)]
            simp [upd_at, h2, h3, h4]
        · rw [e1]; exact htab.more hno _ _ _
        · refine .inr ⟨rk, by omega, by omega, by simp, ?_⟩
          rw [hka _ (by omega) (by omega)]
          simp [upd_at]
  · have hd : decide ((i : Int) < (ls.length : Int)) = false := decide_eq_false (by omega)
    have hie : i = ls.length := by omega
    rw [hie, List.take_length] at htab
    repeat' (first | (simp -implicitDefEqProofs only [ze, Nat.reduceEqDiff, Nat.reduceAdd, Nat.reduceMul, reduceIte, Nat.reduceLT, Nat.reduceLeDiff, reduceCtorEq, Int.reduceEq, Int.reduceLT, Int.reduceLE, Int.reduceNeg, Int.reduceToNat, Nat.reduceBEq, Nat.reduceSub, qp, qf, kop, av, RQ, PQ, kres, kres1, kresL, fin, fins, fin1, V.pur?, V.pur1?, V.cells, kld, ones, V.one, Value.oneCell', own, owns, own1, xfill, ksrc, kint, vint, ksub, keqs, kok, V.val1?, ofRes, h14, h13, h6, h7, hd, k73_t0]) | (with_reducible refine wgd_cases ?_ ?_ <;> intro hb) | (with_reducible refine wcond_cases ?_ ?_ <;> intro hb) | (with_reducible refine qd_i (by kernel_rfl) ?_) | (with_reducible refine W_itn_cases ?_ ?_; omega))
    exact ⟨_, _, mid, cs, v, rfl, by omega, by omega, hcs.le (by omega), htab, hg.le (by omega)⟩
end Go.Proofs.YtkbheoganajhaaaDoor.Vm
set_option maxRecDepth 10000
set_option linter.unusedVariables false
set_option linter.unusedSimpArgs false
namespace Go.Proofs.YtkbheoganajhaaaDoor.Vm
open Go Go.Proofs
def okAt (ls : List Line) (k : ByteArray) : Bool := sumOk (selA ls k) 0 && sumOk (selB ls k) 0
def balS (ls : List Line) : Bool := ls.all fun l => okAt ls l.cur
def amts (ls : List Line) : Prop := ∀ l ∈ ls, i64r l.amt ∧ i64r l.base
theorem sel_mem {ls : List Line} (h : amts ls) (k : ByteArray) : (∀ x ∈ selA ls k, i64r x) ∧ ∀ x ∈ selB ls k, i64r x := by
  constructor
  · intro x hx
    simp only [selA, List.mem_map, List.mem_filter] at hx
    obtain ⟨l, ⟨hl, _⟩, rfl⟩ := hx
    exact (h l hl).1
  · intro x hx
    simp only [selB, List.mem_map, List.mem_filter] at hx
    obtain ⟨l, ⟨hl, _⟩, rfl⟩ := hx
    exact (h l hl).2
theorem balanced_ok (ls : List Line) (r : Nat) (ha : amts ls) (hl : ls.length < 1000000) : L.pl 47 [.list 61 (ls.map encL) r] = some (.ret (.bool (balS ls))) := by
  refine W_of (pl_w k47_eq ?_)
  simp only [k47]
  repeat' (first | (simp -implicitDefEqProofs only [ze, Nat.reduceEqDiff, Nat.reduceAdd, Nat.reduceMul, reduceIte, Nat.reduceLT, Nat.reduceLeDiff, reduceCtorEq, Int.reduceEq, Int.reduceLT, Int.reduceLE, Int.reduceNeg, Int.reduceToNat, Nat.reduceBEq, Nat.reduceSub, qp, qf, kop, av, RQ, PQ, kres, kres1, kresL, fin, fins, fin1, V.pur?, V.pur1?, V.cells, kld, ones, V.one, Value.oneCell', own, owns, own1, xfill, ksrc, kint, vint, ksub, keqs, kok, V.val1?, ofRes]) | (with_reducible refine wgd_cases ?_ ?_ <;> intro hb) | (with_reducible refine wcond_cases ?_ ?_ <;> intro hb) | (with_reducible refine qd_i (by kernel_rfl) ?_) | (with_reducible refine W_itn_cases ?_ ?_; omega))
  refine W_hp (columns_ok ls r (by omega) hl) ?_
  rintro _ ⟨st, nx, mid, cs, v, rfl, hnx, hcl, hcs, htab, hg⟩
  have hbal : (cs.all fun c => okAt ls c.key) = balS ls := by
    rw [Bool.eq_iff_iff, balS, List.all_eq_true, List.all_eq_true]
    constructor
    · intro h l hl
      obtain ⟨c, hc, hk⟩ := htab.b l hl
      rw [← hk]; exact h c hc
    · intro h c hc
      obtain ⟨_, _, l, hl, hk⟩ := htab.a c hc
      rw [← hk]; exact h l hl
  have hlenv : ∃ e xs rk, v = .list e xs rk ∧ xs.length = cs.length ∧ (∀ (i : Nat) (c : Col), cs[i]? = some c → e = 9 ∧ xs[i]? = some (V.str c.key)) := by
    rcases hg with ⟨h1, h2⟩ | ⟨rk, _, _, h3, _⟩
    · have : cs = [] := by simpa using h1
      subst this
      exact ⟨0, [], 1, h2, rfl, fun i c h => by simp at h⟩
    · exact ⟨_, _, rk, h3, by simp, fun i c h => ⟨rfl, by simp [h]⟩⟩
  obtain ⟨e, xs, rk, rfl, hxl, hxs⟩ := hlenv
  repeat' (first | (simp -implicitDefEqProofs only [ze, Nat.reduceEqDiff, Nat.reduceAdd, Nat.reduceMul, reduceIte, Nat.reduceLT, Nat.reduceLeDiff, reduceCtorEq, Int.reduceEq, Int.reduceLT, Int.reduceLE, Int.reduceNeg, Int.reduceToNat, Nat.reduceBEq, Nat.reduceSub, qp, qf, kop, av, RQ, PQ, kres, kres1, kresL, fin, fins, fin1, V.pur?, V.pur1?, V.cells, kld, ones, V.one, Value.oneCell', own, owns, own1, xfill, ksrc, kint, vint, ksub, keqs, kok, V.val1?, ofRes, hxl]) | (with_reducible refine wgd_cases ?_ ?_ <;> intro hb) | (with_reducible refine wcond_cases ?_ ?_ <;> intro hb) | (with_reducible refine qd_i (by kernel_rfl) ?_) | (with_reducible refine W_itn_cases ?_ ?_; omega))
  refine loop_w (fun n tm st' nx' => ∃ i : Nat, n = cs.length - i ∧ i ≤ cs.length ∧ tm 17 = .i64 i ∧ tm 16 = .i64 cs.length ∧ tm 15 = .list e xs rk ∧ tm 3 = .map mid ∧ st' = st ∧ nx ≤ nx' ∧ ∀ j, j < i → ∀ c, cs[j]? = some c → okAt ls c.key = true) cs.length ⟨0, by omega, by omega, ?_, ?_, ?_, ?_, rfl, by omega, by omega⟩ ?_
  · simp -implicitDefEqProofs only [ze, Nat.reduceEqDiff, Nat.reduceAdd, Nat.reduceMul, reduceIte, Nat.reduceLT, Nat.reduceLeDiff, reduceCtorEq, Int.reduceEq, Int.reduceLT, Int.reduceLE, Int.reduceNeg, Int.reduceToNat, Nat.reduceBEq, Nat.reduceSub, qp, qf, kop, av, RQ, PQ, kres, kres1, kresL, fin, fins, fin1, V.pur?, V.pur1?, V.cells, kld, ones, V.one, Value.oneCell', own, owns, own1, xfill, ksrc, kint, vint, ksub, keqs, kok, V.val1?, ofRes]; rfl
  · simp -implicitDefEqProofs only [ze, Nat.reduceEqDiff, Nat.reduceAdd, Nat.reduceMul, reduceIte, Nat.reduceLT, Nat.reduceLeDiff, reduceCtorEq, Int.reduceEq, Int.reduceLT, Int.reduceLE, Int.reduceNeg, Int.reduceToNat, Nat.reduceBEq, Nat.reduceSub, qp, qf, kop, av, RQ, PQ, kres, kres1, kresL, fin, fins, fin1, V.pur?, V.pur1?, V.cells, kld, ones, V.one, Value.oneCell', own, owns, own1, xfill, ksrc, kint, vint, ksub, keqs, kok, V.val1?, ofRes]
  · simp -implicitDefEqProofs only [ze, Nat.reduceEqDiff, Nat.reduceAdd, Nat.reduceMul, reduceIte, Nat.reduceLT, Nat.reduceLeDiff, reduceCtorEq, Int.reduceEq, Int.reduceLT, Int.reduceLE, Int.reduceNeg, Int.reduceToNat, Nat.reduceBEq, Nat.reduceSub, qp, qf, kop, av, RQ, PQ, kres, kres1, kresL, fin, fins, fin1, V.pur?, V.pur1?, V.cells, kld, ones, V.one, Value.oneCell', own, owns, own1, xfill, ksrc, kint, vint, ksub, keqs, kok, V.val1?, ofRes]
  · simp -implicitDefEqProofs only [ze, Nat.reduceEqDiff, Nat.reduceAdd, Nat.reduceMul, reduceIte, Nat.reduceLT, Nat.reduceLeDiff, reduceCtorEq, Int.reduceEq, Int.reduceLT, Int.reduceLE, Int.reduceNeg, Int.reduceToNat, Nat.reduceBEq, Nat.reduceSub, qp, qf, kop, av, RQ, PQ, kres, kres1, kresL, fin, fins, fin1, V.pur?, V.pur1?, V.cells, kld, ones, V.one, Value.oneCell', own, owns, own1, xfill, ksrc, kint, vint, ksub, keqs, kok, V.val1?, ofRes]
  rintro n tm st' nx' ⟨i, hn, hi2, h17, h16, h15, h3, rfl, hnx', hp⟩
  simp only [k47_l0]
  by_cases hlt : i < cs.length
  · obtain ⟨c, hc⟩ := get_lt hlt
    have hcm := List.mem_of_getElem? hc
    obtain ⟨he, hx⟩ := hxs i c hc
    subst he
    have hd : decide ((i : Int) < (cs.length : Int)) = true := decide_eq_true (by omega)
    have hco := hcs.ok c hcm
    obtain ⟨hA, hB, _⟩ := htab.a c hcm
    have hsm := sel_mem ha c.key
    have hsl := sel_len ls c.key
    have htb := hcs.tab
    obtain ⟨pre, post, hsplit⟩ := List.append_of_mem hcm
    have hf : ∃ j, mfind (.string c.key) (ents cs) 0 = some (some (j, V.ptr c.id 0)) := by
      subst hsplit
      refine ⟨_, find_yes pre c post 0 ?_⟩
      have := hcs.keys
      rw [List.map_append, List.nodup_append] at this
      intro d hd e
      exact this.2.2 d.key (List.mem_map_of_mem hd) c.key (by simp) e
    obtain ⟨j, hf⟩ := hf
    repeat' (first | (simp -implicitDefEqProofs only [ze, Nat.reduceEqDiff, Nat.reduceAdd, Nat.reduceMul, reduceIte, Nat.reduceLT, Nat.reduceLeDiff, reduceCtorEq, Int.reduceEq, Int.reduceLT, Int.reduceLE, Int.reduceNeg, Int.reduceToNat, Nat.reduceBEq, Nat.reduceSub, qp, qf, kop, av, RQ, PQ, kres, kres1, kresL, fin, fins, fin1, V.pur?, V.pur1?, V.cells, kld, ones, V.one, Value.oneCell', own, owns, own1, xfill, ksrc, kint, vint, ksub, keqs, kok, V.val1?, ofRes, h17, h16, h15, h3, hd, hx, htb, hf]) | (with_reducible refine wgd_cases ?_ ?_ <;> intro hb) | (with_reducible refine wcond_cases ?_ ?_ <;> intro hb) | (with_reducible refine qd_i (by kernel_rfl) ?_) | (with_reducible refine W_itn_cases ?_ ?_; omega))
    refine W_hp (both_ok (A := c.A) (B := c.B) (by have := hco.id_lt; omega) hco.cell (by rw [hA]; exact hsm.1) (by rw [hB]; exact hsm.2) (by rw [hA]; omega) (by rw [hB]; omega) 0 (by omega) (by omega)) ?_
    rintro _ ⟨na, rfl, hna⟩
    have hok : (sumOk c.A 0 && sumOk c.B 0) = okAt ls c.key := by rw [hA, hB]; rfl
    rw [hok]
    cases hokv : okAt ls c.key with
    | true =>
      repeat' (first | (simp -implicitDefEqProofs only [ze, Nat.reduceEqDiff, Nat.reduceAdd, Nat.reduceMul, reduceIte, Nat.reduceLT, Nat.reduceLeDiff, reduceCtorEq, Int.reduceEq, Int.reduceLT, Int.reduceLE, Int.reduceNeg, Int.reduceToNat, Nat.reduceBEq, Nat.reduceSub, qp, qf, kop, av, RQ, PQ, kres, kres1, kresL, fin, fins, fin1, V.pur?, V.pur1?, V.cells, kld, ones, V.one, Value.oneCell', own, owns, own1, xfill, ksrc, kint, vint, ksub, keqs, kok, V.val1?, ofRes, h17, h16, h15, h3]) | (with_reducible refine wgd_cases ?_ ?_ <;> intro hb) | (with_reducible refine wcond_cases ?_ ?_ <;> intro hb) | (with_reducible refine qd_i (by kernel_rfl) ?_) | (with_reducible refine W_itn_cases ?_ ?_; omega))
      refine ⟨cs.length - (i + 1), by omega, i + 1, rfl, by omega, up64 (by omega), by omega, fun j hj d hd2 => ?_⟩
      rcases Nat.lt_succ_iff_lt_or_eq.mp hj with h | rfl
      · exact hp j h d hd2
      · rw [hc] at hd2; obtain rfl := Option.some.inj hd2; exact hokv
    | false =>
      repeat' (first | (simp -implicitDefEqProofs only [ze, Nat.reduceEqDiff, Nat.reduceAdd, Nat.reduceMul, reduceIte, Nat.reduceLT, Nat.reduceLeDiff, reduceCtorEq, Int.reduceEq, Int.reduceLT, Int.reduceLE, Int.reduceNeg, Int.reduceToNat, Nat.reduceBEq, Nat.reduceSub, qp, qf, kop, av, RQ, PQ, kres, kres1, kresL, fin, fins, fin1, V.pur?, V.pur1?, V.cells, kld, ones, V.one, Value.oneCell', own, owns, own1, xfill, ksrc, kint, vint, ksub, keqs, kok, V.val1?, ofRes, h17, h16, h15, h3]) | (with_reducible refine wgd_cases ?_ ?_ <;> intro hb) | (with_reducible refine wcond_cases ?_ ?_ <;> intro hb) | (with_reducible refine qd_i (by kernel_rfl) ?_) | (with_reducible refine W_itn_cases ?_ ?_; omega))
      exact ret_b (by rw [← hbal]; exact (all_not hc hokv).symm)
  · have hd : decide ((i : Int) < (cs.length : Int)) = false := decide_eq_false (by omega)
    repeat' (first | (simp -implicitDefEqProofs only [ze, Nat.reduceEqDiff, Nat.reduceAdd, Nat.reduceMul, reduceIte, Nat.reduceLT, Nat.reduceLeDiff, reduceCtorEq, Int.reduceEq, Int.reduceLT, Int.reduceLE, Int.reduceNeg, Int.reduceToNat, Nat.reduceBEq, Nat.reduceSub, qp, qf, kop, av, RQ, PQ, kres, kres1, kresL, fin, fins, fin1, V.pur?, V.pur1?, V.cells, kld, ones, V.one, Value.oneCell', own, owns, own1, xfill, ksrc, kint, vint, ksub, keqs, kok, V.val1?, ofRes, h17, h16, hd, k47_t0]) | (with_reducible refine wgd_cases ?_ ?_ <;> intro hb) | (with_reducible refine wcond_cases ?_ ?_ <;> intro hb) | (with_reducible refine qd_i (by kernel_rfl) ?_) | (with_reducible refine W_itn_cases ?_ ?_; omega))
    refine ret_b ?_
    rw [← hbal]
    exact (all_get fun j hj c hc => hp j (by omega) c hc).symm
def firstS : List Line → Nat → Option (Nat × Int)
  | [], _ => none
  | l :: r, i => if lineS l = 0 then firstS r (i + 1) else some (i, lineS l)
def checkS (e : Entry) : Int × Int :=
  if headS e = 0 then (match firstS e.lines 0 with
    | some (i, er) => ((i : Int), er)
    | none => if balS e.lines then (-1, 0) else (-1, 15))
  else (-1, headS e)
theorem first_none : ∀ (l : List Line) (k : Nat), (∀ j, j < l.length → ∀ x, l[j]? = some x → lineS x = 0) → firstS l k = none
  | [], _, _ => rfl
  | x :: r, k, h => by
    have h0 := h 0 (by simp) x rfl
    rw [firstS, if_pos h0]
    exact first_none r (k + 1) fun j hj y hy => h (j + 1) (by simpa using hj) y (by simpa using hy)
theorem first_some : ∀ (l : List Line) (k i : Nat) (x : Line), (∀ j, j < i → ∀ y, l[j]? = some y → lineS y = 0) → l[i]? = some x → ¬ lineS x = 0 → firstS l k = some (k + i, lineS x)
  | [], _, _, _, _, h, _ => by simp at h
  | y :: r, k, 0, x, _, h, hx => by
    have : y = x := by simpa using h
    subst this
    rw [firstS, if_neg hx]; rfl
  | y :: r, k, i + 1, x, hp, h, hx => by
    have h0 := hp 0 (by omega) y rfl
    rw [firstS, if_pos h0, first_some r (k + 1) i x (fun j hj z hz => hp (j + 1) (by omega) z (by simpa using hz)) (by simpa using h) hx]
    congr 2; omega
theorem check_ok (e : Entry) (hs : smallE e) (ha : amts e.lines) : L.pl 27 [encE e] = some (.ret (.tup [.i64 (checkS e).1, .i64 (checkS e).2])) := by
  have hh := head_ok e hs
  simp only [encE] at hh
  refine W_of (pl_w k27_eq ?_)
  simp only [k27, encE]
  by_cases h0 : headS e = 0
  · have hd0 : decide (headS e = 0) = true := decide_eq_true h0
    have hlen : e.lines.length ≤ 100 := by
      unfold headS at h0
      repeat' (split at h0 <;> first | omega | skip)
    have hlr : e.lr = false := by
      cases h : e.lr
      · rfl
      · have h1 := hs.nil h
        unfold headS at h0
        rw [h1] at h0
        repeat' (split at h0 <;> first | omega | skip)
        all_goals simp_all
    rw [hlr] at hh ⊢
    simp only [te_f] at hh ⊢
    have hbl := balanced_ok e.lines (nr false) ha (by omega)
    repeat' (first | (simp -implicitDefEqProofs only [ze, Nat.reduceEqDiff, Nat.reduceAdd, Nat.reduceMul, reduceIte, Nat.reduceLT, Nat.reduceLeDiff, reduceCtorEq, Int.reduceEq, Int.reduceLT, Int.reduceLE, Int.reduceNeg, Int.reduceToNat, Nat.reduceBEq, Nat.reduceSub, qp, qf, kop, av, RQ, PQ, kres, kres1, kresL, fin, fins, fin1, V.pur?, V.pur1?, V.cells, kld, ones, V.one, Value.oneCell', own, owns, own1, xfill, ksrc, kint, vint, ksub, keqs, kok, V.val1?, ofRes, hh, nr_pur, h0, List.length_map]) | (with_reducible refine wgd_cases ?_ ?_ <;> intro hb) | (with_reducible refine wcond_cases ?_ ?_ <;> intro hb) | (with_reducible refine qd_i (by kernel_rfl) ?_) | (with_reducible refine W_itn_cases ?_ ?_; omega))
    refine loop_w (fun n tm st nx => ∃ i : Nat, n = e.lines.length - i ∧ i ≤ e.lines.length ∧ tm 16 = .i64 i ∧ tm 15 = .i64 e.lines.length ∧ tm 14 = .list 61 (e.lines.map encL) (nr false) ∧ tm 1 = .ptr 8 0 ∧ 9 ≤ nx ∧ st 8 = some (.cells [.i64 e.no, .str e.ent, .i64 e.book, .i64 e.val, .i64 e.kind, .str e.ref, .str e.who, .i64 e.rev, .list 61 (e.lines.map encL) (nr false)]) ∧
      ∀ j, j < i → ∀ x, e.lines[j]? = some x → lineS x = 0) e.lines.length ⟨0, by omega, by omega, ?_, ?_, ?_, ?_, by omega, ?_, by omega⟩ ?_
    · simp -implicitDefEqProofs only [ze, Nat.reduceEqDiff, Nat.reduceAdd, Nat.reduceMul, reduceIte, Nat.reduceLT, Nat.reduceLeDiff, reduceCtorEq, Int.reduceEq, Int.reduceLT, Int.reduceLE, Int.reduceNeg, Int.reduceToNat, Nat.reduceBEq, Nat.reduceSub, qp, qf, kop, av, RQ, PQ, kres, kres1, kresL, fin, fins, fin1, V.pur?, V.pur1?, V.cells, kld, ones, V.one, Value.oneCell', own, owns, own1, xfill, ksrc, kint, vint, ksub, keqs, kok, V.val1?, ofRes]; rfl
    · simp -implicitDefEqProofs only [ze, Nat.reduceEqDiff, Nat.reduceAdd, Nat.reduceMul, reduceIte, Nat.reduceLT, Nat.reduceLeDiff, reduceCtorEq, Int.reduceEq, Int.reduceLT, Int.reduceLE, Int.reduceNeg, Int.reduceToNat, Nat.reduceBEq, Nat.reduceSub, qp, qf, kop, av, RQ, PQ, kres, kres1, kresL, fin, fins, fin1, V.pur?, V.pur1?, V.cells, kld, ones, V.one, Value.oneCell', own, owns, own1, xfill, ksrc, kint, vint, ksub, keqs, kok, V.val1?, ofRes]
    · simp -implicitDefEqProofs only [ze, Nat.reduceEqDiff, Nat.reduceAdd, Nat.reduceMul, reduceIte, Nat.reduceLT, Nat.reduceLeDiff, reduceCtorEq, Int.reduceEq, Int.reduceLT, Int.reduceLE, Int.reduceNeg, Int.reduceToNat, Nat.reduceBEq, Nat.reduceSub, qp, qf, kop, av, RQ, PQ, kres, kres1, kresL, fin, fins, fin1, V.pur?, V.pur1?, V.cells, kld, ones, V.one, Value.oneCell', own, owns, own1, xfill, ksrc, kint, vint, ksub, keqs, kok, V.val1?, ofRes]
    · simp -implicitDefEqProofs only [ze, Nat.reduceEqDiff, Nat.reduceAdd, Nat.reduceMul, reduceIte, Nat.reduceLT, Nat.reduceLeDiff, reduceCtorEq, Int.reduceEq, Int.reduceLT, Int.reduceLE, Int.reduceNeg, Int.reduceToNat, Nat.reduceBEq, Nat.reduceSub, qp, qf, kop, av, RQ, PQ, kres, kres1, kresL, fin, fins, fin1, V.pur?, V.pur1?, V.cells, kld, ones, V.one, Value.oneCell', own, owns, own1, xfill, ksrc, kint, vint, ksub, keqs, kok, V.val1?, ofRes]
    · simp -implicitDefEqProofs only [ze, Nat.reduceEqDiff, Nat.reduceAdd, Nat.reduceMul, reduceIte, Nat.reduceLT, Nat.reduceLeDiff, reduceCtorEq, Int.reduceEq, Int.reduceLT, Int.reduceLE, Int.reduceNeg, Int.reduceToNat, Nat.reduceBEq, Nat.reduceSub, qp, qf, kop, av, RQ, PQ, kres, kres1, kresL, fin, fins, fin1, V.pur?, V.pur1?, V.cells, kld, ones, V.one, Value.oneCell', own, owns, own1, xfill, ksrc, kint, vint, ksub, keqs, kok, V.val1?, ofRes]
    rintro n tm st nx ⟨i, hn, hi2, h16, h15, h14, h1, hnx, hst, hp⟩
    simp only [k27_l0]
    have hnx8 : ∀ j, (8 = nx + j) = False := fun j => eq_false (by omega)
    by_cases hlt : i < e.lines.length
    · obtain ⟨l, hl⟩ := get_lt hlt
      have hd : decide ((i : Int) < (e.lines.length : Int)) = true := decide_eq_true (by omega)
      have hli := line_ok l (hs.lines l (List.mem_of_getElem? hl))
      simp only [encL] at hli
      by_cases hz : lineS l = 0
      · have hdz : decide (lineS l = 0) = true := decide_eq_true hz
        repeat' (first | (simp -implicitDefEqProofs only [ze, Nat.reduceEqDiff, Nat.reduceAdd, Nat.reduceMul, reduceIte, Nat.reduceLT, Nat.reduceLeDiff, reduceCtorEq, Int.reduceEq, Int.reduceLT, Int.reduceLE, Int.reduceNeg, Int.reduceToNat, Nat.reduceBEq, Nat.reduceSub, qp, qf, kop, av, RQ, PQ, kres, kres1, kresL, fin, fins, fin1, V.pur?, V.pur1?, V.cells, kld, ones, V.one, Value.oneCell', own, owns, own1, xfill, ksrc, kint, vint, ksub, keqs, kok, V.val1?, ofRes, h16, h15, h14, h1, hd, hl, encL, nr_pur, hli, hdz, hnx8, hst]) | (with_reducible refine wgd_cases ?_ ?_ <;> intro hb) | (with_reducible refine wcond_cases ?_ ?_ <;> intro hb) | (with_reducible refine qd_i (by kernel_rfl) ?_) | (with_reducible refine W_itn_cases ?_ ?_; omega))
        refine ⟨e.lines.length - (i + 1), by omega, i + 1, rfl, by omega, up64 (by omega), fun j hj x hx => ?_⟩
        rcases Nat.lt_succ_iff_lt_or_eq.mp hj with h | rfl
        · exact hp j h x hx
        · rw [hl] at hx; obtain rfl := Option.some.inj hx; exact hz
      · have hdz : decide (lineS l = 0) = false := decide_eq_false hz
        repeat' (first | (simp -implicitDefEqProofs only [ze, Nat.reduceEqDiff, Nat.reduceAdd, Nat.reduceMul, reduceIte, Nat.reduceLT, Nat.reduceLeDiff, reduceCtorEq, Int.reduceEq, Int.reduceLT, Int.reduceLE, Int.reduceNeg, Int.reduceToNat, Nat.reduceBEq, Nat.reduceSub, qp, qf, kop, av, RQ, PQ, kres, kres1, kresL, fin, fins, fin1, V.pur?, V.pur1?, V.cells, kld, ones, V.one, Value.oneCell', own, owns, own1, xfill, ksrc, kint, vint, ksub, keqs, kok, V.val1?, ofRes, h16, h15, h14, h1, hd, hl, encL, nr_pur, hli, hdz, hnx8, hst]) | (with_reducible refine wgd_cases ?_ ?_ <;> intro hb) | (with_reducible refine wcond_cases ?_ ?_ <;> intro hb) | (with_reducible refine qd_i (by kernel_rfl) ?_) | (with_reducible refine W_itn_cases ?_ ?_; omega))
        have hfs := first_some e.lines 0 i l (fun j hj y hy => hp j hj y hy) hl hz
        rw [Nat.zero_add] at hfs
        simp only [checkS, h0, if_true, hfs]
    · have hd : decide ((i : Int) < (e.lines.length : Int)) = false := decide_eq_false (by omega)
      have hfn := first_none e.lines 0 fun j hj x hx => hp j (by omega) x hx
      repeat' (first | (simp -implicitDefEqProofs only [ze, Nat.reduceEqDiff, Nat.reduceAdd, Nat.reduceMul, reduceIte, Nat.reduceLT, Nat.reduceLeDiff, reduceCtorEq, Int.reduceEq, Int.reduceLT, Int.reduceLE, Int.reduceNeg, Int.reduceToNat, Nat.reduceBEq, Nat.reduceSub, qp, qf, kop, av, RQ, PQ, kres, kres1, kresL, fin, fins, fin1, V.pur?, V.pur1?, V.cells, kld, ones, V.one, Value.oneCell', own, owns, own1, xfill, ksrc, kint, vint, ksub, keqs, kok, V.val1?, ofRes, h16, h15, h14, h1, hd, hst, hbl, nr_pur, k27_t0]) | (with_reducible refine wgd_cases ?_ ?_ <;> intro hb) | (with_reducible refine wcond_cases ?_ ?_ <;> intro hb) | (with_reducible refine qd_i (by kernel_rfl) ?_) | (with_reducible refine W_itn_cases ?_ ?_; omega))
      all_goals simp_all [checkS]
  · have hd0 : decide (headS e = 0) = false := decide_eq_false h0
    repeat' (first | (simp -implicitDefEqProofs only [ze, Nat.reduceEqDiff, Nat.reduceAdd, Nat.reduceMul, reduceIte, Nat.reduceLT, Nat.reduceLeDiff, reduceCtorEq, Int.reduceEq, Int.reduceLT, Int.reduceLE, Int.reduceNeg, Int.reduceToNat, Nat.reduceBEq, Nat.reduceSub, qp, qf, kop, av, RQ, PQ, kres, kres1, kresL, fin, fins, fin1, V.pur?, V.pur1?, V.cells, kld, ones, V.one, Value.oneCell', own, owns, own1, xfill, ksrc, kint, vint, ksub, keqs, kok, V.val1?, ofRes, hh, nr_pur, hd0]) | (with_reducible refine wgd_cases ?_ ?_ <;> intro hb) | (with_reducible refine wcond_cases ?_ ?_ <;> intro hb) | (with_reducible refine qd_i (by kernel_rfl) ?_) | (with_reducible refine W_itn_cases ?_ ?_; omega))
    all_goals simp_all [checkS]
end Go.Proofs.YtkbheoganajhaaaDoor.Vm
set_option maxRecDepth 10000
set_option linter.unusedVariables false
set_option linter.unusedSimpArgs false
namespace Go.Proofs.YtkbheoganajhaaaDoor.Vm
open Go Go.Proofs
theorem ch_pr (b : UInt8) (h : isCh b = true) : isPr b = true := by
  simp only [isCh, isLet, isDig, isPr, Bool.or_eq_true, Bool.and_eq_true, decide_eq_true_eq] at h ⊢; omega
theorem code_plain {s : ByteArray} (h : codeS s = true) : plainS s = true := by
  simp only [codeS, Bool.and_eq_true, decide_eq_true_eq] at h
  simp only [plainS, Bool.and_eq_true, decide_eq_true_eq]
  refine ⟨by omega, ?_⟩
  rw [List.all_eq_true] at h ⊢
  exact fun b hb => ch_pr b (h.2 b hb)
theorem empty_plain {s : ByteArray} (h : s.size = 0) : plainS s = true := by
  rw [size_zero.mpr h]; rfl
theorem opt_plain {s : ByteArray} (h : optS s = true) : plainS s = true := by
  simp only [optS, Bool.or_eq_true, decide_eq_true_eq] at h
  rcases h with h | h
  · exact empty_plain h
  · exact code_plain h
theorem cur_plain {s : ByteArray} (h : curS s = true) : plainS s = true := by
  simp only [curS, Bool.and_eq_true, decide_eq_true_eq] at h
  simp only [plainS, Bool.and_eq_true, decide_eq_true_eq]
  refine ⟨by omega, ?_⟩
  rw [List.all_eq_true] at h ⊢
  intro b hb
  have := h.2 b hb
  simp only [isUp, isPr, Bool.and_eq_true, decide_eq_true_eq] at this ⊢; omega
theorem line_plain {l : Line} (h : lineS l = 0) (ha : i64r l.amt ∧ i64r l.base) (hn : nilL l) : plainL l := by
  unfold lineS at h
  split at h
  · cases h
  split at h
  · cases h
  split at h
  · cases h
  split at h
  · cases h
  split at h
  · cases h
  rename_i h1 h2 h3 h4 h5
  simp only [Bool.not_eq_false, Bool.and_eq_true] at h1 h2 h3 h5
  simp only [rightS, Bool.and_eq_true, decide_eq_true_eq] at h5
  refine ⟨code_plain h1.1.1, cur_plain h2, ha.1, ha.2, opt_plain h1.1.2, opt_plain h1.2, fun t ht => ?_, by omega, hn⟩
  obtain ⟨j, hj, rfl⟩ := List.getElem_of_mem ht
  have h6 := List.all_eq_true.mp h5.2 j (List.mem_range.mpr hj)
  simp only [tagAt, List.getElem?_eq_getElem hj, Bool.and_eq_true, tagS] at h6
  exact ⟨code_plain h6.1.1, code_plain h6.1.2⟩
theorem first_all : ∀ (l : List Line) (k : Nat), firstS l k = none → ∀ x ∈ l, lineS x = 0
  | [], _, _ => by simp
  | y :: r, k, h => by
    unfold firstS at h
    split at h
    · rename_i h0
      intro x hx
      rcases List.mem_cons.mp hx with rfl | hx
      · exact h0
      · exact first_all r (k + 1) h x hx
    · cases h
structure rangeE (e : Entry) : Prop where
  no : i64r e.no
  book : i64r e.book
  val : i64r e.val
  kind : i64r e.kind
  rev : i64r e.rev
  amts : amts e.lines
theorem check_plain {e : Entry} (h : (checkS e).2 = 0) (hr : rangeE e) (hn : nilE e) : plainE e := by
  unfold checkS at h
  split at h
  · rename_i h0
    have hfn : firstS e.lines 0 = none := by
      split at h
      · rename_i i er hf
        exfalso
        have : ∀ (l : List Line) (k : Nat), firstS l k = some (i, er) → ¬ er = 0 := by
          intro l
          induction l with
          | nil => intro k h; cases h
          | cons y r ih =>
            intro k h
            unfold firstS at h
            split at h
            · exact ih _ h
            · rename_i hy; simp only [Option.some.injEq, Prod.mk.injEq] at h; rw [← h.2]; exact hy
        exact this _ _ hf h
      · assumption
    have hl := first_all _ _ hfn
    unfold headS at h0
    split at h0
    · cases h0
    split at h0
    · cases h0
    split at h0
    · cases h0
    split at h0
    · cases h0
    split at h0
    · cases h0
    split at h0
    · cases h0
    split at h0
    · cases h0
    rename_i h1 h2 h3 h4 h5 h6 h7
    simp only [Bool.not_eq_false, Bool.and_eq_true] at h2 h5
    exact ⟨hr.no, code_plain h2.1, hr.book, hr.val, hr.kind, h5, code_plain h2.2, hr.rev, fun l hl2 => line_plain (hl l hl2) (hr.amts l hl2) (hn.2 l hl2), by omega, hn.1⟩
  · rename_i h0; exact absurd h h0
end Go.Proofs.YtkbheoganajhaaaDoor.Vm
set_option maxRecDepth 10000
set_option linter.unusedVariables false
set_option linter.unusedSimpArgs false
namespace Go.Proofs.YtkbheoganajhaaaDoor.Vm
open Go Go.Proofs
def sB (l : List Int) : ByteArray := ⟨(l.map fun n => UInt8.ofNat n.toNat).toArray⟩
theorem bytesOfV_bv : ∀ l : List Int, bytesOfV (bv l) = some (l.map fun n => UInt8.ofNat n.toNat)
  | [] => rfl
  | x :: r => by
    have e : bv (x :: r) = V.sc (.int .u8 x) :: bv r := rfl
    rw [e, bytesOfV, bytesOfV_bv r]; rfl
def inR (l : List Int) : Prop := ∀ b ∈ l, 0 ≤ b ∧ b < 256
theorem sB_inj {a b : List Int} (ha : inR a) (hb : inR b) (h : sB a = sB b) : a = b := by
  have h1 : (a.map fun n => UInt8.ofNat n.toNat) = b.map fun n => UInt8.ofNat n.toNat := by
    have := congrArg ByteArray.data h
    have := congrArg Array.toList this
    simpa [sB] using this
  have back : ∀ l : List Int, inR l → ((l.map fun n => UInt8.ofNat n.toNat).map fun b : UInt8 => (b.toNat : Int)) = l := by
    intro l hl
    rw [List.map_map]
    conv => rhs; rw [← List.map_id l]
    apply List.map_congr_left
    intro x hx
    have := hl x hx
    show ((UInt8.ofNat x.toNat).toNat : Int) = x
    simp only [UInt8.toNat_ofNat']
    omega
  rw [← back a ha, ← back b hb, h1]
theorem putS_inR (n : Int) (h : i64r n) : inR (Co.putS n) := fun b hb => Co.vL_range 10 _ (Co.zz_range n h.1 h.2).1 b hb
theorem inR_app {a b : List Int} (ha : inR a) (hb : inR b) : inR (a ++ b) := fun x hx => (List.mem_append.mp hx).elim (ha x) (hb x)
theorem ptB_inR {s : ByteArray} (h : plainS s = true) : inR (ptB s) := inR_app (putS_inR _ ⟨by omega, by have := plain_size h; omega⟩) (Co.bytes_range s)
theorem tagsB_inR {l : List Tag} (h : ∀ t ∈ l, plainS t.n = true ∧ plainS t.v = true) : inR (tagsB l) := fun b hb => by
  simp only [tagsB, List.mem_flatMap] at hb
  obtain ⟨t, ht, hb⟩ := hb
  exact inR_app (ptB_inR (h t ht).1) (ptB_inR (h t ht).2) b hb
theorem lineB_inR {l : Line} (h : plainL l) : inR (lineB l) := by
  have := h.len
  exact inR_app (inR_app (inR_app (inR_app (inR_app (inR_app (inR_app (ptB_inR h.acc) (ptB_inR h.cur)) (putS_inR _ h.amt)) (putS_inR _ h.base)) (ptB_inR h.par)) (ptB_inR h.pty)) (putS_inR _ ⟨by omega, by omega⟩)) (tagsB_inR h.tags)
theorem entryB_inR {e : Entry} (h : plainE e) : inR (entryB e) := by
  have := h.len
  refine inR_app (inR_app (inR_app (inR_app (inR_app (inR_app (inR_app (inR_app (inR_app (putS_inR _ h.no) (ptB_inR h.ent)) (putS_inR _ h.book)) (putS_inR _ h.val)) (putS_inR _ h.kind)) (ptB_inR h.ref)) (ptB_inR h.who)) (putS_inR _ h.rev)) (putS_inR _ ⟨by omega, by omega⟩)) ?_
  intro b hb
  simp only [linesB, List.mem_flatMap] at hb
  obtain ⟨l, hl, hb⟩ := hb
  exact lineB_inR (h.lines l hl) b hb
end Go.Proofs.YtkbheoganajhaaaDoor.Vm
set_option linter.unusedVariables false
set_option linter.unusedSimpArgs false
namespace Go.Proofs.YtkbheoganajhaaaDoor.Vm
open Go.ChangeShapes Go.WideShapes Go.ChangeAt Go.RowKit Go.Proofs
theorem RepPs.last {P : Program} {p : Pr} {cs : List Value} {o n : Nat} {xs : List V} (ha : RepPs P p xs ((cs.drop o).take n)) (hl : cs.length ≤ o + n) : RepPs P p xs (cs.drop o) := by
  rwa [List.take_of_length_le (by rw [List.length_drop]; omega)] at ha
def gT (t : Tag) : Prop := t.n.size ≤ reachBytes ∧ t.v.size ≤ reachBytes
section
variable {H : Type} {enc : TypeId × Value → H}
theorem opTag : OpV enc Tryd.prog 97 encT gT := by
  intro w base spare held fuel cs x h hR
  obtain ⟨n, hl, hf⟩ := opV_fields Tryd.underlying97 h hR
  have hl : cs.length = 2 := hl.trans (by kernel_rfl)
  obtain ⟨y0, t0, w0⟩ := hf 0 _ rfl
  obtain ⟨x0, K0, o0, g0⟩ := opV_string Tryd.underlying9 t0 w0
  obtain ⟨y1, t1, w1⟩ := hf 1 _ rfl
  obtain ⟨x1, K1, o1, g1⟩ := opV_string Tryd.underlying9 t1 w1
  refine ⟨⟨x0, x1⟩, ?_, rfl, g0, g1⟩
  exact RepPs.step (o := 0) (m := 1) K0 (by kernel_rfl) (RepPs.last K1 (by rw [hl]; exact Nat.le_of_eq (by kernel_rfl)))
def gL (l : Line) : Prop := l.tr = false ∧ l.acc.size ≤ reachBytes ∧ l.cur.size ≤ reachBytes ∧ (Lit.int .i64 l.amt).wf = true ∧ (Lit.int .i64 l.base).wf = true ∧ l.par.size ≤ reachBytes ∧ l.pty.size ≤ reachBytes ∧ l.tags.length ≤ reachBytes ∧ ∀ t ∈ l.tags, gT t
theorem encT_len (t : Tag) : (encT t).cells.length = 2 := rfl
theorem encL_len (l : Line) : (encL l).cells.length = 7 := rfl
theorem opTags : OpV enc Tryd.prog 59 (fun (l : List Tag) => V.list 97 (l.map encT) 0) (fun (l : List Tag) => l.length ≤ reachBytes ∧ ∀ x ∈ l, gT x) :=
  opV_slice Tryd.underlying59 opTag (s := 2) (by kernel_rfl) (by kernel_rfl) encT_len (of_decide_eq_true (by kernel_rfl))
theorem opLine : OpV enc Tryd.prog 61 encL gL := by
  intro w base spare held fuel cs x h hR
  obtain ⟨n, hl, hf⟩ := opV_fields Tryd.underlying61 h hR
  have hl : cs.length = 7 := hl.trans (by kernel_rfl)
  obtain ⟨y0, t0, w0⟩ := hf 0 _ rfl
  obtain ⟨x0, K0, o0, g0⟩ := opV_string Tryd.underlying9 t0 w0
  obtain ⟨y1, t1, w1⟩ := hf 1 _ rfl
  obtain ⟨x1, K1, o1, g1⟩ := opV_string Tryd.underlying9 t1 w1
  obtain ⟨y2, t2, w2⟩ := hf 2 _ rfl
  obtain ⟨x2, K2, o2, g2⟩ := opV_int Tryd.underlying3 t2 w2
  obtain ⟨y3, t3, w3⟩ := hf 3 _ rfl
  obtain ⟨x3, K3, o3, g3⟩ := opV_int Tryd.underlying3 t3 w3
  obtain ⟨y4, t4, w4⟩ := hf 4 _ rfl
  obtain ⟨x4, K4, o4, g4⟩ := opV_string Tryd.underlying9 t4 w4
  obtain ⟨y5, t5, w5⟩ := hf 5 _ rfl
  obtain ⟨x5, K5, o5, g5⟩ := opV_string Tryd.underlying9 t5 w5
  obtain ⟨y6, t6, w6⟩ := hf 6 _ rfl
  obtain ⟨x6, K6, o6, g6⟩ := opTags t6 w6
  refine ⟨⟨x0, x1, x2, x3, x4, x5, x6, false⟩, ?_, rfl, rfl, g0, g1, g2, g3, g4, g5, g6.1, g6.2⟩
  exact RepPs.step (o := 0) (m := 1) K0 (by kernel_rfl) (RepPs.step (o := 1) (m := 2) K1 (by kernel_rfl) (RepPs.step (o := 2) (m := 3) K2 (by kernel_rfl) (RepPs.step (o := 3) (m := 4) K3 (by kernel_rfl) (RepPs.step (o := 4) (m := 5) K4 (by kernel_rfl) (RepPs.step (o := 5) (m := 6) K5 (by kernel_rfl) (RepPs.last K6 (by rw [hl]; exact Nat.le_of_eq (by kernel_rfl))))))))
def gE (e : Entry) : Prop := e.lr = false ∧ (Lit.int .i64 e.no).wf = true ∧ e.ent.size ≤ reachBytes ∧ (Lit.int .i64 e.book).wf = true ∧ (Lit.int .i64 e.val).wf = true ∧ (Lit.int .i64 e.kind).wf = true ∧ e.ref.size ≤ reachBytes ∧ e.who.size ≤ reachBytes ∧ (Lit.int .i64 e.rev).wf = true ∧ e.lines.length ≤ reachBytes ∧ ∀ l ∈ e.lines, gL l
theorem opLines : OpV enc Tryd.prog 29 (fun (l : List Line) => V.list 61 (l.map encL) 0) (fun (l : List Line) => l.length ≤ reachBytes ∧ ∀ x ∈ l, gL x) :=
  opV_slice Tryd.underlying29 opLine (s := 7) (by kernel_rfl) (by kernel_rfl) encL_len (of_decide_eq_true (by kernel_rfl))
theorem opEntry : OpV enc Tryd.prog 31 encE gE := by
  intro w base spare held fuel cs x h hR
  obtain ⟨n, hl, hf⟩ := opV_fields Tryd.underlying31 h hR
  have hl : cs.length = 9 := hl.trans (by kernel_rfl)
  obtain ⟨y0, t0, w0⟩ := hf 0 _ rfl
  obtain ⟨x0, K0, o0, g0⟩ := opV_int Tryd.underlying3 t0 w0
  obtain ⟨y1, t1, w1⟩ := hf 1 _ rfl
  obtain ⟨x1, K1, o1, g1⟩ := opV_string Tryd.underlying9 t1 w1
  obtain ⟨y2, t2, w2⟩ := hf 2 _ rfl
  obtain ⟨x2, K2, o2, g2⟩ := opV_int Tryd.underlying3 t2 w2
  obtain ⟨y3, t3, w3⟩ := hf 3 _ rfl
  obtain ⟨x3, K3, o3, g3⟩ := opV_int Tryd.underlying3 t3 w3
  obtain ⟨y4, t4, w4⟩ := hf 4 _ rfl
  obtain ⟨x4, K4, o4, g4⟩ := opV_int Tryd.underlying3 t4 w4
  obtain ⟨y5, t5, w5⟩ := hf 5 _ rfl
  obtain ⟨x5, K5, o5, g5⟩ := opV_string Tryd.underlying9 t5 w5
  obtain ⟨y6, t6, w6⟩ := hf 6 _ rfl
  obtain ⟨x6, K6, o6, g6⟩ := opV_string Tryd.underlying9 t6 w6
  obtain ⟨y7, t7, w7⟩ := hf 7 _ rfl
  obtain ⟨x7, K7, o7, g7⟩ := opV_int Tryd.underlying3 t7 w7
  obtain ⟨y8, t8, w8⟩ := hf 8 _ rfl
  obtain ⟨x8, K8, o8, g8⟩ := opLines t8 w8
  refine ⟨⟨x0, x1, x2, x3, x4, x5, x6, x7, x8, false⟩, ?_, rfl, rfl, g0, g1, g2, g3, g4, g5, g6, g7, g8.1, g8.2⟩
  exact RepPs.step (o := 0) (m := 1) K0 (by kernel_rfl) (RepPs.step (o := 1) (m := 2) K1 (by kernel_rfl) (RepPs.step (o := 2) (m := 3) K2 (by kernel_rfl) (RepPs.step (o := 3) (m := 4) K3 (by kernel_rfl) (RepPs.step (o := 4) (m := 5) K4 (by kernel_rfl) (RepPs.step (o := 5) (m := 6) K5 (by kernel_rfl) (RepPs.step (o := 6) (m := 7) K6 (by kernel_rfl) (RepPs.step (o := 7) (m := 8) K7 (by kernel_rfl) (RepPs.last K8 (by rw [hl]; exact Nat.le_of_eq (by kernel_rfl))))))))))
end
theorem small_of {s : ByteArray} (h : s.size ≤ reachBytes) : small s := by unfold small; have : reachBytes = 140737488351232 := rfl; omega
theorem wf_r {a : Int} (h : (Lit.int .i64 a).wf = true) : i64r a := by
  have h1 : IntKind.i64.min = -9223372036854775808 := rfl
  have h2 : IntKind.i64.max = 9223372036854775807 := rfl
  simp only [Lit.wf, Bool.and_eq_true, decide_eq_true_eq] at h
  unfold i64r; omega
theorem gL_small {l : Line} (h : gL l) : smallL l := by
  have hr : reachBytes = 140737488351232 := rfl
  obtain ⟨hn, h⟩ := h
  exact ⟨small_of h.1, small_of h.2.1, small_of h.2.2.2.2.1, small_of h.2.2.2.2.2.1, fun t ht => ⟨small_of (h.2.2.2.2.2.2.2 t ht).1, small_of (h.2.2.2.2.2.2.2 t ht).2⟩, by have := h.2.2.2.2.2.2.1; omega, fun h2 => by rw [hn] at h2; cases h2⟩
theorem gE_small {e : Entry} (h : gE e) : smallE e := by
  have hr : reachBytes = 140737488351232 := rfl
  obtain ⟨hn, h0, h1, h2, h3, h4, h5, h6, h7, h8, h9⟩ := h
  exact ⟨small_of h1, small_of h5, small_of h6, fun l hl => gL_small (h9 l hl), by omega, fun h2 => by rw [hn] at h2; cases h2⟩
theorem gE_range {e : Entry} (h : gE e) : rangeE e := by
  obtain ⟨hn, h0, h1, h2, h3, h4, h5, h6, h7, h8, h9⟩ := h
  exact ⟨wf_r h0, wf_r h2, wf_r h3, wf_r h4, wf_r h7, fun l hl => ⟨wf_r (h9 l hl).2.2.2.1, wf_r (h9 l hl).2.2.2.2.1⟩⟩
end Go.Proofs.YtkbheoganajhaaaDoor.Vm
set_option maxRecDepth 100000
set_option linter.unusedVariables false
set_option linter.unusedSimpArgs false
namespace Go.Proofs.YtkbheoganajhaaaDoor.Vm
open Go.ChangeShapes Go.WideShapes Go.ChangeAt Go.RowKit Go.Proofs
theorem progOK : ProgOK Tryd.prog := ⟨by kernel_rfl, by kernel_rfl⟩
theorem gLen : Tryd.prog.globalNamed "accounting/days.lengths" = some 0 := by kernel_rfl
theorem tLen : (Tryd.prog.globals[0]?).map (·.type) = some 148 := by kernel_rfl
def lensT : List Int := [31, 28, 31, 30, 31, 30, 31, 31, 30, 31, 30, 31]
theorem lens_of_laid {W : World} (h : laidMetH Tryd.prog Rows.storeNilRow.laid W) : ∀ (i : Nat) (n : Int), lensT[i]? = some n → W.cell? ⟨0, i, none⟩ = some (.int .i64 n) := by
  rw [MakeChecks.laidMetH_plain _ _ _ (by kernel_rfl)] at h
  obtain ⟨ps, ⟨g0, t0, cs0, f0, p0, q0, hg0, ht0, hv0, hd0, _, _⟩, _, _⟩ := h
  obtain rfl := Option.some.inj (gLen.symm.trans hg0)
  obtain rfl := Option.some.inj (tLen.symm.trans ht0)
  obtain ⟨xs, m1, rfl, hx1, hlen, hn3, hel⟩ := DataW.trod_array Tryd.underlying148 hd0
  have c9 : Tryd.prog.cellsOf 3 = 1 := by kernel_rfl
  have c30 : Tryd.prog.cellsOf 148 = 12 := by kernel_rfl
  rw [c30] at hlen
  intro i s hi
  have hil : i < 12 := (List.getElem?_eq_some_iff.1 hi).1
  have h1 := hel i hil
  rw [c9, Nat.mul_one, List.getElem?_eq_getElem (by omega)] at h1
  obtain ⟨z, e1, e2, _⟩ := DataW.trod_int Tryd.underlying3 h1
  simp only [Prod.mk.injEq] at hx1
  have hd := hx1.1
  have e3 : (Rows.laid_accounting_days_lengths : DataW Unit) = .agg (lensT.map fun s => .lit (.int .i64 s)) := rfl
  have hd2 : (Rows.laid_accounting_days_lengths : DataW Unit) = .agg (xs.map (·.1)) := hd
  rw [e3] at hd2
  injection hd2 with hd2
  have h4 := congrArg (fun l => l[i]?) hd2
  simp only [List.getElem?_map, hi, Option.map_some] at h4
  rw [List.getElem?_eq_getElem (show i < xs.length by omega), Option.map_some, e2] at h4
  have hz : s = z := by
    injection h4 with h4
    injection h4 with h4
    injection h4
  subst hz
  have h5 := World.var?_cell hg0 hv0 i
  have h6 : cs0[i]? = some (.int .i64 s) := by
    have h7 := congrArg List.head? e1
    rw [List.head?_take, if_neg (by decide), List.head?_drop, Array.getElem?_toList] at h7
    exact h7
  rw [h6] at h5
  exact h5
theorem glOK_of {W : World} (h : ∀ (i : Nat) (n : Int), lensT[i]? = some n → W.cell? ⟨0, i, none⟩ = some (.int .i64 n)) : GlOK Tryd.prog glS (pw W) := by
  intro g x hg
  unfold glS at hg
  split at hg
  · rename_i h0
    have h0 : g = 0 := by simpa using h0
    subst h0
    simp only [Option.some.injEq] at hg; subst hg
    refine .cp (vs := lensT.map fun n => .int .i64 n) rfl ?_ ?_
    · intro j u hj
      rw [List.getElem?_map, Option.map_eq_some_iff] at hj
      obtain ⟨n, hn, rfl⟩ := hj
      have := h j n hn
      have e : (⟨0, 0, none⟩ : Addr).add j = ⟨0, j, none⟩ := by simp [Addr.add]; exact fun h => h.symm
      rw [← e] at this
      exact holds_pw this
    · have : ∀ l : List Int, RepPs Tryd.prog (pw W) (l.map V.i64) (l.map fun n => .int .i64 n) := fun l => by
        induction l with
        | nil => exact .nil
        | cons a r ih => exact .cons (.sc _) ih
      exact this lensT
  · cases hg
end Go.Proofs.YtkbheoganajhaaaDoor.Vm
set_option linter.unusedVariables false
set_option linter.unusedSimpArgs false
namespace Go.Proofs.YtkbheoganajhaaaDoor.Vm
open Go.ChangeShapes Go.WideShapes Go.ChangeAt Go.RowKit Go.Proofs
section
variable {H : Type} {enc : TypeId × Value → H}
def gEs (l : List Entry) : Prop := l.length ≤ reachBytes ∧ ∀ e ∈ l, gE e
theorem opEntries : OpV enc Tryd.prog 22 (fun (l : List Entry) => V.list 31 (l.map encE) 0) gEs :=
  opV_slice Tryd.underlying22 opEntry (s := 9) (by kernel_rfl) (by kernel_rfl) (fun _ => rfl) (of_decide_eq_true (by kernel_rfl))
end
theorem gEs_len {l : List Entry} (h : gEs l) : l.length < 4611686018427387904 := by
  have hr : reachBytes = 140737488351232 := rfl
  have := h.1
  omega
end Go.Proofs.YtkbheoganajhaaaDoor.Vm
set_option maxRecDepth 10000
set_option linter.unusedVariables false
set_option linter.unusedSimpArgs false
namespace Go.Proofs.YtkbheoganajhaaaDoor.Vm
open Go Go.Proofs
def bOK (bs : List Int) : Prop := ∀ b ∈ bs, 0 ≤ b ∧ b < 256
theorem bOK.drop {bs : List Int} (h : bOK bs) (n : Nat) : bOK (bs.drop n) := fun b hb => h b (List.mem_of_mem_drop hb)
theorem bv_get (bs : List Int) (i : Nat) : (bv bs)[i]? = (bs[i]?).map fun b => V.sc (.int .u8 b) := by simp [bv]
theorem tS_10 (l : List Int) (x : Int) : Co.tS l 10 x = (0, 0, 5) := by cases l <;> simp [Co.tS]
theorem takefin (y : Int) (h0 : 0 ≤ y) (h1 : y < 18446744073709551616) : Go.bits .xor .i64 (IntKind.i64.wrap (y.fdiv (2 ^ Nat.min 1 IntKind.u64.bits))) (IntKind.i64.wrap (0 - IntKind.i64.wrap (Go.bits .and .u64 y 1))) = Co.fin y := by
  rw [shr_eq y _ 2 (by decide)]
  have := Co.fin_xor y h0 h1
  have e : ∀ z, IntKind.i64.wrap z = RowKit.wrap64 z := fun z => by rw [IntKind.wrap_i64]; unfold RowKit.wrap64; omega
  rw [Int.zero_sub, e, e, e]
  exact this
theorem takeint_ok (bs : List Int) (hb : bOK bs) (hl : bs.length < 4611686018427387904) (r : Nat) : L.pl 104 [.list 5 (bv bs) r] = some (.ret (.tup [.i64 (Co.tS bs 0 0).1, .i64 (Co.tS bs 0 0).2.1, .i64 (Co.tS bs 0 0).2.2])) := by
  refine W_of (pl_w k104_eq ?_)
  simp only [k104]
  repeat' (first | (simp -implicitDefEqProofs only [ze, Nat.reduceEqDiff, Nat.reduceAdd, Nat.reduceMul, reduceIte, Nat.reduceLT, Nat.reduceLeDiff, reduceCtorEq, Int.reduceEq, Int.reduceLT, Int.reduceLE, Int.reduceNeg, Int.reduceToNat, Nat.reduceBEq, Nat.reduceSub, qp, qf, kop, av, RQ, PQ, kres, kres1, kresL, fin, fins, fin1, V.pur?, V.pur1?, V.cells, kld, ones, V.one, Value.oneCell', own, owns, own1, xfill, ksrc, kint, vint, ksub, keqs, kok, V.val1?, ofRes]) | (with_reducible refine wgd_cases ?_ ?_ <;> intro hb) | (with_reducible refine wcond_cases ?_ ?_ <;> intro hb) | (with_reducible refine qd_i (by kernel_rfl) ?_) | (with_reducible refine W_itn_cases ?_ ?_; omega))
  refine loop_w (fun n tm st nx => ∃ (i : Nat) (x : Int), n = 10 - i ∧ i ≤ 10 ∧ i ≤ bs.length ∧ 0 ≤ x ∧ x < 128 ^ i ∧ Co.tS (bs.drop i) i x = Co.tS bs 0 0 ∧ tm 8 = .i64 i ∧ tm 5 = .sc (.int .u64 x) ∧ tm 0 = .list 5 (bv bs) r) 10 ⟨0, 0, by omega, by omega, by omega, by omega, by decide, rfl, ?_, ?_, ?_⟩ ?_
  · simp -implicitDefEqProofs only [ze, Nat.reduceEqDiff, Nat.reduceAdd, Nat.reduceMul, reduceIte, Nat.reduceLT, Nat.reduceLeDiff, reduceCtorEq, Int.reduceEq, Int.reduceLT, Int.reduceLE, Int.reduceNeg, Int.reduceToNat, Nat.reduceBEq, Nat.reduceSub, qp, qf, kop, av, RQ, PQ, kres, kres1, kresL, fin, fins, fin1, V.pur?, V.pur1?, V.cells, kld, ones, V.one, Value.oneCell', own, owns, own1, xfill, ksrc, kint, vint, ksub, keqs, kok, V.val1?, ofRes]; rfl
  · simp -implicitDefEqProofs only [ze, Nat.reduceEqDiff, Nat.reduceAdd, Nat.reduceMul, reduceIte, Nat.reduceLT, Nat.reduceLeDiff, reduceCtorEq, Int.reduceEq, Int.reduceLT, Int.reduceLE, Int.reduceNeg, Int.reduceToNat, Nat.reduceBEq, Nat.reduceSub, qp, qf, kop, av, RQ, PQ, kres, kres1, kresL, fin, fins, fin1, V.pur?, V.pur1?, V.cells, kld, ones, V.one, Value.oneCell', own, owns, own1, xfill, ksrc, kint, vint, ksub, keqs, kok, V.val1?, ofRes]
  · simp -implicitDefEqProofs only [ze, Nat.reduceEqDiff, Nat.reduceAdd, Nat.reduceMul, reduceIte, Nat.reduceLT, Nat.reduceLeDiff, reduceCtorEq, Int.reduceEq, Int.reduceLT, Int.reduceLE, Int.reduceNeg, Int.reduceToNat, Nat.reduceBEq, Nat.reduceSub, qp, qf, kop, av, RQ, PQ, kres, kres1, kresL, fin, fins, fin1, V.pur?, V.pur1?, V.cells, kld, ones, V.one, Value.oneCell', own, owns, own1, xfill, ksrc, kint, vint, ksub, keqs, kok, V.val1?, ofRes]
  rintro n tm st nx ⟨i, x, hn, hi, hil, hx0, hx1, hts, h8, h5, h0⟩
  simp only [k104_l0, k104_t0]
  by_cases hlt : i < 10
  · have hd : decide ((i : Int) < 10) = true := decide_eq_true (by omega)
    by_cases hend : i = bs.length
    · have hd2 : decide ((i : Int) = (bs.length : Int)) = true := decide_eq_true (by omega)
      have e : bs.drop i = [] := List.drop_eq_nil_of_le (by omega)
      rw [e] at hts
      simp only [Co.tS, if_pos hlt] at hts
      repeat' (first | (simp -implicitDefEqProofs only [ze, Nat.reduceEqDiff, Nat.reduceAdd, Nat.reduceMul, reduceIte, Nat.reduceLT, Nat.reduceLeDiff, reduceCtorEq, Int.reduceEq, Int.reduceLT, Int.reduceLE, Int.reduceNeg, Int.reduceToNat, Nat.reduceBEq, Nat.reduceSub, qp, qf, kop, av, RQ, PQ, kres, kres1, kresL, fin, fins, fin1, V.pur?, V.pur1?, V.cells, kld, ones, V.one, Value.oneCell', own, owns, own1, xfill, ksrc, kint, vint, ksub, keqs, kok, V.val1?, ofRes, h8, h5, h0, hd, bv_len, hd2, ← hts]) | (with_reducible refine wgd_cases ?_ ?_ <;> intro hb) | (with_reducible refine wcond_cases ?_ ?_ <;> intro hb) | (with_reducible refine qd_i (by kernel_rfl) ?_) | (with_reducible refine W_itn_cases ?_ ?_; omega))
    · have hd2 : decide ((i : Int) = (bs.length : Int)) = false := decide_eq_false (by omega)
      obtain ⟨b, hb1⟩ := get_lt (l := bs) (i := i) (by omega)
      obtain ⟨hb2, hb3⟩ := hb b (List.mem_of_getElem? hb1)
      have e : bs.drop i = b :: bs.drop (i + 1) := by rw [List.drop_eq_getElem_cons (by omega)]; rw [List.getElem?_eq_getElem (by omega)] at hb1; rw [Option.some.inj hb1]
      rw [e] at hts
      simp only [Co.tS, if_pos hlt] at hts
      have hm : IntKind.i64.wrap (7 * (i : Int)) = 7 * (i : Int) := wrap_i64 (by omega) (by omega)
      have hup : IntKind.i64.wrap ((i : Int) + 1) = ((i + 1 : Nat) : Int) := wrap_i64 (by omega) (by omega)
      have hneg : (7 * (i : Int) < 0) = False := eq_false (by omega)
      have hgo : Co.badS i b = false → ∃ y, Go.bits .or .u64 x (IntKind.u64.wrap (IntKind.u64.wrap (Go.bits .and .u8 b 127) * 2 ^ Nat.min (7 * (i : Int)).toNat IntKind.u64.bits)) = y ∧ y = x + b % 128 * 128 ^ i ∧ 0 ≤ y ∧ y < 18446744073709551616 ∧ y < 128 ^ (i + 1) := fun h => by
        obtain ⟨g1, g2⟩ := Co.bad_no h
        obtain ⟨s1, s2, s3⟩ := Co.step_bound i x b hlt hx0 hx1 hb2 hb3 g1
        refine ⟨x + b % 128 * 128 ^ i, ?_, rfl, by omega, s2, s3⟩
        have := Co.or_shift i x b hlt hx0 hx1 hb2 hb3 g1
        rw [Co.w64_small (by omega) (by omega)] at this
        exact this
      repeat' (first | (simp -implicitDefEqProofs only [ze, Nat.reduceEqDiff, Nat.reduceAdd, Nat.reduceMul, reduceIte, Nat.reduceLT, Nat.reduceLeDiff, reduceCtorEq, Int.reduceEq, Int.reduceLT, Int.reduceLE, Int.reduceNeg, Int.reduceToNat, Nat.reduceBEq, Nat.reduceSub, qp, qf, kop, av, RQ, PQ, kres, kres1, kresL, fin, fins, fin1, V.pur?, V.pur1?, V.cells, kld, ones, V.one, Value.oneCell', own, owns, own1, xfill, ksrc, kint, vint, ksub, keqs, kok, V.val1?, ofRes, h8, h5, h0, hd, hd2, bv_len, bv_get, hb1, hm, hneg, hup]) | (with_reducible refine wgd_cases ?_ ?_ <;> intro hb) | (with_reducible refine wcond_cases ?_ ?_ <;> intro hb) | (with_reducible refine qd_i (by kernel_rfl) ?_) | (with_reducible refine W_itn_cases ?_ ?_; omega))
      all_goals (simp only [decide_eq_true_eq, decide_eq_false_iff_not] at *)
      all_goals first
        | (exfalso; omega)
        | (have hB : Co.badS i b = true := by (simp only [Co.badS, Bool.or_eq_true, Bool.and_eq_true, decide_eq_true_eq]; omega)
           rw [if_pos hB] at hts; rw [← hts])
        | (have hB : Co.badS i b = false := by (simp only [Co.badS, Bool.or_eq_false_iff, Bool.and_eq_false_iff, decide_eq_false_iff_not]; omega)
           obtain ⟨y, hy1, hy2, hy3, hy4, hy5⟩ := hgo hB
           rw [if_neg (by rw [hB]; simp), ← hy2] at hts
           first
           | (rw [if_pos (by assumption)] at hts; rw [← hts, hy1, takefin y hy3 hy4])
           | (rw [if_neg (by assumption)] at hts; exact ⟨10 - (i + 1), by omega, i + 1, y, rfl, by omega, by omega, hy3, hy5, hts, rfl, by rw [hy1]⟩))
  · have : i = 10 := by omega
    subst this
    have hd : decide (((10 : Nat) : Int) < 10) = false := by decide
    rw [tS_10] at hts
    repeat' (first | (simp -implicitDefEqProofs only [ze, Nat.reduceEqDiff, Nat.reduceAdd, Nat.reduceMul, reduceIte, Nat.reduceLT, Nat.reduceLeDiff, reduceCtorEq, Int.reduceEq, Int.reduceLT, Int.reduceLE, Int.reduceNeg, Int.reduceToNat, Nat.reduceBEq, Nat.reduceSub, qp, qf, kop, av, RQ, PQ, kres, kres1, kresL, fin, fins, fin1, V.pur?, V.pur1?, V.cells, kld, ones, V.one, Value.oneCell', own, owns, own1, xfill, ksrc, kint, vint, ksub, keqs, kok, V.val1?, ofRes, h8, h5, h0, hd, ← hts]) | (with_reducible refine wgd_cases ?_ ?_ <;> intro hb) | (with_reducible refine wcond_cases ?_ ?_ <;> intro hb) | (with_reducible refine qd_i (by kernel_rfl) ?_) | (with_reducible refine W_itn_cases ?_ ?_; omega))
def strB (l : List Int) : ByteArray := ⟨(l.map fun b => UInt8.ofNat b.toNat).toArray⟩
theorem strB_of (s : ByteArray) : strB (Co.bytesOf s) = s := by
  unfold strB Co.bytesOf
  rw [List.map_map]
  have : (s.data.toList.map ((fun b : Int => UInt8.ofNat b.toNat) ∘ fun b : UInt8 => (b.toNat : Int))) = s.data.toList := by
    conv => rhs; rw [← List.map_id s.data.toList]
    apply List.map_congr_left
    intro b _
    simp
  rw [this]
def tT (bs : List Int) : ByteArray × Int × Int :=
  let q := Co.tS bs 0 0
  if q.2.2 ≠ 0 then (ByteArray.mk #[], 0, q.2.2)
  else if q.1 < 0 ∨ 60 < q.1 then (ByteArray.mk #[], 0, 9)
  else if (bs.length : Int) - q.2.1 < q.1 then (ByteArray.mk #[], 0, 6)
  else if plainS (strB ((bs.drop q.2.1.toNat).take q.1.toNat)) = false then (ByteArray.mk #[], 0, 5)
  else (strB ((bs.drop q.2.1.toNat).take q.1.toNat), q.2.1 + q.1, 0)
theorem bytesOfV_bq : ∀ (l : List Int), bytesOfV (bv l) = some (l.map fun b => UInt8.ofNat b.toNat)
  | [] => rfl
  | b :: l => by
    have := bytesOfV_bq l
    simp only [bv] at this
    simp only [bv, List.map_cons, bytesOfV, this, Option.map_some]
theorem bv_tk (l : List Int) (n : Nat) : (bv l).take n = bv (l.take n) := by simp [bv, List.map_take]
theorem bv_dp (l : List Int) (n : Nat) : (bv l).drop n = bv (l.drop n) := by simp [bv, List.map_drop]
theorem taketext_ok (bs : List Int) (hb : bOK bs) (hl : bs.length < 4611686018427387904) (r : Nat) : L.pl 105 [.list 5 (bv bs) r] = some (.ret (.tup [.str (tT bs).1, .i64 (tT bs).2.1, .i64 (tT bs).2.2])) := by
  refine W_of (pl_w k105_eq ?_)
  simp only [k105]
  have hp := Co.tS_pos bs 0 0
  unfold tT
  have ht := takeint_ok bs hb hl
  generalize hq : Co.tS bs 0 0 = q at hp ht ⊢
  obtain ⟨n, at_, e⟩ := q
  simp only at hp ht ⊢
  by_cases he : e = 0
  · subst he
    by_cases hn : n < 0 ∨ 60 < n
    · repeat' (first | (simp -implicitDefEqProofs only [ze, Nat.reduceEqDiff, Nat.reduceAdd, Nat.reduceMul, reduceIte, Nat.reduceLT, Nat.reduceLeDiff, reduceCtorEq, Int.reduceEq, Int.reduceLT, Int.reduceLE, Int.reduceNeg, Int.reduceToNat, Nat.reduceBEq, Nat.reduceSub, qp, qf, kop, av, RQ, PQ, kres, kres1, kresL, fin, fins, fin1, V.pur?, V.pur1?, V.cells, kld, ones, V.one, Value.oneCell', own, owns, own1, xfill, ksrc, kint, vint, ksub, keqs, kok, V.val1?, ofRes, ht, bv_len]) | (with_reducible refine wgd_cases ?_ ?_ <;> intro hb) | (with_reducible refine wcond_cases ?_ ?_ <;> intro hb) | (with_reducible refine qd_i (by kernel_rfl) ?_) | (with_reducible refine W_itn_cases ?_ ?_; omega))
      all_goals (simp only [decide_eq_true_eq, decide_eq_false_iff_not] at *)
      all_goals first | (exfalso; omega) | simp [hn]
    · have hd1 : decide (n < 0) = false := decide_eq_false (by omega)
      have hd2 : decide (60 < n) = false := decide_eq_false (by omega)
      have hw : IntKind.i64.wrap ((bs.length : Int) - at_) = (bs.length : Int) - at_ := wrap_i64 (by omega) (by omega)
      have hw2 : IntKind.i64.wrap (at_ + n) = at_ + n := wrap_i64 (by omega) (by omega)
      by_cases hs : (bs.length : Int) - at_ < n
      · have hd3 : decide ((bs.length : Int) - at_ < n) = true := decide_eq_true hs
        repeat' (first | (simp -implicitDefEqProofs only [ze, Nat.reduceEqDiff, Nat.reduceAdd, Nat.reduceMul, reduceIte, Nat.reduceLT, Nat.reduceLeDiff, reduceCtorEq, Int.reduceEq, Int.reduceLT, Int.reduceLE, Int.reduceNeg, Int.reduceToNat, Nat.reduceBEq, Nat.reduceSub, qp, qf, kop, av, RQ, PQ, kres, kres1, kresL, fin, fins, fin1, V.pur?, V.pur1?, V.cells, kld, ones, V.one, Value.oneCell', own, owns, own1, xfill, ksrc, kint, vint, ksub, keqs, kok, V.val1?, ofRes, ht, bv_len, hd1, hd2, hw, hd3]) | (with_reducible refine wgd_cases ?_ ?_ <;> intro hb) | (with_reducible refine wcond_cases ?_ ?_ <;> intro hb) | (with_reducible refine qd_i (by kernel_rfl) ?_) | (with_reducible refine W_itn_cases ?_ ?_; omega))
        simp [hn, hs]
      · have hd3 : decide ((bs.length : Int) - at_ < n) = false := decide_eq_false hs
        have heq : strB ((bs.drop at_.toNat).take n.toNat) = ByteArray.mk (List.map (fun b => UInt8.ofNat b.toNat) (List.drop at_.toNat (List.take (at_ + n).toNat bs))).toArray := by
          unfold strB
          rw [List.take_drop, show at_.toNat + n.toNat = (at_ + n).toNat by omega]
        repeat' (first | (simp -implicitDefEqProofs only [ze, Nat.reduceEqDiff, Nat.reduceAdd, Nat.reduceMul, reduceIte, Nat.reduceLT, Nat.reduceLeDiff, reduceCtorEq, Int.reduceEq, Int.reduceLT, Int.reduceLE, Int.reduceNeg, Int.reduceToNat, Nat.reduceBEq, Nat.reduceSub, qp, qf, kop, av, RQ, PQ, kres, kres1, kresL, fin, fins, fin1, V.pur?, V.pur1?, V.cells, kld, ones, V.one, Value.oneCell', own, owns, own1, xfill, ksrc, kint, vint, ksub, keqs, kok, V.val1?, ofRes, ht, bv_len, hd1, hd2, hw, hw2, hd3, bytesOfV_bq, bv_tk, bv_dp, plain_ok]) | (with_reducible refine wgd_cases ?_ ?_ <;> intro hb) | (with_reducible refine wcond_cases ?_ ?_ <;> intro hb) | (with_reducible refine qd_i (by kernel_rfl) ?_) | (with_reducible refine W_itn_cases ?_ ?_; omega))
        all_goals (simp only [Bool.not_eq_eq_eq_not, Bool.not_true, Bool.not_false] at *; rw [← heq] at *; simp [hn, hs, *])
  · have hd : decide (e = 0) = false := decide_eq_false he
    repeat' (first | (simp -implicitDefEqProofs only [ze, Nat.reduceEqDiff, Nat.reduceAdd, Nat.reduceMul, reduceIte, Nat.reduceLT, Nat.reduceLeDiff, reduceCtorEq, Int.reduceEq, Int.reduceLT, Int.reduceLE, Int.reduceNeg, Int.reduceToNat, Nat.reduceBEq, Nat.reduceSub, qp, qf, kop, av, RQ, PQ, kres, kres1, kresL, fin, fins, fin1, V.pur?, V.pur1?, V.cells, kld, ones, V.one, Value.oneCell', own, owns, own1, xfill, ksrc, kint, vint, ksub, keqs, kok, V.val1?, ofRes, ht, hd]) | (with_reducible refine wgd_cases ?_ ?_ <;> intro hb) | (with_reducible refine wcond_cases ?_ ?_ <;> intro hb) | (with_reducible refine qd_i (by kernel_rfl) ?_) | (with_reducible refine W_itn_cases ?_ ?_; omega))
    simp [he]
end Go.Proofs.YtkbheoganajhaaaDoor.Vm
set_option linter.unusedVariables false
namespace Go.Proofs.YtkbheoganajhaaaDoor.Vm
open Go.RowKit
def cunr (P : Program) (E : Env) (b : Y) (Q : Ex → Fr → Prop) (e : Ex) (fr : Fr) : Prop := e.cs (wc P E (.loop b) Q fr) (Q e fr)
theorem cunr_n {P : Program} {E : Env} {Q : Ex → Fr → Prop} {fr : Fr} (b : Y) : cunr P E b Q .norm fr = wc P E (.loop b) Q fr := rfl
theorem cunr_x {P : Program} {E : Env} {Q : Ex → Fr → Prop} {fr : Fr} (b : Y) (id : Nat) : cunr P E b Q (.exit id) fr = Q (.exit id) fr := rfl
theorem cunr_r {P : Program} {E : Env} {Q : Ex → Fr → Prop} {fr : Fr} (b : Y) : cunr P E b Q .ret fr = Q .ret fr := rfl
theorem cunr_p {P : Program} {E : Env} {Q : Ex → Fr → Prop} {fr : Fr} (b : Y) (v : V) : cunr P E b Q (.pan v) fr = Q (.pan v) fr := rfl
theorem loop_u {P : Program} {E : Env} {Q : Ex → Fr → Prop} {fr : Fr} {b b' : Y} (hb : b = b') (h : wc P E b' (cunr P E b Q) fr) : wc P E (.loop b) Q fr := by
  subst hb
  obtain ⟨e, fr', h1, h2⟩ := wc_ok h
  show WX (loopL (zcode P E b) fr) Q
  rw [loopL_eq, h1]
  cases e with
  | norm => exact h2
  | «exit» j => exact ⟨_, _, rfl, h2⟩
  | ret => exact ⟨_, _, rfl, h2⟩
  | pan v => exact ⟨_, _, rfl, h2⟩
end Go.Proofs.YtkbheoganajhaaaDoor.Vm
set_option maxRecDepth 10000
set_option linter.unusedVariables false
set_option linter.unusedSimpArgs false
namespace Go.Proofs.YtkbheoganajhaaaDoor.Vm
open Go Go.Proofs
def sumB (s : Int) : List Int := [s / 72057594037927936 % 256, s / 281474976710656 % 256, s / 1099511627776 % 256, s / 4294967296 % 256, s / 16777216 % 256, s / 65536 % 256, s / 256 % 256, s % 256]
theorem u8_mod (n : Int) : IntKind.u8.wrap n = n % 256 := by rw [IntKind.wrap_u8]
theorem mn (n : Nat) (h : n ≤ 64) : Nat.min n IntKind.u64.bits = n := Nat.min_eq_left h
theorem fd (s : Int) (n : Nat) : s.fdiv (2 ^ n) = s / 2 ^ n := by
  have h : (2 : Int) ^ n = ((2 ^ n : Nat) : Int) := by rw [Int.natCast_pow]; rfl
  rw [h]; exact Int.fdiv_eq_ediv_of_nonneg _ (Int.natCast_nonneg _)
theorem cbytes_ok (s : Int) (h0 : 0 ≤ s) (h1 : s < 18446744073709551616) : L.pl 53 [.sc (.int .u64 s)] = some (.ret (.list 5 (bv (sumB s)) 0)) := by
  refine W_of (pl_r k53_eq ?_)
  simp only [k53]
  repeat' (first | (simp -implicitDefEqProofs only [ze, Nat.reduceEqDiff, Nat.reduceAdd, Nat.reduceMul, reduceIte, Nat.reduceLT, Nat.reduceLeDiff, reduceCtorEq, Int.reduceEq, Int.reduceLT, Int.reduceLE, Int.reduceNeg, Int.reduceToNat, Nat.reduceBEq, Nat.reduceSub, qp, qf, kop, av, RQ, PQ, kres, kres1, kresL, fin, fins, fin1, V.pur?, V.pur1?, V.cells, kld, ones, V.one, Value.oneCell', own, owns, own1, xfill, ksrc, kint, vint, ksub, keqs, kok, V.val1?, ofRes, LR_pl, LR_hp, LR_hm, cunr_n, cunr_x, cunr_r, cunr_p, kopx, srcX, obCells, obSet, PQR, frzT, frzV, frz1, frzs, frzA, slish, slish1, slIds, slIds1, chunk, List.any_cons, List.any_nil, List.flatten_cons, List.flatten_nil, List.replicate_succ, List.replicate_zero, Bool.or_false, Bool.false_or]) | (with_reducible refine wgd_cases ?_ ?_ <;> intro hb) | (with_reducible refine wcond_cases ?_ ?_ <;> intro hb) | (with_reducible refine qd_i (by kernel_rfl) ?_) | (with_reducible refine W_itn_cases ?_ ?_; omega))
  refine loop_u k53_l0.eq_1 ?_
  repeat' (first | (simp -implicitDefEqProofs only [ze, Nat.reduceEqDiff, Nat.reduceAdd, Nat.reduceMul, reduceIte, Nat.reduceLT, Nat.reduceLeDiff, reduceCtorEq, Int.reduceEq, Int.reduceLT, Int.reduceLE, Int.reduceNeg, Int.reduceToNat, Nat.reduceBEq, Nat.reduceSub, qp, qf, kop, av, RQ, PQ, kres, kres1, kresL, fin, fins, fin1, V.pur?, V.pur1?, V.cells, kld, ones, V.one, Value.oneCell', own, owns, own1, xfill, ksrc, kint, vint, ksub, keqs, kok, V.val1?, ofRes, LR_pl, LR_hp, LR_hm, cunr_n, cunr_x, cunr_r, cunr_p, kopx, srcX, obCells, obSet, PQR, frzT, frzV, frz1, frzs, frzA, slish, slish1, slIds, slIds1, chunk, List.any_cons, List.any_nil, List.flatten_cons, List.flatten_nil, List.replicate_succ, List.replicate_zero, Bool.or_false, Bool.false_or, wrap_i64, Int.reduceMul, Int.reduceSub, Int.reduceAdd, mn, fd, k53_t0, List.take_succ_cons, List.take_zero, List.drop_succ_cons, List.drop_zero, List.cons_append, List.nil_append, List.length_cons, List.length_nil]) | (with_reducible refine wgd_cases ?_ ?_ <;> intro hb) | (with_reducible refine wcond_cases ?_ ?_ <;> intro hb) | (with_reducible refine qd_i (by kernel_rfl) ?_) | (with_reducible refine W_itn_cases ?_ ?_; omega))
  refine loop_u k53_l0.eq_1 ?_
  repeat' (first | (simp -implicitDefEqProofs only [ze, Nat.reduceEqDiff, Nat.reduceAdd, Nat.reduceMul, reduceIte, Nat.reduceLT, Nat.reduceLeDiff, reduceCtorEq, Int.reduceEq, Int.reduceLT, Int.reduceLE, Int.reduceNeg, Int.reduceToNat, Nat.reduceBEq, Nat.reduceSub, qp, qf, kop, av, RQ, PQ, kres, kres1, kresL, fin, fins, fin1, V.pur?, V.pur1?, V.cells, kld, ones, V.one, Value.oneCell', own, owns, own1, xfill, ksrc, kint, vint, ksub, keqs, kok, V.val1?, ofRes, LR_pl, LR_hp, LR_hm, cunr_n, cunr_x, cunr_r, cunr_p, kopx, srcX, obCells, obSet, PQR, frzT, frzV, frz1, frzs, frzA, slish, slish1, slIds, slIds1, chunk, List.any_cons, List.any_nil, List.flatten_cons, List.flatten_nil, List.replicate_succ, List.replicate_zero, Bool.or_false, Bool.false_or, wrap_i64, Int.reduceMul, Int.reduceSub, Int.reduceAdd, mn, fd, k53_t0, List.take_succ_cons, List.take_zero, List.drop_succ_cons, List.drop_zero, List.cons_append, List.nil_append, List.length_cons, List.length_nil]) | (with_reducible refine wgd_cases ?_ ?_ <;> intro hb) | (with_reducible refine wcond_cases ?_ ?_ <;> intro hb) | (with_reducible refine qd_i (by kernel_rfl) ?_) | (with_reducible refine W_itn_cases ?_ ?_; omega))
  refine loop_u k53_l0.eq_1 ?_
  repeat' (first | (simp -implicitDefEqProofs only [ze, Nat.reduceEqDiff, Nat.reduceAdd, Nat.reduceMul, reduceIte, Nat.reduceLT, Nat.reduceLeDiff, reduceCtorEq, Int.reduceEq, Int.reduceLT, Int.reduceLE, Int.reduceNeg, Int.reduceToNat, Nat.reduceBEq, Nat.reduceSub, qp, qf, kop, av, RQ, PQ, kres, kres1, kresL, fin, fins, fin1, V.pur?, V.pur1?, V.cells, kld, ones, V.one, Value.oneCell', own, owns, own1, xfill, ksrc, kint, vint, ksub, keqs, kok, V.val1?, ofRes, LR_pl, LR_hp, LR_hm, cunr_n, cunr_x, cunr_r, cunr_p, kopx, srcX, obCells, obSet, PQR, frzT, frzV, frz1, frzs, frzA, slish, slish1, slIds, slIds1, chunk, List.any_cons, List.any_nil, List.flatten_cons, List.flatten_nil, List.replicate_succ, List.replicate_zero, Bool.or_false, Bool.false_or, wrap_i64, Int.reduceMul, Int.reduceSub, Int.reduceAdd, mn, fd, k53_t0, List.take_succ_cons, List.take_zero, List.drop_succ_cons, List.drop_zero, List.cons_append, List.nil_append, List.length_cons, List.length_nil]) | (with_reducible refine wgd_cases ?_ ?_ <;> intro hb) | (with_reducible refine wcond_cases ?_ ?_ <;> intro hb) | (with_reducible refine qd_i (by kernel_rfl) ?_) | (with_reducible refine W_itn_cases ?_ ?_; omega))
  refine loop_u k53_l0.eq_1 ?_
  repeat' (first | (simp -implicitDefEqProofs only [ze, Nat.reduceEqDiff, Nat.reduceAdd, Nat.reduceMul, reduceIte, Nat.reduceLT, Nat.reduceLeDiff, reduceCtorEq, Int.reduceEq, Int.reduceLT, Int.reduceLE, Int.reduceNeg, Int.reduceToNat, Nat.reduceBEq, Nat.reduceSub, qp, qf, kop, av, RQ, PQ, kres, kres1, kresL, fin, fins, fin1, V.pur?, V.pur1?, V.cells, kld, ones, V.one, Value.oneCell', own, owns, own1, xfill, ksrc, kint, vint, ksub, keqs, kok, V.val1?, ofRes, LR_pl, LR_hp, LR_hm, cunr_n, cunr_x, cunr_r, cunr_p, kopx, srcX, obCells, obSet, PQR, frzT, frzV, frz1, frzs, frzA, slish, slish1, slIds, slIds1, chunk, List.any_cons, List.any_nil, List.flatten_cons, List.flatten_nil, List.replicate_succ, List.replicate_zero, Bool.or_false, Bool.false_or, wrap_i64, Int.reduceMul, Int.reduceSub, Int.reduceAdd, mn, fd, k53_t0, List.take_succ_cons, List.take_zero, List.drop_succ_cons, List.drop_zero, List.cons_append, List.nil_append, List.length_cons, List.length_nil]) | (with_reducible refine wgd_cases ?_ ?_ <;> intro hb) | (with_reducible refine wcond_cases ?_ ?_ <;> intro hb) | (with_reducible refine qd_i (by kernel_rfl) ?_) | (with_reducible refine W_itn_cases ?_ ?_; omega))
  refine loop_u k53_l0.eq_1 ?_
  repeat' (first | (simp -implicitDefEqProofs only [ze, Nat.reduceEqDiff, Nat.reduceAdd, Nat.reduceMul, reduceIte, Nat.reduceLT, Nat.reduceLeDiff, reduceCtorEq, Int.reduceEq, Int.reduceLT, Int.reduceLE, Int.reduceNeg, Int.reduceToNat, Nat.reduceBEq, Nat.reduceSub, qp, qf, kop, av, RQ, PQ, kres, kres1, kresL, fin, fins, fin1, V.pur?, V.pur1?, V.cells, kld, ones, V.one, Value.oneCell', own, owns, own1, xfill, ksrc, kint, vint, ksub, keqs, kok, V.val1?, ofRes, LR_pl, LR_hp, LR_hm, cunr_n, cunr_x, cunr_r, cunr_p, kopx, srcX, obCells, obSet, PQR, frzT, frzV, frz1, frzs, frzA, slish, slish1, slIds, slIds1, chunk, List.any_cons, List.any_nil, List.flatten_cons, List.flatten_nil, List.replicate_succ, List.replicate_zero, Bool.or_false, Bool.false_or, wrap_i64, Int.reduceMul, Int.reduceSub, Int.reduceAdd, mn, fd, k53_t0, List.take_succ_cons, List.take_zero, List.drop_succ_cons, List.drop_zero, List.cons_append, List.nil_append, List.length_cons, List.length_nil]) | (with_reducible refine wgd_cases ?_ ?_ <;> intro hb) | (with_reducible refine wcond_cases ?_ ?_ <;> intro hb) | (with_reducible refine qd_i (by kernel_rfl) ?_) | (with_reducible refine W_itn_cases ?_ ?_; omega))
  refine loop_u k53_l0.eq_1 ?_
  repeat' (first | (simp -implicitDefEqProofs only [ze, Nat.reduceEqDiff, Nat.reduceAdd, Nat.reduceMul, reduceIte, Nat.reduceLT, Nat.reduceLeDiff, reduceCtorEq, Int.reduceEq, Int.reduceLT, Int.reduceLE, Int.reduceNeg, Int.reduceToNat, Nat.reduceBEq, Nat.reduceSub, qp, qf, kop, av, RQ, PQ, kres, kres1, kresL, fin, fins, fin1, V.pur?, V.pur1?, V.cells, kld, ones, V.one, Value.oneCell', own, owns, own1, xfill, ksrc, kint, vint, ksub, keqs, kok, V.val1?, ofRes, LR_pl, LR_hp, LR_hm, cunr_n, cunr_x, cunr_r, cunr_p, kopx, srcX, obCells, obSet, PQR, frzT, frzV, frz1, frzs, frzA, slish, slish1, slIds, slIds1, chunk, List.any_cons, List.any_nil, List.flatten_cons, List.flatten_nil, List.replicate_succ, List.replicate_zero, Bool.or_false, Bool.false_or, wrap_i64, Int.reduceMul, Int.reduceSub, Int.reduceAdd, mn, fd, k53_t0, List.take_succ_cons, List.take_zero, List.drop_succ_cons, List.drop_zero, List.cons_append, List.nil_append, List.length_cons, List.length_nil]) | (with_reducible refine wgd_cases ?_ ?_ <;> intro hb) | (with_reducible refine wcond_cases ?_ ?_ <;> intro hb) | (with_reducible refine qd_i (by kernel_rfl) ?_) | (with_reducible refine W_itn_cases ?_ ?_; omega))
  refine loop_u k53_l0.eq_1 ?_
  repeat' (first | (simp -implicitDefEqProofs only [ze, Nat.reduceEqDiff, Nat.reduceAdd, Nat.reduceMul, reduceIte, Nat.reduceLT, Nat.reduceLeDiff, reduceCtorEq, Int.reduceEq, Int.reduceLT, Int.reduceLE, Int.reduceNeg, Int.reduceToNat, Nat.reduceBEq, Nat.reduceSub, qp, qf, kop, av, RQ, PQ, kres, kres1, kresL, fin, fins, fin1, V.pur?, V.pur1?, V.cells, kld, ones, V.one, Value.oneCell', own, owns, own1, xfill, ksrc, kint, vint, ksub, keqs, kok, V.val1?, ofRes, LR_pl, LR_hp, LR_hm, cunr_n, cunr_x, cunr_r, cunr_p, kopx, srcX, obCells, obSet, PQR, frzT, frzV, frz1, frzs, frzA, slish, slish1, slIds, slIds1, chunk, List.any_cons, List.any_nil, List.flatten_cons, List.flatten_nil, List.replicate_succ, List.replicate_zero, Bool.or_false, Bool.false_or, wrap_i64, Int.reduceMul, Int.reduceSub, Int.reduceAdd, mn, fd, k53_t0, List.take_succ_cons, List.take_zero, List.drop_succ_cons, List.drop_zero, List.cons_append, List.nil_append, List.length_cons, List.length_nil]) | (with_reducible refine wgd_cases ?_ ?_ <;> intro hb) | (with_reducible refine wcond_cases ?_ ?_ <;> intro hb) | (with_reducible refine qd_i (by kernel_rfl) ?_) | (with_reducible refine W_itn_cases ?_ ?_; omega))
  refine loop_u k53_l0.eq_1 ?_
  repeat' (first | (simp -implicitDefEqProofs only [ze, Nat.reduceEqDiff, Nat.reduceAdd, Nat.reduceMul, reduceIte, Nat.reduceLT, Nat.reduceLeDiff, reduceCtorEq, Int.reduceEq, Int.reduceLT, Int.reduceLE, Int.reduceNeg, Int.reduceToNat, Nat.reduceBEq, Nat.reduceSub, qp, qf, kop, av, RQ, PQ, kres, kres1, kresL, fin, fins, fin1, V.pur?, V.pur1?, V.cells, kld, ones, V.one, Value.oneCell', own, owns, own1, xfill, ksrc, kint, vint, ksub, keqs, kok, V.val1?, ofRes, LR_pl, LR_hp, LR_hm, cunr_n, cunr_x, cunr_r, cunr_p, kopx, srcX, obCells, obSet, PQR, frzT, frzV, frz1, frzs, frzA, slish, slish1, slIds, slIds1, chunk, List.any_cons, List.any_nil, List.flatten_cons, List.flatten_nil, List.replicate_succ, List.replicate_zero, Bool.or_false, Bool.false_or, wrap_i64, Int.reduceMul, Int.reduceSub, Int.reduceAdd, mn, fd, k53_t0, List.take_succ_cons, List.take_zero, List.drop_succ_cons, List.drop_zero, List.cons_append, List.nil_append, List.length_cons, List.length_nil]) | (with_reducible refine wgd_cases ?_ ?_ <;> intro hb) | (with_reducible refine wcond_cases ?_ ?_ <;> intro hb) | (with_reducible refine qd_i (by kernel_rfl) ?_) | (with_reducible refine W_itn_cases ?_ ?_; omega))
  refine loop_u k53_l0.eq_1 ?_
  repeat' (first | (simp -implicitDefEqProofs only [ze, Nat.reduceEqDiff, Nat.reduceAdd, Nat.reduceMul, reduceIte, Nat.reduceLT, Nat.reduceLeDiff, reduceCtorEq, Int.reduceEq, Int.reduceLT, Int.reduceLE, Int.reduceNeg, Int.reduceToNat, Nat.reduceBEq, Nat.reduceSub, qp, qf, kop, av, RQ, PQ, kres, kres1, kresL, fin, fins, fin1, V.pur?, V.pur1?, V.cells, kld, ones, V.one, Value.oneCell', own, owns, own1, xfill, ksrc, kint, vint, ksub, keqs, kok, V.val1?, ofRes, LR_pl, LR_hp, LR_hm, cunr_n, cunr_x, cunr_r, cunr_p, kopx, srcX, obCells, obSet, PQR, frzT, frzV, frz1, frzs, frzA, slish, slish1, slIds, slIds1, chunk, List.any_cons, List.any_nil, List.flatten_cons, List.flatten_nil, List.replicate_succ, List.replicate_zero, Bool.or_false, Bool.false_or, wrap_i64, Int.reduceMul, Int.reduceSub, Int.reduceAdd, mn, fd, k53_t0, List.take_succ_cons, List.take_zero, List.drop_succ_cons, List.drop_zero, List.cons_append, List.nil_append, List.length_cons, List.length_nil]) | (with_reducible refine wgd_cases ?_ ?_ <;> intro hb) | (with_reducible refine wcond_cases ?_ ?_ <;> intro hb) | (with_reducible refine qd_i (by kernel_rfl) ?_) | (with_reducible refine W_itn_cases ?_ ?_; omega))
  simp [sumB, bv, u8_mod]
end Go.Proofs.YtkbheoganajhaaaDoor.Vm
set_option maxRecDepth 10000
set_option linter.unusedVariables false
set_option linter.unusedSimpArgs false
namespace Go.Proofs.YtkbheoganajhaaaDoor.Vm
open Go Go.Proofs
def u64r (s : Int) : Prop := 0 ≤ s ∧ s < 18446744073709551616
theorem u64w (n : Int) : u64r (IntKind.u64.wrap n) := by rw [IntKind.wrap_u64]; unfold u64r; omega
def growI (h b : Int) : Int := IntKind.u64.wrap (Go.bits .xor .u64 h b * 1099511628211)
def mixI (s : Int) (bs : List Int) : Int := bs.foldl growI s
theorem growI_r (h b : Int) : u64r (growI h b) := u64w _
theorem mixI_r : ∀ (bs : List Int) {s : Int}, u64r s → u64r (mixI s bs)
  | [], _, h => h
  | b :: bs, s, _ => mixI_r bs (growI_r s b)
def four (n : Int) : List Int := [n / 16777216 % 256, n / 65536 % 256, n / 256 % 256, n % 256]
def nextI (s : Int) (bs : List Int) : Int := mixI (mixI s bs) (four ((bs.length : Int) % 4294967296))
theorem nextI_r (s : Int) (bs : List Int) (h : u64r s) : u64r (nextI s bs) := mixI_r _ (mixI_r _ h)
theorem u32_mod (n : Int) : IntKind.u32.wrap n = n % 4294967296 := by rw [IntKind.wrap_u32]
theorem mix_ok (bs : List Int) (hb : bOK bs) (hl : bs.length < 4611686018427387904) (r : Nat) (s : Int) : L.pl 78 [.sc (.int .u64 s), .list 5 (bv bs) r] = some (.ret (.sc (.int .u64 (mixI s bs)))) := by
  refine W_of (pl_w k78_eq ?_)
  simp only [k78]
  repeat' (first | (simp -implicitDefEqProofs only [ze, Nat.reduceEqDiff, Nat.reduceAdd, Nat.reduceMul, reduceIte, Nat.reduceLT, Nat.reduceLeDiff, reduceCtorEq, Int.reduceEq, Int.reduceLT, Int.reduceLE, Int.reduceNeg, Int.reduceToNat, Nat.reduceBEq, Nat.reduceSub, qp, qf, kop, av, RQ, PQ, kres, kres1, kresL, fin, fins, fin1, V.pur?, V.pur1?, V.cells, kld, ones, V.one, Value.oneCell', own, owns, own1, xfill, ksrc, kint, vint, ksub, keqs, kok, V.val1?, ofRes, bv_len]) | (with_reducible refine wgd_cases ?_ ?_ <;> intro hb) | (with_reducible refine wcond_cases ?_ ?_ <;> intro hb) | (with_reducible refine qd_i (by kernel_rfl) ?_) | (with_reducible refine W_itn_cases ?_ ?_; omega))
  refine loop_w (fun n tm st nx => ∃ (i : Nat) (x : Int), n = bs.length - i ∧ i ≤ bs.length ∧ tm 9 = .i64 i ∧ tm 8 = .i64 bs.length ∧ tm 7 = .list 5 (bv bs) r ∧ tm 0 = .sc (.int .u64 x) ∧ mixI s bs = mixI x (bs.drop i)) bs.length ⟨0, s, by omega, by omega, ?_, ?_, ?_, ?_, rfl⟩ ?_
  · simp -implicitDefEqProofs only [ze, Nat.reduceEqDiff, Nat.reduceAdd, Nat.reduceMul, reduceIte, Nat.reduceLT, Nat.reduceLeDiff, reduceCtorEq, Int.reduceEq, Int.reduceLT, Int.reduceLE, Int.reduceNeg, Int.reduceToNat, Nat.reduceBEq, Nat.reduceSub, qp, qf, kop, av, RQ, PQ, kres, kres1, kresL, fin, fins, fin1, V.pur?, V.pur1?, V.cells, kld, ones, V.one, Value.oneCell', own, owns, own1, xfill, ksrc, kint, vint, ksub, keqs, kok, V.val1?, ofRes]; rfl
  · simp -implicitDefEqProofs only [ze, Nat.reduceEqDiff, Nat.reduceAdd, Nat.reduceMul, reduceIte, Nat.reduceLT, Nat.reduceLeDiff, reduceCtorEq, Int.reduceEq, Int.reduceLT, Int.reduceLE, Int.reduceNeg, Int.reduceToNat, Nat.reduceBEq, Nat.reduceSub, qp, qf, kop, av, RQ, PQ, kres, kres1, kresL, fin, fins, fin1, V.pur?, V.pur1?, V.cells, kld, ones, V.one, Value.oneCell', own, owns, own1, xfill, ksrc, kint, vint, ksub, keqs, kok, V.val1?, ofRes]
  · simp -implicitDefEqProofs only [ze, Nat.reduceEqDiff, Nat.reduceAdd, Nat.reduceMul, reduceIte, Nat.reduceLT, Nat.reduceLeDiff, reduceCtorEq, Int.reduceEq, Int.reduceLT, Int.reduceLE, Int.reduceNeg, Int.reduceToNat, Nat.reduceBEq, Nat.reduceSub, qp, qf, kop, av, RQ, PQ, kres, kres1, kresL, fin, fins, fin1, V.pur?, V.pur1?, V.cells, kld, ones, V.one, Value.oneCell', own, owns, own1, xfill, ksrc, kint, vint, ksub, keqs, kok, V.val1?, ofRes]
  · simp -implicitDefEqProofs only [ze, Nat.reduceEqDiff, Nat.reduceAdd, Nat.reduceMul, reduceIte, Nat.reduceLT, Nat.reduceLeDiff, reduceCtorEq, Int.reduceEq, Int.reduceLT, Int.reduceLE, Int.reduceNeg, Int.reduceToNat, Nat.reduceBEq, Nat.reduceSub, qp, qf, kop, av, RQ, PQ, kres, kres1, kresL, fin, fins, fin1, V.pur?, V.pur1?, V.cells, kld, ones, V.one, Value.oneCell', own, owns, own1, xfill, ksrc, kint, vint, ksub, keqs, kok, V.val1?, ofRes]
  rintro n tm st nx ⟨i, x, hn, hi, h9, h8, h7, h0, hm⟩
  simp only [k78_l0, k78_t0]
  by_cases hlt : i < bs.length
  · have hd : decide ((i : Int) < (bs.length : Int)) = true := decide_eq_true (by omega)
    obtain ⟨b, hb1⟩ := get_lt (l := bs) (i := i) (by omega)
    obtain ⟨hb2, hb3⟩ := hb b (List.mem_of_getElem? hb1)
    have e : bs.drop i = b :: bs.drop (i + 1) := by rw [List.drop_eq_getElem_cons (by omega)]; rw [List.getElem?_eq_getElem (by omega)] at hb1; rw [Option.some.inj hb1]
    have hup : IntKind.i64.wrap ((i : Int) + 1) = ((i + 1 : Nat) : Int) := wrap_i64 (by omega) (by omega)
    have hw : IntKind.u64.wrap b = b := Co.u64_small hb2 (by omega)
    rw [e] at hm
    repeat' (first | (simp -implicitDefEqProofs only [ze, Nat.reduceEqDiff, Nat.reduceAdd, Nat.reduceMul, reduceIte, Nat.reduceLT, Nat.reduceLeDiff, reduceCtorEq, Int.reduceEq, Int.reduceLT, Int.reduceLE, Int.reduceNeg, Int.reduceToNat, Nat.reduceBEq, Nat.reduceSub, qp, qf, kop, av, RQ, PQ, kres, kres1, kresL, fin, fins, fin1, V.pur?, V.pur1?, V.cells, kld, ones, V.one, Value.oneCell', own, owns, own1, xfill, ksrc, kint, vint, ksub, keqs, kok, V.val1?, ofRes, h9, h8, h7, h0, hd, bv_get, hb1, hup, hw]) | (with_reducible refine wgd_cases ?_ ?_ <;> intro hb) | (with_reducible refine wcond_cases ?_ ?_ <;> intro hb) | (with_reducible refine qd_i (by kernel_rfl) ?_) | (with_reducible refine W_itn_cases ?_ ?_; omega))
    exact ⟨bs.length - (i + 1), by omega, i + 1, growI x b, rfl, by omega, rfl, rfl, hm⟩
  · have hd : decide ((i : Int) < (bs.length : Int)) = false := decide_eq_false (by omega)
    have hin : i = bs.length := by omega
    rw [hin, List.drop_length] at hm
    repeat' (first | (simp -implicitDefEqProofs only [ze, Nat.reduceEqDiff, Nat.reduceAdd, Nat.reduceMul, reduceIte, Nat.reduceLT, Nat.reduceLeDiff, reduceCtorEq, Int.reduceEq, Int.reduceLT, Int.reduceLE, Int.reduceNeg, Int.reduceToNat, Nat.reduceBEq, Nat.reduceSub, qp, qf, kop, av, RQ, PQ, kres, kres1, kresL, fin, fins, fin1, V.pur?, V.pur1?, V.cells, kld, ones, V.one, Value.oneCell', own, owns, own1, xfill, ksrc, kint, vint, ksub, keqs, kok, V.val1?, ofRes, h9, h8, h7, h0, hd]) | (with_reducible refine wgd_cases ?_ ?_ <;> intro hb) | (with_reducible refine wcond_cases ?_ ?_ <;> intro hb) | (with_reducible refine qd_i (by kernel_rfl) ?_) | (with_reducible refine W_itn_cases ?_ ?_; omega))
    rw [hm]; rfl
theorem f24 (x : Int) : x.fdiv 16777216 = x / 16777216 := Int.fdiv_eq_ediv_of_nonneg x (by decide)
theorem f16 (x : Int) : x.fdiv 65536 = x / 65536 := Int.fdiv_eq_ediv_of_nonneg x (by decide)
theorem f8 (x : Int) : x.fdiv 256 = x / 256 := Int.fdiv_eq_ediv_of_nonneg x (by decide)
theorem four_ok (n : Int) : bOK (four n) := by
  intro b hb
  simp only [four, List.mem_cons, List.not_mem_nil, or_false] at hb
  omega
theorem cnext_ok (bs : List Int) (hb : bOK bs) (hl : bs.length < 4611686018427387904) (r : Nat) (s : Int) : L.pl 51 [.sc (.int .u64 s), .list 5 (bv bs) r] = some (.ret (.sc (.int .u64 (nextI s bs)))) := by
  refine W_of (pl_w k51_eq ?_)
  simp only [k51]
  have hm := mix_ok bs hb hl 0 s
  have hm1 := mix_ok bs hb hl 1 s
  have hm2 := mix_ok (four ((bs.length : Int) % 4294967296)) (four_ok _) (by simp [four]) 0 (mixI s bs)
  have hr : (if r = 1 then 1 else 0) = 0 ∨ (if r = 1 then 1 else 0) = 1 := by split <;> simp
  have e : bv (four ((bs.length : Int) % 4294967296)) = [V.sc (.int .u8 ((bs.length : Int) % 4294967296 / 16777216 % 256)), V.sc (.int .u8 ((bs.length : Int) % 4294967296 / 65536 % 256)), V.sc (.int .u8 ((bs.length : Int) % 4294967296 / 256 % 256)), V.sc (.int .u8 ((bs.length : Int) % 4294967296 % 256))] := rfl
  rw [e] at hm2
  have p24 : (2 : Int) ^ 24 = 16777216 := rfl
  have p16 : (2 : Int) ^ 16 = 65536 := rfl
  have p8 : (2 : Int) ^ 8 = 256 := rfl
  have n24 : Nat.min 24 IntKind.u32.bits = 24 := rfl
  have n16 : Nat.min 16 IntKind.u32.bits = 16 := rfl
  have n8 : Nat.min 8 IntKind.u32.bits = 8 := rfl
  rcases hr with hr | hr
  · repeat' (first | (simp -implicitDefEqProofs only [ze, Nat.reduceEqDiff, Nat.reduceAdd, Nat.reduceMul, reduceIte, Nat.reduceLT, Nat.reduceLeDiff, reduceCtorEq, Int.reduceEq, Int.reduceLT, Int.reduceLE, Int.reduceNeg, Int.reduceToNat, Nat.reduceBEq, Nat.reduceSub, qp, qf, kop, av, RQ, PQ, kres, kres1, kresL, fin, fins, fin1, V.pur?, V.pur1?, V.cells, kld, ones, V.one, Value.oneCell', own, owns, own1, xfill, ksrc, kint, vint, ksub, keqs, kok, V.val1?, ofRes, hr, hm, hm2, bv_len, u32_mod, u8_mod, f24, f16, f8, p24, p16, p8, n24, n16, n8]) | (with_reducible refine wgd_cases ?_ ?_ <;> intro hb) | (with_reducible refine wcond_cases ?_ ?_ <;> intro hb) | (with_reducible refine qd_i (by kernel_rfl) ?_) | (with_reducible refine W_itn_cases ?_ ?_; omega))
    rfl
  · repeat' (first | (simp -implicitDefEqProofs only [ze, Nat.reduceEqDiff, Nat.reduceAdd, Nat.reduceMul, reduceIte, Nat.reduceLT, Nat.reduceLeDiff, reduceCtorEq, Int.reduceEq, Int.reduceLT, Int.reduceLE, Int.reduceNeg, Int.reduceToNat, Nat.reduceBEq, Nat.reduceSub, qp, qf, kop, av, RQ, PQ, kres, kres1, kresL, fin, fins, fin1, V.pur?, V.pur1?, V.cells, kld, ones, V.one, Value.oneCell', own, owns, own1, xfill, ksrc, kint, vint, ksub, keqs, kok, V.val1?, ofRes, hr, hm1, hm2, bv_len, u32_mod, u8_mod, f24, f16, f8, p24, p16, p8, n24, n16, n8]) | (with_reducible refine wgd_cases ?_ ?_ <;> intro hb) | (with_reducible refine wcond_cases ?_ ?_ <;> intro hb) | (with_reducible refine qd_i (by kernel_rfl) ?_) | (with_reducible refine W_itn_cases ?_ ?_; omega))
    rfl
end Go.Proofs.YtkbheoganajhaaaDoor.Vm
set_option maxRecDepth 10000
set_option linter.unusedVariables false
set_option linter.unusedSimpArgs false
namespace Go.Proofs.YtkbheoganajhaaaDoor.Vm
open Go Go.Proofs
theorem n32_24 : Nat.min 24 IntKind.u32.bits = 24 := rfl
theorem n32_16 : Nat.min 16 IntKind.u32.bits = 16 := rfl
theorem n32_8 : Nat.min 8 IntKind.u32.bits = 8 := rfl
theorem p24 : (2 : Int) ^ 24 = 16777216 := rfl
theorem p16 : (2 : Int) ^ 16 = 65536 := rfl
theorem p8 : (2 : Int) ^ 8 = 256 := rfl
theorem snum_ok (n : Int) : L.pl 52 [.sc (.int .u32 n)] = some (.ret (.list 5 (bv (four n)) (8 + 5))) := by
  refine W_of (pl_w k52_eq ?_)
  simp only [k52]
  repeat' (first | (simp -implicitDefEqProofs only [ze, Nat.reduceEqDiff, Nat.reduceAdd, Nat.reduceMul, reduceIte, Nat.reduceLT, Nat.reduceLeDiff, reduceCtorEq, Int.reduceEq, Int.reduceLT, Int.reduceLE, Int.reduceNeg, Int.reduceToNat, Nat.reduceBEq, Nat.reduceSub, qp, qf, kop, av, RQ, PQ, kres, kres1, kresL, fin, fins, fin1, V.pur?, V.pur1?, V.cells, kld, ones, V.one, Value.oneCell', own, owns, own1, xfill, ksrc, kint, vint, ksub, keqs, kok, V.val1?, ofRes, u8_mod, f24, f16, f8, p24, p16, p8, n32_24, n32_16, n32_8]) | (with_reducible refine wgd_cases ?_ ?_ <;> intro hb) | (with_reducible refine wcond_cases ?_ ?_ <;> intro hb) | (with_reducible refine qd_i (by kernel_rfl) ?_) | (with_reducible refine W_itn_cases ?_ ?_; omega))
  rfl
def inv (n : Int) : Int := 4294967295 - n
def frameB (bs : List Int) (s : Int) : List Int := four bs.length ++ four (inv bs.length) ++ bs ++ sumB s
theorem four_len (n : Int) : (four n).length = 4 := rfl
theorem sumB_len (s : Int) : (sumB s).length = 8 := rfl
theorem frameB_len (bs : List Int) (s : Int) : (frameB bs s).length = bs.length + 16 := by simp [frameB, four_len, sumB_len]; omega
end Go.Proofs.YtkbheoganajhaaaDoor.Vm
set_option maxRecDepth 10000
set_option linter.unusedVariables false
set_option linter.unusedSimpArgs false
namespace Go.Proofs.YtkbheoganajhaaaDoor.Vm
open Go Go.Proofs
def LogW (st : St) (nx id : Nat) (out : List Int) (s : Int) (w : V) : Prop := id < nx ∧ ∃ v, st id = some (.cells [v, .sc (.int .u64 s), w]) ∧ Grow st nx 5 (bv out) v
def KeepO (st st' : St) (nx id : Nat) : Prop := ∀ i, i < nx → i ≠ id → (∀ n e, st i ≠ some (.tok n e)) → st' i = st i
def tokOf : V → Nat
  | .list _ _ r => r
  | _ => 0
def toksAt (st : St) (id : Nat) : List Nat := match st id with
  | some (.cells [v, _, w]) => [tokOf v, tokOf w]
  | _ => []
def KQ (st st' : St) (nx id : Nat) : Prop := (∀ k, k < nx → k ≠ id → k ∉ toksAt st id → st' k = st k) ∧ ∀ k ∈ toksAt st' id, k ∈ toksAt st id ∨ nx ≤ k
def KeepR (st st' : St) (nx e : Nat) : Prop := ∀ i n e', i < nx → e' ≠ e → st i = some (.tok n e') → st' i = some (.tok n e')
theorem un_xor32 (P : Program) (n : Int) : reck P (Op.unary .xor (.int .u32 n)) = some (.int .u32 (Go.bits .xor .u32 4294967295 n)) := rfl
theorem xinv (n : Int) (hn : 0 ≤ n ∧ n < 4294967296) : Go.bits .xor .u32 4294967295 n = inv n := by
  obtain ⟨a, rfl⟩ := Int.eq_ofNat_of_zero_le hn.1
  rw [Co.xor_comm_]
  show IntKind.u32.wrap ((BitVec.ofInt 32 (a : Int) ^^^ BitVec.ofInt 32 4294967295).toNat : Int) = _
  have h1 : BitVec.ofInt 32 4294967295 = BitVec.allOnes 32 := by decide
  have h2 : (BitVec.ofInt 32 (a : Int)).toNat = a := by rw [BitVec.toNat_ofInt]; omega
  rw [h1, BitVec.xor_allOnes, BitVec.toNat_not, h2, IntKind.wrap_u32]
  unfold inv; omega
theorem nxj (n j : Nat) : (n = n + j) = (j = 0) := propext (by omega)
theorem write_ok {st : St} {nx id : Nat} {out : List Int} {s : Int} {w : V} (he : LogW st nx id out s w) (bs : List Int) (hb : bOK bs) (hs : u64r s) (hl : out.length ≤ 100000000000) (hl2 : bs.length ≤ 1000000000) (r : Nat) :
    W (L.hp 29 [.ptr id 0, .list 5 (bv bs) r] st nx) fun r => ∃ st' nx', r = .ret (.tup []) st' nx' ∧ nx ≤ nx' ∧ LogW st' nx' id (out ++ frameB bs (nextI s bs)) (nextI s bs) w ∧ KeepO st st' nx id ∧ KeepR st st' nx 5 ∧ KQ st st' nx id := by
  refine hp_w k29_eq ?_
  simp only [k29]
  obtain ⟨hid, v, hv, hg⟩ := he
  have hn : (0 : Int) ≤ (bs.length : Int) ∧ (bs.length : Int) < 4294967296 := ⟨by omega, by omega⟩
  have hw : (bs.length : Int) % 4294967296 = bs.length := Int.emod_eq_of_lt hn.1 hn.2
  have hx := xinv _ hn
  have hk := cnext_ok bs hb (by omega) (if r = 1 then 1 else 0) s
  have hr' := nextI_r s bs hs
  have hz := cbytes_ok (nextI s bs) hr'.1 hr'.2
  have hne : ∀ j, (id = nx + j) = False := fun j => eq_false (by omega)
  have hne' : ∀ j, (nx + j = id) = False := fun j => eq_false (by omega)
  rcases hg with ⟨hb0, rfl⟩ | ⟨q, hr8, hrn, rfl, hst⟩
  · have hout : out = [] := by simpa [bv] using hb0
    subst hout
    repeat' (first | (simp -implicitDefEqProofs only [ze, Nat.reduceEqDiff, Nat.reduceAdd, Nat.reduceMul, reduceIte, Nat.reduceLT, Nat.reduceLeDiff, reduceCtorEq, Int.reduceEq, Int.reduceLT, Int.reduceLE, Int.reduceNeg, Int.reduceToNat, Nat.reduceBEq, Nat.reduceSub, qp, qf, kop, av, RQ, PQ, kres, kres1, kresL, fin, fins, fin1, V.pur?, V.pur1?, V.cells, kld, ones, V.one, Value.oneCell', own, owns, own1, xfill, ksrc, kint, vint, ksub, keqs, kok, V.val1?, ofRes, hv, hk, hw, u32_mod, hx, un_xor32, snum_ok, hz, hne, hne', nxj, bv_len, four_len, sumB_len, List.length_append]) | (with_reducible refine W_itn_cases ?_ ?_; omega))
    refine qd_i ?_ ?_
    · simp [recsOk, ordB, Rec.free, Rec.wr, disj, List.range, List.range.loop, hne, hne']; try decide
    repeat' (first | (simp -implicitDefEqProofs only [ze, Nat.reduceEqDiff, Nat.reduceAdd, Nat.reduceMul, reduceIte, Nat.reduceLT, Nat.reduceLeDiff, reduceCtorEq, Int.reduceEq, Int.reduceLT, Int.reduceLE, Int.reduceNeg, Int.reduceToNat, Nat.reduceBEq, Nat.reduceSub, qp, qf, kop, av, RQ, PQ, kres, kres1, kresL, fin, fins, fin1, V.pur?, V.pur1?, V.cells, kld, ones, V.one, Value.oneCell', own, owns, own1, xfill, ksrc, kint, vint, ksub, keqs, kok, V.val1?, ofRes, hv, hk, hw, u32_mod, hx, un_xor32, snum_ok, hz, hne, hne', nxj, bv_len, four_len, sumB_len, List.length_append]) | (with_reducible refine W_itn_cases ?_ ?_; omega))
    refine qd_i ?_ ?_
    · simp [recsOk, ordB, Rec.free, Rec.wr, disj, List.range, List.range.loop, hne, hne']; try decide
    simp -implicitDefEqProofs only [ze, Nat.reduceEqDiff, Nat.reduceAdd, Nat.reduceMul, reduceIte, Nat.reduceLT, Nat.reduceLeDiff, reduceCtorEq, Int.reduceEq, Int.reduceLT, Int.reduceLE, Int.reduceNeg, Int.reduceToNat, Nat.reduceBEq, Nat.reduceSub, qp, qf, kop, av, RQ, PQ, kres, kres1, kresL, fin, fins, fin1, V.pur?, V.pur1?, V.cells, kld, ones, V.one, Value.oneCell', own, owns, own1, xfill, ksrc, kint, vint, ksub, keqs, kok, V.val1?, ofRes, hv, hk, hw, u32_mod, hx, un_xor32, snum_ok, hz, hne, hne', nxj, bv_len, four_len, sumB_len, List.length_append]
    refine ⟨_, _, rfl, by omega, ⟨by omega, _, by rw [upd_at, if_pos rfl], .inr ⟨nx + 168, by omega, by omega, by simp [frameB, bv_app], ?_⟩⟩, fun i h1 h2 h3 => ?_, fun i n e' h1 h2 h3 => ?_, fun k h1 h2 h3 => ?_, fun k hk => ?_⟩
    · simp [upd_at, hne', bv_len, frameB, four_len, sumB_len]; omega
    · have a1 : ∀ j, (i = nx + j) = False := fun j => eq_false (by omega)
      simp [upd_at, h2, a1]
    · have a1 : ∀ j, (i = nx + j) = False := fun j => eq_false (by omega)
      have a2 : (i = id) = False := eq_false fun e => by subst e; rw [hv] at h3; cases h3
      simp [upd_at, a2, a1, h3]
    · have a1 : ∀ j, (k = nx + j) = False := fun j => eq_false (by omega)
      simp [upd_at, h2, a1]
    · simp only [toksAt, upd_at, if_true, tokOf, List.mem_cons, List.not_mem_nil, or_false] at hk
      simp only [toksAt, hv, tokOf, List.mem_cons, List.not_mem_nil, or_false]
      omega
  · have hr0 : (q = 0) = False := eq_false (by omega)
    have hr1 : (q = 1) = False := eq_false (by omega)
    have hrx : ∀ j, (q = nx + j) = False := fun j => eq_false (by omega)
    have hrx' : ∀ j, (nx + j = q) = False := fun j => eq_false (by omega)
    have hri : ¬ q = id := fun e => by subst e; rw [hv] at hst; cases hst
    have hri' : (q = id) = False := eq_false hri
    have hir : (id = q) = False := eq_false fun e => hri e.symm
    repeat' (first | (simp -implicitDefEqProofs only [ze, Nat.reduceEqDiff, Nat.reduceAdd, Nat.reduceMul, reduceIte, Nat.reduceLT, Nat.reduceLeDiff, reduceCtorEq, Int.reduceEq, Int.reduceLT, Int.reduceLE, Int.reduceNeg, Int.reduceToNat, Nat.reduceBEq, Nat.reduceSub, qp, qf, kop, av, RQ, PQ, kres, kres1, kresL, fin, fins, fin1, V.pur?, V.pur1?, V.cells, kld, ones, V.one, Value.oneCell', own, owns, own1, xfill, ksrc, kint, vint, ksub, keqs, kok, V.val1?, ofRes, hv, hk, hw, u32_mod, hx, un_xor32, snum_ok, hz, hne, hne', nxj, bv_len, four_len, sumB_len, List.length_append, hr0, hr1, hrx, hrx', hri', hir, hst]) | (with_reducible refine W_itn_cases ?_ ?_; omega))
    refine qd_i ?_ ?_
    · simp [recsOk, ordB, Rec.free, Rec.wr, disj, List.range, List.range.loop, hne, hne', hrx, hrx', hri', hir]; try decide
    repeat' (first | (simp -implicitDefEqProofs only [ze, Nat.reduceEqDiff, Nat.reduceAdd, Nat.reduceMul, reduceIte, Nat.reduceLT, Nat.reduceLeDiff, reduceCtorEq, Int.reduceEq, Int.reduceLT, Int.reduceLE, Int.reduceNeg, Int.reduceToNat, Nat.reduceBEq, Nat.reduceSub, qp, qf, kop, av, RQ, PQ, kres, kres1, kresL, fin, fins, fin1, V.pur?, V.pur1?, V.cells, kld, ones, V.one, Value.oneCell', own, owns, own1, xfill, ksrc, kint, vint, ksub, keqs, kok, V.val1?, ofRes, hv, hk, hw, u32_mod, hx, un_xor32, snum_ok, hz, hne, hne', nxj, bv_len, four_len, sumB_len, List.length_append, hr0, hr1, hrx, hrx', hri', hir, hst]) | (with_reducible refine W_itn_cases ?_ ?_; omega))
    refine qd_i ?_ ?_
    · simp [recsOk, ordB, Rec.free, Rec.wr, disj, List.range, List.range.loop, hne, hne', hrx, hrx', hri', hir]; try decide
    simp -implicitDefEqProofs only [ze, Nat.reduceEqDiff, Nat.reduceAdd, Nat.reduceMul, reduceIte, Nat.reduceLT, Nat.reduceLeDiff, reduceCtorEq, Int.reduceEq, Int.reduceLT, Int.reduceLE, Int.reduceNeg, Int.reduceToNat, Nat.reduceBEq, Nat.reduceSub, qp, qf, kop, av, RQ, PQ, kres, kres1, kresL, fin, fins, fin1, V.pur?, V.pur1?, V.cells, kld, ones, V.one, Value.oneCell', own, owns, own1, xfill, ksrc, kint, vint, ksub, keqs, kok, V.val1?, ofRes, hv, hk, hw, u32_mod, hx, un_xor32, snum_ok, hz, hne, hne', nxj, bv_len, four_len, sumB_len, List.length_append, hr0, hr1, hrx, hrx', hri', hir, hst]
    refine ⟨_, _, rfl, by omega, ⟨by omega, _, by rw [upd_at, if_pos rfl], .inr ⟨q, hr8, by omega, by simp [frameB, bv_app], ?_⟩⟩, fun i h1 h2 h3 => ?_, fun i n e' h1 h2 h3 => ?_, fun k h1 h2 h3 => ?_, fun k hk => ?_⟩
    · simp [upd_at, hri', bv_len, frameB, four_len, sumB_len]; omega
    · have a1 : ∀ j, (i = nx + j) = False := fun j => eq_false (by omega)
      have a2 : (i = q) = False := eq_false fun e => by subst e; exact h3 _ _ hst
      simp [upd_at, h2, a1, a2]
    · have a1 : ∀ j, (i = nx + j) = False := fun j => eq_false (by omega)
      have a2 : (i = id) = False := eq_false fun e => by subst e; rw [hv] at h3; cases h3
      have a3 : (i = q) = False := eq_false fun e => by subst e; rw [h3] at hst; cases hst; exact h2 rfl
      simp [upd_at, a2, a1, a3, h3]
    · have a1 : ∀ j, (k = nx + j) = False := fun j => eq_false (by omega)
      simp only [toksAt, hv, tokOf, List.mem_cons, List.not_mem_nil, or_false, not_or] at h3
      simp [upd_at, h2, a1, h3.1]
    · simp only [toksAt, upd_at, if_true, tokOf, List.mem_cons, List.not_mem_nil, or_false] at hk
      simp only [toksAt, hv, tokOf, List.mem_cons, List.not_mem_nil, or_false]
      omega
end Go.Proofs.YtkbheoganajhaaaDoor.Vm
set_option maxRecDepth 10000
set_option linter.unusedVariables false
set_option linter.unusedSimpArgs false
namespace Go.Proofs.YtkbheoganajhaaaDoor.Vm
open Go Go.Proofs
theorem encL_get (ls : List Line) (i : Nat) : (ls.map encL)[i]? = (ls[i]?).map encL := by simp
def copL (l : Line) : Line := { l with tr := false }
def copE (e : Entry) : Entry := { e with lines := e.lines.map copL, lr := e.lines.isEmpty }
theorem cop_k (e : Entry) : (copE e).k = e.k := by
  unfold copE Entry.k
  simp only [List.map_map]
  congr 1
theorem te_t (e : Nat) : te true e = 0 := rfl
theorem nr_f : nr false = 0 := rfl
theorem nr_t : nr true = 1 := rfl
theorem take_get {α : Type} {l : List α} {i : Nat} {x : α} (h : l[i]? = some x) : l.take (i + 1) = l.take i ++ [x] := by rw [List.take_add_one, h]; rfl
theorem copied_ok (e : Entry) (hn' : nilE e) (hl : e.lines.length < 1000000) (ht : ∀ l ∈ e.lines, l.tags.length < 1000000) : L.pl 30 [encE e] = some (.ret (encE (copE e))) := by
  refine W_of (pl_w k30_eq ?_)
  simp only [k30, encE]
  repeat' (first | (simp -implicitDefEqProofs only [ze, Nat.reduceEqDiff, Nat.reduceAdd, Nat.reduceMul, reduceIte, Nat.reduceLT, Nat.reduceLeDiff, reduceCtorEq, Int.reduceEq, Int.reduceLT, Int.reduceLE, Int.reduceNeg, Int.reduceToNat, Nat.reduceBEq, Nat.reduceSub, qp, qf, kop, av, RQ, PQ, kres, kres1, kresL, fin, fins, fin1, V.pur?, V.pur1?, V.cells, kld, ones, V.one, Value.oneCell', own, owns, own1, xfill, ksrc, kint, vint, ksub, keqs, kok, V.val1?, ofRes, List.length_map]) | (with_reducible refine wgd_cases ?_ ?_ <;> intro hb) | (with_reducible refine wcond_cases ?_ ?_ <;> intro hb) | (with_reducible refine qd_i (by kernel_rfl) ?_) | (with_reducible refine W_itn_cases ?_ ?_; omega))
  refine loop_w (fun n tm st nx => ∃ (i : Nat) (v : V), n = e.lines.length - i ∧ i ≤ e.lines.length ∧ 32 ≤ nx ∧ tm 11 = .i64 i ∧ tm 10 = .i64 e.lines.length ∧ tm 9 = .list (te e.lr 61) (e.lines.map encL) (nr e.lr) ∧ tm 1 = .ptr 8 0 ∧ tm 2 = .ptr 16 0 ∧ st 8 = some (.cells [.i64 e.no, .str e.ent, .i64 e.book, .i64 e.val, .i64 e.kind, .str e.ref, .str e.who, .i64 e.rev, v]) ∧ st 16 = some (.cells [.i64 0, .str (ByteArray.mk #[]), .i64 0, .i64 0, .i64 0, .str (ByteArray.mk #[]), .str (ByteArray.mk #[]), .i64 0, .list 0 [] 1]) ∧ Grow st nx 61 ((e.lines.take i).map fun l => encL (copL l)) v ∧ (i = 0 → v = .list 0 [] 1)) e.lines.length ⟨0, .list 0 [] 1, by omega, by omega, by omega, ?_, ?_, ?_, ?_, ?_, ?_, ?_, .inl ⟨rfl, rfl⟩, fun _ => rfl⟩ ?_
  · simp -implicitDefEqProofs only [ze, Nat.reduceEqDiff, Nat.reduceAdd, Nat.reduceMul, reduceIte, Nat.reduceLT, Nat.reduceLeDiff, reduceCtorEq, Int.reduceEq, Int.reduceLT, Int.reduceLE, Int.reduceNeg, Int.reduceToNat, Nat.reduceBEq, Nat.reduceSub, qp, qf, kop, av, RQ, PQ, kres, kres1, kresL, fin, fins, fin1, V.pur?, V.pur1?, V.cells, kld, ones, V.one, Value.oneCell', own, owns, own1, xfill, ksrc, kint, vint, ksub, keqs, kok, V.val1?, ofRes]; rfl
  · simp -implicitDefEqProofs only [ze, Nat.reduceEqDiff, Nat.reduceAdd, Nat.reduceMul, reduceIte, Nat.reduceLT, Nat.reduceLeDiff, reduceCtorEq, Int.reduceEq, Int.reduceLT, Int.reduceLE, Int.reduceNeg, Int.reduceToNat, Nat.reduceBEq, Nat.reduceSub, qp, qf, kop, av, RQ, PQ, kres, kres1, kresL, fin, fins, fin1, V.pur?, V.pur1?, V.cells, kld, ones, V.one, Value.oneCell', own, owns, own1, xfill, ksrc, kint, vint, ksub, keqs, kok, V.val1?, ofRes]
  · simp -implicitDefEqProofs only [ze, Nat.reduceEqDiff, Nat.reduceAdd, Nat.reduceMul, reduceIte, Nat.reduceLT, Nat.reduceLeDiff, reduceCtorEq, Int.reduceEq, Int.reduceLT, Int.reduceLE, Int.reduceNeg, Int.reduceToNat, Nat.reduceBEq, Nat.reduceSub, qp, qf, kop, av, RQ, PQ, kres, kres1, kresL, fin, fins, fin1, V.pur?, V.pur1?, V.cells, kld, ones, V.one, Value.oneCell', own, owns, own1, xfill, ksrc, kint, vint, ksub, keqs, kok, V.val1?, ofRes]
  · simp -implicitDefEqProofs only [ze, Nat.reduceEqDiff, Nat.reduceAdd, Nat.reduceMul, reduceIte, Nat.reduceLT, Nat.reduceLeDiff, reduceCtorEq, Int.reduceEq, Int.reduceLT, Int.reduceLE, Int.reduceNeg, Int.reduceToNat, Nat.reduceBEq, Nat.reduceSub, qp, qf, kop, av, RQ, PQ, kres, kres1, kresL, fin, fins, fin1, V.pur?, V.pur1?, V.cells, kld, ones, V.one, Value.oneCell', own, owns, own1, xfill, ksrc, kint, vint, ksub, keqs, kok, V.val1?, ofRes]
  · simp -implicitDefEqProofs only [ze, Nat.reduceEqDiff, Nat.reduceAdd, Nat.reduceMul, reduceIte, Nat.reduceLT, Nat.reduceLeDiff, reduceCtorEq, Int.reduceEq, Int.reduceLT, Int.reduceLE, Int.reduceNeg, Int.reduceToNat, Nat.reduceBEq, Nat.reduceSub, qp, qf, kop, av, RQ, PQ, kres, kres1, kresL, fin, fins, fin1, V.pur?, V.pur1?, V.cells, kld, ones, V.one, Value.oneCell', own, owns, own1, xfill, ksrc, kint, vint, ksub, keqs, kok, V.val1?, ofRes]
  · simp -implicitDefEqProofs only [ze, Nat.reduceEqDiff, Nat.reduceAdd, Nat.reduceMul, reduceIte, Nat.reduceLT, Nat.reduceLeDiff, reduceCtorEq, Int.reduceEq, Int.reduceLT, Int.reduceLE, Int.reduceNeg, Int.reduceToNat, Nat.reduceBEq, Nat.reduceSub, qp, qf, kop, av, RQ, PQ, kres, kres1, kresL, fin, fins, fin1, V.pur?, V.pur1?, V.cells, kld, ones, V.one, Value.oneCell', own, owns, own1, xfill, ksrc, kint, vint, ksub, keqs, kok, V.val1?, ofRes]
  · simp -implicitDefEqProofs only [ze, Nat.reduceEqDiff, Nat.reduceAdd, Nat.reduceMul, reduceIte, Nat.reduceLT, Nat.reduceLeDiff, reduceCtorEq, Int.reduceEq, Int.reduceLT, Int.reduceLE, Int.reduceNeg, Int.reduceToNat, Nat.reduceBEq, Nat.reduceSub, qp, qf, kop, av, RQ, PQ, kres, kres1, kresL, fin, fins, fin1, V.pur?, V.pur1?, V.cells, kld, ones, V.one, Value.oneCell', own, owns, own1, xfill, ksrc, kint, vint, ksub, keqs, kok, V.val1?, ofRes]
  rintro n tm st nx ⟨i, v, hn, hi, hnx, h11, h10, h9, h1, h2, h8, h16, hg, hz⟩
  simp only [k30_l0, k30_t0]
  have g8 : ∀ j, (8 = nx + j) = False := fun j => eq_false (by omega)
  have g16 : ∀ j, (16 = nx + j) = False := fun j => eq_false (by omega)
  have g8' : ∀ j, (nx + j = 8) = False := fun j => eq_false (by omega)
  have g16' : ∀ j, (nx + j = 16) = False := fun j => eq_false (by omega)
  by_cases hlt : i < e.lines.length
  · have hd : decide ((i : Int) < (e.lines.length : Int)) = true := decide_eq_true (by omega)
    obtain ⟨l, hl1⟩ := get_lt (l := e.lines) (i := i) hlt
    have hlm := List.mem_of_getElem? hl1
    have htl := ht l hlm
    have hlr : e.lr = false := by
      cases h : e.lr
      · rfl
      · have := hn'.1 h; rw [this] at hlt; simp at hlt
    rw [hlr] at h9
    have hup : IntKind.i64.wrap ((i : Int) + 1) = ((i + 1 : Nat) : Int) := wrap_i64 (by omega) (by omega)
    have hty : (te l.tr 97 = 97 ∨ (List.map encT l.tags).isEmpty = true) = True := eq_true (by
      cases h : l.tr
      · exact .inl rfl
      · right; rw [hn'.2 l hlm h]; rfl)
    have hel : encL l = .agg [.str l.acc, .str l.cur, .i64 l.amt, .i64 l.base, .str l.par, .str l.pty, .list (te l.tr 97) (l.tags.map encT) (nr l.tr)] := rfl
    have htk : (List.take i e.lines).length = i := by rw [List.length_take]; omega
    have hmap : (e.lines.take (i + 1)).map (fun l => encL (copL l)) = (e.lines.take i).map (fun l => encL (copL l)) ++ [encL (copL l)] := by rw [take_get hl1, List.map_append]; rfl
    rcases hg with ⟨hb0, rfl⟩ | ⟨q, hr8, hrn, rfl, hst⟩
    · repeat' (first | (simp -implicitDefEqProofs only [ze, Nat.reduceEqDiff, Nat.reduceAdd, Nat.reduceMul, reduceIte, Nat.reduceLT, Nat.reduceLeDiff, reduceCtorEq, Int.reduceEq, Int.reduceLT, Int.reduceLE, Int.reduceNeg, Int.reduceToNat, Nat.reduceBEq, Nat.reduceSub, qp, qf, kop, av, RQ, PQ, kres, kres1, kresL, fin, fins, fin1, V.pur?, V.pur1?, V.cells, kld, ones, V.one, Value.oneCell', own, owns, own1, xfill, ksrc, kint, vint, ksub, keqs, kok, V.val1?, ofRes, h11, h10, h9, h1, h2, h8, h16, hd, te_f, encL_get, hl1, hel, g8, g16, g8', g16', nxj, List.length_map, hup, hty]) | (with_reducible refine wgd_cases ?_ ?_ <;> intro hb) | (with_reducible refine wcond_cases ?_ ?_ <;> intro hb) | (with_reducible refine qd_i (by kernel_rfl) ?_) | (with_reducible refine W_itn_cases ?_ ?_; omega))
      exact ⟨e.lines.length - (i + 1), by omega, i + 1, _, rfl, by omega, rfl, by rw [hlr]; rfl, rfl, .inr ⟨nx + 112, by omega, by omega, by rw [hmap, hb0]; rfl, by rw [hmap, hb0]; simp [upd_at]⟩, fun h => by omega⟩
    · have hr0 : (q = 0) = False := eq_false (by omega)
      have hr1 : (q = 1) = False := eq_false (by omega)
      have hrx : ∀ j, (q = nx + j) = False := fun j => eq_false (by omega)
      have hrx' : ∀ j, (nx + j = q) = False := fun j => eq_false (by omega)
      have hq8 : (q = 8) = False := eq_false fun h => by subst h; rw [h8] at hst; cases hst
      have hq8' : (8 = q) = False := eq_false fun h => by subst h; rw [h8] at hst; cases hst
      have hq16 : (q = 16) = False := eq_false fun h => by subst h; rw [h16] at hst; cases hst
      have hq16' : (16 = q) = False := eq_false fun h => by subst h; rw [h16] at hst; cases hst
      repeat' (first | (simp -implicitDefEqProofs only [ze, Nat.reduceEqDiff, Nat.reduceAdd, Nat.reduceMul, reduceIte, Nat.reduceLT, Nat.reduceLeDiff, reduceCtorEq, Int.reduceEq, Int.reduceLT, Int.reduceLE, Int.reduceNeg, Int.reduceToNat, Nat.reduceBEq, Nat.reduceSub, qp, qf, kop, av, RQ, PQ, kres, kres1, kresL, fin, fins, fin1, V.pur?, V.pur1?, V.cells, kld, ones, V.one, Value.oneCell', own, owns, own1, xfill, ksrc, kint, vint, ksub, keqs, kok, V.val1?, ofRes, h11, h10, h9, h1, h2, h8, h16, hd, te_f, encL_get, hl1, hel, g8, g16, g8', g16', nxj, List.length_map, hup, hty, htk, hr0, hr1, hrx, hrx', hq8, hq8', hq16, hq16', hst]) | (with_reducible refine wgd_cases ?_ ?_ <;> intro hb) | (with_reducible refine wcond_cases ?_ ?_ <;> intro hb) | (with_reducible refine qd_i (by kernel_rfl) ?_) | (with_reducible refine W_itn_cases ?_ ?_; omega))
      exact ⟨e.lines.length - (i + 1), by omega, i + 1, _, rfl, by omega, rfl, by rw [hlr]; rfl, rfl, .inr ⟨q, by omega, by omega, by rw [hmap]; rfl, by rw [hmap]; simp [upd_at, htk, hq8, hrx]; omega⟩, fun h => by omega⟩
  · have hd : decide ((i : Int) < (e.lines.length : Int)) = false := decide_eq_false (by omega)
    have hin : i = e.lines.length := by omega
    rw [hin, List.take_length] at hg
    rcases hg with ⟨hb0, rfl⟩ | ⟨q, hr8, hrn, rfl, hst⟩
    · have hnil : e.lines = [] := by simpa using hb0
      repeat' (first | (simp -implicitDefEqProofs only [ze, Nat.reduceEqDiff, Nat.reduceAdd, Nat.reduceMul, reduceIte, Nat.reduceLT, Nat.reduceLeDiff, reduceCtorEq, Int.reduceEq, Int.reduceLT, Int.reduceLE, Int.reduceNeg, Int.reduceToNat, Nat.reduceBEq, Nat.reduceSub, qp, qf, kop, av, RQ, PQ, kres, kres1, kresL, fin, fins, fin1, V.pur?, V.pur1?, V.cells, kld, ones, V.one, Value.oneCell', own, owns, own1, xfill, ksrc, kint, vint, ksub, keqs, kok, V.val1?, ofRes, h11, h10, h9, h1, h2, h8, h16, hd, g8, g16, g8', g16']) | (with_reducible refine wgd_cases ?_ ?_ <;> intro hb) | (with_reducible refine wcond_cases ?_ ?_ <;> intro hb) | (with_reducible refine qd_i (by kernel_rfl) ?_) | (with_reducible refine W_itn_cases ?_ ?_; omega))
      simp [copE, hnil, te_t, nr_t]
    · have hr9 : (q < 8) = False := eq_false (by omega)
      have hr0 : (q = 0) = False := eq_false (by omega)
      have hr1 : (q = 1) = False := eq_false (by omega)
      repeat' (first | (simp -implicitDefEqProofs only [ze, Nat.reduceEqDiff, Nat.reduceAdd, Nat.reduceMul, reduceIte, Nat.reduceLT, Nat.reduceLeDiff, reduceCtorEq, Int.reduceEq, Int.reduceLT, Int.reduceLE, Int.reduceNeg, Int.reduceToNat, Nat.reduceBEq, Nat.reduceSub, qp, qf, kop, av, RQ, PQ, kres, kres1, kresL, fin, fins, fin1, V.pur?, V.pur1?, V.cells, kld, ones, V.one, Value.oneCell', own, owns, own1, xfill, ksrc, kint, vint, ksub, keqs, kok, V.val1?, ofRes, h11, h10, h9, h1, h2, h8, h16, hd, g8, g16, g8', g16', hr0, hr1, hr9, hst]) | (with_reducible refine wgd_cases ?_ ?_ <;> intro hb) | (with_reducible refine wcond_cases ?_ ?_ <;> intro hb) | (with_reducible refine qd_i (by kernel_rfl) ?_) | (with_reducible refine W_itn_cases ?_ ?_; omega))
      have hne : e.lines.isEmpty = false := by
        cases h : e.lines with
        | nil => have := hz (by rw [hin, h]; rfl); cases this
        | cons x xs => rfl
      simp only [copE, hne, te_f, nr_f, List.map_map]
      rfl
end Go.Proofs.YtkbheoganajhaaaDoor.Vm
set_option maxRecDepth 10000
set_option linter.unusedVariables false
set_option linter.unusedSimpArgs false
namespace Go.Proofs.YtkbheoganajhaaaDoor.Vm
open Go Go.Proofs
def start : Int := 14695981039346656037
theorem start_r : u64r start := ⟨by decide, by decide⟩
def sumE : Int → List Entry → Int
  | s, [] => s
  | s, x :: xs => sumE (nextI s (entryB x)) xs
def framesB : Int → List Entry → List Int
  | _, [] => []
  | s, x :: xs => frameB (entryB x) (nextI s (entryB x)) ++ framesB (nextI s (entryB x)) xs
theorem sumE_snoc : ∀ (xs : List Entry) (s : Int) (x : Entry), sumE s (xs ++ [x]) = nextI (sumE s xs) (entryB x)
  | [], _, _ => rfl
  | y :: ys, s, x => sumE_snoc ys (nextI s (entryB y)) x
theorem framesB_snoc : ∀ (xs : List Entry) (s : Int) (x : Entry), framesB s (xs ++ [x]) = framesB s xs ++ frameB (entryB x) (nextI (sumE s xs) (entryB x))
  | [], s, x => (List.append_nil (frameB (entryB x) (nextI s (entryB x)))).trans (List.nil_append _).symm
  | y :: ys, s, x => by
    show frameB (entryB y) (nextI s (entryB y)) ++ framesB (nextI s (entryB y)) (ys ++ [x]) = frameB (entryB y) (nextI s (entryB y)) ++ framesB (nextI s (entryB y)) ys ++ frameB (entryB x) (nextI (sumE (nextI s (entryB y)) ys) (entryB x))
    rw [framesB_snoc ys, List.append_assoc]
theorem sumE_r : ∀ (xs : List Entry) {s : Int}, u64r s → u64r (sumE s xs)
  | [], _, h => h
  | x :: xs, s, h => sumE_r xs (nextI_r s _ h)
structure goodE (e : Entry) : Prop where
  sm : smallE e
  rg : rangeE e
  ck : (checkS e).2 = 0
theorem goodE.plain {e : Entry} (h : goodE e) : plainE e := check_plain h.ck h.rg h.sm.nils
theorem entryB_short {x : Entry} (hp : plainE x) : (entryB x).length < 200000000 := by
  have h2 := headB_len x hp
  have h3 := linesB_len x.lines x.lines.length fun t ht => hp.lines t (List.mem_of_mem_take ht)
  have h4 := hp.len
  rw [List.take_length] at h3
  rw [entryB, List.length_append]; omega
theorem enc_get (es : List Entry) (i : Nat) : (es.map encE)[i]? = (es[i]?).map encE := by simp
theorem sames_true (a b : List Entry) (hk : a.map Entry.k = b.map Entry.k) (ha : ∀ e ∈ a, e.lines.length < 1000000 ∧ (∀ l ∈ e.lines, l.tags.length < 1000000) ∧ nilE e) (hb : ∀ e ∈ b, nilE e) (hl : a.length < 1000000) (t1 t2 r1 r2 : Nat) (h1 : a = [] ∨ t1 = 31) (h2 : b = [] ∨ t2 = 31) : L.pl 18 [.list t1 (a.map encE) r1, .list t2 (b.map encE) r2] = some (.ret (.bool true)) := by
  refine W_of (pl_w k18_eq ?_)
  simp only [k18]
  have hlen : b.length = a.length := by have := congrArg List.length hk; simpa using this.symm
  have hd : decide ((a.length : Int) = (a.length : Int)) = true := decide_eq_true rfl
  repeat' (first | (simp -implicitDefEqProofs only [ze, Nat.reduceEqDiff, Nat.reduceAdd, Nat.reduceMul, reduceIte, Nat.reduceLT, Nat.reduceLeDiff, reduceCtorEq, Int.reduceEq, Int.reduceLT, Int.reduceLE, Int.reduceNeg, Int.reduceToNat, Nat.reduceBEq, Nat.reduceSub, qp, qf, kop, av, RQ, PQ, kres, kres1, kresL, fin, fins, fin1, V.pur?, V.pur1?, V.cells, kld, ones, V.one, Value.oneCell', own, owns, own1, xfill, ksrc, kint, vint, ksub, keqs, kok, V.val1?, ofRes, List.length_map, hlen, hd]) | (with_reducible refine wgd_cases ?_ ?_ <;> intro hb) | (with_reducible refine wcond_cases ?_ ?_ <;> intro hb) | (with_reducible refine qd_i (by kernel_rfl) ?_) | (with_reducible refine W_itn_cases ?_ ?_; omega))
  refine loop_w (fun n tm st nx => ∃ (i : Nat), n = a.length - i ∧ i ≤ a.length ∧ tm 5 = .i64 i ∧ tm 0 = .list t1 (a.map encE) r1 ∧ tm 1 = .list t2 (b.map encE) r2) a.length ⟨0, by omega, by omega, ?_, ?_, ?_⟩ ?_
  · simp -implicitDefEqProofs only [ze, Nat.reduceEqDiff, Nat.reduceAdd, Nat.reduceMul, reduceIte, Nat.reduceLT, Nat.reduceLeDiff, reduceCtorEq, Int.reduceEq, Int.reduceLT, Int.reduceLE, Int.reduceNeg, Int.reduceToNat, Nat.reduceBEq, Nat.reduceSub, qp, qf, kop, av, RQ, PQ, kres, kres1, kresL, fin, fins, fin1, V.pur?, V.pur1?, V.cells, kld, ones, V.one, Value.oneCell', own, owns, own1, xfill, ksrc, kint, vint, ksub, keqs, kok, V.val1?, ofRes]; rfl
  · simp -implicitDefEqProofs only [ze, Nat.reduceEqDiff, Nat.reduceAdd, Nat.reduceMul, reduceIte, Nat.reduceLT, Nat.reduceLeDiff, reduceCtorEq, Int.reduceEq, Int.reduceLT, Int.reduceLE, Int.reduceNeg, Int.reduceToNat, Nat.reduceBEq, Nat.reduceSub, qp, qf, kop, av, RQ, PQ, kres, kres1, kresL, fin, fins, fin1, V.pur?, V.pur1?, V.cells, kld, ones, V.one, Value.oneCell', own, owns, own1, xfill, ksrc, kint, vint, ksub, keqs, kok, V.val1?, ofRes]; try rfl
  · simp -implicitDefEqProofs only [ze, Nat.reduceEqDiff, Nat.reduceAdd, Nat.reduceMul, reduceIte, Nat.reduceLT, Nat.reduceLeDiff, reduceCtorEq, Int.reduceEq, Int.reduceLT, Int.reduceLE, Int.reduceNeg, Int.reduceToNat, Nat.reduceBEq, Nat.reduceSub, qp, qf, kop, av, RQ, PQ, kres, kres1, kresL, fin, fins, fin1, V.pur?, V.pur1?, V.cells, kld, ones, V.one, Value.oneCell', own, owns, own1, xfill, ksrc, kint, vint, ksub, keqs, kok, V.val1?, ofRes]; try rfl
  rintro n tm st nx ⟨i, hn, hi, h5, h0, h1'⟩
  simp only [k18_l0, k18_t0]
  by_cases hlt : i < a.length
  · obtain rfl : t1 = 31 := by
      rcases h1 with rfl | h
      · simp at hlt
      · exact h
    obtain rfl : t2 = 31 := by
      rcases h2 with rfl | h
      · simp at hlen; omega
      · exact h
    have hd2 : decide ((i : Int) < (a.length : Int)) = true := decide_eq_true (by omega)
    obtain ⟨x, hx1⟩ := get_lt (l := a) (i := i) hlt
    obtain ⟨y, hy1⟩ := get_lt (l := b) (i := i) (by omega)
    have hkk : x.k = y.k := by
      have := congrArg (fun l => l[i]?) hk
      simp only [List.getElem?_map, hx1, hy1, Option.map_some] at this
      exact Option.some.inj this
    obtain ⟨q1, q2, q3⟩ := ha x (List.mem_of_getElem? hx1)
    have hS := same_ok x y (by omega) (fun l hl => by have := q2 l hl; omega) q3 (hb y (List.mem_of_getElem? hy1))
    rw [hkk, decide_eq_true rfl] at hS
    have hup : IntKind.i64.wrap ((i : Int) + 1) = ((i + 1 : Nat) : Int) := wrap_i64 (by omega) (by omega)
    simp only [encE] at hS
    repeat' (first | (simp -implicitDefEqProofs only [ze, Nat.reduceEqDiff, Nat.reduceAdd, Nat.reduceMul, reduceIte, Nat.reduceLT, Nat.reduceLeDiff, reduceCtorEq, Int.reduceEq, Int.reduceLT, Int.reduceLE, Int.reduceNeg, Int.reduceToNat, Nat.reduceBEq, Nat.reduceSub, qp, qf, kop, av, RQ, PQ, kres, kres1, kresL, fin, fins, fin1, V.pur?, V.pur1?, V.cells, kld, ones, V.one, Value.oneCell', own, owns, own1, xfill, ksrc, kint, vint, ksub, keqs, kok, V.val1?, ofRes, h5, h0, h1', hd2, enc_get, hx1, hy1, encE, hS, hup, List.length_map, nr_pur]) | (with_reducible refine wgd_cases ?_ ?_ <;> intro hb) | (with_reducible refine wcond_cases ?_ ?_ <;> intro hb) | (with_reducible refine qd_i (by kernel_rfl) ?_) | (with_reducible refine W_itn_cases ?_ ?_; omega))
    exact ⟨a.length - (i + 1), by omega, i + 1, rfl, by omega, rfl⟩
  · have hd2 : decide ((i : Int) < (a.length : Int)) = false := decide_eq_false (by omega)
    repeat' (first | (simp -implicitDefEqProofs only [ze, Nat.reduceEqDiff, Nat.reduceAdd, Nat.reduceMul, reduceIte, Nat.reduceLT, Nat.reduceLeDiff, reduceCtorEq, Int.reduceEq, Int.reduceLT, Int.reduceLE, Int.reduceNeg, Int.reduceToNat, Nat.reduceBEq, Nat.reduceSub, qp, qf, kop, av, RQ, PQ, kres, kres1, kresL, fin, fins, fin1, V.pur?, V.pur1?, V.cells, kld, ones, V.one, Value.oneCell', own, owns, own1, xfill, ksrc, kint, vint, ksub, keqs, kok, V.val1?, ofRes, h5, h0, h1', hd2, List.length_map]) | (with_reducible refine wgd_cases ?_ ?_ <;> intro hb) | (with_reducible refine wcond_cases ?_ ?_ <;> intro hb) | (with_reducible refine qd_i (by kernel_rfl) ?_) | (with_reducible refine W_itn_cases ?_ ?_; omega))
end Go.Proofs.YtkbheoganajhaaaDoor.Vm
set_option maxRecDepth 10000
set_option linter.unusedVariables false
set_option linter.unusedSimpArgs false
namespace Go.Proofs.YtkbheoganajhaaaDoor.Vm
open Go Go.Proofs
def LG (st : St) (nx id : Nat) (out : List Int) (s : Int) (es : List Entry) : Prop := ∃ w, LogW st nx id out s w ∧ Grow st nx 31 (es.map encE) w
def appC (n : Nat) (x : Entry) : Int := if (checkS x).2 = 0 then (if x.no = (n : Int) + 1 then 0 else 17) else (checkS x).2
theorem growU {st : St} {nx nx' e j : Nat} {xs : List V} {v : V} (h : Grow st nx e xs v) (hj : nx ≤ j) (hn : nx ≤ nx') (o : Option Ob) : Grow (upd st j o) nx' e xs v := by
  rcases h with h | ⟨r, h1, h2, h3, h4⟩
  · exact .inl h
  · exact .inr ⟨r, h1, by omega, h3, by rw [upd_at, if_neg (by omega)]; exact h4⟩
theorem growLe {st : St} {nx nx' e : Nat} {xs : List V} {v : V} (h : Grow st nx e xs v) (hn : nx ≤ nx') : Grow st nx' e xs v := by
  rcases h with h | ⟨r, h1, h2, h3, h4⟩
  · exact .inl h
  · exact .inr ⟨r, h1, by omega, h3, h4⟩
theorem lgU {st : St} {nx nx' id j : Nat} {out : List Int} {s : Int} {es : List Entry} (h : LG st nx id out s es) (hj : nx ≤ j) (hn : nx ≤ nx') (o : Option Ob) : LG (upd st j o) nx' id out s es := by
  obtain ⟨w, ⟨h1, v, h2, h3⟩, h4⟩ := h
  exact ⟨w, ⟨by omega, v, by rw [upd_at, if_neg (by omega)]; exact h2, growU h3 hj hn o⟩, growU h4 hj hn o⟩
theorem lgLe {st : St} {nx nx' id : Nat} {out : List Int} {s : Int} {es : List Entry} (h : LG st nx id out s es) (hn : nx ≤ nx') : LG st nx' id out s es := by
  obtain ⟨w, ⟨h1, v, h2, h3⟩, h4⟩ := h
  exact ⟨w, ⟨by omega, v, h2, growLe h3 hn⟩, growLe h4 hn⟩
theorem keepU {st : St} {nx id j : Nat} (hj : nx ≤ j) (o : Option Ob) : KeepO st (upd st j o) nx id := fun i h1 h2 h3 => by rw [upd_at, if_neg (by omega)]
theorem keepRefl (st : St) (nx id : Nat) : KeepO st st nx id := fun i h1 h2 h3 => rfl
theorem keepTrans {st st' st'' : St} {nx nx' id : Nat} (h : KeepO st st' nx id) (k : KeepO st' st'' nx' id) (hn : nx ≤ nx') : KeepO st st'' nx id := fun i h1 h2 h3 => by
  have e := h i h1 h2 h3
  rw [← e]
  exact k i (by omega) h2 (fun n e' => by rw [e]; exact h3 n e')
theorem growN {st : St} {nx e j : Nat} {xs : List V} {v : V} (h : Grow st nx e xs v) (hj : ∀ n, st j ≠ some (.tok n e)) (o : Option Ob) : Grow (upd st j o) nx e xs v := by
  rcases h with h | ⟨r, h1, h2, h3, h4⟩
  · exact .inl h
  · exact .inr ⟨r, h1, h2, h3, by rw [upd_at, if_neg (fun e => hj _ (e ▸ h4))]; exact h4⟩
theorem kqU {st : St} {nx id j : Nat} (hid : id < nx) (hj : nx ≤ j) (o : Option Ob) : KQ st (upd st j o) nx id := by
  refine ⟨fun k h1 h2 h3 => by rw [upd_at, if_neg (by omega)], fun k hk => ?_⟩
  have e : toksAt (upd st j o) id = toksAt st id := by unfold toksAt; rw [upd_at, if_neg (by omega)]
  rw [e] at hk; exact .inl hk
theorem kqTrans {st st' st'' : St} {nx nx' id : Nat} (h : KQ st st' nx id) (k : KQ st' st'' nx' id) (hn : nx ≤ nx') : KQ st st'' nx id := by
  refine ⟨fun i h1 h2 h3 => ?_, fun i hi => ?_⟩
  · rw [k.1 i (by omega) h2 (fun hm => (h.2 i hm).elim h3 (by omega)), h.1 i h1 h2 h3]
  · rcases k.2 i hi with q | q
    · exact h.2 i q
    · exact .inr (by omega)
theorem append_ok {st : St} {nx id : Nat} {out : List Int} {s : Int} {es : List Entry} (h : LG st nx id out s es) (x : Entry) (hx : smallE x) (rx : rangeE x) (hs : u64r s) (hl : out.length ≤ 100000000000) (he : es.length ≤ 1000000) :
    W (L.hp 12 [.ptr id 0, encE x] st nx) fun r => ∃ st' nx', r = .ret (.i64 (appC es.length x)) st' nx' ∧ nx ≤ nx' ∧ KeepO st st' nx id ∧ KQ st st' nx id ∧
      ((appC es.length x = 0 ∧ LG st' nx' id (out ++ frameB (entryB x) (nextI s (entryB x))) (nextI s (entryB x)) (es ++ [copE x])) ∨ (¬ appC es.length x = 0 ∧ LG st' nx' id out s es)) := by
  refine hp_w k12_eq ?_
  simp only [k12]
  obtain ⟨w, ⟨hid, v, hv, hg⟩, hw⟩ := h
  have hc := check_ok x hx rx.amts
  have hne : ∀ j, (id = nx + j) = False := fun j => eq_false (by omega)
  have hne' : ∀ j, (nx + j = id) = False := fun j => eq_false (by omega)
  have hn1 : (id = nx) = False := eq_false (by omega)
  have hn2 : (nx = id) = False := eq_false (by omega)
  by_cases h1 : (checkS x).2 = 0
  · have hpx := check_plain h1 rx hx.nils
    rw [h1] at hc
    have hP := put_ok x hpx _ hc
    have hcp := copied_ok x hx.nils (by have := hpx.len; omega) (fun l hl => by have := (hpx.lines l hl).len; omega)
    simp only [encE] at hc hP hcp ⊢
    have hw8 : IntKind.i64.wrap ((es.length : Int) + 1) = (es.length : Int) + 1 := wrap_i64 (by omega) (by omega)
    have hwl : w = .list 0 [] 1 ∧ es = [] ∨ ∃ r, w = .list 31 (es.map encE) r := by
      rcases hw with ⟨a, b⟩ | ⟨r, _, _, a, _⟩
      · exact .inl ⟨b, by simpa using a⟩
      · exact .inr ⟨r, a⟩
    obtain ⟨we, wr, rfl⟩ : ∃ we wr, w = .list we (es.map encE) wr := by
      rcases hwl with ⟨rfl, rfl⟩ | ⟨r, rfl⟩
      · exact ⟨0, 1, rfl⟩
      · exact ⟨_, r, rfl⟩
    by_cases h2 : x.no = (es.length : Int) + 1
    · have hd2 : decide (x.no = (es.length : Int) + 1) = true := decide_eq_true h2
      repeat' (first | (simp -implicitDefEqProofs only [ze, Nat.reduceEqDiff, Nat.reduceAdd, Nat.reduceMul, reduceIte, Nat.reduceLT, Nat.reduceLeDiff, reduceCtorEq, Int.reduceEq, Int.reduceLT, Int.reduceLE, Int.reduceNeg, Int.reduceToNat, Nat.reduceBEq, Nat.reduceSub, qp, qf, kop, av, RQ, PQ, kres, kres1, kresL, fin, fins, fin1, V.pur?, V.pur1?, V.cells, kld, ones, V.one, Value.oneCell', own, owns, own1, xfill, ksrc, kint, vint, ksub, keqs, kok, V.val1?, ofRes, hc, hP, hv, hd2, hw8, hne, hne', hn1, hn2, nxj, nr_pur, List.length_map]) | (with_reducible refine W_itn_cases ?_ ?_; omega))
      refine qd_i ?_ ?_
      · simp [recsOk, ordB, Rec.free, Rec.wr, disj, List.range, List.range.loop, hne, hne', hn1, hn2]; try decide
      repeat' (first | (simp -implicitDefEqProofs only [ze, Nat.reduceEqDiff, Nat.reduceAdd, Nat.reduceMul, reduceIte, Nat.reduceLT, Nat.reduceLeDiff, reduceCtorEq, Int.reduceEq, Int.reduceLT, Int.reduceLE, Int.reduceNeg, Int.reduceToNat, Nat.reduceBEq, Nat.reduceSub, qp, qf, kop, av, RQ, PQ, kres, kres1, kresL, fin, fins, fin1, V.pur?, V.pur1?, V.cells, kld, ones, V.one, Value.oneCell', own, owns, own1, xfill, ksrc, kint, vint, ksub, keqs, kok, V.val1?, ofRes, hc, hP, hv, hd2, hw8, hne, hne', hn1, hn2, nxj, nr_pur, List.length_map, enc_get]) | (with_reducible refine W_itn_cases ?_ ?_; omega))
      refine W_hp (write_ok (s := s) (w := .list we (es.map encE) wr) (out := out) ⟨by omega, v, by simp [upd_at, hne, hn1, hv], growU (growU hg (by omega) (Nat.le_refl _) _) (by omega) (by omega) _⟩ (entryB x) (entryB_inR hpx) hs hl (by have := entryB_short hpx; omega) _) ?_
      rintro _ ⟨st1, nx1, rfl, hnx1, ⟨_, v1, hv1, hg1⟩, hKO, hKR, hKQ⟩
      have hbx : st1 nx = some (.cells [V.i64 x.no, V.str x.ent, V.i64 x.book, V.i64 x.val, V.i64 x.kind, V.str x.ref, V.str x.who, V.i64 x.rev, V.list (te x.lr 61) (List.map encL x.lines) (nr x.lr)]) := (hKO nx (by omega) (by omega) (by intro n e h; simp [upd_at, nxj] at h)).trans (by simp [upd_at, nxj])
      have hK : KeepO st st1 nx id := keepTrans (nx' := nx) (keepTrans (nx' := nx) (keepU (Nat.le_refl _) _) (keepU (by omega) _) (Nat.le_refl _)) (fun i i1 i2 i3 => hKO i (by omega) i2 i3) (Nat.le_refl _)
      have hQ : KQ st st1 nx id := kqTrans (nx' := nx) (kqTrans (nx' := nx) (kqU hid (Nat.le_refl _) _) (kqU hid (by omega) _) (Nat.le_refl _)) (kqTrans (nx' := nx + 288) ⟨fun _ _ _ _ => rfl, fun _ q => .inl q⟩ hKQ (by omega)) (Nat.le_refl _)
      have k1 : ∀ j, (id = nx1 + j) = False := fun j => eq_false (by omega)
      have k2 : ∀ j, (nx1 + j = id) = False := fun j => eq_false (by omega)
      have k3 : ∀ j, (nx = nx1 + j) = False := fun j => eq_false (by omega)
      have k4 : ∀ j, (nx1 + j = nx) = False := fun j => eq_false (by omega)
      have hap : appC es.length x = 0 := by unfold appC; rw [if_pos h1, if_pos h2]
      rcases hw with ⟨hb0, hwn⟩ | ⟨q, hr8, hrn, hwq, hst⟩
      · obtain ⟨rfl, e0, rfl⟩ : we = 0 ∧ es.map encE = [] ∧ wr = 1 := by injection hwn with a b c; exact ⟨a, b, c⟩
        rw [e0] at hv1
        repeat' (first | (simp -implicitDefEqProofs only [ze, Nat.reduceEqDiff, Nat.reduceAdd, Nat.reduceMul, reduceIte, Nat.reduceLT, Nat.reduceLeDiff, reduceCtorEq, Int.reduceEq, Int.reduceLT, Int.reduceLE, Int.reduceNeg, Int.reduceToNat, Nat.reduceBEq, Nat.reduceSub, qp, qf, kop, av, RQ, PQ, kres, kres1, kresL, fin, fins, fin1, V.pur?, V.pur1?, V.cells, kld, ones, V.one, Value.oneCell', own, owns, own1, xfill, ksrc, kint, vint, ksub, keqs, kok, V.val1?, ofRes, hv1, hbx, hcp, hne, hne', hn1, hn2, nxj, nr_pur, List.length_map, k1, k2, k3, k4]) | (with_reducible refine W_itn_cases ?_ ?_; omega))
        refine qd_i ?_ ?_
        · simp [recsOk, ordB, Rec.free, Rec.wr, disj, List.range, List.range.loop, hn1, hn2, k1, k2, k3, k4]; try decide
        simp -implicitDefEqProofs only [ze, Nat.reduceEqDiff, Nat.reduceAdd, Nat.reduceMul, reduceIte, Nat.reduceLT, Nat.reduceLeDiff, reduceCtorEq, Int.reduceEq, Int.reduceLT, Int.reduceLE, Int.reduceNeg, Int.reduceToNat, Nat.reduceBEq, Nat.reduceSub, qp, qf, kop, av, RQ, PQ, kres, kres1, kresL, fin, fins, fin1, V.pur?, V.pur1?, V.cells, kld, ones, V.one, Value.oneCell', own, owns, own1, xfill, ksrc, kint, vint, ksub, keqs, kok, V.val1?, ofRes, hv1, hbx, hcp, hne, hne', hn1, hn2, nxj, nr_pur, List.length_map, k1, k2, k3, k4]
        refine ⟨_, _, congrArg (fun z => HR.ret (V.i64 z) _ _) hap.symm, by omega, fun i i1 i2 i3 => by rw [upd_at, if_neg i2, upd_at, if_neg (by omega), upd_at, if_neg (by omega)]; exact hK i i1 i2 i3, kqTrans (nx' := nx1) hQ ⟨fun k i1 i2 i3 => by rw [upd_at, if_neg i2, upd_at, if_neg (by omega), upd_at, if_neg (by omega)], fun k hk => by
          simp only [toksAt, upd_at, if_true, tokOf, List.mem_cons, List.not_mem_nil, or_false] at hk
          simp only [toksAt, hv1, tokOf, List.mem_cons, List.not_mem_nil, or_false]
          omega⟩ (by omega), .inl ⟨hap, _, ⟨by omega, _, by rw [upd_at, if_pos rfl], growN (growU (growU hg1 (by omega) (Nat.le_refl _) _) (by omega) (by omega) _) (by intro n; rw [upd_at, if_neg (by omega), upd_at, if_neg (by omega), hv1]; intro h; cases h) _⟩, .inr ⟨nx1 + 64, by omega, by omega, by rw [List.map_append, e0]; rfl, by rw [upd_at, if_neg (by omega), upd_at, if_pos rfl, List.map_append, e0]; rfl⟩⟩⟩
      · obtain ⟨rfl, rfl⟩ : we = 31 ∧ wr = q := by injection hwq with a b c; exact ⟨a, c⟩
        have q1 : st1 wr = some (.tok (es.map encE).length 31) := hKR wr _ _ (by omega) (by decide) (by rw [upd_at, if_neg (by omega), upd_at, if_neg (by omega)]; exact hst)
        have hr0 : (wr = 0) = False := eq_false (by omega)
        have hr1 : (wr = 1) = False := eq_false (by omega)
        have hrx : ∀ j, (wr = nx1 + j) = False := fun j => eq_false (by omega)
        have hrx' : ∀ j, (nx1 + j = wr) = False := fun j => eq_false (by omega)
        have hri : (wr = id) = False := eq_false fun e => by subst e; rw [hv] at hst; cases hst
        have hir : (id = wr) = False := eq_false fun e => by subst e; rw [hv] at hst; cases hst
        have hrn1 : (wr = nx) = False := eq_false (by omega)
        have hrn2 : (nx = wr) = False := eq_false (by omega)
        repeat' (first | (simp -implicitDefEqProofs only [ze, Nat.reduceEqDiff, Nat.reduceAdd, Nat.reduceMul, reduceIte, Nat.reduceLT, Nat.reduceLeDiff, reduceCtorEq, Int.reduceEq, Int.reduceLT, Int.reduceLE, Int.reduceNeg, Int.reduceToNat, Nat.reduceBEq, Nat.reduceSub, qp, qf, kop, av, RQ, PQ, kres, kres1, kresL, fin, fins, fin1, V.pur?, V.pur1?, V.cells, kld, ones, V.one, Value.oneCell', own, owns, own1, xfill, ksrc, kint, vint, ksub, keqs, kok, V.val1?, ofRes, hv1, hbx, hcp, hne, hne', hn1, hn2, nxj, nr_pur, List.length_map, k1, k2, k3, k4, hr0, hr1, hrx, hrx', hri, hir, hrn1, hrn2, q1]) | (with_reducible refine W_itn_cases ?_ ?_; omega))
        refine qd_i ?_ ?_
        · simp [recsOk, ordB, Rec.free, Rec.wr, disj, List.range, List.range.loop, hn1, hn2, k1, k2, k3, k4, hrx, hrx', hri, hir, hrn1, hrn2]; try decide
        simp -implicitDefEqProofs only [ze, Nat.reduceEqDiff, Nat.reduceAdd, Nat.reduceMul, reduceIte, Nat.reduceLT, Nat.reduceLeDiff, reduceCtorEq, Int.reduceEq, Int.reduceLT, Int.reduceLE, Int.reduceNeg, Int.reduceToNat, Nat.reduceBEq, Nat.reduceSub, qp, qf, kop, av, RQ, PQ, kres, kres1, kresL, fin, fins, fin1, V.pur?, V.pur1?, V.cells, kld, ones, V.one, Value.oneCell', own, owns, own1, xfill, ksrc, kint, vint, ksub, keqs, kok, V.val1?, ofRes, hv1, hbx, hcp, hne, hne', hn1, hn2, nxj, nr_pur, List.length_map, k1, k2, k3, k4, hr0, hr1, hrx, hrx', hri, hir, hrn1, hrn2, q1]
        have hwr1 : ¬ wr = nx1 + 56 := by omega
        have hwi : ¬ id = wr := fun e => by rw [hir] at e; exact e
        refine ⟨_, _, congrArg (fun z => HR.ret (V.i64 z) _ _) hap.symm, by omega, fun i i1 i2 i3 => ?_, kqTrans (nx' := nx1) hQ ⟨fun k i1 i2 i3 => by
            simp only [toksAt, hv1, tokOf, List.mem_cons, List.not_mem_nil, or_false, not_or] at i3
            rw [upd_at, if_neg i2, upd_at, if_neg i3.2, upd_at, if_neg (by omega)], fun k hk => by
          simp only [toksAt, upd_at, if_true, tokOf, List.mem_cons, List.not_mem_nil, or_false] at hk
          simp only [toksAt, hv1, tokOf, List.mem_cons, List.not_mem_nil, or_false]
          omega⟩ (by omega), .inl ⟨hap, _, ⟨by omega, _, by rw [upd_at, if_pos rfl], growN (growN (growU hg1 (by omega) (by omega) _) (by intro n; rw [upd_at, if_neg hwr1, q1]; intro h; cases h) _) (by intro n; rw [upd_at, if_neg hwi, upd_at, if_neg (by omega), hv1]; intro h; cases h) _⟩, .inr ⟨wr, hr8, by omega, by rw [List.map_append]; rfl, by rw [upd_at, if_neg (fun e => hwi e.symm), upd_at, if_pos rfl, List.map_append, List.length_append, List.length_map]; rfl⟩⟩⟩
        have hiw : ¬ i = wr := fun e => by subst e; exact i3 _ _ hst
        have e := hK i i1 i2 i3
        rw [upd_at, if_neg i2, upd_at, if_neg hiw, upd_at, if_neg (by omega)]
        exact e
    · have hd2 : decide (x.no = (es.length : Int) + 1) = false := decide_eq_false h2
      repeat' (first | (simp -implicitDefEqProofs only [ze, Nat.reduceEqDiff, Nat.reduceAdd, Nat.reduceMul, reduceIte, Nat.reduceLT, Nat.reduceLeDiff, reduceCtorEq, Int.reduceEq, Int.reduceLT, Int.reduceLE, Int.reduceNeg, Int.reduceToNat, Nat.reduceBEq, Nat.reduceSub, qp, qf, kop, av, RQ, PQ, kres, kres1, kresL, fin, fins, fin1, V.pur?, V.pur1?, V.cells, kld, ones, V.one, Value.oneCell', own, owns, own1, xfill, ksrc, kint, vint, ksub, keqs, kok, V.val1?, ofRes, hc, hP, hv, hd2, hw8, hne, hne', hn1, hn2, nxj, nr_pur, List.length_map]) | (with_reducible refine W_itn_cases ?_ ?_; omega))
      refine qd_i ?_ ?_
      · simp [recsOk, ordB, Rec.free, Rec.wr, disj, List.range, List.range.loop, hne, hne', hn1, hn2]; try decide
      simp -implicitDefEqProofs only [ze, Nat.reduceEqDiff, Nat.reduceAdd, Nat.reduceMul, reduceIte, Nat.reduceLT, Nat.reduceLeDiff, reduceCtorEq, Int.reduceEq, Int.reduceLT, Int.reduceLE, Int.reduceNeg, Int.reduceToNat, Nat.reduceBEq, Nat.reduceSub, qp, qf, kop, av, RQ, PQ, kres, kres1, kresL, fin, fins, fin1, V.pur?, V.pur1?, V.cells, kld, ones, V.one, Value.oneCell', own, owns, own1, xfill, ksrc, kint, vint, ksub, keqs, kok, V.val1?, ofRes, hc, hP, hv, hd2, hw8, hne, hne', hn1, hn2, nxj, nr_pur, List.length_map]
      have hap : appC es.length x = 17 := by unfold appC; rw [if_pos h1, if_neg h2]
      exact ⟨_, _, by rw [hap], by omega, keepU (by omega) _, kqU hid (by omega) _, .inr ⟨by rw [hap]; decide, lgU ⟨_, ⟨hid, v, hv, hg⟩, hw⟩ (by omega) (by omega) _⟩⟩
  · have hd : decide ((checkS x).2 = 0) = false := decide_eq_false h1
    simp only [encE] at hc ⊢
    repeat' (first | (simp -implicitDefEqProofs only [ze, Nat.reduceEqDiff, Nat.reduceAdd, Nat.reduceMul, reduceIte, Nat.reduceLT, Nat.reduceLeDiff, reduceCtorEq, Int.reduceEq, Int.reduceLT, Int.reduceLE, Int.reduceNeg, Int.reduceToNat, Nat.reduceBEq, Nat.reduceSub, qp, qf, kop, av, RQ, PQ, kres, kres1, kresL, fin, fins, fin1, V.pur?, V.pur1?, V.cells, kld, ones, V.one, Value.oneCell', own, owns, own1, xfill, ksrc, kint, vint, ksub, keqs, kok, V.val1?, ofRes, hc, hd, hne, hne', nr_pur]) | (with_reducible refine wgd_cases ?_ ?_ <;> intro hb) | (with_reducible refine wcond_cases ?_ ?_ <;> intro hb) | (with_reducible refine qd_i (by kernel_rfl) ?_) | (with_reducible refine W_itn_cases ?_ ?_; omega))
    have hap : appC es.length x = (checkS x).2 := by unfold appC; rw [if_neg h1]
    exact ⟨_, _, by rw [hap], by omega, keepU (by omega) _, kqU hid (by omega) _, .inr ⟨by rw [hap]; exact h1, lgU ⟨w, ⟨hid, v, hv, hg⟩, hw⟩ (by omega) (by omega) _⟩⟩
end Go.Proofs.YtkbheoganajhaaaDoor.Vm
set_option maxRecDepth 10000
set_option linter.unusedVariables false
set_option linter.unusedSimpArgs false
namespace Go.Proofs.YtkbheoganajhaaaDoor.Vm
open Go Go.Proofs
theorem lsum_ok {st : St} {nx id : Nat} {out : List Int} {s : Int} {es : List Entry} (h : LG st nx id out s es) : W (L.hp 14 [.ptr id 0] st nx) fun r => ∃ nx', r = .ret (.sc (.int .u64 s)) st nx' ∧ nx ≤ nx' := by
  refine hp_w k14_eq ?_
  simp only [k14]
  obtain ⟨w, ⟨hid, v, hv, hg⟩, hw⟩ := h
  repeat' (first | (simp -implicitDefEqProofs only [ze, Nat.reduceEqDiff, Nat.reduceAdd, Nat.reduceMul, reduceIte, Nat.reduceLT, Nat.reduceLeDiff, reduceCtorEq, Int.reduceEq, Int.reduceLT, Int.reduceLE, Int.reduceNeg, Int.reduceToNat, Nat.reduceBEq, Nat.reduceSub, qp, qf, kop, av, RQ, PQ, kres, kres1, kresL, fin, fins, fin1, V.pur?, V.pur1?, V.cells, kld, ones, V.one, Value.oneCell', own, owns, own1, xfill, ksrc, kint, vint, ksub, keqs, kok, V.val1?, ofRes, hv]) | (with_reducible refine wgd_cases ?_ ?_ <;> intro hb) | (with_reducible refine wcond_cases ?_ ?_ <;> intro hb) | (with_reducible refine qd_i (by kernel_rfl) ?_) | (with_reducible refine W_itn_cases ?_ ?_; omega))
  exact ⟨_, rfl, by omega⟩
theorem len_ok {st : St} {nx id : Nat} {out : List Int} {s : Int} {es : List Entry} (h : LG st nx id out s es) (hl : es.length ≤ 1000000) : W (L.hp 13 [.ptr id 0] st nx) fun r => ∃ nx', r = .ret (.i64 es.length) st nx' ∧ nx ≤ nx' := by
  refine hp_w k13_eq ?_
  simp only [k13]
  obtain ⟨w, ⟨hid, v, hv, hg⟩, hw⟩ := h
  rcases hw with ⟨hb0, rfl⟩ | ⟨q, hr8, hrn, rfl, hst⟩
  · obtain rfl : es = [] := by simpa using hb0
    repeat' (first | (simp -implicitDefEqProofs only [ze, Nat.reduceEqDiff, Nat.reduceAdd, Nat.reduceMul, reduceIte, Nat.reduceLT, Nat.reduceLeDiff, reduceCtorEq, Int.reduceEq, Int.reduceLT, Int.reduceLE, Int.reduceNeg, Int.reduceToNat, Nat.reduceBEq, Nat.reduceSub, qp, qf, kop, av, RQ, PQ, kres, kres1, kresL, fin, fins, fin1, V.pur?, V.pur1?, V.cells, kld, ones, V.one, Value.oneCell', own, owns, own1, xfill, ksrc, kint, vint, ksub, keqs, kok, V.val1?, ofRes, hv, List.length_nil]) | (with_reducible refine wgd_cases ?_ ?_ <;> intro hb) | (with_reducible refine wcond_cases ?_ ?_ <;> intro hb) | (with_reducible refine qd_i (by kernel_rfl) ?_) | (with_reducible refine W_itn_cases ?_ ?_; omega))
    exact ⟨_, rfl, by omega⟩
  · repeat' (first | (simp -implicitDefEqProofs only [ze, Nat.reduceEqDiff, Nat.reduceAdd, Nat.reduceMul, reduceIte, Nat.reduceLT, Nat.reduceLeDiff, reduceCtorEq, Int.reduceEq, Int.reduceLT, Int.reduceLE, Int.reduceNeg, Int.reduceToNat, Nat.reduceBEq, Nat.reduceSub, qp, qf, kop, av, RQ, PQ, kres, kres1, kresL, fin, fins, fin1, V.pur?, V.pur1?, V.cells, kld, ones, V.one, Value.oneCell', own, owns, own1, xfill, ksrc, kint, vint, ksub, keqs, kok, V.val1?, ofRes, hv, List.length_map]) | (with_reducible refine wgd_cases ?_ ?_ <;> intro hb) | (with_reducible refine wcond_cases ?_ ?_ <;> intro hb) | (with_reducible refine qd_i (by kernel_rfl) ?_) | (with_reducible refine W_itn_cases ?_ ?_; omega))
    exact ⟨_, rfl, by omega⟩
theorem lbytes_ok {st : St} {nx id : Nat} {out : List Int} {s : Int} {es : List Entry} (h : LG st nx id out s es) (hl : out.length ≤ 100000000000) : W (L.hp 16 [.ptr id 0] st nx) fun r => ∃ st' nx' j, r = .ret (.list 5 (bv out) j) st' nx' ∧ nx ≤ nx' ∧ nx ≤ j ∧ ∀ i, i < nx → st' i = st i := by
  refine hp_w k16_eq ?_
  simp only [k16]
  obtain ⟨w, ⟨hid, v, hv, hg⟩, hw⟩ := h
  rcases hg with ⟨hb0, rfl⟩ | ⟨q, hr8, hrn, rfl, hst⟩
  · obtain rfl : out = [] := by simpa [bv] using hb0
    repeat' (first | (simp -implicitDefEqProofs only [ze, Nat.reduceEqDiff, Nat.reduceAdd, Nat.reduceMul, reduceIte, Nat.reduceLT, Nat.reduceLeDiff, reduceCtorEq, Int.reduceEq, Int.reduceLT, Int.reduceLE, Int.reduceNeg, Int.reduceToNat, Nat.reduceBEq, Nat.reduceSub, qp, qf, kop, av, RQ, PQ, kres, kres1, kresL, fin, fins, fin1, V.pur?, V.pur1?, V.cells, kld, ones, V.one, Value.oneCell', own, owns, own1, xfill, ksrc, kint, vint, ksub, keqs, kok, V.val1?, ofRes, hv, List.length_nil]) | (with_reducible refine wgd_cases ?_ ?_ <;> intro hb) | (with_reducible refine wcond_cases ?_ ?_ <;> intro hb) | (with_reducible refine qd_i (by kernel_rfl) ?_) | (with_reducible refine W_itn_cases ?_ ?_; omega))
    exact ⟨_, _, _, rfl, by omega, by omega, fun i hi => by rw [upd_at, if_neg (by omega)]⟩
  · repeat' (first | (simp -implicitDefEqProofs only [ze, Nat.reduceEqDiff, Nat.reduceAdd, Nat.reduceMul, reduceIte, Nat.reduceLT, Nat.reduceLeDiff, reduceCtorEq, Int.reduceEq, Int.reduceLT, Int.reduceLE, Int.reduceNeg, Int.reduceToNat, Nat.reduceBEq, Nat.reduceSub, qp, qf, kop, av, RQ, PQ, kres, kres1, kresL, fin, fins, fin1, V.pur?, V.pur1?, V.cells, kld, ones, V.one, Value.oneCell', own, owns, own1, xfill, ksrc, kint, vint, ksub, keqs, kok, V.val1?, ofRes, hv, bv_len]) | (with_reducible refine wgd_cases ?_ ?_ <;> intro hb) | (with_reducible refine wcond_cases ?_ ?_ <;> intro hb) | (with_reducible refine qd_i (by kernel_rfl) ?_) | (with_reducible refine W_itn_cases ?_ ?_; omega))
    exact ⟨_, _, _, rfl, by omega, by omega, fun i hi => by rw [upd_at, if_neg (by omega)]⟩
theorem lent_ok {st : St} {nx id : Nat} {out : List Int} {s : Int} {es : List Entry} (h : LG st nx id out s es) (hl : es.length ≤ 1000000) (he : ∀ e ∈ es, nilE e ∧ e.lines.length < 1000000 ∧ ∀ l ∈ e.lines, l.tags.length < 1000000) : W (L.hp 19 [.ptr id 0] st nx) fun r => ∃ st' nx' t q, r = .ret (.list t (es.map fun e => encE (copE e)) q) st' nx' ∧ nx ≤ nx' ∧ (es = [] ∨ t = 31) ∧ ∀ i, i < nx → st' i = st i := by
  refine hp_w k19_eq ?_
  simp only [k19]
  obtain ⟨w, ⟨hid, v, hv, hg⟩, hw⟩ := h
  obtain ⟨we, wr, rfl, hwe⟩ : ∃ we wr, w = .list we (es.map encE) wr ∧ (es = [] ∨ we = 31) := by
    rcases hw with ⟨a, b⟩ | ⟨r, _, _, a, _⟩
    · have : es = [] := by simpa using a
      subst this
      exact ⟨0, 1, b, .inl rfl⟩
    · exact ⟨_, r, a, .inr rfl⟩
  have hdec : ((.ptr id 0 : V) = .ptr id 0) := rfl
  repeat' (first | (simp -implicitDefEqProofs only [ze, Nat.reduceEqDiff, Nat.reduceAdd, Nat.reduceMul, reduceIte, Nat.reduceLT, Nat.reduceLeDiff, reduceCtorEq, Int.reduceEq, Int.reduceLT, Int.reduceLE, Int.reduceNeg, Int.reduceToNat, Nat.reduceBEq, Nat.reduceSub, qp, qf, kop, av, RQ, PQ, kres, kres1, kresL, fin, fins, fin1, V.pur?, V.pur1?, V.cells, kld, ones, V.one, Value.oneCell', own, owns, own1, xfill, ksrc, kint, vint, ksub, keqs, kok, V.val1?, ofRes, hv, List.length_map]) | (with_reducible refine wgd_cases ?_ ?_ <;> intro hb) | (with_reducible refine wcond_cases ?_ ?_ <;> intro hb) | (with_reducible refine qd_i (by kernel_rfl) ?_) | (with_reducible refine W_itn_cases ?_ ?_; omega))
  refine loop_w (fun n tm st1 nx1 => ∃ (i : Nat) (v : V), n = es.length - i ∧ i ≤ es.length ∧ nx ≤ nx1 ∧ tm 12 = .i64 i ∧ tm 11 = .i64 es.length ∧ tm 10 = .list we (es.map encE) wr ∧ tm 2 = v ∧ (∀ j, j < nx → st1 j = st j) ∧ Grow st1 nx1 31 ((es.take i).map fun e => encE (copE e)) v ∧ (∀ r e xs, v = .list e xs r → r = 1 ∨ nx ≤ r)) es.length ⟨0, .list 0 [] 1, by omega, by omega, by omega, ?_, ?_, ?_, ?_, fun j _ => rfl, .inl ⟨rfl, rfl⟩, fun r e xs h => by injection h; omega⟩ ?_
  · simp -implicitDefEqProofs only [ze, Nat.reduceEqDiff, Nat.reduceAdd, Nat.reduceMul, reduceIte, Nat.reduceLT, Nat.reduceLeDiff, reduceCtorEq, Int.reduceEq, Int.reduceLT, Int.reduceLE, Int.reduceNeg, Int.reduceToNat, Nat.reduceBEq, Nat.reduceSub, qp, qf, kop, av, RQ, PQ, kres, kres1, kresL, fin, fins, fin1, V.pur?, V.pur1?, V.cells, kld, ones, V.one, Value.oneCell', own, owns, own1, xfill, ksrc, kint, vint, ksub, keqs, kok, V.val1?, ofRes]; try rfl
  · simp -implicitDefEqProofs only [ze, Nat.reduceEqDiff, Nat.reduceAdd, Nat.reduceMul, reduceIte, Nat.reduceLT, Nat.reduceLeDiff, reduceCtorEq, Int.reduceEq, Int.reduceLT, Int.reduceLE, Int.reduceNeg, Int.reduceToNat, Nat.reduceBEq, Nat.reduceSub, qp, qf, kop, av, RQ, PQ, kres, kres1, kresL, fin, fins, fin1, V.pur?, V.pur1?, V.cells, kld, ones, V.one, Value.oneCell', own, owns, own1, xfill, ksrc, kint, vint, ksub, keqs, kok, V.val1?, ofRes]; try rfl
  · simp -implicitDefEqProofs only [ze, Nat.reduceEqDiff, Nat.reduceAdd, Nat.reduceMul, reduceIte, Nat.reduceLT, Nat.reduceLeDiff, reduceCtorEq, Int.reduceEq, Int.reduceLT, Int.reduceLE, Int.reduceNeg, Int.reduceToNat, Nat.reduceBEq, Nat.reduceSub, qp, qf, kop, av, RQ, PQ, kres, kres1, kresL, fin, fins, fin1, V.pur?, V.pur1?, V.cells, kld, ones, V.one, Value.oneCell', own, owns, own1, xfill, ksrc, kint, vint, ksub, keqs, kok, V.val1?, ofRes]; try rfl
  · simp -implicitDefEqProofs only [ze, Nat.reduceEqDiff, Nat.reduceAdd, Nat.reduceMul, reduceIte, Nat.reduceLT, Nat.reduceLeDiff, reduceCtorEq, Int.reduceEq, Int.reduceLT, Int.reduceLE, Int.reduceNeg, Int.reduceToNat, Nat.reduceBEq, Nat.reduceSub, qp, qf, kop, av, RQ, PQ, kres, kres1, kresL, fin, fins, fin1, V.pur?, V.pur1?, V.cells, kld, ones, V.one, Value.oneCell', own, owns, own1, xfill, ksrc, kint, vint, ksub, keqs, kok, V.val1?, ofRes]; try rfl
  rintro n tm st1 nx1 ⟨i, v1, hn, hi, hnx, h12, h11, h10, h2, hk, hg1, hr⟩
  simp only [k19_l0, k19_t0]
  by_cases hlt : i < es.length
  · obtain rfl : we = 31 := by
      rcases hwe with rfl | h
      · simp at hlt
      · exact h
    have hd : decide ((i : Int) < (es.length : Int)) = true := decide_eq_true (by omega)
    obtain ⟨x, hx1⟩ := get_lt (l := es) (i := i) hlt
    obtain ⟨e1, e2, e3⟩ := he x (List.mem_of_getElem? hx1)
    have hcp := copied_ok x e1 e2 e3
    have hup : IntKind.i64.wrap ((i : Int) + 1) = ((i + 1 : Nat) : Int) := wrap_i64 (by omega) (by omega)
    have hel : encE x = .agg [.i64 x.no, .str x.ent, .i64 x.book, .i64 x.val, .i64 x.kind, .str x.ref, .str x.who, .i64 x.rev, .list (te x.lr 61) (x.lines.map encL) (nr x.lr)] := rfl
    rw [hel] at hcp
    have hmap : (es.take (i + 1)).map (fun e => encE (copE e)) = (es.take i).map (fun e => encE (copE e)) ++ [encE (copE x)] := by rw [take_get hx1, List.map_append]; rfl
    have htk : (List.take i es).length = i := by rw [List.length_take]; omega
    have hel2 : encE (copE x) = .agg [.i64 (copE x).no, .str (copE x).ent, .i64 (copE x).book, .i64 (copE x).val, .i64 (copE x).kind, .str (copE x).ref, .str (copE x).who, .i64 (copE x).rev, .list (te (copE x).lr 61) ((copE x).lines.map encL) (nr (copE x).lr)] := rfl
    rcases hg1 with ⟨hb0, rfl⟩ | ⟨q, hr8, hrn, rfl, hst⟩
    · repeat' (first | (simp -implicitDefEqProofs only [ze, Nat.reduceEqDiff, Nat.reduceAdd, Nat.reduceMul, reduceIte, Nat.reduceLT, Nat.reduceLeDiff, reduceCtorEq, Int.reduceEq, Int.reduceLT, Int.reduceLE, Int.reduceNeg, Int.reduceToNat, Nat.reduceBEq, Nat.reduceSub, qp, qf, kop, av, RQ, PQ, kres, kres1, kresL, fin, fins, fin1, V.pur?, V.pur1?, V.cells, kld, ones, V.one, Value.oneCell', own, owns, own1, xfill, ksrc, kint, vint, ksub, keqs, kok, V.val1?, ofRes, h12, h11, h10, h2, hd, enc_get, hx1, hel, hcp, hel2, nxj, nr_pur, List.length_map, hup]) | (with_reducible refine wgd_cases ?_ ?_ <;> intro hb) | (with_reducible refine wcond_cases ?_ ?_ <;> intro hb) | (with_reducible refine qd_i (by kernel_rfl) ?_) | (with_reducible refine W_itn_cases ?_ ?_; omega))
      exact ⟨es.length - (i + 1), by omega, i + 1, _, rfl, by omega, by omega, rfl, rfl, fun j hj => by rw [if_neg (by omega), if_neg (by omega), if_neg (by omega), if_neg (by omega)]; exact hk j hj, .inr ⟨nx1 + 72, by omega, by omega, by rw [hmap, hb0]; rfl, by rw [hmap, hb0, upd_at, if_pos rfl]; rfl⟩, fun r e xs h => by injection h; omega⟩
    · have hr0 : (q = 0) = False := eq_false (by omega)
      have hr1 : (q = 1) = False := eq_false (by omega)
      have hrx : ∀ j, (q = nx1 + j) = False := fun j => eq_false (by omega)
      have hrx' : ∀ j, (nx1 + j = q) = False := fun j => eq_false (by omega)
      repeat' (first | (simp -implicitDefEqProofs only [ze, Nat.reduceEqDiff, Nat.reduceAdd, Nat.reduceMul, reduceIte, Nat.reduceLT, Nat.reduceLeDiff, reduceCtorEq, Int.reduceEq, Int.reduceLT, Int.reduceLE, Int.reduceNeg, Int.reduceToNat, Nat.reduceBEq, Nat.reduceSub, qp, qf, kop, av, RQ, PQ, kres, kres1, kresL, fin, fins, fin1, V.pur?, V.pur1?, V.cells, kld, ones, V.one, Value.oneCell', own, owns, own1, xfill, ksrc, kint, vint, ksub, keqs, kok, V.val1?, ofRes, h12, h11, h10, h2, hd, enc_get, hx1, hel, hcp, hel2, nxj, nr_pur, List.length_map, htk, hup, hr0, hr1, hrx, hrx', hst]) | (with_reducible refine wgd_cases ?_ ?_ <;> intro hb) | (with_reducible refine wcond_cases ?_ ?_ <;> intro hb) | (with_reducible refine qd_i (by kernel_rfl) ?_) | (with_reducible refine W_itn_cases ?_ ?_; omega))
      have hqn : nx ≤ q := by rcases hr q _ _ rfl with h | h <;> omega
      exact ⟨es.length - (i + 1), by omega, i + 1, _, rfl, by omega, by omega, rfl, rfl, fun j hj => by rw [if_neg (by omega), if_neg (by omega), if_neg (by omega), if_neg (by omega)]; exact hk j hj, .inr ⟨q, by omega, by omega, by rw [hmap]; rfl, by rw [hmap, upd_at, if_pos rfl, List.length_append, List.length_map, htk]; rfl⟩, fun r e xs h => by injection h; omega⟩
  · have hd : decide ((i : Int) < (es.length : Int)) = false := decide_eq_false (by omega)
    have hin : i = es.length := by omega
    rw [hin, List.take_length] at hg1
    rcases hg1 with ⟨hb0, rfl⟩ | ⟨q, hr8, hrn, rfl, hst⟩
    · have hnil : es = [] := by simpa using hb0
      repeat' (first | (simp -implicitDefEqProofs only [ze, Nat.reduceEqDiff, Nat.reduceAdd, Nat.reduceMul, reduceIte, Nat.reduceLT, Nat.reduceLeDiff, reduceCtorEq, Int.reduceEq, Int.reduceLT, Int.reduceLE, Int.reduceNeg, Int.reduceToNat, Nat.reduceBEq, Nat.reduceSub, qp, qf, kop, av, RQ, PQ, kres, kres1, kresL, fin, fins, fin1, V.pur?, V.pur1?, V.cells, kld, ones, V.one, Value.oneCell', own, owns, own1, xfill, ksrc, kint, vint, ksub, keqs, kok, V.val1?, ofRes, h12, h11, h10, h2, hd]) | (with_reducible refine wgd_cases ?_ ?_ <;> intro hb) | (with_reducible refine wcond_cases ?_ ?_ <;> intro hb) | (with_reducible refine qd_i (by kernel_rfl) ?_) | (with_reducible refine W_itn_cases ?_ ?_; omega))
      exact ⟨_, _, 0, 1, by rw [hnil]; rfl, by omega, .inl hnil, hk⟩
    · repeat' (first | (simp -implicitDefEqProofs only [ze, Nat.reduceEqDiff, Nat.reduceAdd, Nat.reduceMul, reduceIte, Nat.reduceLT, Nat.reduceLeDiff, reduceCtorEq, Int.reduceEq, Int.reduceLT, Int.reduceLE, Int.reduceNeg, Int.reduceToNat, Nat.reduceBEq, Nat.reduceSub, qp, qf, kop, av, RQ, PQ, kres, kres1, kresL, fin, fins, fin1, V.pur?, V.pur1?, V.cells, kld, ones, V.one, Value.oneCell', own, owns, own1, xfill, ksrc, kint, vint, ksub, keqs, kok, V.val1?, ofRes, h12, h11, h10, h2, hd]) | (with_reducible refine wgd_cases ?_ ?_ <;> intro hb) | (with_reducible refine wcond_cases ?_ ?_ <;> intro hb) | (with_reducible refine qd_i (by kernel_rfl) ?_) | (with_reducible refine W_itn_cases ?_ ?_; omega))
      exact ⟨_, _, _, q, rfl, by omega, .inr rfl, hk⟩
end Go.Proofs.YtkbheoganajhaaaDoor.Vm
set_option maxRecDepth 10000
set_option linter.unusedVariables false
set_option linter.unusedSimpArgs false
namespace Go.Proofs.YtkbheoganajhaaaDoor.Vm
open Go Go.Proofs
theorem lgN {st : St} {nx nx' id j : Nat} {out : List Int} {s : Int} {es : List Entry} (h : LG st nx id out s es) (hj : j ∉ toksAt st id) (hi : j ≠ id) (hn : nx ≤ nx') (o : Option Ob) : LG (upd st j o) nx' id out s es := by
  obtain ⟨w, ⟨h1, v, h2, h3⟩, h4⟩ := h
  simp only [toksAt, h2, List.mem_cons, List.not_mem_nil, or_false, not_or] at hj
  refine ⟨w, ⟨by omega, v, by rw [upd_at, if_neg (fun e => hi e.symm)]; exact h2, ?_⟩, ?_⟩
  · rcases h3 with h | ⟨r, a, b, c, d⟩
    · exact .inl h
    · exact .inr ⟨r, a, by omega, c, by rw [upd_at, if_neg (fun e => hj.1 (by rw [c]; exact e.symm))]; exact d⟩
  · rcases h4 with h | ⟨r, a, b, c, d⟩
    · exact .inl h
    · exact .inr ⟨r, a, by omega, c, by rw [upd_at, if_neg (fun e => hj.2 (by rw [c]; exact e.symm))]; exact d⟩
theorem lgSt {st st' : St} {nx nx' id : Nat} {out : List Int} {s : Int} {es : List Entry} (h : LG st nx id out s es) (hk : ∀ i, i < nx → st' i = st i) (hn : nx ≤ nx') : LG st' nx' id out s es := by
  obtain ⟨w, ⟨h1, v, h2, h3⟩, h4⟩ := h
  refine ⟨w, ⟨by omega, v, by rw [hk id h1]; exact h2, ?_⟩, ?_⟩
  · rcases h3 with h | ⟨r, a, b, c, d⟩
    · exact .inl h
    · exact .inr ⟨r, a, by omega, c, by rw [hk r b]; exact d⟩
  · rcases h4 with h | ⟨r, a, b, c, d⟩
    · exact .inl h
    · exact .inr ⟨r, a, by omega, c, by rw [hk r b]; exact d⟩
theorem toks_upd {st : St} {id j : Nat} (o : Option Ob) (h : id ≠ j) : toksAt (upd st j o) id = toksAt st id := by unfold toksAt; rw [upd_at, if_neg h]
def Own (st : St) (nx id : Nat) (es : List Entry) (v : V) : Prop := (es = [] ∧ v = .list 0 [] 1) ∨ ∃ q, 8 ≤ q ∧ q < nx ∧ q ≠ id ∧ q ∉ toksAt st id ∧ v = .list 31 (es.map encE) q ∧ st q = some (.tok es.length 31)
theorem cop_nil (e : Entry) : nilE (copE e) := by
  refine ⟨fun h => ?_, fun l hl => ?_⟩
  · have : e.lines = [] := by
      have h : e.lines.isEmpty = true := h
      simpa using h
    show e.lines.map copL = []
    rw [this]; rfl
  · obtain ⟨l0, _, rfl⟩ := List.mem_map.1 hl
    intro h; cases h
theorem lgTok {st : St} {nx id : Nat} {out : List Int} {s : Int} {es : List Entry} (h : LG st nx id out s es) {k : Nat} (hk : k ∈ toksAt st id) : k < nx ∨ k = 1 := by
  obtain ⟨w, ⟨h1, v, h2, h3⟩, h4⟩ := h
  simp only [toksAt, h2, List.mem_cons, List.not_mem_nil, or_false] at hk
  rcases hk with hk | hk
  · rcases h3 with ⟨_, a⟩ | ⟨r, _, b, c, _⟩
    · rw [a] at hk; exact .inr hk
    · rw [c] at hk; exact .inl (by rw [hk]; exact b)
  · rcases h4 with ⟨_, a⟩ | ⟨r, _, b, c, _⟩
    · rw [a] at hk; exact .inr hk
    · rw [c] at hk; exact .inl (by rw [hk]; exact b)
theorem own_le {st : St} {nx nx' id : Nat} {es : List Entry} {v : V} (h : Own st nx id es v) (hn : nx ≤ nx') : Own st nx' id es v := by
  rcases h with h | ⟨q, a, b, c⟩
  · exact .inl h
  · exact .inr ⟨q, a, by omega, c⟩
end Go.Proofs.YtkbheoganajhaaaDoor.Vm
set_option maxRecDepth 10000
set_option linter.unusedVariables false
set_option linter.unusedSimpArgs false
namespace Go.Proofs.YtkbheoganajhaaaDoor.Vm
open Go Go.Proofs
theorem or_u32 (x y : Nat) (hx : x < 4294967296) (hy : y < 4294967296) : Go.bits .or .u32 (x : Int) (y : Int) = ((x ||| y : Nat) : Int) := by
  show IntKind.u32.wrap ((BitVec.ofInt 32 (x : Int) ||| BitVec.ofInt 32 (y : Int)).toNat : Int) = _
  have h1 : (BitVec.ofInt 32 (x : Int)).toNat = x := by rw [BitVec.toNat_ofInt]; omega
  have h2 : (BitVec.ofInt 32 (y : Int)).toNat = y := by rw [BitVec.toNat_ofInt]; omega
  have h3 : x ||| y < 2 ^ 32 := Nat.or_lt_two_pow hx hy
  rw [BitVec.toNat_or, h1, h2, IntKind.wrap_u32]
  omega
theorem or_add (a b k : Nat) (h : b < 2 ^ k) : a * 2 ^ k ||| b = a * 2 ^ k + b := by
  rw [← Nat.shiftLeft_eq, Nat.shiftLeft_add_eq_or_of_lt h]
theorem or_24 (a b : Nat) (h : b < 16777216) : a * 16777216 ||| b = a * 16777216 + b := or_add a b 24 h
theorem or_16 (a b : Nat) (h : b < 65536) : a * 65536 ||| b = a * 65536 + b := or_add a b 16 h
theorem or_8 (a b : Nat) (h : b < 256) : a * 256 ||| b = a * 256 + b := or_add a b 8 h
def readI (a b c d : Int) : Int := a * 16777216 + b * 65536 + c * 256 + d
theorem or_read (a b c d : Int) (ha : 0 ≤ a ∧ a < 256) (hb : 0 ≤ b ∧ b < 256) (hc : 0 ≤ c ∧ c < 256) (hd : 0 ≤ d ∧ d < 256) :
    Go.bits .or .u32 (Go.bits .or .u32 (Go.bits .or .u32 (a * 16777216) (b * 65536)) (c * 256)) d = readI a b c d := by
  obtain ⟨a, rfl⟩ := Int.eq_ofNat_of_zero_le ha.1
  obtain ⟨b, rfl⟩ := Int.eq_ofNat_of_zero_le hb.1
  obtain ⟨c, rfl⟩ := Int.eq_ofNat_of_zero_le hc.1
  obtain ⟨d, rfl⟩ := Int.eq_ofNat_of_zero_le hd.1
  have ha' : a < 256 := by omega
  have hb' : b < 256 := by omega
  have hc' : c < 256 := by omega
  have hd' : d < 256 := by omega
  clear ha hb hc hd
  have s1 : Go.bits .or .u32 ((a : Int) * 16777216) ((b : Int) * 65536) = (((a * 256 + b) * 65536 : Nat) : Int) := by
    have := or_u32 (a * 16777216) (b * 65536) (by omega) (by omega)
    rw [or_24 a (b * 65536) (by omega)] at this
    rw [show ((a : Int) * 16777216) = ((a * 16777216 : Nat) : Int) by omega, show ((b : Int) * 65536) = ((b * 65536 : Nat) : Int) by omega, this]
    omega
  have s2 : Go.bits .or .u32 (((a * 256 + b) * 65536 : Nat) : Int) ((c : Int) * 256) = (((a * 65536 + b * 256 + c) * 256 : Nat) : Int) := by
    have := or_u32 ((a * 256 + b) * 65536) (c * 256) (by omega) (by omega)
    rw [or_16 (a * 256 + b) (c * 256) (by omega)] at this
    rw [show ((c : Int) * 256) = ((c * 256 : Nat) : Int) by omega, this]
    omega
  have s3 : Go.bits .or .u32 (((a * 65536 + b * 256 + c) * 256 : Nat) : Int) (d : Int) = readI a b c d := by
    have := or_u32 ((a * 65536 + b * 256 + c) * 256) d (by omega) (by omega)
    rw [or_8 (a * 65536 + b * 256 + c) d hd'] at this
    rw [this]
    unfold readI; omega
  rw [s1, s2, s3]
def rdB : List Int → Int
  | a :: b :: c :: d :: _ => readI a b c d
  | _ => 0
theorem readI_r {a b c d : Int} (ha : 0 ≤ a ∧ a < 256) (hb : 0 ≤ b ∧ b < 256) (hc : 0 ≤ c ∧ c < 256) (hd : 0 ≤ d ∧ d < 256) : 0 ≤ readI a b c d ∧ readI a b c d < 4294967296 := by unfold readI; omega
theorem read_ok (l : List Int) (hb : bOK l) (h4 : 4 ≤ l.length) (r : Nat) : L.pl 81 [.list 5 (bv l) r] = some (.ret (.sc (.int .u32 (rdB l)))) := by
  obtain ⟨a, b, c, d, m, rfl⟩ : ∃ a b c d m, l = a :: b :: c :: d :: m := by
    match l, h4 with
    | a :: b :: c :: d :: m, _ => exact ⟨a, b, c, d, m, rfl⟩
  have ha := hb a (by simp)
  have hb' := hb b (by simp)
  have hc := hb c (by simp)
  have hd := hb d (by simp)
  refine W_of (pl_w k81_eq ?_)
  simp only [k81]
  have hbv : bv (a :: b :: c :: d :: m) = .sc (.int .u8 a) :: .sc (.int .u8 b) :: .sc (.int .u8 c) :: .sc (.int .u8 d) :: bv m := rfl
  have hor := or_read a b c d ha hb' hc hd
  have w1 : IntKind.u32.wrap a = a := by rw [IntKind.wrap_u32]; omega
  have w2 : IntKind.u32.wrap b = b := by rw [IntKind.wrap_u32]; omega
  have w3 : IntKind.u32.wrap c = c := by rw [IntKind.wrap_u32]; omega
  have w4 : IntKind.u32.wrap d = d := by rw [IntKind.wrap_u32]; omega
  have v1 : IntKind.u32.wrap (a * 16777216) = a * 16777216 := by rw [IntKind.wrap_u32]; omega
  have v2 : IntKind.u32.wrap (b * 65536) = b * 65536 := by rw [IntKind.wrap_u32]; omega
  have v3 : IntKind.u32.wrap (c * 256) = c * 256 := by rw [IntKind.wrap_u32]; omega
  rw [hbv]
  repeat' (first | (simp -implicitDefEqProofs only [ze, Nat.reduceEqDiff, Nat.reduceAdd, Nat.reduceMul, reduceIte, Nat.reduceLT, Nat.reduceLeDiff, reduceCtorEq, Int.reduceEq, Int.reduceLT, Int.reduceLE, Int.reduceNeg, Int.reduceToNat, Nat.reduceBEq, Nat.reduceSub, qp, qf, kop, av, RQ, PQ, kres, kres1, kresL, fin, fins, fin1, V.pur?, V.pur1?, V.cells, kld, ones, V.one, Value.oneCell', own, owns, own1, xfill, ksrc, kint, vint, ksub, keqs, kok, V.val1?, ofRes, w1, w2, w3, w4, p24, p16, p8, n32_24, n32_16, n32_8, v1, v2, v3, hor]) | (with_reducible refine wgd_cases ?_ ?_ <;> intro hb) | (with_reducible refine wcond_cases ?_ ?_ <;> intro hb) | (with_reducible refine qd_i (by kernel_rfl) ?_) | (with_reducible refine W_itn_cases ?_ ?_; omega))
  rfl
theorem rdB_r (l : List Int) (hb : bOK l) (h4 : 4 ≤ l.length) : 0 ≤ rdB l ∧ rdB l < 4294967296 := by
  match l, h4 with
  | a :: b :: c :: d :: m, _ => exact readI_r (hb a (by simp)) (hb b (by simp)) (hb c (by simp)) (hb d (by simp))
def frameS (bs : List Int) : List Int × List Int × Int :=
  if bs.length < 8 then ([], [], 6)
  else if rdB (bs.drop 4) = inv (rdB bs) then
    (if (bs.length : Int) - 8 < rdB bs + 8 then ([], [], 6) else ((bs.drop 8).take (rdB bs).toNat, ((bs.drop 8).drop (rdB bs).toNat).take 8, 0))
  else ([], [], 5)
theorem bOK_drop {l : List Int} (h : bOK l) (n : Nat) : bOK (l.drop n) := fun b hb => h b (List.mem_of_mem_drop hb)
theorem bOK_take {l : List Int} (h : bOK l) (n : Nat) : bOK (l.take n) := fun b hb => h b (List.mem_of_mem_take hb)
theorem frame_short (bs : List Int) (h : bs.length < 8) (r : Nat) : L.pl 60 [.list 5 (bv bs) r] = some (.ret (.tup [.list 0 [] 1, .list 0 [] 1, .i64 6])) := by
  refine W_of (pl_w k60_eq ?_)
  simp only [k60]
  have hd : decide ((bs.length : Int) < 8) = true := decide_eq_true (by omega)
  repeat' (first | (simp -implicitDefEqProofs only [ze, Nat.reduceEqDiff, Nat.reduceAdd, Nat.reduceMul, reduceIte, Nat.reduceLT, Nat.reduceLeDiff, reduceCtorEq, Int.reduceEq, Int.reduceLT, Int.reduceLE, Int.reduceNeg, Int.reduceToNat, Nat.reduceBEq, Nat.reduceSub, qp, qf, kop, av, RQ, PQ, kres, kres1, kresL, fin, fins, fin1, V.pur?, V.pur1?, V.cells, kld, ones, V.one, Value.oneCell', own, owns, own1, xfill, ksrc, kint, vint, ksub, keqs, kok, V.val1?, ofRes, bv_len, hd]) | (with_reducible refine wgd_cases ?_ ?_ <;> intro hb) | (with_reducible refine wcond_cases ?_ ?_ <;> intro hb) | (with_reducible refine qd_i (by kernel_rfl) ?_) | (with_reducible refine W_itn_cases ?_ ?_; omega))
theorem frame_long (bs : List Int) (hb : bOK bs) (h : ¬ bs.length < 8) (hl : bs.length < 1000000000) (r : Nat) : W (L.pl 60 [.list 5 (bv bs) r]) fun q => ∃ t1 t2 r1 r2, q = .ret (.tup [.list t1 (bv (frameS bs).1) r1, .list t2 (bv (frameS bs).2.1) r2, .i64 (frameS bs).2.2]) ∧ ((frameS bs).2.2 = 0 → t1 = 5 ∧ t2 = 5) ∧ r1 < 8 ∧ r2 < 8 := by
  refine pl_w k60_eq ?_
  simp only [k60]
  have hd : decide ((bs.length : Int) < 8) = false := decide_eq_false (by omega)
  have hr := read_ok bs hb (by omega) (if r = 1 then 1 else 0)
  have hb4 := bOK_drop hb 4
  have hr4 := read_ok (bs.drop 4) hb4 (by rw [List.length_drop]; omega) 0
  have hr4' := read_ok (bs.drop 4) hb4 (by rw [List.length_drop]; omega) (if r = 1 then 1 else 0)
  have hn := rdB_r bs hb (by omega)
  have hx := xinv _ hn
  by_cases h1 : rdB (bs.drop 4) = inv (rdB bs)
  · have d1 : decide (rdB (bs.drop 4) = inv (rdB bs)) = true := decide_eq_true h1
    have u1 : IntKind.u64.wrap ((bs.length - 8 : Nat) : Int) = ((bs.length - 8 : Nat) : Int) := by rw [IntKind.wrap_u64]; omega
    have u2 : IntKind.u64.wrap (rdB bs) = rdB bs := by rw [IntKind.wrap_u64]; omega
    have u3 : IntKind.u64.wrap (rdB bs + 8) = rdB bs + 8 := by rw [IntKind.wrap_u64]; omega
    by_cases h2 : (bs.length : Int) - 8 < rdB bs + 8
    · have d2 : decide (((bs.length - 8 : Nat) : Int) < rdB bs + 8) = true := decide_eq_true (by omega)
      repeat' (first | (simp -implicitDefEqProofs only [ze, Nat.reduceEqDiff, Nat.reduceAdd, Nat.reduceMul, reduceIte, Nat.reduceLT, Nat.reduceLeDiff, reduceCtorEq, Int.reduceEq, Int.reduceLT, Int.reduceLE, Int.reduceNeg, Int.reduceToNat, Nat.reduceBEq, Nat.reduceSub, qp, qf, kop, av, RQ, PQ, kres, kres1, kresL, fin, fins, fin1, V.pur?, V.pur1?, V.cells, kld, ones, V.one, Value.oneCell', own, owns, own1, xfill, ksrc, kint, vint, ksub, keqs, kok, V.val1?, ofRes, bv_len, hd, hr, hr4, hr4', un_xor32, hx, d1, d2, u1, u2, u3, bv_dp, bv_tk, List.take_length, List.length_drop]) | (with_reducible refine wgd_cases ?_ ?_ <;> intro hb) | (with_reducible refine wcond_cases ?_ ?_ <;> intro hb) | (with_reducible refine qd_i (by kernel_rfl) ?_) | (with_reducible refine W_itn_cases ?_ ?_; omega))
      have hf : frameS bs = ([], [], 6) := by unfold frameS; rw [if_neg h, if_pos h1, if_pos h2]
      exact ⟨0, 0, 1, 1, by rw [hf]; rfl, (fun h => by rw [hf] at h; cases h), by decide, by decide⟩
    · have d2 : decide (((bs.length - 8 : Nat) : Int) < rdB bs + 8) = false := decide_eq_false (by omega)
      have v1 : IntKind.u32.wrap (rdB bs + 8) = rdB bs + 8 := by rw [IntKind.wrap_u32]; omega
      have hu : Tryd.prog.underlying 38 = some (.slice 5) := by kernel_rfl
      have hz : (usz Tryd.prog 5).isSome = true := by kernel_rfl
      repeat' (first | (simp -implicitDefEqProofs only [ze, Nat.reduceEqDiff, Nat.reduceAdd, Nat.reduceMul, reduceIte, Nat.reduceLT, Nat.reduceLeDiff, reduceCtorEq, Int.reduceEq, Int.reduceLT, Int.reduceLE, Int.reduceNeg, Int.reduceToNat, Nat.reduceBEq, Nat.reduceSub, qp, qf, kop, av, RQ, PQ, kres, kres1, kresL, fin, fins, fin1, V.pur?, V.pur1?, V.cells, kld, ones, V.one, Value.oneCell', own, owns, own1, xfill, ksrc, kint, vint, ksub, keqs, kok, V.val1?, ofRes, xop0, ev, xslice, pint, hu, hz, imp_self, and_true, bv_len, hd, hr, hr4, hr4', un_xor32, hx, d1, d2, u1, u2, u3, v1, bv_dp, bv_tk, List.take_length, List.length_drop]) | (with_reducible refine wgd_cases ?_ ?_ <;> intro hb) | (with_reducible refine wcond_cases ?_ ?_ <;> intro hb) | (with_reducible refine qd_i (by kernel_rfl) ?_) | (with_reducible refine W_itn_cases ?_ ?_; omega))
      have hf : frameS bs = ((bs.drop 8).take (rdB bs).toNat, ((bs.drop 8).drop (rdB bs).toNat).take 8, 0) := by unfold frameS; rw [if_neg h, if_pos h1, if_neg h2]
      have hdt : List.drop (rdB bs).toNat (List.take (rdB bs + 8).toNat (List.drop 8 bs)) = ((bs.drop 8).drop (rdB bs).toNat).take 8 := by
        rw [List.drop_take, show (rdB bs + 8).toNat - (rdB bs).toNat = 8 by omega]
      exact ⟨_, _, 0, 0, by rw [hf, hdt], (fun _ => ⟨rfl, rfl⟩), by decide, by decide⟩
  · have d1 : decide (rdB (bs.drop 4) = inv (rdB bs)) = false := decide_eq_false h1
    have hf : frameS bs = ([], [], 5) := by unfold frameS; rw [if_neg h, if_neg h1]
    repeat' (first | (simp -implicitDefEqProofs only [ze, Nat.reduceEqDiff, Nat.reduceAdd, Nat.reduceMul, reduceIte, Nat.reduceLT, Nat.reduceLeDiff, reduceCtorEq, Int.reduceEq, Int.reduceLT, Int.reduceLE, Int.reduceNeg, Int.reduceToNat, Nat.reduceBEq, Nat.reduceSub, qp, qf, kop, av, RQ, PQ, kres, kres1, kresL, fin, fins, fin1, V.pur?, V.pur1?, V.cells, kld, ones, V.one, Value.oneCell', own, owns, own1, xfill, ksrc, kint, vint, ksub, keqs, kok, V.val1?, ofRes, bv_len, hd, hr, hr4, hr4', un_xor32, hx, d1, bv_dp, bv_tk, List.take_length, List.length_drop]) | (with_reducible refine wgd_cases ?_ ?_ <;> intro hb) | (with_reducible refine wcond_cases ?_ ?_ <;> intro hb) | (with_reducible refine qd_i (by kernel_rfl) ?_) | (with_reducible refine W_itn_cases ?_ ?_; omega))
    exact ⟨0, 0, 1, 1, by rw [hf]; rfl, (fun h => by rw [hf] at h; cases h), by decide, by decide⟩
end Go.Proofs.YtkbheoganajhaaaDoor.Vm
set_option maxRecDepth 10000
set_option linter.unusedVariables false
set_option linter.unusedSimpArgs false
namespace Go.Proofs.YtkbheoganajhaaaDoor.Vm
open Go Go.Proofs
def Dec (st : St) (nx id : Nat) (bs : List Int) (rr at_ : Nat) : Prop := id < nx ∧ at_ ≤ bs.length ∧ st id = some (.cells [.list 5 (bv bs) rr, .i64 at_])
def KeepX (st st' : St) (nx id : Nat) : Prop := ∀ i, i < nx → i ≠ id → st' i = st i
theorem KeepX.trans {s0 s1 s2 : St} {n0 n1 id : Nat} (h : KeepX s0 s1 n0 id) (k : KeepX s1 s2 n1 id) (hn : n0 ≤ n1) : KeepX s0 s2 n0 id := fun i h1 h2 => (k i (by omega) h2).trans (h i h1 h2)
theorem KeepX.refl (st : St) (nx id : Nat) : KeepX st st nx id := fun _ _ _ => rfl
theorem KeepX.upd {s0 s1 : St} {n0 id j : Nat} (h : KeepX s0 s1 n0 id) (hj : n0 ≤ j) (o : Option Ob) : KeepX s0 (upd s1 j o) n0 id := fun i h1 h2 => by rw [upd_at, if_neg (by omega)]; exact h i h1 h2
theorem Dec.upd {st : St} {nx nx' id j : Nat} {bs : List Int} {rr a : Nat} (h : Dec st nx id bs rr a) (hj : nx ≤ j) (hn : nx ≤ nx') (o : Option Ob) : Dec (upd st j o) nx' id bs rr a := ⟨Nat.lt_of_lt_of_le h.1 hn, h.2.1, by rw [upd_at, if_neg (by have := h.1; omega)]; exact h.2.2⟩
theorem Dec.le {st : St} {nx nx' id : Nat} {bs : List Int} {rr a : Nat} (h : Dec st nx id bs rr a) (hn : nx ≤ nx') : Dec st nx' id bs rr a := ⟨Nat.lt_of_lt_of_le h.1 hn, h.2⟩
def errV (e : Int) : V := .ifc 125 (.agg [.i64 e])
def DP {α : Type} (st : St) (nx id : Nat) (bs : List Int) (rr : Nat) (o : Except Int (α × Nat)) (Q : α → V → St → Nat → Prop) (r : HR) : Prop := match o with
  | .error e => ∃ st' nx', r = .pan (errV e) st' nx' ∧ nx ≤ nx' ∧ KeepX st st' nx id
  | .ok p => ∃ v st' nx', r = .ret v st' nx' ∧ nx ≤ nx' ∧ KeepX st st' nx id ∧ Dec st' nx' id bs rr p.2 ∧ Q p.1 v st' nx'
theorem dend_ok {st : St} {nx id : Nat} {bs : List Int} {rr a : Nat} (h : Dec st nx id bs rr a) (hl : bs.length < 4611686018427387904) (u : Nat) (hu : a + u ≤ bs.length) :
    W (L.hp 84 [.ptr id 0, .i64 u, .i64 0] st nx) fun r => ∃ st' nx', r = .ret (.tup []) st' nx' ∧ nx ≤ nx' ∧ Dec st' nx' id bs rr (a + u) ∧ KeepX st st' nx id := by
  refine hp_w k84_eq ?_
  simp only [k84]
  obtain ⟨h1, h2, h3⟩ := h
  have hw : IntKind.i64.wrap ((a : Int) + (u : Int)) = ((a + u : Nat) : Int) := by rw [wrap_i64 (by omega) (by omega)]; omega
  repeat' (first | (simp -implicitDefEqProofs only [ze, Nat.reduceEqDiff, Nat.reduceAdd, Nat.reduceMul, reduceIte, Nat.reduceLT, Nat.reduceLeDiff, reduceCtorEq, Int.reduceEq, Int.reduceLT, Int.reduceLE, Int.reduceNeg, Int.reduceToNat, Nat.reduceBEq, Nat.reduceSub, qp, qf, kop, av, RQ, PQ, kres, kres1, kresL, fin, fins, fin1, V.pur?, V.pur1?, V.cells, kld, ones, V.one, Value.oneCell', own, owns, own1, xfill, ksrc, kint, vint, ksub, keqs, kok, V.val1?, ofRes, h3, hw]) | (with_reducible refine wgd_cases ?_ ?_ <;> intro hb) | (with_reducible refine wcond_cases ?_ ?_ <;> intro hb) | (with_reducible refine qd_i (by kernel_rfl) ?_) | (with_reducible refine W_itn_cases ?_ ?_; omega))
  exact ⟨_, _, rfl, by omega, ⟨by omega, hu, by rw [upd_at, if_pos rfl]⟩, fun i g1 g2 => by rw [upd_at, if_neg g2]⟩
theorem dend_bad {st : St} {nx id : Nat} (u e : Int) (he : ¬ e = 0) :
    W (L.hp 84 [.ptr id 0, .i64 u, .i64 e] st nx) fun r => ∃ st' nx', r = .pan (errV e) st' nx' ∧ nx ≤ nx' ∧ KeepX st st' nx id := by
  refine hp_w k84_eq ?_
  simp only [k84]
  have hd : decide (e = 0) = false := decide_eq_false he
  repeat' (first | (simp -implicitDefEqProofs only [ze, Nat.reduceEqDiff, Nat.reduceAdd, Nat.reduceMul, reduceIte, Nat.reduceLT, Nat.reduceLeDiff, reduceCtorEq, Int.reduceEq, Int.reduceLT, Int.reduceLE, Int.reduceNeg, Int.reduceToNat, Nat.reduceBEq, Nat.reduceSub, qp, qf, kop, av, RQ, PQ, kres, kres1, kresL, fin, fins, fin1, V.pur?, V.pur1?, V.cells, kld, ones, V.one, Value.oneCell', own, owns, own1, xfill, ksrc, kint, vint, ksub, keqs, kok, V.val1?, ofRes, hd, ne_eq, not_true_eq_false, gt_iff_lt]) | (with_reducible refine wgd_cases ?_ ?_ <;> intro hb) | (with_reducible refine wcond_cases ?_ ?_ <;> intro hb) | (with_reducible refine qd_i (by kernel_rfl) ?_) | (with_reducible refine W_itn_cases ?_ ?_; omega))
  exact ⟨_, _, rfl, by omega, fun i g1 g2 => rfl⟩
def dInt (bs : List Int) (a : Nat) : Except Int (Int × Nat) :=
  if (Co.tS (bs.drop a) 0 0).2.2 = 0 then .ok ((Co.tS (bs.drop a) 0 0).1, a + (Co.tS (bs.drop a) 0 0).2.1.toNat) else .error (Co.tS (bs.drop a) 0 0).2.2
def dText (bs : List Int) (a : Nat) : Except Int (ByteArray × Nat) :=
  if (tT (bs.drop a)).2.2 = 0 then .ok ((tT (bs.drop a)).1, a + (tT (bs.drop a)).2.1.toNat) else .error (tT (bs.drop a)).2.2
def dCount (most : Int) (bs : List Int) (a : Nat) : Except Int (Int × Nat) := match dInt bs a with
  | .error e => .error e
  | .ok p => if p.1 < 0 ∨ most < p.1 then .error 9 else .ok p
theorem W_dec {α : Type} {o : Option HR} {st : St} {nx id : Nat} {bs : List Int} {rr : Nat} {x : Except Int (α × Nat)} {Q : α → V → St → Nat → Prop} {C : R → Prop} (h : W o (DP st nx id bs rr x Q))
    (hbad : ∀ e st' nx', x = .error e → nx ≤ nx' → KeepX st st' nx id → C (.bpan (errV e) st' nx'))
    (hok : ∀ p v st' nx', x = .ok p → nx ≤ nx' → KeepX st st' nx id → Dec st' nx' id bs rr p.2 → Q p.1 v st' nx' → C (.big v st' nx')) : W (match o with | some (.ret v st' n) => some (R.big v st' n) | some (.pan v st' n) => some (.bpan v st' n) | none => none) C := by
  obtain ⟨r, rfl, hd⟩ := h
  cases hx : x with
  | error e =>
    rw [hx] at hd
    obtain ⟨st', nx', rfl, h1, h2⟩ := hd
    exact ⟨_, rfl, hbad e st' nx' hx h1 h2⟩
  | ok p =>
    rw [hx] at hd
    obtain ⟨v, st', nx', rfl, h1, h2, h3, h4⟩ := hd
    exact ⟨_, rfl, hok p v st' nx' hx h1 h2 h3 h4⟩
theorem bv_all (l : List Int) : (bv l).take l.length = bv l := by rw [bv_tk, List.take_length]
theorem dnumber_ok {st : St} {nx id : Nat} {bs : List Int} {rr a : Nat} (h : Dec st nx id bs rr a) (hb : bOK bs) (hl : bs.length < 4611686018427387904) :
    W (L.hp 95 [.ptr id 0] st nx) (DP st nx id bs rr (dInt bs a) fun n v _ _ => v = .i64 n) := by
  refine hp_w k95_eq ?_
  simp only [k95]
  have hD := h
  obtain ⟨h1, h2, h3⟩ := h
  have hi := takeint_ok (bs.drop a) (hb.drop a) (by rw [List.length_drop]; omega)
  have hp := Co.tS_pos (bs.drop a) 0 0
  have hdi : dInt bs a = dInt bs a := rfl
  unfold dInt at hdi
  unfold dInt
  generalize Co.tS (bs.drop a) 0 0 = q at hi hp hdi ⊢
  obtain ⟨n, u, e⟩ := q
  simp only at hi hp hdi ⊢
  rw [List.length_drop] at hp
  have hha : ((0 : Int) ≤ (a : Int)) = True := eq_true (by omega)
  by_cases he : e = 0
  · subst he
    have hk : a + u.toNat ≤ bs.length := by omega
    have hu : (u : Int) = ((u.toNat : Nat) : Int) := by omega
    repeat' (first | (simp -implicitDefEqProofs only [ze, Nat.reduceEqDiff, Nat.reduceAdd, Nat.reduceMul, reduceIte, Nat.reduceLT, Nat.reduceLeDiff, reduceCtorEq, Int.reduceEq, Int.reduceLT, Int.reduceLE, Int.reduceNeg, Int.reduceToNat, Nat.reduceBEq, Nat.reduceSub, qp, qf, kop, av, RQ, PQ, kres, kres1, kresL, fin, fins, fin1, V.pur?, V.pur1?, V.cells, kld, ones, V.one, Value.oneCell', own, owns, own1, xfill, ksrc, kint, vint, ksub, keqs, kok, V.val1?, ofRes, h3, bv_len, bv_all, bv_dp, hi]) | (with_reducible refine W_itn_cases ?_ ?_; omega))
    refine qd_i ?_ ?_
    · simp [recsOk, ordB, Rec.free, Rec.wr, disj, List.range, List.range.loop]; try decide
    · simp -implicitDefEqProofs only [ze, Nat.reduceEqDiff, Nat.reduceAdd, Nat.reduceMul, reduceIte, Nat.reduceLT, Nat.reduceLeDiff, reduceCtorEq, Int.reduceEq, Int.reduceLT, Int.reduceLE, Int.reduceNeg, Int.reduceToNat, Nat.reduceBEq, Nat.reduceSub, qp, qf, kop, av, RQ, PQ, kres, kres1, kresL, fin, fins, fin1, V.pur?, V.pur1?, V.cells, kld, ones, V.one, Value.oneCell', own, owns, own1, xfill, ksrc, kint, vint, ksub, keqs, kok, V.val1?, ofRes]
      rw [hu]
      refine W_hp (dend_ok (hD.le (Nat.le_add_right _ _)) hl u.toNat hk) ?_
      rintro _ ⟨st1, nx1, rfl, hn1, hd1, hk1⟩
      repeat' (first | (simp -implicitDefEqProofs only [ze, Nat.reduceEqDiff, Nat.reduceAdd, Nat.reduceMul, reduceIte, Nat.reduceLT, Nat.reduceLeDiff, reduceCtorEq, Int.reduceEq, Int.reduceLT, Int.reduceLE, Int.reduceNeg, Int.reduceToNat, Nat.reduceBEq, Nat.reduceSub, qp, qf, kop, av, RQ, PQ, kres, kres1, kresL, fin, fins, fin1, V.pur?, V.pur1?, V.cells, kld, ones, V.one, Value.oneCell', own, owns, own1, xfill, ksrc, kint, vint, ksub, keqs, kok, V.val1?, ofRes]) | (with_reducible refine wgd_cases ?_ ?_ <;> intro hb) | (with_reducible refine wcond_cases ?_ ?_ <;> intro hb) | (with_reducible refine qd_i (by kernel_rfl) ?_) | (with_reducible refine W_itn_cases ?_ ?_; omega))
      exact ⟨_, _, _, rfl, by omega, fun i g1 g2 => hk1 i (by omega) g2, hd1.le (by omega), rfl⟩
  · repeat' (first | (simp -implicitDefEqProofs only [ze, Nat.reduceEqDiff, Nat.reduceAdd, Nat.reduceMul, reduceIte, Nat.reduceLT, Nat.reduceLeDiff, reduceCtorEq, Int.reduceEq, Int.reduceLT, Int.reduceLE, Int.reduceNeg, Int.reduceToNat, Nat.reduceBEq, Nat.reduceSub, qp, qf, kop, av, RQ, PQ, kres, kres1, kresL, fin, fins, fin1, V.pur?, V.pur1?, V.cells, kld, ones, V.one, Value.oneCell', own, owns, own1, xfill, ksrc, kint, vint, ksub, keqs, kok, V.val1?, ofRes, h3, bv_len, bv_all, bv_dp, hi]) | (with_reducible refine W_itn_cases ?_ ?_; omega))
    refine qd_i ?_ ?_
    · simp [recsOk, ordB, Rec.free, Rec.wr, disj, List.range, List.range.loop]; try decide
    · simp -implicitDefEqProofs only [ze, Nat.reduceEqDiff, Nat.reduceAdd, Nat.reduceMul, reduceIte, Nat.reduceLT, Nat.reduceLeDiff, reduceCtorEq, Int.reduceEq, Int.reduceLT, Int.reduceLE, Int.reduceNeg, Int.reduceToNat, Nat.reduceBEq, Nat.reduceSub, qp, qf, kop, av, RQ, PQ, kres, kres1, kresL, fin, fins, fin1, V.pur?, V.pur1?, V.cells, kld, ones, V.one, Value.oneCell', own, owns, own1, xfill, ksrc, kint, vint, ksub, keqs, kok, V.val1?, ofRes]
      refine W_hp (dend_bad u e he) ?_
      rintro _ ⟨st1, nx1, rfl, hn1, hk1⟩
      repeat' (first | (simp -implicitDefEqProofs only [ze, Nat.reduceEqDiff, Nat.reduceAdd, Nat.reduceMul, reduceIte, Nat.reduceLT, Nat.reduceLeDiff, reduceCtorEq, Int.reduceEq, Int.reduceLT, Int.reduceLE, Int.reduceNeg, Int.reduceToNat, Nat.reduceBEq, Nat.reduceSub, qp, qf, kop, av, RQ, PQ, kres, kres1, kresL, fin, fins, fin1, V.pur?, V.pur1?, V.cells, kld, ones, V.one, Value.oneCell', own, owns, own1, xfill, ksrc, kint, vint, ksub, keqs, kok, V.val1?, ofRes]) | (with_reducible refine wgd_cases ?_ ?_ <;> intro hb) | (with_reducible refine wcond_cases ?_ ?_ <;> intro hb) | (with_reducible refine qd_i (by kernel_rfl) ?_) | (with_reducible refine W_itn_cases ?_ ?_; omega))
      rw [if_neg he]
      exact ⟨_, _, rfl, by omega, fun i g1 g2 => hk1 i (by omega) g2⟩
theorem tT_pos (bs : List Int) : 0 ≤ (tT bs).2.1 ∧ (tT bs).2.1 ≤ bs.length := by
  have hp := Co.tS_pos bs 0 0
  unfold tT
  generalize Co.tS bs 0 0 = q at hp ⊢
  obtain ⟨n, u, e⟩ := q
  simp only at hp ⊢
  repeat' split
  all_goals (simp only at *; omega)
theorem dtext_ok {st : St} {nx id : Nat} {bs : List Int} {rr a : Nat} (h : Dec st nx id bs rr a) (hb : bOK bs) (hl : bs.length < 4611686018427387904) :
    W (L.hp 96 [.ptr id 0] st nx) (DP st nx id bs rr (dText bs a) fun n v _ _ => v = .str n) := by
  refine hp_w k96_eq ?_
  simp only [k96]
  have hD := h
  obtain ⟨h1, h2, h3⟩ := h
  have hi := taketext_ok (bs.drop a) (hb.drop a) (by rw [List.length_drop]; omega)
  have hp := tT_pos (bs.drop a)
  have hdi : dText bs a = dText bs a := rfl
  unfold dText at hdi
  unfold dText
  generalize tT (bs.drop a) = q at hi hp hdi ⊢
  obtain ⟨n, u, e⟩ := q
  simp only at hi hp hdi ⊢
  rw [List.length_drop] at hp
  have hha : ((0 : Int) ≤ (a : Int)) = True := eq_true (by omega)
  by_cases he : e = 0
  · subst he
    have hk : a + u.toNat ≤ bs.length := by omega
    have hu : (u : Int) = ((u.toNat : Nat) : Int) := by omega
    repeat' (first | (simp -implicitDefEqProofs only [ze, Nat.reduceEqDiff, Nat.reduceAdd, Nat.reduceMul, reduceIte, Nat.reduceLT, Nat.reduceLeDiff, reduceCtorEq, Int.reduceEq, Int.reduceLT, Int.reduceLE, Int.reduceNeg, Int.reduceToNat, Nat.reduceBEq, Nat.reduceSub, qp, qf, kop, av, RQ, PQ, kres, kres1, kresL, fin, fins, fin1, V.pur?, V.pur1?, V.cells, kld, ones, V.one, Value.oneCell', own, owns, own1, xfill, ksrc, kint, vint, ksub, keqs, kok, V.val1?, ofRes, h3, bv_len, bv_all, bv_dp, hi]) | (with_reducible refine W_itn_cases ?_ ?_; omega))
    refine qd_i ?_ ?_
    · simp [recsOk, ordB, Rec.free, Rec.wr, disj, List.range, List.range.loop]; try decide
    · simp -implicitDefEqProofs only [ze, Nat.reduceEqDiff, Nat.reduceAdd, Nat.reduceMul, reduceIte, Nat.reduceLT, Nat.reduceLeDiff, reduceCtorEq, Int.reduceEq, Int.reduceLT, Int.reduceLE, Int.reduceNeg, Int.reduceToNat, Nat.reduceBEq, Nat.reduceSub, qp, qf, kop, av, RQ, PQ, kres, kres1, kresL, fin, fins, fin1, V.pur?, V.pur1?, V.cells, kld, ones, V.one, Value.oneCell', own, owns, own1, xfill, ksrc, kint, vint, ksub, keqs, kok, V.val1?, ofRes]
      rw [hu]
      refine W_hp (dend_ok (hD.le (Nat.le_add_right _ _)) hl u.toNat hk) ?_
      rintro _ ⟨st1, nx1, rfl, hn1, hd1, hk1⟩
      repeat' (first | (simp -implicitDefEqProofs only [ze, Nat.reduceEqDiff, Nat.reduceAdd, Nat.reduceMul, reduceIte, Nat.reduceLT, Nat.reduceLeDiff, reduceCtorEq, Int.reduceEq, Int.reduceLT, Int.reduceLE, Int.reduceNeg, Int.reduceToNat, Nat.reduceBEq, Nat.reduceSub, qp, qf, kop, av, RQ, PQ, kres, kres1, kresL, fin, fins, fin1, V.pur?, V.pur1?, V.cells, kld, ones, V.one, Value.oneCell', own, owns, own1, xfill, ksrc, kint, vint, ksub, keqs, kok, V.val1?, ofRes]) | (with_reducible refine wgd_cases ?_ ?_ <;> intro hb) | (with_reducible refine wcond_cases ?_ ?_ <;> intro hb) | (with_reducible refine qd_i (by kernel_rfl) ?_) | (with_reducible refine W_itn_cases ?_ ?_; omega))
      exact ⟨_, _, _, rfl, by omega, fun i g1 g2 => hk1 i (by omega) g2, hd1.le (by omega), rfl⟩
  · repeat' (first | (simp -implicitDefEqProofs only [ze, Nat.reduceEqDiff, Nat.reduceAdd, Nat.reduceMul, reduceIte, Nat.reduceLT, Nat.reduceLeDiff, reduceCtorEq, Int.reduceEq, Int.reduceLT, Int.reduceLE, Int.reduceNeg, Int.reduceToNat, Nat.reduceBEq, Nat.reduceSub, qp, qf, kop, av, RQ, PQ, kres, kres1, kresL, fin, fins, fin1, V.pur?, V.pur1?, V.cells, kld, ones, V.one, Value.oneCell', own, owns, own1, xfill, ksrc, kint, vint, ksub, keqs, kok, V.val1?, ofRes, h3, bv_len, bv_all, bv_dp, hi]) | (with_reducible refine W_itn_cases ?_ ?_; omega))
    refine qd_i ?_ ?_
    · simp [recsOk, ordB, Rec.free, Rec.wr, disj, List.range, List.range.loop]; try decide
    · simp -implicitDefEqProofs only [ze, Nat.reduceEqDiff, Nat.reduceAdd, Nat.reduceMul, reduceIte, Nat.reduceLT, Nat.reduceLeDiff, reduceCtorEq, Int.reduceEq, Int.reduceLT, Int.reduceLE, Int.reduceNeg, Int.reduceToNat, Nat.reduceBEq, Nat.reduceSub, qp, qf, kop, av, RQ, PQ, kres, kres1, kresL, fin, fins, fin1, V.pur?, V.pur1?, V.cells, kld, ones, V.one, Value.oneCell', own, owns, own1, xfill, ksrc, kint, vint, ksub, keqs, kok, V.val1?, ofRes]
      refine W_hp (dend_bad u e he) ?_
      rintro _ ⟨st1, nx1, rfl, hn1, hk1⟩
      repeat' (first | (simp -implicitDefEqProofs only [ze, Nat.reduceEqDiff, Nat.reduceAdd, Nat.reduceMul, reduceIte, Nat.reduceLT, Nat.reduceLeDiff, reduceCtorEq, Int.reduceEq, Int.reduceLT, Int.reduceLE, Int.reduceNeg, Int.reduceToNat, Nat.reduceBEq, Nat.reduceSub, qp, qf, kop, av, RQ, PQ, kres, kres1, kresL, fin, fins, fin1, V.pur?, V.pur1?, V.cells, kld, ones, V.one, Value.oneCell', own, owns, own1, xfill, ksrc, kint, vint, ksub, keqs, kok, V.val1?, ofRes]) | (with_reducible refine wgd_cases ?_ ?_ <;> intro hb) | (with_reducible refine wcond_cases ?_ ?_ <;> intro hb) | (with_reducible refine qd_i (by kernel_rfl) ?_) | (with_reducible refine W_itn_cases ?_ ?_; omega))
      rw [if_neg he]
      exact ⟨_, _, rfl, by omega, fun i g1 g2 => hk1 i (by omega) g2⟩
theorem dcount_ok {st : St} {nx id : Nat} {bs : List Int} {rr a : Nat} (h : Dec st nx id bs rr a) (hb : bOK bs) (hl : bs.length < 4611686018427387904) (most : Int) :
    W (L.hp 97 [.ptr id 0, .i64 most] st nx) (DP st nx id bs rr (dCount most bs a) fun n v _ _ => v = .i64 n ∧ 0 ≤ n ∧ n ≤ most) := by
  refine hp_w k97_eq ?_
  simp only [k97]
  repeat' (first | (simp -implicitDefEqProofs only [ze, Nat.reduceEqDiff, Nat.reduceAdd, Nat.reduceMul, reduceIte, Nat.reduceLT, Nat.reduceLeDiff, reduceCtorEq, Int.reduceEq, Int.reduceLT, Int.reduceLE, Int.reduceNeg, Int.reduceToNat, Nat.reduceBEq, Nat.reduceSub, qp, qf, kop, av, RQ, PQ, kres, kres1, kresL, fin, fins, fin1, V.pur?, V.pur1?, V.cells, kld, ones, V.one, Value.oneCell', own, owns, own1, xfill, ksrc, kint, vint, ksub, keqs, kok, V.val1?, ofRes]) | (with_reducible refine wgd_cases ?_ ?_ <;> intro hb) | (with_reducible refine wcond_cases ?_ ?_ <;> intro hb) | (with_reducible refine qd_i (by kernel_rfl) ?_) | (with_reducible refine W_itn_cases ?_ ?_; omega))
  refine W_dec (dnumber_ok (h.le (Nat.le_add_right _ _)) hb hl) (fun e st1 nx1 hx hn hk => ?_) (fun p v st1 nx1 hx hn hk hd hv => ?_)
  · repeat' (first | (simp -implicitDefEqProofs only [ze, Nat.reduceEqDiff, Nat.reduceAdd, Nat.reduceMul, reduceIte, Nat.reduceLT, Nat.reduceLeDiff, reduceCtorEq, Int.reduceEq, Int.reduceLT, Int.reduceLE, Int.reduceNeg, Int.reduceToNat, Nat.reduceBEq, Nat.reduceSub, qp, qf, kop, av, RQ, PQ, kres, kres1, kresL, fin, fins, fin1, V.pur?, V.pur1?, V.cells, kld, ones, V.one, Value.oneCell', own, owns, own1, xfill, ksrc, kint, vint, ksub, keqs, kok, V.val1?, ofRes]) | (with_reducible refine wgd_cases ?_ ?_ <;> intro hb) | (with_reducible refine wcond_cases ?_ ?_ <;> intro hb) | (with_reducible refine qd_i (by kernel_rfl) ?_) | (with_reducible refine W_itn_cases ?_ ?_; omega))
    unfold dCount
    rw [hx]
    exact ⟨_, _, rfl, by omega, fun i g1 g2 => hk i (by omega) g2⟩
  · subst hv
    unfold dCount
    rw [hx]
    by_cases hc : p.1 < 0 ∨ most < p.1
    · simp only [if_pos hc]
      repeat' (first | (simp -implicitDefEqProofs only [ze, Nat.reduceEqDiff, Nat.reduceAdd, Nat.reduceMul, reduceIte, Nat.reduceLT, Nat.reduceLeDiff, reduceCtorEq, Int.reduceEq, Int.reduceLT, Int.reduceLE, Int.reduceNeg, Int.reduceToNat, Nat.reduceBEq, Nat.reduceSub, qp, qf, kop, av, RQ, PQ, kres, kres1, kresL, fin, fins, fin1, V.pur?, V.pur1?, V.cells, kld, ones, V.one, Value.oneCell', own, owns, own1, xfill, ksrc, kint, vint, ksub, keqs, kok, V.val1?, ofRes]) | (with_reducible refine wgd_cases ?_ ?_ <;> intro hb) | (with_reducible refine wcond_cases ?_ ?_ <;> intro hb) | (with_reducible refine qd_i (by kernel_rfl) ?_) | (with_reducible refine W_itn_cases ?_ ?_; omega))
      all_goals (simp only [decide_eq_true_eq, decide_eq_false_iff_not] at *)
      all_goals (try (exfalso; omega))
      all_goals (refine W_hp (dend_bad 0 9 (by decide)) ?_; rintro _ ⟨st2, nx2, rfl, hn2, hk2⟩; repeat' (first | (simp -implicitDefEqProofs only [ze, Nat.reduceEqDiff, Nat.reduceAdd, Nat.reduceMul, reduceIte, Nat.reduceLT, Nat.reduceLeDiff, reduceCtorEq, Int.reduceEq, Int.reduceLT, Int.reduceLE, Int.reduceNeg, Int.reduceToNat, Nat.reduceBEq, Nat.reduceSub, qp, qf, kop, av, RQ, PQ, kres, kres1, kresL, fin, fins, fin1, V.pur?, V.pur1?, V.cells, kld, ones, V.one, Value.oneCell', own, owns, own1, xfill, ksrc, kint, vint, ksub, keqs, kok, V.val1?, ofRes]) | (with_reducible refine wgd_cases ?_ ?_ <;> intro hb) | (with_reducible refine wcond_cases ?_ ?_ <;> intro hb) | (with_reducible refine qd_i (by kernel_rfl) ?_) | (with_reducible refine W_itn_cases ?_ ?_; omega)); exact ⟨_, _, rfl, by omega, fun i g1 g2 => (hk2 i (by omega) g2).trans (hk i (by omega) g2)⟩)
    · simp only [if_neg hc]
      have d1 : decide (p.1 < 0) = false := decide_eq_false (by omega)
      have d2 : decide (most < p.1) = false := decide_eq_false (by omega)
      repeat' (first | (simp -implicitDefEqProofs only [ze, Nat.reduceEqDiff, Nat.reduceAdd, Nat.reduceMul, reduceIte, Nat.reduceLT, Nat.reduceLeDiff, reduceCtorEq, Int.reduceEq, Int.reduceLT, Int.reduceLE, Int.reduceNeg, Int.reduceToNat, Nat.reduceBEq, Nat.reduceSub, qp, qf, kop, av, RQ, PQ, kres, kres1, kresL, fin, fins, fin1, V.pur?, V.pur1?, V.cells, kld, ones, V.one, Value.oneCell', own, owns, own1, xfill, ksrc, kint, vint, ksub, keqs, kok, V.val1?, ofRes, d1, d2]) | (with_reducible refine wgd_cases ?_ ?_ <;> intro hb) | (with_reducible refine wcond_cases ?_ ?_ <;> intro hb) | (with_reducible refine qd_i (by kernel_rfl) ?_) | (with_reducible refine W_itn_cases ?_ ?_; omega))
      exact ⟨_, _, _, rfl, by omega, fun i g1 g2 => hk i (by omega) g2, hd.le (by omega), rfl, by omega, by omega⟩
end Go.Proofs.YtkbheoganajhaaaDoor.Vm
