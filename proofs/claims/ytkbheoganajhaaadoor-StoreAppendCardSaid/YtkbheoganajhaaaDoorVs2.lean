/- Proved here: what the functions on tags, currencies and limits return. Conditions: none. -/
import Derived.Test.YtkbheoganajhaaaDoorVs1
import Derived.Laws.RangeString
import Derived.Laws.RangeAny
set_option maxRecDepth 10000
set_option linter.unusedVariables false
set_option linter.unusedSimpArgs false
namespace Go.Proofs.YtkbheoganajhaaaDoor.Vm
open Go Go.Proofs
/-- The mark of a list that comes of outside: 1 for the literal nil, else 0. -/
def nr (b : Bool) : Nat := if b then 1 else 0
theorem nr_pur (b : Bool) : (if nr b = 1 then 1 else 0) = nr b := by cases b <;> rfl
/-- The literal nil bears no type. -/
def te (b : Bool) (e : Nat) : Nat := if b then 0 else e
theorem te_f (e : Nat) : te false e = e := rfl
structure Tag where
  n : ByteArray
  v : ByteArray
def encT (t : Tag) : V := .agg [.str t.n, .str t.v]
def small (s : ByteArray) : Prop := s.size < 4611686018427387904
def within (n m : Int) : Bool := decide (-m ≤ n) && decide (n ≤ m)
def optS (s : ByteArray) : Bool := decide (s.size = 0) || codeS s
def isUp (b : UInt8) : Bool := decide (65 ≤ b.toNat) && decide (b.toNat ≤ 90)
def curS (s : ByteArray) : Bool := decide (s.size = 3) && s.data.toList.all isUp
def tagS (t : Tag) : Bool := codeS t.n && codeS t.v
def lessS (a b : ByteArray) : Bool := Op.bytesLess a.data.toList b.data.toList
/-- Each name is less than the one after it. -/
def ordS : List Tag → Bool
  | a :: b :: r => lessS a.n b.n && ordS (b :: r)
  | _ => true
def tagsS (l : List Tag) : Bool := decide (l.length ≤ 6) && l.all tagS && ordS l
theorem within_ok (a m : Int) (h0 : 0 ≤ m) (h1 : m < 4611686018427387904) : L.pl 71 [.i64 a, .i64 m] = some (.ret (.bool (within a m))) := by
  refine W_of (pl_w k71_eq ?_)
  simp only [k71]
  have hw : IntKind.i64.wrap (0 - m) = -m := by rw [wrap_i64 (by omega) (by omega)]; omega
  repeat' (first | (simp -implicitDefEqProofs only [ze, Nat.reduceEqDiff, Nat.reduceAdd, Nat.reduceMul, reduceIte, Nat.reduceLT, Nat.reduceLeDiff, reduceCtorEq, Int.reduceEq, Int.reduceLT, Int.reduceLE, Int.reduceNeg, Int.reduceToNat, Nat.reduceBEq, Nat.reduceSub, qp, qf, kop, av, RQ, PQ, kres, kres1, kresL, fin, fins, fin1, V.pur?, V.pur1?, V.cells, kld, ones, V.one, Value.oneCell', own, owns, own1, xfill, ksrc, kint, vint, ksub, keqs, kok, V.val1?, ofRes, hw]) | (with_reducible refine wgd_cases ?_ ?_ <;> intro hb) | (with_reducible refine wcond_cases ?_ ?_ <;> intro hb) | (with_reducible refine qd_i (by kernel_rfl) ?_) | (with_reducible refine W_itn_cases ?_ ?_; omega))
  all_goals (refine ret_b ?_; simp_all [within]; try omega)
theorem rwithin_ok (a m : Int) (h0 : 0 ≤ m) (h1 : m < 4611686018427387904) : L.pl 41 [.i64 a, .i64 m] = some (.ret (.bool (within a m))) := by
  refine W_of (pl_w k41_eq ?_)
  simp only [k41]
  have hw : IntKind.i64.wrap (0 - m) = -m := by rw [wrap_i64 (by omega) (by omega)]; omega
  repeat' (first | (simp -implicitDefEqProofs only [ze, Nat.reduceEqDiff, Nat.reduceAdd, Nat.reduceMul, reduceIte, Nat.reduceLT, Nat.reduceLeDiff, reduceCtorEq, Int.reduceEq, Int.reduceLT, Int.reduceLE, Int.reduceNeg, Int.reduceToNat, Nat.reduceBEq, Nat.reduceSub, qp, qf, kop, av, RQ, PQ, kres, kres1, kresL, fin, fins, fin1, V.pur?, V.pur1?, V.cells, kld, ones, V.one, Value.oneCell', own, owns, own1, xfill, ksrc, kint, vint, ksub, keqs, kok, V.val1?, ofRes, hw]) | (with_reducible refine wgd_cases ?_ ?_ <;> intro hb) | (with_reducible refine wcond_cases ?_ ?_ <;> intro hb) | (with_reducible refine qd_i (by kernel_rfl) ?_) | (with_reducible refine W_itn_cases ?_ ?_; omega))
  all_goals (refine ret_b ?_; simp_all [within]; try omega)
theorem optional_ok (s : ByteArray) : L.pl 69 [.str s] = some (.ret (.bool (optS s))) := by
  refine W_of (pl_w k69_eq ?_)
  simp only [k69]
  repeat' (first | (simp -implicitDefEqProofs only [ze, Nat.reduceEqDiff, Nat.reduceAdd, Nat.reduceMul, reduceIte, Nat.reduceLT, Nat.reduceLeDiff, reduceCtorEq, Int.reduceEq, Int.reduceLT, Int.reduceLE, Int.reduceNeg, Int.reduceToNat, Nat.reduceBEq, Nat.reduceSub, qp, qf, kop, av, RQ, PQ, kres, kres1, kresL, fin, fins, fin1, V.pur?, V.pur1?, V.cells, kld, ones, V.one, Value.oneCell', own, owns, own1, xfill, ksrc, kint, vint, ksub, keqs, kok, V.val1?, ofRes, code_ok]) | (with_reducible refine wgd_cases ?_ ?_ <;> intro hb) | (with_reducible refine wcond_cases ?_ ?_ <;> intro hb) | (with_reducible refine qd_i (by kernel_rfl) ?_) | (with_reducible refine W_itn_cases ?_ ?_; omega))
  all_goals (refine ret_b ?_; simp_all [optS, size_zero])
theorem roptional_ok (s : ByteArray) (hs : small s) : L.pl 39 [.str s] = some (.ret (.bool (optS s))) := by
  refine W_of (pl_w k39_eq ?_)
  simp only [k39]
  repeat' (first | (simp -implicitDefEqProofs only [ze, Nat.reduceEqDiff, Nat.reduceAdd, Nat.reduceMul, reduceIte, Nat.reduceLT, Nat.reduceLeDiff, reduceCtorEq, Int.reduceEq, Int.reduceLT, Int.reduceLE, Int.reduceNeg, Int.reduceToNat, Nat.reduceBEq, Nat.reduceSub, qp, qf, kop, av, RQ, PQ, kres, kres1, kresL, fin, fins, fin1, V.pur?, V.pur1?, V.cells, kld, ones, V.one, Value.oneCell', own, owns, own1, xfill, ksrc, kint, vint, ksub, keqs, kok, V.val1?, ofRes, rcode_ok s hs]) | (with_reducible refine wgd_cases ?_ ?_ <;> intro hb) | (with_reducible refine wcond_cases ?_ ?_ <;> intro hb) | (with_reducible refine qd_i (by kernel_rfl) ?_) | (with_reducible refine W_itn_cases ?_ ?_; omega))
  all_goals (refine ret_b ?_; simp_all [optS, size_zero])
theorem rcur_ok (s : ByteArray) : L.pl 40 [.str s] = some (.ret (.bool (curS s))) := by
  refine W_of (pl_w k40_eq ?_)
  simp only [k40, k40_t0]
  repeat' (first | (simp -implicitDefEqProofs only [ze, Nat.reduceEqDiff, Nat.reduceAdd, Nat.reduceMul, reduceIte, Nat.reduceLT, Nat.reduceLeDiff, reduceCtorEq, Int.reduceEq, Int.reduceLT, Int.reduceLE, Int.reduceNeg, Int.reduceToNat, Nat.reduceBEq, Nat.reduceSub, qp, qf, kop, av, RQ, PQ, kres, kres1, kresL, fin, fins, fin1, V.pur?, V.pur1?, V.cells, kld, ones, V.one, Value.oneCell', own, owns, own1, xfill, ksrc, kint, vint, ksub, keqs, kok, V.val1?, ofRes]) | (with_reducible refine wgd_cases ?_ ?_ <;> intro hb) | (with_reducible refine wcond_cases ?_ ?_ <;> intro hb) | (with_reducible refine qd_i (by kernel_rfl) ?_) | (with_reducible refine W_itn_cases ?_ ?_; omega))
  · refine ret_b ?_
    simp only [Bool.not_eq_true', decide_eq_false_iff_not] at hb
    have : ¬ s.size = 3 := by omega
    simp [curS, this]
  · have h3 : s.size = 3 := by simp only [Bool.not_eq_false', decide_eq_true_eq] at hb; omega
    refine loop_w (fun n tm st nx => ∃ i : Nat, n = 3 - i ∧ i ≤ 3 ∧ tm 3 = .i64 i ∧ tm 0 = .str s ∧ ∀ j, j < i → ∀ b, s.data.toList[j]? = some b → isUp b = true) 3 ⟨0, by omega, by omega, ?_, ?_, by omega⟩ ?_
    · simp -implicitDefEqProofs only [ze, Nat.reduceEqDiff, Nat.reduceAdd, Nat.reduceMul, reduceIte, Nat.reduceLT, Nat.reduceLeDiff, reduceCtorEq, Int.reduceEq, Int.reduceLT, Int.reduceLE, Int.reduceNeg, Int.reduceToNat, Nat.reduceBEq, Nat.reduceSub, qp, qf, kop, av, RQ, PQ, kres, kres1, kresL, fin, fins, fin1, V.pur?, V.pur1?, V.cells, kld, ones, V.one, Value.oneCell', own, owns, own1, xfill, ksrc, kint, vint, ksub, keqs, kok, V.val1?, ofRes]; rfl
    · simp -implicitDefEqProofs only [ze, Nat.reduceEqDiff, Nat.reduceAdd, Nat.reduceMul, reduceIte, Nat.reduceLT, Nat.reduceLeDiff, reduceCtorEq, Int.reduceEq, Int.reduceLT, Int.reduceLE, Int.reduceNeg, Int.reduceToNat, Nat.reduceBEq, Nat.reduceSub, qp, qf, kop, av, RQ, PQ, kres, kres1, kresL, fin, fins, fin1, V.pur?, V.pur1?, V.cells, kld, ones, V.one, Value.oneCell', own, owns, own1, xfill, ksrc, kint, vint, ksub, keqs, kok, V.val1?, ofRes]
    · rintro n tm st nx ⟨i, hi, hi2, h3', h0, hp⟩
      simp only [k40_l0]
      repeat' (first | (simp -implicitDefEqProofs only [ze, Nat.reduceEqDiff, Nat.reduceAdd, Nat.reduceMul, reduceIte, Nat.reduceLT, Nat.reduceLeDiff, reduceCtorEq, Int.reduceEq, Int.reduceLT, Int.reduceLE, Int.reduceNeg, Int.reduceToNat, Nat.reduceBEq, Nat.reduceSub, qp, qf, kop, av, RQ, PQ, kres, kres1, kresL, fin, fins, fin1, V.pur?, V.pur1?, V.cells, kld, ones, V.one, Value.oneCell', own, owns, own1, xfill, ksrc, kint, vint, ksub, keqs, kok, V.val1?, ofRes, h3', h0]) | (with_reducible refine wgd_cases ?_ ?_ <;> intro hb) | (with_reducible refine wcond_cases ?_ ?_ <;> intro hb) | (with_reducible refine qd_i (by kernel_rfl) ?_) | (with_reducible refine W_itn_cases ?_ ?_; omega))
      · have hlt : i < 3 := by simp only [decide_eq_true_eq] at hb; omega
        obtain ⟨b, hb2⟩ := get_lt (l := s.data.toList) (i := i) (by simp; omega)
        have hno : isUp b = false → curS s = false := fun h => by simp [curS, all_not hb2 h]
        repeat' (first | (simp -implicitDefEqProofs only [ze, Nat.reduceEqDiff, Nat.reduceAdd, Nat.reduceMul, reduceIte, Nat.reduceLT, Nat.reduceLeDiff, reduceCtorEq, Int.reduceEq, Int.reduceLT, Int.reduceLE, Int.reduceNeg, Int.reduceToNat, Nat.reduceBEq, Nat.reduceSub, qp, qf, kop, av, RQ, PQ, kres, kres1, kresL, fin, fins, fin1, V.pur?, V.pur1?, V.cells, kld, ones, V.one, Value.oneCell', own, owns, own1, xfill, ksrc, kint, vint, ksub, keqs, kok, V.val1?, ofRes, hb2, h3', h0]) | (with_reducible refine wgd_cases ?_ ?_ <;> intro hb) | (with_reducible refine wcond_cases ?_ ?_ <;> intro hb) | (with_reducible refine qd_i (by kernel_rfl) ?_) | (with_reducible refine W_itn_cases ?_ ?_; omega))
        · refine ret_b (hno ?_).symm
          simp only [decide_eq_true_eq] at hb; simp [isUp]; omega
        · refine ret_b (hno ?_).symm
          simp only [decide_eq_true_eq] at hb; simp [isUp]; omega
        · refine ⟨3 - (i + 1), by omega, i + 1, rfl, by omega, up64 (by omega), fun j hj c hc => ?_⟩
          rcases Nat.lt_succ_iff_lt_or_eq.mp hj with h | rfl
          · exact hp j h c hc
          · rw [hb2] at hc; obtain rfl := Option.some.inj hc; simp_all [isUp]; omega
      · have hlt : ¬ i < 3 := by simp only [decide_eq_false_iff_not] at hb; omega
        have ha := all_get (l := s.data.toList) (p := isUp) fun j hj => hp j (by have := hj; simp at this; omega)
        exact ret_b (by simp [curS, h3, ha])
theorem cur_ok (s : ByteArray) (hs : small s) : L.pl 70 [.str s] = some (.ret (.bool (curS s))) := by
  refine W_of (pl_w k70_eq ?_)
  simp only [k70, k70_t0]
  unfold small at hs
  repeat' (first | (simp -implicitDefEqProofs only [ze, Nat.reduceEqDiff, Nat.reduceAdd, Nat.reduceMul, reduceIte, Nat.reduceLT, Nat.reduceLeDiff, reduceCtorEq, Int.reduceEq, Int.reduceLT, Int.reduceLE, Int.reduceNeg, Int.reduceToNat, Nat.reduceBEq, Nat.reduceSub, qp, qf, kop, av, RQ, PQ, kres, kres1, kresL, fin, fins, fin1, V.pur?, V.pur1?, V.cells, kld, ones, V.one, Value.oneCell', own, owns, own1, xfill, ksrc, kint, vint, ksub, keqs, kok, V.val1?, ofRes]) | (with_reducible refine wgd_cases ?_ ?_ <;> intro hb) | (with_reducible refine wcond_cases ?_ ?_ <;> intro hb) | (with_reducible refine qd_i (by kernel_rfl) ?_) | (with_reducible refine W_itn_cases ?_ ?_; omega))
  refine loop_w (fun n tm st nx => ∃ i id : Nat, n = s.size - i ∧ i ≤ s.size ∧ tm 3 = .i64 i ∧ tm 7 = .ptr id 0 ∧ st id = some (.iter s i) ∧ ∀ j, j < i → ∀ b, s.data.toList[j]? = some b → isUp b = true) s.size ⟨0, 32, by omega, by omega, ?_, ?_, ?_, by omega⟩ ?_
  · simp -implicitDefEqProofs only [ze, Nat.reduceEqDiff, Nat.reduceAdd, Nat.reduceMul, reduceIte, Nat.reduceLT, Nat.reduceLeDiff, reduceCtorEq, Int.reduceEq, Int.reduceLT, Int.reduceLE, Int.reduceNeg, Int.reduceToNat, Nat.reduceBEq, Nat.reduceSub, qp, qf, kop, av, RQ, PQ, kres, kres1, kresL, fin, fins, fin1, V.pur?, V.pur1?, V.cells, kld, ones, V.one, Value.oneCell', own, owns, own1, xfill, ksrc, kint, vint, ksub, keqs, kok, V.val1?, ofRes]; rfl
  · simp -implicitDefEqProofs only [ze, Nat.reduceEqDiff, Nat.reduceAdd, Nat.reduceMul, reduceIte, Nat.reduceLT, Nat.reduceLeDiff, reduceCtorEq, Int.reduceEq, Int.reduceLT, Int.reduceLE, Int.reduceNeg, Int.reduceToNat, Nat.reduceBEq, Nat.reduceSub, qp, qf, kop, av, RQ, PQ, kres, kres1, kresL, fin, fins, fin1, V.pur?, V.pur1?, V.cells, kld, ones, V.one, Value.oneCell', own, owns, own1, xfill, ksrc, kint, vint, ksub, keqs, kok, V.val1?, ofRes]
  · simp -implicitDefEqProofs only [ze, Nat.reduceEqDiff, Nat.reduceAdd, Nat.reduceMul, reduceIte, Nat.reduceLT, Nat.reduceLeDiff, reduceCtorEq, Int.reduceEq, Int.reduceLT, Int.reduceLE, Int.reduceNeg, Int.reduceToNat, Nat.reduceBEq, Nat.reduceSub, qp, qf, kop, av, RQ, PQ, kres, kres1, kresL, fin, fins, fin1, V.pur?, V.pur1?, V.cells, kld, ones, V.one, Value.oneCell', own, owns, own1, xfill, ksrc, kint, vint, ksub, keqs, kok, V.val1?, ofRes]
  · rintro n tm st nx ⟨i, id, hi, hi2, h3, h7, hst, hp⟩
    simp only [k70_l0]
    by_cases hlt : i < s.size
    · obtain ⟨b, hb2⟩ := get_lt (l := s.data.toList) (i := i) (by simpa using hlt)
      have hbs : (s[i]'hlt) = b := by
        have h5 := (List.getElem?_eq_some_iff.mp hb2).2
        rw [← h5]; simp [ByteArray.getElem_eq_getElem_data]
      have hno : isUp b = false → curS s = false := fun h => by simp [curS, all_not hb2 h]
      by_cases ha : b.toNat < 128
      · have hd : Utf8.decode s i = (b.toNat, 1) := by have := decode_ascii s i hlt (by rw [hbs]; exact ha); rw [hbs] at this; exact this
        repeat' (first | (simp -implicitDefEqProofs only [ze, Nat.reduceEqDiff, Nat.reduceAdd, Nat.reduceMul, reduceIte, Nat.reduceLT, Nat.reduceLeDiff, reduceCtorEq, Int.reduceEq, Int.reduceLT, Int.reduceLE, Int.reduceNeg, Int.reduceToNat, Nat.reduceBEq, Nat.reduceSub, qp, qf, kop, av, RQ, PQ, kres, kres1, kresL, fin, fins, fin1, V.pur?, V.pur1?, V.cells, kld, ones, V.one, Value.oneCell', own, owns, own1, xfill, ksrc, kint, vint, ksub, keqs, kok, V.val1?, ofRes, h3, h7, hst, hlt, hd]) | (with_reducible refine wgd_cases ?_ ?_ <;> intro hb) | (with_reducible refine wcond_cases ?_ ?_ <;> intro hb) | (with_reducible refine qd_i (by kernel_rfl) ?_) | (with_reducible refine W_itn_cases ?_ ?_; omega))
        · refine ret_b (hno ?_).symm
          simp only [decide_eq_true_eq] at hb; simp [isUp]; omega
        · refine ret_b (hno ?_).symm
          simp only [decide_eq_true_eq] at hb; simp [isUp]; omega
        · refine ⟨s.size - (i + 1), by omega, i + 1, id, rfl, by omega, up64 (by omega), rfl, if_pos rfl, fun j hj c hc => ?_⟩
          rcases Nat.lt_succ_iff_lt_or_eq.mp hj with h | rfl
          · exact hp j h c hc
          · rw [hb2] at hc; obtain rfl := Option.some.inj hc; simp_all [isUp]; omega
      · have hd := (decode_high s i hlt (by rw [hbs]; omega)).1
        generalize hq : Utf8.decode s i = q at hd
        repeat' (first | (simp -implicitDefEqProofs only [ze, Nat.reduceEqDiff, Nat.reduceAdd, Nat.reduceMul, reduceIte, Nat.reduceLT, Nat.reduceLeDiff, reduceCtorEq, Int.reduceEq, Int.reduceLT, Int.reduceLE, Int.reduceNeg, Int.reduceToNat, Nat.reduceBEq, Nat.reduceSub, qp, qf, kop, av, RQ, PQ, kres, kres1, kresL, fin, fins, fin1, V.pur?, V.pur1?, V.cells, kld, ones, V.one, Value.oneCell', own, owns, own1, xfill, ksrc, kint, vint, ksub, keqs, kok, V.val1?, ofRes, h3, h7, hst, hlt, hq]) | (with_reducible refine wgd_cases ?_ ?_ <;> intro hb) | (with_reducible refine wcond_cases ?_ ?_ <;> intro hb) | (with_reducible refine qd_i (by kernel_rfl) ?_) | (with_reducible refine W_itn_cases ?_ ?_; omega))
        · exfalso; simp only [decide_eq_true_eq] at hb; omega
        · exact ret_b (hno (by simp [isUp]; omega)).symm
        · exfalso; simp only [decide_eq_false_iff_not] at hb; omega
    · have hz : i = s.size := by omega
      have ha := all_get (l := s.data.toList) (p := isUp) fun j hj => hp j (by have := hj; simp at this; omega)
      repeat' (first | (simp -implicitDefEqProofs only [ze, Nat.reduceEqDiff, Nat.reduceAdd, Nat.reduceMul, reduceIte, Nat.reduceLT, Nat.reduceLeDiff, reduceCtorEq, Int.reduceEq, Int.reduceLT, Int.reduceLE, Int.reduceNeg, Int.reduceToNat, Nat.reduceBEq, Nat.reduceSub, qp, qf, kop, av, RQ, PQ, kres, kres1, kresL, fin, fins, fin1, V.pur?, V.pur1?, V.cells, kld, ones, V.one, Value.oneCell', own, owns, own1, xfill, ksrc, kint, vint, ksub, keqs, kok, V.val1?, ofRes, h3, h7, hst, hlt]) | (with_reducible refine wgd_cases ?_ ?_ <;> intro hb) | (with_reducible refine wcond_cases ?_ ?_ <;> intro hb) | (with_reducible refine qd_i (by kernel_rfl) ?_) | (with_reducible refine W_itn_cases ?_ ?_; omega))
      refine ret_b (Bool.eq_iff_iff.mpr ?_); simp only [curS, ha, Bool.and_true, decide_eq_true_eq]; omega
end Go.Proofs.YtkbheoganajhaaaDoor.Vm
