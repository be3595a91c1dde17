/- Proved here: the reference's checksum and bytes of entries, and the comparison of lists of entries. Conditions: none. -/
import Derived.Test.YtkbheoganajhaaaDoorWs5
import Derived.Test.YtkbheoganajhaaaDoorVu6
import Derived.Test.YtkbheoganajhaaaDoorVl0
set_option maxRecDepth 10000
set_option linter.unusedVariables false
set_option linter.unusedSimpArgs false
namespace Go.Proofs.YtkbheoganajhaaaDoor.Vm
open Go Go.Proofs
def start : Int := 14695981039346656037
theorem start_r : u64r start := ⟨by decide, by decide⟩
def sumE : Int → List Entry → Int
  | s, [] => s
  | s, x :: xs => sumE (nextI s (entryB x)) xs
def framesB : Int → List Entry → List Int
  | _, [] => []
  | s, x :: xs => frameB (entryB x) (nextI s (entryB x)) ++ framesB (nextI s (entryB x)) xs
theorem sumE_snoc : ∀ (xs : List Entry) (s : Int) (x : Entry), sumE s (xs ++ [x]) = nextI (sumE s xs) (entryB x)
  | [], _, _ => rfl
  | y :: ys, s, x => sumE_snoc ys (nextI s (entryB y)) x
theorem framesB_snoc : ∀ (xs : List Entry) (s : Int) (x : Entry), framesB s (xs ++ [x]) = framesB s xs ++ frameB (entryB x) (nextI (sumE s xs) (entryB x))
  | [], s, x => (List.append_nil (frameB (entryB x) (nextI s (entryB x)))).trans (List.nil_append _).symm
  | y :: ys, s, x => by
    show frameB (entryB y) (nextI s (entryB y)) ++ framesB (nextI s (entryB y)) (ys ++ [x]) = frameB (entryB y) (nextI s (entryB y)) ++ framesB (nextI s (entryB y)) ys ++ frameB (entryB x) (nextI (sumE (nextI s (entryB y)) ys) (entryB x))
    rw [framesB_snoc ys, List.append_assoc]
theorem sumE_r : ∀ (xs : List Entry) {s : Int}, u64r s → u64r (sumE s xs)
  | [], _, h => h
  | x :: xs, s, h => sumE_r xs (nextI_r s _ h)
structure goodE (e : Entry) : Prop where
  sm : smallE e
  rg : rangeE e
  ck : (checkS e).2 = 0
theorem goodE.plain {e : Entry} (h : goodE e) : plainE e := check_plain h.ck h.rg h.sm.nils
theorem entryB_short {x : Entry} (hp : plainE x) : (entryB x).length < 200000000 := by
  have h2 := headB_len x hp
  have h3 := linesB_len x.lines x.lines.length fun t ht => hp.lines t (List.mem_of_mem_take ht)
  have h4 := hp.len
  rw [List.take_length] at h3
  rw [entryB, List.length_append]; omega
theorem framesB_len : ∀ (xs : List Entry) (s : Int), (∀ e ∈ xs, goodE e) → (framesB s xs).length ≤ 200000016 * xs.length
  | [], _, _ => by simp [framesB]
  | x :: xs, s, h => by
    have h1 := framesB_len xs (nextI s (entryB x)) fun e he => h e (List.mem_cons_of_mem _ he)
    have h2 := entryB_short (h x (List.mem_cons_self ..)).plain
    simp only [framesB, List.length_append, frameB_len, List.length_cons]; omega
theorem goodE.rput {e : Entry} (h : goodE e) : L.pl 31 [encE e] = some (.ret (.tup [.list 5 (bv (entryB e)) (8 + 5), .i64 0])) := by
  have hc := rcheck_ok e h.sm h.rg.amts
  rw [h.ck] at hc
  exact rput_ok e h.plain _ hc
theorem enc_get (es : List Entry) (i : Nat) : (es.map encE)[i]? = (es[i]?).map encE := by simp
theorem bv_nil : bv [] = [] := rfl
theorem rstart_ok : L.pl 22 [] = some (.ret (.sc (.int .u64 start))) := by
  refine W_of (pl_w k22_eq ?_)
  simp only [k22]
  repeat' (first | (simp -implicitDefEqProofs only [ze, Nat.reduceEqDiff, Nat.reduceAdd, Nat.reduceMul, reduceIte, Nat.reduceLT, Nat.reduceLeDiff, reduceCtorEq, Int.reduceEq, Int.reduceLT, Int.reduceLE, Int.reduceNeg, Int.reduceToNat, Nat.reduceBEq, Nat.reduceSub, qp, qf, kop, av, RQ, PQ, kres, kres1, kresL, fin, fins, fin1, V.pur?, V.pur1?, V.cells, kld, ones, V.one, Value.oneCell', own, owns, own1, xfill, ksrc, kint, vint, ksub, keqs, kok, V.val1?, ofRes]) | (with_reducible refine wgd_cases ?_ ?_ <;> intro hb) | (with_reducible refine wcond_cases ?_ ?_ <;> intro hb) | (with_reducible refine qd_i (by kernel_rfl) ?_) | (with_reducible refine W_itn_cases ?_ ?_; omega))
  rfl
theorem rsumL_ok (es : List Entry) (hg : ∀ e ∈ es, goodE e) (hl : es.length < 1000000) (t r : Nat) (ht : es = [] ∨ t = 31) : L.pl 15 [.list t (es.map encE) r] = some (.ret (.sc (.int .u64 (sumE start es)))) := by
  refine W_of (pl_w k15_eq ?_)
  simp only [k15]
  repeat' (first | (simp -implicitDefEqProofs only [ze, Nat.reduceEqDiff, Nat.reduceAdd, Nat.reduceMul, reduceIte, Nat.reduceLT, Nat.reduceLeDiff, reduceCtorEq, Int.reduceEq, Int.reduceLT, Int.reduceLE, Int.reduceNeg, Int.reduceToNat, Nat.reduceBEq, Nat.reduceSub, qp, qf, kop, av, RQ, PQ, kres, kres1, kresL, fin, fins, fin1, V.pur?, V.pur1?, V.cells, kld, ones, V.one, Value.oneCell', own, owns, own1, xfill, ksrc, kint, vint, ksub, keqs, kok, V.val1?, ofRes, rstart_ok]) | (with_reducible refine wgd_cases ?_ ?_ <;> intro hb) | (with_reducible refine wcond_cases ?_ ?_ <;> intro hb) | (with_reducible refine qd_i (by kernel_rfl) ?_) | (with_reducible refine W_itn_cases ?_ ?_; omega))
  refine loop_w (fun n tm st nx => ∃ (i : Nat), n = es.length - i ∧ i ≤ es.length ∧ tm 4 = .i64 i ∧ tm 0 = .list t (es.map encE) r ∧ tm 3 = .sc (.int .u64 (sumE start (es.take i)))) es.length ⟨0, by omega, by omega, ?_, ?_, ?_⟩ ?_
  · simp -implicitDefEqProofs only [ze, Nat.reduceEqDiff, Nat.reduceAdd, Nat.reduceMul, reduceIte, Nat.reduceLT, Nat.reduceLeDiff, reduceCtorEq, Int.reduceEq, Int.reduceLT, Int.reduceLE, Int.reduceNeg, Int.reduceToNat, Nat.reduceBEq, Nat.reduceSub, qp, qf, kop, av, RQ, PQ, kres, kres1, kresL, fin, fins, fin1, V.pur?, V.pur1?, V.cells, kld, ones, V.one, Value.oneCell', own, owns, own1, xfill, ksrc, kint, vint, ksub, keqs, kok, V.val1?, ofRes]; rfl
  · simp -implicitDefEqProofs only [ze, Nat.reduceEqDiff, Nat.reduceAdd, Nat.reduceMul, reduceIte, Nat.reduceLT, Nat.reduceLeDiff, reduceCtorEq, Int.reduceEq, Int.reduceLT, Int.reduceLE, Int.reduceNeg, Int.reduceToNat, Nat.reduceBEq, Nat.reduceSub, qp, qf, kop, av, RQ, PQ, kres, kres1, kresL, fin, fins, fin1, V.pur?, V.pur1?, V.cells, kld, ones, V.one, Value.oneCell', own, owns, own1, xfill, ksrc, kint, vint, ksub, keqs, kok, V.val1?, ofRes]; try rfl
  · simp -implicitDefEqProofs only [ze, Nat.reduceEqDiff, Nat.reduceAdd, Nat.reduceMul, reduceIte, Nat.reduceLT, Nat.reduceLeDiff, reduceCtorEq, Int.reduceEq, Int.reduceLT, Int.reduceLE, Int.reduceNeg, Int.reduceToNat, Nat.reduceBEq, Nat.reduceSub, qp, qf, kop, av, RQ, PQ, kres, kres1, kresL, fin, fins, fin1, V.pur?, V.pur1?, V.cells, kld, ones, V.one, Value.oneCell', own, owns, own1, xfill, ksrc, kint, vint, ksub, keqs, kok, V.val1?, ofRes]; try rfl
  rintro n tm st nx ⟨i, hn, hi, h4, h0, h3⟩
  simp only [k15_l0, k15_t0]
  by_cases hlt : i < es.length
  · obtain rfl : t = 31 := by
      rcases ht with rfl | h
      · simp at hlt
      · exact h
    have hd2 : decide ((i : Int) < (es.length : Int)) = true := decide_eq_true (by omega)
    obtain ⟨e, he1⟩ := get_lt (l := es) (i := i) hlt
    have hge := hg e (List.mem_of_getElem? he1)
    have hP := hge.rput
    have hsh := entryB_short hge.plain
    have hN := rnext_ok (entryB e) (entryB_inR hge.plain) (by omega) 0 (sumE start (es.take i)) (sumE_r _ start_r)
    have hup : IntKind.i64.wrap ((i : Int) + 1) = ((i + 1 : Nat) : Int) := wrap_i64 (by omega) (by omega)
    simp only [encE] at hP
    repeat' (first | (simp -implicitDefEqProofs only [ze, Nat.reduceEqDiff, Nat.reduceAdd, Nat.reduceMul, reduceIte, Nat.reduceLT, Nat.reduceLeDiff, reduceCtorEq, Int.reduceEq, Int.reduceLT, Int.reduceLE, Int.reduceNeg, Int.reduceToNat, Nat.reduceBEq, Nat.reduceSub, qp, qf, kop, av, RQ, PQ, kres, kres1, kresL, fin, fins, fin1, V.pur?, V.pur1?, V.cells, kld, ones, V.one, Value.oneCell', own, owns, own1, xfill, ksrc, kint, vint, ksub, keqs, kok, V.val1?, ofRes, h4, h0, h3, hd2, enc_get, he1, encE, hP, hN, hup, List.length_map, bv_len, nr_pur]) | (with_reducible refine wgd_cases ?_ ?_ <;> intro hb) | (with_reducible refine wcond_cases ?_ ?_ <;> intro hb) | (with_reducible refine qd_i (by kernel_rfl) ?_) | (with_reducible refine W_itn_cases ?_ ?_; omega))
    exact ⟨es.length - (i + 1), by omega, i + 1, rfl, by omega, rfl, by rw [take_get he1, sumE_snoc]⟩
  · have hd2 : decide ((i : Int) < (es.length : Int)) = false := decide_eq_false (by omega)
    have hin : i = es.length := by omega
    rw [hin, List.take_length] at h3
    repeat' (first | (simp -implicitDefEqProofs only [ze, Nat.reduceEqDiff, Nat.reduceAdd, Nat.reduceMul, reduceIte, Nat.reduceLT, Nat.reduceLeDiff, reduceCtorEq, Int.reduceEq, Int.reduceLT, Int.reduceLE, Int.reduceNeg, Int.reduceToNat, Nat.reduceBEq, Nat.reduceSub, qp, qf, kop, av, RQ, PQ, kres, kres1, kresL, fin, fins, fin1, V.pur?, V.pur1?, V.cells, kld, ones, V.one, Value.oneCell', own, owns, own1, xfill, ksrc, kint, vint, ksub, keqs, kok, V.val1?, ofRes, h4, h0, h3, hd2, List.length_map]) | (with_reducible refine wgd_cases ?_ ?_ <;> intro hb) | (with_reducible refine wcond_cases ?_ ?_ <;> intro hb) | (with_reducible refine qd_i (by kernel_rfl) ?_) | (with_reducible refine W_itn_cases ?_ ?_; omega))
theorem rframes_ok (es : List Entry) (hg : ∀ e ∈ es, goodE e) (hl : es.length < 1000) (t r : Nat) (ht : es = [] ∨ t = 31) : ∃ t2 r2, L.pl 17 [.list t (es.map encE) r] = some (.ret (.list t2 (bv (framesB start es)) r2)) ∧ ((framesB start es = [] ∧ t2 = 0 ∧ r2 = 1) ∨ (t2 = 5 ∧ r2 = 8 + 5)) := by
  have main : W (L.pl 17 [.list t (es.map encE) r]) fun q => ∃ t2 r2, q = (.ret (.list t2 (bv (framesB start es)) r2)) ∧ ((framesB start es = [] ∧ t2 = 0 ∧ r2 = 1) ∨ (t2 = 5 ∧ r2 = 8 + 5)) := by
    refine pl_w k17_eq ?_
    simp only [k17]
    repeat' (first | (simp -implicitDefEqProofs only [ze, Nat.reduceEqDiff, Nat.reduceAdd, Nat.reduceMul, reduceIte, Nat.reduceLT, Nat.reduceLeDiff, reduceCtorEq, Int.reduceEq, Int.reduceLT, Int.reduceLE, Int.reduceNeg, Int.reduceToNat, Nat.reduceBEq, Nat.reduceSub, qp, qf, kop, av, RQ, PQ, kres, kres1, kresL, fin, fins, fin1, V.pur?, V.pur1?, V.cells, kld, ones, V.one, Value.oneCell', own, owns, own1, xfill, ksrc, kint, vint, ksub, keqs, kok, V.val1?, ofRes, rstart_ok]) | (with_reducible refine wgd_cases ?_ ?_ <;> intro hb) | (with_reducible refine wcond_cases ?_ ?_ <;> intro hb) | (with_reducible refine qd_i (by kernel_rfl) ?_) | (with_reducible refine W_itn_cases ?_ ?_; omega))
    refine loop_w (fun n tm st nx => ∃ (i : Nat) (v : V), n = es.length - i ∧ i ≤ es.length ∧ tm 5 = .i64 i ∧ tm 0 = .list t (es.map encE) r ∧ tm 4 = .sc (.int .u64 (sumE start (es.take i))) ∧ tm 3 = v ∧ Grow st nx 5 (bv (framesB start (es.take i))) v) es.length ⟨0, _, by omega, by omega, ?_, ?_, ?_, rfl, .inl ⟨by rw [List.take_zero]; exact bv_nil, ?_⟩⟩ ?_
    · simp -implicitDefEqProofs only [ze, Nat.reduceEqDiff, Nat.reduceAdd, Nat.reduceMul, reduceIte, Nat.reduceLT, Nat.reduceLeDiff, reduceCtorEq, Int.reduceEq, Int.reduceLT, Int.reduceLE, Int.reduceNeg, Int.reduceToNat, Nat.reduceBEq, Nat.reduceSub, qp, qf, kop, av, RQ, PQ, kres, kres1, kresL, fin, fins, fin1, V.pur?, V.pur1?, V.cells, kld, ones, V.one, Value.oneCell', own, owns, own1, xfill, ksrc, kint, vint, ksub, keqs, kok, V.val1?, ofRes]; rfl
    · simp -implicitDefEqProofs only [ze, Nat.reduceEqDiff, Nat.reduceAdd, Nat.reduceMul, reduceIte, Nat.reduceLT, Nat.reduceLeDiff, reduceCtorEq, Int.reduceEq, Int.reduceLT, Int.reduceLE, Int.reduceNeg, Int.reduceToNat, Nat.reduceBEq, Nat.reduceSub, qp, qf, kop, av, RQ, PQ, kres, kres1, kresL, fin, fins, fin1, V.pur?, V.pur1?, V.cells, kld, ones, V.one, Value.oneCell', own, owns, own1, xfill, ksrc, kint, vint, ksub, keqs, kok, V.val1?, ofRes]; try rfl
    · simp -implicitDefEqProofs only [ze, Nat.reduceEqDiff, Nat.reduceAdd, Nat.reduceMul, reduceIte, Nat.reduceLT, Nat.reduceLeDiff, reduceCtorEq, Int.reduceEq, Int.reduceLT, Int.reduceLE, Int.reduceNeg, Int.reduceToNat, Nat.reduceBEq, Nat.reduceSub, qp, qf, kop, av, RQ, PQ, kres, kres1, kresL, fin, fins, fin1, V.pur?, V.pur1?, V.cells, kld, ones, V.one, Value.oneCell', own, owns, own1, xfill, ksrc, kint, vint, ksub, keqs, kok, V.val1?, ofRes]; try rfl
    · simp -implicitDefEqProofs only [ze, Nat.reduceEqDiff, Nat.reduceAdd, Nat.reduceMul, reduceIte, Nat.reduceLT, Nat.reduceLeDiff, reduceCtorEq, Int.reduceEq, Int.reduceLT, Int.reduceLE, Int.reduceNeg, Int.reduceToNat, Nat.reduceBEq, Nat.reduceSub, qp, qf, kop, av, RQ, PQ, kres, kres1, kresL, fin, fins, fin1, V.pur?, V.pur1?, V.cells, kld, ones, V.one, Value.oneCell', own, owns, own1, xfill, ksrc, kint, vint, ksub, keqs, kok, V.val1?, ofRes]; try rfl
    rintro n tm st nx ⟨i, v, hn, hi, h5, h0, h4, h3, hgr⟩
    simp only [k17_l0, k17_t0]
    by_cases hlt : i < es.length
    · obtain rfl : t = 31 := by
        rcases ht with rfl | h
        · simp at hlt
        · exact h
      have hd2 : decide ((i : Int) < (es.length : Int)) = true := decide_eq_true (by omega)
      obtain ⟨e, he1⟩ := get_lt (l := es) (i := i) hlt
      have hge := hg e (List.mem_of_getElem? he1)
      have hP := hge.rput
      have hsh := entryB_short hge.plain
      have hfl := framesB_len (es.take i) start fun e he => hg e (List.mem_of_mem_take he)
      have htl : (es.take i).length ≤ 1000 := by rw [List.length_take]; omega
      have hF := rframe_ok (sumE start (es.take i)) (sumE_r _ start_r) (entryB e) (entryB_inR hge.plain) (by omega) 0
      have hup : IntKind.i64.wrap ((i : Int) + 1) = ((i + 1 : Nat) : Int) := wrap_i64 (by omega) (by omega)
      simp only [encE] at hP
      rcases hgr with ⟨hb0, rfl⟩ | ⟨q, hr8, hrn, rfl, hst⟩
      · have hout : framesB start (es.take i) = [] := by simpa [bv] using hb0
        repeat' (first | (simp -implicitDefEqProofs only [ze, Nat.reduceEqDiff, Nat.reduceAdd, Nat.reduceMul, reduceIte, Nat.reduceLT, Nat.reduceLeDiff, reduceCtorEq, Int.reduceEq, Int.reduceLT, Int.reduceLE, Int.reduceNeg, Int.reduceToNat, Nat.reduceBEq, Nat.reduceSub, qp, qf, kop, av, RQ, PQ, kres, kres1, kresL, fin, fins, fin1, V.pur?, V.pur1?, V.cells, kld, ones, V.one, Value.oneCell', own, owns, own1, xfill, ksrc, kint, vint, ksub, keqs, kok, V.val1?, ofRes, h5, h0, h4, h3, hd2, enc_get, he1, encE, hP, hF, hup, List.length_map, bv_len, nr_pur, frameB_len]) | (with_reducible refine wgd_cases ?_ ?_ <;> intro hb) | (with_reducible refine wcond_cases ?_ ?_ <;> intro hb) | (with_reducible refine qd_i (by kernel_rfl) ?_) | (with_reducible refine W_itn_cases ?_ ?_; omega))
        exact ⟨es.length - (i + 1), by omega, i + 1, _, rfl, by omega, rfl, by rw [take_get he1, sumE_snoc], rfl, .inr ⟨nx + 192, by omega, by omega, by rw [take_get he1, framesB_snoc, hout, List.nil_append], by rw [take_get he1, framesB_snoc, hout, List.nil_append, bv_len, frameB_len, upd_at, if_pos rfl]⟩⟩
      · have hr0 : (q = 0) = False := eq_false (by omega)
        have hr1 : (q = 1) = False := eq_false (by omega)
        have hrx : ∀ j, (q = nx + j) = False := fun j => eq_false (by omega)
        repeat' (first | (simp -implicitDefEqProofs only [ze, Nat.reduceEqDiff, Nat.reduceAdd, Nat.reduceMul, reduceIte, Nat.reduceLT, Nat.reduceLeDiff, reduceCtorEq, Int.reduceEq, Int.reduceLT, Int.reduceLE, Int.reduceNeg, Int.reduceToNat, Nat.reduceBEq, Nat.reduceSub, qp, qf, kop, av, RQ, PQ, kres, kres1, kresL, fin, fins, fin1, V.pur?, V.pur1?, V.cells, kld, ones, V.one, Value.oneCell', own, owns, own1, xfill, ksrc, kint, vint, ksub, keqs, kok, V.val1?, ofRes, h5, h0, h4, h3, hd2, enc_get, he1, encE, hP, hF, hup, List.length_map, bv_len, nr_pur, frameB_len, hr0, hr1, hrx, hst]) | (with_reducible refine wgd_cases ?_ ?_ <;> intro hb) | (with_reducible refine wcond_cases ?_ ?_ <;> intro hb) | (with_reducible refine qd_i (by kernel_rfl) ?_) | (with_reducible refine W_itn_cases ?_ ?_; omega))
        exact ⟨es.length - (i + 1), by omega, i + 1, _, rfl, by omega, rfl, by rw [take_get he1, sumE_snoc], rfl, .inr ⟨q, by omega, by omega, by rw [take_get he1, framesB_snoc, bv_app], by rw [take_get he1, framesB_snoc, bv_len, List.length_append, frameB_len, upd_at, if_pos rfl]⟩⟩
    · have hd2 : decide ((i : Int) < (es.length : Int)) = false := decide_eq_false (by omega)
      have hin : i = es.length := by omega
      rw [hin, List.take_length] at hgr
      rcases hgr with ⟨hb0, rfl⟩ | ⟨q, hr8, hrn, rfl, hst⟩
      · have hout : framesB start es = [] := by simpa [bv] using hb0
        repeat' (first | (simp -implicitDefEqProofs only [ze, Nat.reduceEqDiff, Nat.reduceAdd, Nat.reduceMul, reduceIte, Nat.reduceLT, Nat.reduceLeDiff, reduceCtorEq, Int.reduceEq, Int.reduceLT, Int.reduceLE, Int.reduceNeg, Int.reduceToNat, Nat.reduceBEq, Nat.reduceSub, qp, qf, kop, av, RQ, PQ, kres, kres1, kresL, fin, fins, fin1, V.pur?, V.pur1?, V.cells, kld, ones, V.one, Value.oneCell', own, owns, own1, xfill, ksrc, kint, vint, ksub, keqs, kok, V.val1?, ofRes, h5, h0, h4, h3, hd2, List.length_map]) | (with_reducible refine wgd_cases ?_ ?_ <;> intro hb) | (with_reducible refine wcond_cases ?_ ?_ <;> intro hb) | (with_reducible refine qd_i (by kernel_rfl) ?_) | (with_reducible refine W_itn_cases ?_ ?_; omega))
        exact ⟨0, 1, by rw [hout, bv_nil], .inl ⟨hout, rfl, rfl⟩⟩
      · have hr9 : (q < 8) = False := eq_false (by omega)
        have hr0 : (q = 0) = False := eq_false (by omega)
        have hr1 : (q = 1) = False := eq_false (by omega)
        repeat' (first | (simp -implicitDefEqProofs only [ze, Nat.reduceEqDiff, Nat.reduceAdd, Nat.reduceMul, reduceIte, Nat.reduceLT, Nat.reduceLeDiff, reduceCtorEq, Int.reduceEq, Int.reduceLT, Int.reduceLE, Int.reduceNeg, Int.reduceToNat, Nat.reduceBEq, Nat.reduceSub, qp, qf, kop, av, RQ, PQ, kres, kres1, kresL, fin, fins, fin1, V.pur?, V.pur1?, V.cells, kld, ones, V.one, Value.oneCell', own, owns, own1, xfill, ksrc, kint, vint, ksub, keqs, kok, V.val1?, ofRes, h5, h0, h4, h3, hd2, List.length_map, hr0, hr1, hr9, hst]) | (with_reducible refine wgd_cases ?_ ?_ <;> intro hb) | (with_reducible refine wcond_cases ?_ ?_ <;> intro hb) | (with_reducible refine qd_i (by kernel_rfl) ?_) | (with_reducible refine W_itn_cases ?_ ?_; omega))
        exact ⟨5, _, rfl, .inr ⟨rfl, rfl⟩⟩
  obtain ⟨q, hq, t2, r2, rfl, h⟩ := main
  exact ⟨t2, r2, hq, h⟩
theorem sames_true (a b : List Entry) (hk : a.map Entry.k = b.map Entry.k) (ha : ∀ e ∈ a, e.lines.length < 1000000 ∧ (∀ l ∈ e.lines, l.tags.length < 1000000) ∧ nilE e) (hb : ∀ e ∈ b, nilE e) (hl : a.length < 1000000) (t1 t2 r1 r2 : Nat) (h1 : a = [] ∨ t1 = 31) (h2 : b = [] ∨ t2 = 31) : L.pl 18 [.list t1 (a.map encE) r1, .list t2 (b.map encE) r2] = some (.ret (.bool true)) := by
  refine W_of (pl_w k18_eq ?_)
  simp only [k18]
  have hlen : b.length = a.length := by have := congrArg List.length hk; simpa using this.symm
  have hd : decide ((a.length : Int) = (a.length : Int)) = true := decide_eq_true rfl
  repeat' (first | (simp -implicitDefEqProofs only [ze, Nat.reduceEqDiff, Nat.reduceAdd, Nat.reduceMul, reduceIte, Nat.reduceLT, Nat.reduceLeDiff, reduceCtorEq, Int.reduceEq, Int.reduceLT, Int.reduceLE, Int.reduceNeg, Int.reduceToNat, Nat.reduceBEq, Nat.reduceSub, qp, qf, kop, av, RQ, PQ, kres, kres1, kresL, fin, fins, fin1, V.pur?, V.pur1?, V.cells, kld, ones, V.one, Value.oneCell', own, owns, own1, xfill, ksrc, kint, vint, ksub, keqs, kok, V.val1?, ofRes, List.length_map, hlen, hd]) | (with_reducible refine wgd_cases ?_ ?_ <;> intro hb) | (with_reducible refine wcond_cases ?_ ?_ <;> intro hb) | (with_reducible refine qd_i (by kernel_rfl) ?_) | (with_reducible refine W_itn_cases ?_ ?_; omega))
  refine loop_w (fun n tm st nx => ∃ (i : Nat), n = a.length - i ∧ i ≤ a.length ∧ tm 5 = .i64 i ∧ tm 0 = .list t1 (a.map encE) r1 ∧ tm 1 = .list t2 (b.map encE) r2) a.length ⟨0, by omega, by omega, ?_, ?_, ?_⟩ ?_
  · simp -implicitDefEqProofs only [ze, Nat.reduceEqDiff, Nat.reduceAdd, Nat.reduceMul, reduceIte, Nat.reduceLT, Nat.reduceLeDiff, reduceCtorEq, Int.reduceEq, Int.reduceLT, Int.reduceLE, Int.reduceNeg, Int.reduceToNat, Nat.reduceBEq, Nat.reduceSub, qp, qf, kop, av, RQ, PQ, kres, kres1, kresL, fin, fins, fin1, V.pur?, V.pur1?, V.cells, kld, ones, V.one, Value.oneCell', own, owns, own1, xfill, ksrc, kint, vint, ksub, keqs, kok, V.val1?, ofRes]; rfl
  · simp -implicitDefEqProofs only [ze, Nat.reduceEqDiff, Nat.reduceAdd, Nat.reduceMul, reduceIte, Nat.reduceLT, Nat.reduceLeDiff, reduceCtorEq, Int.reduceEq, Int.reduceLT, Int.reduceLE, Int.reduceNeg, Int.reduceToNat, Nat.reduceBEq, Nat.reduceSub, qp, qf, kop, av, RQ, PQ, kres, kres1, kresL, fin, fins, fin1, V.pur?, V.pur1?, V.cells, kld, ones, V.one, Value.oneCell', own, owns, own1, xfill, ksrc, kint, vint, ksub, keqs, kok, V.val1?, ofRes]; try rfl
  · simp -implicitDefEqProofs only [ze, Nat.reduceEqDiff, Nat.reduceAdd, Nat.reduceMul, reduceIte, Nat.reduceLT, Nat.reduceLeDiff, reduceCtorEq, Int.reduceEq, Int.reduceLT, Int.reduceLE, Int.reduceNeg, Int.reduceToNat, Nat.reduceBEq, Nat.reduceSub, qp, qf, kop, av, RQ, PQ, kres, kres1, kresL, fin, fins, fin1, V.pur?, V.pur1?, V.cells, kld, ones, V.one, Value.oneCell', own, owns, own1, xfill, ksrc, kint, vint, ksub, keqs, kok, V.val1?, ofRes]; try rfl
  rintro n tm st nx ⟨i, hn, hi, h5, h0, h1'⟩
  simp only [k18_l0, k18_t0]
  by_cases hlt : i < a.length
  · obtain rfl : t1 = 31 := by
      rcases h1 with rfl | h
      · simp at hlt
      · exact h
    obtain rfl : t2 = 31 := by
      rcases h2 with rfl | h
      · simp at hlen; omega
      · exact h
    have hd2 : decide ((i : Int) < (a.length : Int)) = true := decide_eq_true (by omega)
    obtain ⟨x, hx1⟩ := get_lt (l := a) (i := i) hlt
    obtain ⟨y, hy1⟩ := get_lt (l := b) (i := i) (by omega)
    have hkk : x.k = y.k := by
      have := congrArg (fun l => l[i]?) hk
      simp only [List.getElem?_map, hx1, hy1, Option.map_some] at this
      exact Option.some.inj this
    obtain ⟨q1, q2, q3⟩ := ha x (List.mem_of_getElem? hx1)
    have hS := same_ok x y (by omega) (fun l hl => by have := q2 l hl; omega) q3 (hb y (List.mem_of_getElem? hy1))
    rw [hkk, decide_eq_true rfl] at hS
    have hup : IntKind.i64.wrap ((i : Int) + 1) = ((i + 1 : Nat) : Int) := wrap_i64 (by omega) (by omega)
    simp only [encE] at hS
    repeat' (first | (simp -implicitDefEqProofs only [ze, Nat.reduceEqDiff, Nat.reduceAdd, Nat.reduceMul, reduceIte, Nat.reduceLT, Nat.reduceLeDiff, reduceCtorEq, Int.reduceEq, Int.reduceLT, Int.reduceLE, Int.reduceNeg, Int.reduceToNat, Nat.reduceBEq, Nat.reduceSub, qp, qf, kop, av, RQ, PQ, kres, kres1, kresL, fin, fins, fin1, V.pur?, V.pur1?, V.cells, kld, ones, V.one, Value.oneCell', own, owns, own1, xfill, ksrc, kint, vint, ksub, keqs, kok, V.val1?, ofRes, h5, h0, h1', hd2, enc_get, hx1, hy1, encE, hS, hup, List.length_map, nr_pur]) | (with_reducible refine wgd_cases ?_ ?_ <;> intro hb) | (with_reducible refine wcond_cases ?_ ?_ <;> intro hb) | (with_reducible refine qd_i (by kernel_rfl) ?_) | (with_reducible refine W_itn_cases ?_ ?_; omega))
    exact ⟨a.length - (i + 1), by omega, i + 1, rfl, by omega, rfl⟩
  · have hd2 : decide ((i : Int) < (a.length : Int)) = false := decide_eq_false (by omega)
    repeat' (first | (simp -implicitDefEqProofs only [ze, Nat.reduceEqDiff, Nat.reduceAdd, Nat.reduceMul, reduceIte, Nat.reduceLT, Nat.reduceLeDiff, reduceCtorEq, Int.reduceEq, Int.reduceLT, Int.reduceLE, Int.reduceNeg, Int.reduceToNat, Nat.reduceBEq, Nat.reduceSub, qp, qf, kop, av, RQ, PQ, kres, kres1, kresL, fin, fins, fin1, V.pur?, V.pur1?, V.cells, kld, ones, V.one, Value.oneCell', own, owns, own1, xfill, ksrc, kint, vint, ksub, keqs, kok, V.val1?, ofRes, h5, h0, h1', hd2, List.length_map]) | (with_reducible refine wgd_cases ?_ ?_ <;> intro hb) | (with_reducible refine wcond_cases ?_ ?_ <;> intro hb) | (with_reducible refine qd_i (by kernel_rfl) ?_) | (with_reducible refine W_itn_cases ?_ ?_; omega))
end Go.Proofs.YtkbheoganajhaaaDoor.Vm
