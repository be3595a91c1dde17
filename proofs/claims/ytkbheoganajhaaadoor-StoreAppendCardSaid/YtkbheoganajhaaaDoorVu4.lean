/- Proved here: what the reference's check of an entry returns. Conditions: none. -/
import Derived.Test.YtkbheoganajhaaaDoorVu3
set_option maxRecDepth 10000
set_option linter.unusedVariables false
set_option linter.unusedSimpArgs false
namespace Go.Proofs.YtkbheoganajhaaaDoor.Vm
open Go Go.Proofs
theorem okAt_iff (ls : List Line) (k : ByteArray) : okAt ls k = (inI64 (selA ls k).sum && inI64 (selB ls k).sum && decide ((selA ls k).sum = 0) && decide ((selB ls k).sum = 0)) := by
  unfold okAt sumOk
  have h : ∀ x : Int, within x 0 = decide (x = 0) := fun x => by
    unfold within
    by_cases hx : x = 0
    · subst hx; rfl
    · rw [decide_eq_false hx]
      simp only [Bool.and_eq_false_iff, decide_eq_false_iff_not]
      omega
  rw [h, h]
  cases inI64 (selA ls k).sum <;> cases inI64 (selB ls k).sum <;> simp
theorem rbalanced_ok (ls : List Line) (r : Nat) (ha : amts ls) (hl : ls.length < 1000000) : L.pl 26 [.list 61 (ls.map encL) r] = some (.ret (.bool (balS ls))) := by
  refine W_of (pl_w k26_eq ?_)
  simp only [k26]
  obtain ⟨_, hcur, cs, v, rfl, hmem, hlen, hv⟩ := curs_ok ls (if r = 1 then 1 else 0) hl
  have hbal : balS ls = cs.all (okAt ls) := by
    unfold balS
    rw [Bool.eq_iff_iff, List.all_eq_true, List.all_eq_true]
    constructor
    · intro h k hk
      obtain ⟨l, hl2, rfl⟩ := (hmem k).1 hk
      exact h l hl2
    · intro h l hl2
      exact h _ ((hmem _).2 ⟨l, hl2, rfl⟩)
  have hsum := fun (k : ByteArray) (hk : k ∈ cs) (r : Nat) => rsums_ok ls r k ha hl ((hmem k).1 hk)
  rw [hbal]
  have main : ∀ (v' : V), (cs = [] ∧ v' = .list 0 [] 1) ∨ (∃ q, v' = .list 9 (sv cs) q) → ∀ (tm : Nat → V) (st : St) (nx : Nat), tm 4 = .i64 0 → tm 3 = v' → tm 0 = .list 61 (ls.map encL) r →
      wc Tryd.prog L (.loop k26_l0) (cblk 0 (cseq Tryd.prog L k26_t0 (RQ [.t 2] (PQ fun q => q = .ret (.bool (cs.all (okAt ls))))))) ⟨tm, st, nx⟩ := fun v' hv' tm st nx h4 h3 h0 => by
    refine loop_w (fun n tm st nx => ∃ i : Nat, n = cs.length - i ∧ i ≤ cs.length ∧ tm 4 = .i64 i ∧ tm 3 = v' ∧ tm 0 = .list 61 (ls.map encL) r ∧ ∀ j, j < i → ∀ k, cs[j]? = some k → okAt ls k = true) cs.length ⟨0, by omega, by omega, h4, h3, h0, by omega⟩ ?_
    rintro n tm st nx ⟨i, hn, hi2, g4, g3, g0, hp⟩
    simp only [k26_l0]
    by_cases hlt : i < cs.length
    · rcases hv' with ⟨h, _⟩ | ⟨q, rfl⟩
      · rw [h] at hlt; simp at hlt
      obtain ⟨c, hc⟩ := get_lt hlt
      have hcv : (sv cs)[i]? = some (V.str c) := by simp [sv, hc]
      have hd : decide ((i : Int) < (cs.length : Int)) = true := decide_eq_true (by omega)
      have hs := hsum c (List.mem_of_getElem? hc)
      have hok := okAt_iff ls c
      generalize inI64 (selA ls c).sum = bA at hs hok
      generalize inI64 (selB ls c).sum = bB at hs hok
      have hno : okAt ls c = false → cs.all (okAt ls) = false := fun h => by
        rw [List.all_eq_false]; exact ⟨c, List.mem_of_getElem? hc, by simp [h]⟩
      have hyes : okAt ls c = true → ∃ m, m < n ∧ ∃ i' : Nat, m = cs.length - i' ∧ i' ≤ cs.length ∧ V.sc (.int .i64 (IntKind.i64.wrap (i + 1))) = .i64 i' ∧ ∀ j, j < i' → ∀ k, cs[j]? = some k → okAt ls k = true := fun h => by
        refine ⟨cs.length - (i + 1), by omega, i + 1, rfl, by omega, up64 (by omega), fun j hj k hk => ?_⟩
        rcases Nat.lt_succ_iff_lt_or_eq.mp hj with h2 | rfl
        · exact hp j h2 k hk
        · rw [hc] at hk; obtain rfl := Option.some.inj hk; exact h
      cases bA <;> cases bB <;> simp only [Bool.false_and, Bool.and_false, Bool.true_and] at hok hs
      all_goals repeat' (first | (simp -implicitDefEqProofs only [ze, Nat.reduceEqDiff, Nat.reduceAdd, Nat.reduceMul, reduceIte, Nat.reduceLT, Nat.reduceLeDiff, reduceCtorEq, Int.reduceEq, Int.reduceLT, Int.reduceLE, Int.reduceNeg, Int.reduceToNat, Nat.reduceBEq, Nat.reduceSub, qp, qf, kop, av, RQ, PQ, kres, kres1, kresL, fin, fins, fin1, V.pur?, V.pur1?, V.cells, kld, ones, V.one, Value.oneCell', own, owns, own1, xfill, ksrc, kint, vint, ksub, keqs, kok, V.val1?, ofRes, g4, g3, g0, hd, hcv, hs, sv_len]) | (with_reducible refine wgd_cases ?_ ?_ <;> intro hb) | (with_reducible refine wcond_cases ?_ ?_ <;> intro hb) | (with_reducible refine qd_i (by kernel_rfl) ?_) | (with_reducible refine W_itn_cases ?_ ?_; omega))
      all_goals first
        | exact ret_b (hno (by rw [hok] <;> simp_all)).symm
        | exact hyes (by rw [hok] <;> simp_all)
    · have hd : decide ((i : Int) < (cs.length : Int)) = false := decide_eq_false (by omega)
      have hall : cs.all (okAt ls) = true := by
        rw [List.all_eq_true]
        intro k hk
        obtain ⟨j, hj, rfl⟩ := List.getElem_of_mem hk
        exact hp j (by omega) _ (List.getElem?_eq_getElem hj)
      rcases hv' with ⟨h, rfl⟩ | ⟨q, rfl⟩
      · have hd2 : decide ((i : Int) < ((0 : Nat) : Int)) = false := decide_eq_false (by omega)
        repeat' (first | (simp -implicitDefEqProofs only [ze, Nat.reduceEqDiff, Nat.reduceAdd, Nat.reduceMul, reduceIte, Nat.reduceLT, Nat.reduceLeDiff, reduceCtorEq, Int.reduceEq, Int.reduceLT, Int.reduceLE, Int.reduceNeg, Int.reduceToNat, Nat.reduceBEq, Nat.reduceSub, qp, qf, kop, av, RQ, PQ, kres, kres1, kresL, fin, fins, fin1, V.pur?, V.pur1?, V.cells, kld, ones, V.one, Value.oneCell', own, owns, own1, xfill, ksrc, kint, vint, ksub, keqs, kok, V.val1?, ofRes, g4, g3, g0, hd2, k26_t0, hall]) | (with_reducible refine wgd_cases ?_ ?_ <;> intro hb) | (with_reducible refine wcond_cases ?_ ?_ <;> intro hb) | (with_reducible refine qd_i (by kernel_rfl) ?_) | (with_reducible refine W_itn_cases ?_ ?_; omega))
      · repeat' (first | (simp -implicitDefEqProofs only [ze, Nat.reduceEqDiff, Nat.reduceAdd, Nat.reduceMul, reduceIte, Nat.reduceLT, Nat.reduceLeDiff, reduceCtorEq, Int.reduceEq, Int.reduceLT, Int.reduceLE, Int.reduceNeg, Int.reduceToNat, Nat.reduceBEq, Nat.reduceSub, qp, qf, kop, av, RQ, PQ, kres, kres1, kresL, fin, fins, fin1, V.pur?, V.pur1?, V.cells, kld, ones, V.one, Value.oneCell', own, owns, own1, xfill, ksrc, kint, vint, ksub, keqs, kok, V.val1?, ofRes, g4, g3, g0, hd, sv_len, k26_t0, hall]) | (with_reducible refine wgd_cases ?_ ?_ <;> intro hb) | (with_reducible refine wcond_cases ?_ ?_ <;> intro hb) | (with_reducible refine qd_i (by kernel_rfl) ?_) | (with_reducible refine W_itn_cases ?_ ?_; omega))
  rcases hv with ⟨hc0, rfl⟩ | rfl
  · repeat' (first | (simp -implicitDefEqProofs only [ze, Nat.reduceEqDiff, Nat.reduceAdd, Nat.reduceMul, reduceIte, Nat.reduceLT, Nat.reduceLeDiff, reduceCtorEq, Int.reduceEq, Int.reduceLT, Int.reduceLE, Int.reduceNeg, Int.reduceToNat, Nat.reduceBEq, Nat.reduceSub, qp, qf, kop, av, RQ, PQ, kres, kres1, kresL, fin, fins, fin1, V.pur?, V.pur1?, V.cells, kld, ones, V.one, Value.oneCell', own, owns, own1, xfill, ksrc, kint, vint, ksub, keqs, kok, V.val1?, ofRes, hcur]) | (with_reducible refine wgd_cases ?_ ?_ <;> intro hb) | (with_reducible refine wcond_cases ?_ ?_ <;> intro hb) | (with_reducible refine qd_i (by kernel_rfl) ?_) | (with_reducible refine W_itn_cases ?_ ?_; omega))
    exact main _ (.inl ⟨hc0, rfl⟩) _ _ _ (by simp -implicitDefEqProofs only [ze, Nat.reduceEqDiff, Nat.reduceAdd, Nat.reduceMul, reduceIte, Nat.reduceLT, Nat.reduceLeDiff, reduceCtorEq, Int.reduceEq, Int.reduceLT, Int.reduceLE, Int.reduceNeg, Int.reduceToNat, Nat.reduceBEq, Nat.reduceSub, qp, qf, kop, av, RQ, PQ, kres, kres1, kresL, fin, fins, fin1, V.pur?, V.pur1?, V.cells, kld, ones, V.one, Value.oneCell', own, owns, own1, xfill, ksrc, kint, vint, ksub, keqs, kok, V.val1?, ofRes]) (by simp -implicitDefEqProofs only [ze, Nat.reduceEqDiff, Nat.reduceAdd, Nat.reduceMul, reduceIte, Nat.reduceLT, Nat.reduceLeDiff, reduceCtorEq, Int.reduceEq, Int.reduceLT, Int.reduceLE, Int.reduceNeg, Int.reduceToNat, Nat.reduceBEq, Nat.reduceSub, qp, qf, kop, av, RQ, PQ, kres, kres1, kresL, fin, fins, fin1, V.pur?, V.pur1?, V.cells, kld, ones, V.one, Value.oneCell', own, owns, own1, xfill, ksrc, kint, vint, ksub, keqs, kok, V.val1?, ofRes]) (by simp -implicitDefEqProofs only [ze, Nat.reduceEqDiff, Nat.reduceAdd, Nat.reduceMul, reduceIte, Nat.reduceLT, Nat.reduceLeDiff, reduceCtorEq, Int.reduceEq, Int.reduceLT, Int.reduceLE, Int.reduceNeg, Int.reduceToNat, Nat.reduceBEq, Nat.reduceSub, qp, qf, kop, av, RQ, PQ, kres, kres1, kresL, fin, fins, fin1, V.pur?, V.pur1?, V.cells, kld, ones, V.one, Value.oneCell', own, owns, own1, xfill, ksrc, kint, vint, ksub, keqs, kok, V.val1?, ofRes])
  · repeat' (first | (simp -implicitDefEqProofs only [ze, Nat.reduceEqDiff, Nat.reduceAdd, Nat.reduceMul, reduceIte, Nat.reduceLT, Nat.reduceLeDiff, reduceCtorEq, Int.reduceEq, Int.reduceLT, Int.reduceLE, Int.reduceNeg, Int.reduceToNat, Nat.reduceBEq, Nat.reduceSub, qp, qf, kop, av, RQ, PQ, kres, kres1, kresL, fin, fins, fin1, V.pur?, V.pur1?, V.cells, kld, ones, V.one, Value.oneCell', own, owns, own1, xfill, ksrc, kint, vint, ksub, keqs, kok, V.val1?, ofRes, hcur]) | (with_reducible refine wgd_cases ?_ ?_ <;> intro hb) | (with_reducible refine wcond_cases ?_ ?_ <;> intro hb) | (with_reducible refine qd_i (by kernel_rfl) ?_) | (with_reducible refine W_itn_cases ?_ ?_; omega))
    exact main (.list 9 (sv cs) 24) (.inr ⟨24, rfl⟩) _ _ _ (by simp -implicitDefEqProofs only [ze, Nat.reduceEqDiff, Nat.reduceAdd, Nat.reduceMul, reduceIte, Nat.reduceLT, Nat.reduceLeDiff, reduceCtorEq, Int.reduceEq, Int.reduceLT, Int.reduceLE, Int.reduceNeg, Int.reduceToNat, Nat.reduceBEq, Nat.reduceSub, qp, qf, kop, av, RQ, PQ, kres, kres1, kresL, fin, fins, fin1, V.pur?, V.pur1?, V.cells, kld, ones, V.one, Value.oneCell', own, owns, own1, xfill, ksrc, kint, vint, ksub, keqs, kok, V.val1?, ofRes]) (by simp -implicitDefEqProofs only [ze, Nat.reduceEqDiff, Nat.reduceAdd, Nat.reduceMul, reduceIte, Nat.reduceLT, Nat.reduceLeDiff, reduceCtorEq, Int.reduceEq, Int.reduceLT, Int.reduceLE, Int.reduceNeg, Int.reduceToNat, Nat.reduceBEq, Nat.reduceSub, qp, qf, kop, av, RQ, PQ, kres, kres1, kresL, fin, fins, fin1, V.pur?, V.pur1?, V.cells, kld, ones, V.one, Value.oneCell', own, owns, own1, xfill, ksrc, kint, vint, ksub, keqs, kok, V.val1?, ofRes]) (by simp -implicitDefEqProofs only [ze, Nat.reduceEqDiff, Nat.reduceAdd, Nat.reduceMul, reduceIte, Nat.reduceLT, Nat.reduceLeDiff, reduceCtorEq, Int.reduceEq, Int.reduceLT, Int.reduceLE, Int.reduceNeg, Int.reduceToNat, Nat.reduceBEq, Nat.reduceSub, qp, qf, kop, av, RQ, PQ, kres, kres1, kresL, fin, fins, fin1, V.pur?, V.pur1?, V.cells, kld, ones, V.one, Value.oneCell', own, owns, own1, xfill, ksrc, kint, vint, ksub, keqs, kok, V.val1?, ofRes])
theorem rcheck_ok (e : Entry) (hs : smallE e) (ha : amts e.lines) : L.pl 11 [encE e] = some (.ret (.tup [.i64 (checkS e).1, .i64 (checkS e).2])) := by
  have hh := rhead_ok e hs
  simp only [encE] at hh
  refine W_of (pl_w k11_eq ?_)
  simp only [k11, encE]
  by_cases h0 : headS e = 0
  · have hd0 : decide (headS e = 0) = true := decide_eq_true h0
    have hlen : e.lines.length ≤ 100 := by
      unfold headS at h0
      repeat' (split at h0 <;> first | omega | skip)
    have hlr : e.lr = false := by
      cases h : e.lr
      · rfl
      · have h1 := hs.nil h
        unfold headS at h0
        rw [h1] at h0
        repeat' (split at h0 <;> first | omega | skip)
        all_goals simp_all
    rw [hlr] at hh ⊢
    simp only [te_f] at hh ⊢
    have hbl := rbalanced_ok e.lines (nr false) ha (by omega)
    repeat' (first | (simp -implicitDefEqProofs only [ze, Nat.reduceEqDiff, Nat.reduceAdd, Nat.reduceMul, reduceIte, Nat.reduceLT, Nat.reduceLeDiff, reduceCtorEq, Int.reduceEq, Int.reduceLT, Int.reduceLE, Int.reduceNeg, Int.reduceToNat, Nat.reduceBEq, Nat.reduceSub, qp, qf, kop, av, RQ, PQ, kres, kres1, kresL, fin, fins, fin1, V.pur?, V.pur1?, V.cells, kld, ones, V.one, Value.oneCell', own, owns, own1, xfill, ksrc, kint, vint, ksub, keqs, kok, V.val1?, ofRes, hh, nr_pur, h0, List.length_map]) | (with_reducible refine wgd_cases ?_ ?_ <;> intro hb) | (with_reducible refine wcond_cases ?_ ?_ <;> intro hb) | (with_reducible refine qd_i (by kernel_rfl) ?_) | (with_reducible refine W_itn_cases ?_ ?_; omega))
    refine loop_w (fun n tm st nx => ∃ i : Nat, n = e.lines.length - i ∧ i ≤ e.lines.length ∧ tm 5 = .i64 i ∧ tm 1 = .ptr 8 0 ∧ 9 ≤ nx ∧ st 8 = some (.cells [.i64 e.no, .str e.ent, .i64 e.book, .i64 e.val, .i64 e.kind, .str e.ref, .str e.who, .i64 e.rev, .list 61 (e.lines.map encL) (nr false)]) ∧
      ∀ j, j < i → ∀ x, e.lines[j]? = some x → lineS x = 0) e.lines.length ⟨0, by omega, by omega, ?_, ?_, by omega, ?_, by omega⟩ ?_
    · simp -implicitDefEqProofs only [ze, Nat.reduceEqDiff, Nat.reduceAdd, Nat.reduceMul, reduceIte, Nat.reduceLT, Nat.reduceLeDiff, reduceCtorEq, Int.reduceEq, Int.reduceLT, Int.reduceLE, Int.reduceNeg, Int.reduceToNat, Nat.reduceBEq, Nat.reduceSub, qp, qf, kop, av, RQ, PQ, kres, kres1, kresL, fin, fins, fin1, V.pur?, V.pur1?, V.cells, kld, ones, V.one, Value.oneCell', own, owns, own1, xfill, ksrc, kint, vint, ksub, keqs, kok, V.val1?, ofRes]; rfl
    · simp -implicitDefEqProofs only [ze, Nat.reduceEqDiff, Nat.reduceAdd, Nat.reduceMul, reduceIte, Nat.reduceLT, Nat.reduceLeDiff, reduceCtorEq, Int.reduceEq, Int.reduceLT, Int.reduceLE, Int.reduceNeg, Int.reduceToNat, Nat.reduceBEq, Nat.reduceSub, qp, qf, kop, av, RQ, PQ, kres, kres1, kresL, fin, fins, fin1, V.pur?, V.pur1?, V.cells, kld, ones, V.one, Value.oneCell', own, owns, own1, xfill, ksrc, kint, vint, ksub, keqs, kok, V.val1?, ofRes]
    · simp -implicitDefEqProofs only [ze, Nat.reduceEqDiff, Nat.reduceAdd, Nat.reduceMul, reduceIte, Nat.reduceLT, Nat.reduceLeDiff, reduceCtorEq, Int.reduceEq, Int.reduceLT, Int.reduceLE, Int.reduceNeg, Int.reduceToNat, Nat.reduceBEq, Nat.reduceSub, qp, qf, kop, av, RQ, PQ, kres, kres1, kresL, fin, fins, fin1, V.pur?, V.pur1?, V.cells, kld, ones, V.one, Value.oneCell', own, owns, own1, xfill, ksrc, kint, vint, ksub, keqs, kok, V.val1?, ofRes]
    rintro n tm st nx ⟨i, hn, hi2, h5, h1, hnx, hst, hp⟩
    simp only [k11_l0]
    have hnx8 : ∀ j, (8 = nx + j) = False := fun j => eq_false (by omega)
    by_cases hlt : i < e.lines.length
    · obtain ⟨l, hl⟩ := get_lt hlt
      have hd : decide ((i : Int) < (e.lines.length : Int)) = true := decide_eq_true (by omega)
      have hli := rline_ok l (hs.lines l (List.mem_of_getElem? hl))
      simp only [encL] at hli
      by_cases hz : lineS l = 0
      · have hdz : decide (lineS l = 0) = true := decide_eq_true hz
        repeat' (first | (simp -implicitDefEqProofs only [ze, Nat.reduceEqDiff, Nat.reduceAdd, Nat.reduceMul, reduceIte, Nat.reduceLT, Nat.reduceLeDiff, reduceCtorEq, Int.reduceEq, Int.reduceLT, Int.reduceLE, Int.reduceNeg, Int.reduceToNat, Nat.reduceBEq, Nat.reduceSub, qp, qf, kop, av, RQ, PQ, kres, kres1, kresL, fin, fins, fin1, V.pur?, V.pur1?, V.cells, kld, ones, V.one, Value.oneCell', own, owns, own1, xfill, ksrc, kint, vint, ksub, keqs, kok, V.val1?, ofRes, h5, h1, hd, hl, encL, nr_pur, hli, hdz, hnx8, hst, List.length_map]) | (with_reducible refine wgd_cases ?_ ?_ <;> intro hb) | (with_reducible refine wcond_cases ?_ ?_ <;> intro hb) | (with_reducible refine qd_i (by kernel_rfl) ?_) | (with_reducible refine W_itn_cases ?_ ?_; omega))
        refine ⟨e.lines.length - (i + 1), by omega, i + 1, rfl, by omega, up64 (by omega), fun j hj x hx => ?_⟩
        rcases Nat.lt_succ_iff_lt_or_eq.mp hj with h | rfl
        · exact hp j h x hx
        · rw [hl] at hx; obtain rfl := Option.some.inj hx; exact hz
      · have hdz : decide (lineS l = 0) = false := decide_eq_false hz
        repeat' (first | (simp -implicitDefEqProofs only [ze, Nat.reduceEqDiff, Nat.reduceAdd, Nat.reduceMul, reduceIte, Nat.reduceLT, Nat.reduceLeDiff, reduceCtorEq, Int.reduceEq, Int.reduceLT, Int.reduceLE, Int.reduceNeg, Int.reduceToNat, Nat.reduceBEq, Nat.reduceSub, qp, qf, kop, av, RQ, PQ, kres, kres1, kresL, fin, fins, fin1, V.pur?, V.pur1?, V.cells, kld, ones, V.one, Value.oneCell', own, owns, own1, xfill, ksrc, kint, vint, ksub, keqs, kok, V.val1?, ofRes, h5, h1, hd, hl, encL, nr_pur, hli, hdz, hnx8, hst, List.length_map]) | (with_reducible refine wgd_cases ?_ ?_ <;> intro hb) | (with_reducible refine wcond_cases ?_ ?_ <;> intro hb) | (with_reducible refine qd_i (by kernel_rfl) ?_) | (with_reducible refine W_itn_cases ?_ ?_; omega))
        have hfs := first_some e.lines 0 i l (fun j hj y hy => hp j hj y hy) hl hz
        rw [Nat.zero_add] at hfs
        simp only [checkS, h0, if_true, hfs]
    · have hd : decide ((i : Int) < (e.lines.length : Int)) = false := decide_eq_false (by omega)
      have hfn := first_none e.lines 0 fun j hj x hx => hp j (by omega) x hx
      repeat' (first | (simp -implicitDefEqProofs only [ze, Nat.reduceEqDiff, Nat.reduceAdd, Nat.reduceMul, reduceIte, Nat.reduceLT, Nat.reduceLeDiff, reduceCtorEq, Int.reduceEq, Int.reduceLT, Int.reduceLE, Int.reduceNeg, Int.reduceToNat, Nat.reduceBEq, Nat.reduceSub, qp, qf, kop, av, RQ, PQ, kres, kres1, kresL, fin, fins, fin1, V.pur?, V.pur1?, V.cells, kld, ones, V.one, Value.oneCell', own, owns, own1, xfill, ksrc, kint, vint, ksub, keqs, kok, V.val1?, ofRes, h5, h1, hd, hst, hbl, nr_pur, List.length_map, k11_t0]) | (with_reducible refine wgd_cases ?_ ?_ <;> intro hb) | (with_reducible refine wcond_cases ?_ ?_ <;> intro hb) | (with_reducible refine qd_i (by kernel_rfl) ?_) | (with_reducible refine W_itn_cases ?_ ?_; omega))
      all_goals simp_all [checkS]
  · have hd0 : decide (headS e = 0) = false := decide_eq_false h0
    repeat' (first | (simp -implicitDefEqProofs only [ze, Nat.reduceEqDiff, Nat.reduceAdd, Nat.reduceMul, reduceIte, Nat.reduceLT, Nat.reduceLeDiff, reduceCtorEq, Int.reduceEq, Int.reduceLT, Int.reduceLE, Int.reduceNeg, Int.reduceToNat, Nat.reduceBEq, Nat.reduceSub, qp, qf, kop, av, RQ, PQ, kres, kres1, kresL, fin, fins, fin1, V.pur?, V.pur1?, V.cells, kld, ones, V.one, Value.oneCell', own, owns, own1, xfill, ksrc, kint, vint, ksub, keqs, kok, V.val1?, ofRes, hh, nr_pur, hd0]) | (with_reducible refine wgd_cases ?_ ?_ <;> intro hb) | (with_reducible refine wcond_cases ?_ ?_ <;> intro hb) | (with_reducible refine qd_i (by kernel_rfl) ?_) | (with_reducible refine W_itn_cases ?_ ?_; omega))
    all_goals simp_all [checkS]
end Go.Proofs.YtkbheoganajhaaaDoor.Vm
