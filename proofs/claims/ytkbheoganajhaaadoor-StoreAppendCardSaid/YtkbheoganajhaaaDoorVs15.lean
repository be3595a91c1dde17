/- Proved here: what entry.Balanced and entry.Check return. Conditions: none. -/
import Derived.Test.YtkbheoganajhaaaDoorVs14
set_option maxRecDepth 10000
set_option linter.unusedVariables false
set_option linter.unusedSimpArgs false
namespace Go.Proofs.YtkbheoganajhaaaDoor.Vm
open Go Go.Proofs
def okAt (ls : List Line) (k : ByteArray) : Bool := sumOk (selA ls k) 0 && sumOk (selB ls k) 0
def balS (ls : List Line) : Bool := ls.all fun l => okAt ls l.cur
def amts (ls : List Line) : Prop := ∀ l ∈ ls, i64r l.amt ∧ i64r l.base
theorem sel_mem {ls : List Line} (h : amts ls) (k : ByteArray) : (∀ x ∈ selA ls k, i64r x) ∧ ∀ x ∈ selB ls k, i64r x := by
  constructor
  · intro x hx
    simp only [selA, List.mem_map, List.mem_filter] at hx
    obtain ⟨l, ⟨hl, _⟩, rfl⟩ := hx
    exact (h l hl).1
  · intro x hx
    simp only [selB, List.mem_map, List.mem_filter] at hx
    obtain ⟨l, ⟨hl, _⟩, rfl⟩ := hx
    exact (h l hl).2
theorem balanced_ok (ls : List Line) (r : Nat) (ha : amts ls) (hl : ls.length < 1000000) : L.pl 47 [.list 61 (ls.map encL) r] = some (.ret (.bool (balS ls))) := by
  refine W_of (pl_w k47_eq ?_)
  simp only [k47]
  repeat' (first | (simp -implicitDefEqProofs only [ze, Nat.reduceEqDiff, Nat.reduceAdd, Nat.reduceMul, reduceIte, Nat.reduceLT, Nat.reduceLeDiff, reduceCtorEq, Int.reduceEq, Int.reduceLT, Int.reduceLE, Int.reduceNeg, Int.reduceToNat, Nat.reduceBEq, Nat.reduceSub, qp, qf, kop, av, RQ, PQ, kres, kres1, kresL, fin, fins, fin1, V.pur?, V.pur1?, V.cells, kld, ones, V.one, Value.oneCell', own, owns, own1, xfill, ksrc, kint, vint, ksub, keqs, kok, V.val1?, ofRes]) | (with_reducible refine wgd_cases ?_ ?_ <;> intro hb) | (with_reducible refine wcond_cases ?_ ?_ <;> intro hb) | (with_reducible refine qd_i (by kernel_rfl) ?_) | (with_reducible refine W_itn_cases ?_ ?_; omega))
  refine W_hp (columns_ok ls r (by omega) hl) ?_
  rintro _ ⟨st, nx, mid, cs, v, rfl, hnx, hcl, hcs, htab, hg⟩
  have hbal : (cs.all fun c => okAt ls c.key) = balS ls := by
    rw [Bool.eq_iff_iff, balS, List.all_eq_true, List.all_eq_true]
    constructor
    · intro h l hl
      obtain ⟨c, hc, hk⟩ := htab.b l hl
      rw [← hk]; exact h c hc
    · intro h c hc
      obtain ⟨_, _, l, hl, hk⟩ := htab.a c hc
      rw [← hk]; exact h l hl
  have hlenv : ∃ e xs rk, v = .list e xs rk ∧ xs.length = cs.length ∧ (∀ (i : Nat) (c : Col), cs[i]? = some c → e = 9 ∧ xs[i]? = some (V.str c.key)) := by
    rcases hg with ⟨h1, h2⟩ | ⟨rk, _, _, h3, _⟩
    · have : cs = [] := by simpa using h1
      subst this
      exact ⟨0, [], 1, h2, rfl, fun i c h => by simp at h⟩
    · exact ⟨_, _, rk, h3, by simp, fun i c h => ⟨rfl, by simp [h]⟩⟩
  obtain ⟨e, xs, rk, rfl, hxl, hxs⟩ := hlenv
  repeat' (first | (simp -implicitDefEqProofs only [ze, Nat.reduceEqDiff, Nat.reduceAdd, Nat.reduceMul, reduceIte, Nat.reduceLT, Nat.reduceLeDiff, reduceCtorEq, Int.reduceEq, Int.reduceLT, Int.reduceLE, Int.reduceNeg, Int.reduceToNat, Nat.reduceBEq, Nat.reduceSub, qp, qf, kop, av, RQ, PQ, kres, kres1, kresL, fin, fins, fin1, V.pur?, V.pur1?, V.cells, kld, ones, V.one, Value.oneCell', own, owns, own1, xfill, ksrc, kint, vint, ksub, keqs, kok, V.val1?, ofRes, hxl]) | (with_reducible refine wgd_cases ?_ ?_ <;> intro hb) | (with_reducible refine wcond_cases ?_ ?_ <;> intro hb) | (with_reducible refine qd_i (by kernel_rfl) ?_) | (with_reducible refine W_itn_cases ?_ ?_; omega))
  refine loop_w (fun n tm st' nx' => ∃ i : Nat, n = cs.length - i ∧ i ≤ cs.length ∧ tm 17 = .i64 i ∧ tm 16 = .i64 cs.length ∧ tm 15 = .list e xs rk ∧ tm 3 = .map mid ∧ st' = st ∧ nx ≤ nx' ∧ ∀ j, j < i → ∀ c, cs[j]? = some c → okAt ls c.key = true) cs.length ⟨0, by omega, by omega, ?_, ?_, ?_, ?_, rfl, by omega, by omega⟩ ?_
  · simp -implicitDefEqProofs only [ze, Nat.reduceEqDiff, Nat.reduceAdd, Nat.reduceMul, reduceIte, Nat.reduceLT, Nat.reduceLeDiff, reduceCtorEq, Int.reduceEq, Int.reduceLT, Int.reduceLE, Int.reduceNeg, Int.reduceToNat, Nat.reduceBEq, Nat.reduceSub, qp, qf, kop, av, RQ, PQ, kres, kres1, kresL, fin, fins, fin1, V.pur?, V.pur1?, V.cells, kld, ones, V.one, Value.oneCell', own, owns, own1, xfill, ksrc, kint, vint, ksub, keqs, kok, V.val1?, ofRes]; rfl
  · simp -implicitDefEqProofs only [ze, Nat.reduceEqDiff, Nat.reduceAdd, Nat.reduceMul, reduceIte, Nat.reduceLT, Nat.reduceLeDiff, reduceCtorEq, Int.reduceEq, Int.reduceLT, Int.reduceLE, Int.reduceNeg, Int.reduceToNat, Nat.reduceBEq, Nat.reduceSub, qp, qf, kop, av, RQ, PQ, kres, kres1, kresL, fin, fins, fin1, V.pur?, V.pur1?, V.cells, kld, ones, V.one, Value.oneCell', own, owns, own1, xfill, ksrc, kint, vint, ksub, keqs, kok, V.val1?, ofRes]
  · simp -implicitDefEqProofs only [ze, Nat.reduceEqDiff, Nat.reduceAdd, Nat.reduceMul, reduceIte, Nat.reduceLT, Nat.reduceLeDiff, reduceCtorEq, Int.reduceEq, Int.reduceLT, Int.reduceLE, Int.reduceNeg, Int.reduceToNat, Nat.reduceBEq, Nat.reduceSub, qp, qf, kop, av, RQ, PQ, kres, kres1, kresL, fin, fins, fin1, V.pur?, V.pur1?, V.cells, kld, ones, V.one, Value.oneCell', own, owns, own1, xfill, ksrc, kint, vint, ksub, keqs, kok, V.val1?, ofRes]
  · simp -implicitDefEqProofs only [ze, Nat.reduceEqDiff, Nat.reduceAdd, Nat.reduceMul, reduceIte, Nat.reduceLT, Nat.reduceLeDiff, reduceCtorEq, Int.reduceEq, Int.reduceLT, Int.reduceLE, Int.reduceNeg, Int.reduceToNat, Nat.reduceBEq, Nat.reduceSub, qp, qf, kop, av, RQ, PQ, kres, kres1, kresL, fin, fins, fin1, V.pur?, V.pur1?, V.cells, kld, ones, V.one, Value.oneCell', own, owns, own1, xfill, ksrc, kint, vint, ksub, keqs, kok, V.val1?, ofRes]
  rintro n tm st' nx' ⟨i, hn, hi2, h17, h16, h15, h3, rfl, hnx', hp⟩
  simp only [k47_l0]
  by_cases hlt : i < cs.length
  · obtain ⟨c, hc⟩ := get_lt hlt
    have hcm := List.mem_of_getElem? hc
    obtain ⟨he, hx⟩ := hxs i c hc
    subst he
    have hd : decide ((i : Int) < (cs.length : Int)) = true := decide_eq_true (by omega)
    have hco := hcs.ok c hcm
    obtain ⟨hA, hB, _⟩ := htab.a c hcm
    have hsm := sel_mem ha c.key
    have hsl := sel_len ls c.key
    have htb := hcs.tab
    obtain ⟨pre, post, hsplit⟩ := List.append_of_mem hcm
    have hf : ∃ j, mfind (.string c.key) (ents cs) 0 = some (some (j, V.ptr c.id 0)) := by
      subst hsplit
      refine ⟨_, find_yes pre c post 0 ?_⟩
      have := hcs.keys
      rw [List.map_append, List.nodup_append] at this
      intro d hd e
      exact this.2.2 d.key (List.mem_map_of_mem hd) c.key (by simp) e
    obtain ⟨j, hf⟩ := hf
    repeat' (first | (simp -implicitDefEqProofs only [ze, Nat.reduceEqDiff, Nat.reduceAdd, Nat.reduceMul, reduceIte, Nat.reduceLT, Nat.reduceLeDiff, reduceCtorEq, Int.reduceEq, Int.reduceLT, Int.reduceLE, Int.reduceNeg, Int.reduceToNat, Nat.reduceBEq, Nat.reduceSub, qp, qf, kop, av, RQ, PQ, kres, kres1, kresL, fin, fins, fin1, V.pur?, V.pur1?, V.cells, kld, ones, V.one, Value.oneCell', own, owns, own1, xfill, ksrc, kint, vint, ksub, keqs, kok, V.val1?, ofRes, h17, h16, h15, h3, hd, hx, htb, hf]) | (with_reducible refine wgd_cases ?_ ?_ <;> intro hb) | (with_reducible refine wcond_cases ?_ ?_ <;> intro hb) | (with_reducible refine qd_i (by kernel_rfl) ?_) | (with_reducible refine W_itn_cases ?_ ?_; omega))
    refine W_hp (both_ok (A := c.A) (B := c.B) (by have := hco.id_lt; omega) hco.cell (by rw [hA]; exact hsm.1) (by rw [hB]; exact hsm.2) (by rw [hA]; omega) (by rw [hB]; omega) 0 (by omega) (by omega)) ?_
    rintro _ ⟨na, rfl, hna⟩
    have hok : (sumOk c.A 0 && sumOk c.B 0) = okAt ls c.key := by rw [hA, hB]; rfl
    rw [hok]
    cases hokv : okAt ls c.key with
    | true =>
      repeat' (first | (simp -implicitDefEqProofs only [ze, Nat.reduceEqDiff, Nat.reduceAdd, Nat.reduceMul, reduceIte, Nat.reduceLT, Nat.reduceLeDiff, reduceCtorEq, Int.reduceEq, Int.reduceLT, Int.reduceLE, Int.reduceNeg, Int.reduceToNat, Nat.reduceBEq, Nat.reduceSub, qp, qf, kop, av, RQ, PQ, kres, kres1, kresL, fin, fins, fin1, V.pur?, V.pur1?, V.cells, kld, ones, V.one, Value.oneCell', own, owns, own1, xfill, ksrc, kint, vint, ksub, keqs, kok, V.val1?, ofRes, h17, h16, h15, h3]) | (with_reducible refine wgd_cases ?_ ?_ <;> intro hb) | (with_reducible refine wcond_cases ?_ ?_ <;> intro hb) | (with_reducible refine qd_i (by kernel_rfl) ?_) | (with_reducible refine W_itn_cases ?_ ?_; omega))
      refine ⟨cs.length - (i + 1), by omega, i + 1, rfl, by omega, up64 (by omega), by omega, fun j hj d hd2 => ?_⟩
      rcases Nat.lt_succ_iff_lt_or_eq.mp hj with h | rfl
      · exact hp j h d hd2
      · rw [hc] at hd2; obtain rfl := Option.some.inj hd2; exact hokv
    | false =>
      repeat' (first | (simp -implicitDefEqProofs only [ze, Nat.reduceEqDiff, Nat.reduceAdd, Nat.reduceMul, reduceIte, Nat.reduceLT, Nat.reduceLeDiff, reduceCtorEq, Int.reduceEq, Int.reduceLT, Int.reduceLE, Int.reduceNeg, Int.reduceToNat, Nat.reduceBEq, Nat.reduceSub, qp, qf, kop, av, RQ, PQ, kres, kres1, kresL, fin, fins, fin1, V.pur?, V.pur1?, V.cells, kld, ones, V.one, Value.oneCell', own, owns, own1, xfill, ksrc, kint, vint, ksub, keqs, kok, V.val1?, ofRes, h17, h16, h15, h3]) | (with_reducible refine wgd_cases ?_ ?_ <;> intro hb) | (with_reducible refine wcond_cases ?_ ?_ <;> intro hb) | (with_reducible refine qd_i (by kernel_rfl) ?_) | (with_reducible refine W_itn_cases ?_ ?_; omega))
      exact ret_b (by rw [← hbal]; exact (all_not hc hokv).symm)
  · have hd : decide ((i : Int) < (cs.length : Int)) = false := decide_eq_false (by omega)
    repeat' (first | (simp -implicitDefEqProofs only [ze, Nat.reduceEqDiff, Nat.reduceAdd, Nat.reduceMul, reduceIte, Nat.reduceLT, Nat.reduceLeDiff, reduceCtorEq, Int.reduceEq, Int.reduceLT, Int.reduceLE, Int.reduceNeg, Int.reduceToNat, Nat.reduceBEq, Nat.reduceSub, qp, qf, kop, av, RQ, PQ, kres, kres1, kresL, fin, fins, fin1, V.pur?, V.pur1?, V.cells, kld, ones, V.one, Value.oneCell', own, owns, own1, xfill, ksrc, kint, vint, ksub, keqs, kok, V.val1?, ofRes, h17, h16, hd, k47_t0]) | (with_reducible refine wgd_cases ?_ ?_ <;> intro hb) | (with_reducible refine wcond_cases ?_ ?_ <;> intro hb) | (with_reducible refine qd_i (by kernel_rfl) ?_) | (with_reducible refine W_itn_cases ?_ ?_; omega))
    refine ret_b ?_
    rw [← hbal]
    exact (all_get fun j hj c hc => hp j (by omega) c hc).symm
/-- The first line with an error, and that error. -/
def firstS : List Line → Nat → Option (Nat × Int)
  | [], _ => none
  | l :: r, i => if lineS l = 0 then firstS r (i + 1) else some (i, lineS l)
def checkS (e : Entry) : Int × Int :=
  if headS e = 0 then (match firstS e.lines 0 with
    | some (i, er) => ((i : Int), er)
    | none => if balS e.lines then (-1, 0) else (-1, 15))
  else (-1, headS e)
theorem first_none : ∀ (l : List Line) (k : Nat), (∀ j, j < l.length → ∀ x, l[j]? = some x → lineS x = 0) → firstS l k = none
  | [], _, _ => rfl
  | x :: r, k, h => by
    have h0 := h 0 (by simp) x rfl
    rw [firstS, if_pos h0]
    exact first_none r (k + 1) fun j hj y hy => h (j + 1) (by simpa using hj) y (by simpa using hy)
theorem first_some : ∀ (l : List Line) (k i : Nat) (x : Line), (∀ j, j < i → ∀ y, l[j]? = some y → lineS y = 0) → l[i]? = some x → ¬ lineS x = 0 → firstS l k = some (k + i, lineS x)
  | [], _, _, _, _, h, _ => by simp at h
  | y :: r, k, 0, x, _, h, hx => by
    have : y = x := by simpa using h
    subst this
    rw [firstS, if_neg hx]; rfl
  | y :: r, k, i + 1, x, hp, h, hx => by
    have h0 := hp 0 (by omega) y rfl
    rw [firstS, if_pos h0, first_some r (k + 1) i x (fun j hj z hz => hp (j + 1) (by omega) z (by simpa using hz)) (by simpa using h) hx]
    congr 2; omega
theorem check_ok (e : Entry) (hs : smallE e) (ha : amts e.lines) : L.pl 27 [encE e] = some (.ret (.tup [.i64 (checkS e).1, .i64 (checkS e).2])) := by
  have hh := head_ok e hs
  simp only [encE] at hh
  refine W_of (pl_w k27_eq ?_)
  simp only [k27, encE]
  by_cases h0 : headS e = 0
  · have hd0 : decide (headS e = 0) = true := decide_eq_true h0
    have hlen : e.lines.length ≤ 100 := by
      unfold headS at h0
      repeat' (split at h0 <;> first | omega | skip)
    have hlr : e.lr = false := by
      cases h : e.lr
      · rfl
      · have h1 := hs.nil h
        unfold headS at h0
        rw [h1] at h0
        repeat' (split at h0 <;> first | omega | skip)
        all_goals simp_all
    rw [hlr] at hh ⊢
    simp only [te_f] at hh ⊢
    have hbl := balanced_ok e.lines (nr false) ha (by omega)
    repeat' (first | (simp -implicitDefEqProofs only [ze, Nat.reduceEqDiff, Nat.reduceAdd, Nat.reduceMul, reduceIte, Nat.reduceLT, Nat.reduceLeDiff, reduceCtorEq, Int.reduceEq, Int.reduceLT, Int.reduceLE, Int.reduceNeg, Int.reduceToNat, Nat.reduceBEq, Nat.reduceSub, qp, qf, kop, av, RQ, PQ, kres, kres1, kresL, fin, fins, fin1, V.pur?, V.pur1?, V.cells, kld, ones, V.one, Value.oneCell', own, owns, own1, xfill, ksrc, kint, vint, ksub, keqs, kok, V.val1?, ofRes, hh, nr_pur, h0, List.length_map]) | (with_reducible refine wgd_cases ?_ ?_ <;> intro hb) | (with_reducible refine wcond_cases ?_ ?_ <;> intro hb) | (with_reducible refine qd_i (by kernel_rfl) ?_) | (with_reducible refine W_itn_cases ?_ ?_; omega))
    refine loop_w (fun n tm st nx => ∃ i : Nat, n = e.lines.length - i ∧ i ≤ e.lines.length ∧ tm 16 = .i64 i ∧ tm 15 = .i64 e.lines.length ∧ tm 14 = .list 61 (e.lines.map encL) (nr false) ∧ tm 1 = .ptr 8 0 ∧ 9 ≤ nx ∧ st 8 = some (.cells [.i64 e.no, .str e.ent, .i64 e.book, .i64 e.val, .i64 e.kind, .str e.ref, .str e.who, .i64 e.rev, .list 61 (e.lines.map encL) (nr false)]) ∧
      ∀ j, j < i → ∀ x, e.lines[j]? = some x → lineS x = 0) e.lines.length ⟨0, by omega, by omega, ?_, ?_, ?_, ?_, by omega, ?_, by omega⟩ ?_
    · simp -implicitDefEqProofs only [ze, Nat.reduceEqDiff, Nat.reduceAdd, Nat.reduceMul, reduceIte, Nat.reduceLT, Nat.reduceLeDiff, reduceCtorEq, Int.reduceEq, Int.reduceLT, Int.reduceLE, Int.reduceNeg, Int.reduceToNat, Nat.reduceBEq, Nat.reduceSub, qp, qf, kop, av, RQ, PQ, kres, kres1, kresL, fin, fins, fin1, V.pur?, V.pur1?, V.cells, kld, ones, V.one, Value.oneCell', own, owns, own1, xfill, ksrc, kint, vint, ksub, keqs, kok, V.val1?, ofRes]; rfl
    · simp -implicitDefEqProofs only [ze, Nat.reduceEqDiff, Nat.reduceAdd, Nat.reduceMul, reduceIte, Nat.reduceLT, Nat.reduceLeDiff, reduceCtorEq, Int.reduceEq, Int.reduceLT, Int.reduceLE, Int.reduceNeg, Int.reduceToNat, Nat.reduceBEq, Nat.reduceSub, qp, qf, kop, av, RQ, PQ, kres, kres1, kresL, fin, fins, fin1, V.pur?, V.pur1?, V.cells, kld, ones, V.one, Value.oneCell', own, owns, own1, xfill, ksrc, kint, vint, ksub, keqs, kok, V.val1?, ofRes]
    · simp -implicitDefEqProofs only [ze, Nat.reduceEqDiff, Nat.reduceAdd, Nat.reduceMul, reduceIte, Nat.reduceLT, Nat.reduceLeDiff, reduceCtorEq, Int.reduceEq, Int.reduceLT, Int.reduceLE, Int.reduceNeg, Int.reduceToNat, Nat.reduceBEq, Nat.reduceSub, qp, qf, kop, av, RQ, PQ, kres, kres1, kresL, fin, fins, fin1, V.pur?, V.pur1?, V.cells, kld, ones, V.one, Value.oneCell', own, owns, own1, xfill, ksrc, kint, vint, ksub, keqs, kok, V.val1?, ofRes]
    · simp -implicitDefEqProofs only [ze, Nat.reduceEqDiff, Nat.reduceAdd, Nat.reduceMul, reduceIte, Nat.reduceLT, Nat.reduceLeDiff, reduceCtorEq, Int.reduceEq, Int.reduceLT, Int.reduceLE, Int.reduceNeg, Int.reduceToNat, Nat.reduceBEq, Nat.reduceSub, qp, qf, kop, av, RQ, PQ, kres, kres1, kresL, fin, fins, fin1, V.pur?, V.pur1?, V.cells, kld, ones, V.one, Value.oneCell', own, owns, own1, xfill, ksrc, kint, vint, ksub, keqs, kok, V.val1?, ofRes]
    · simp -implicitDefEqProofs only [ze, Nat.reduceEqDiff, Nat.reduceAdd, Nat.reduceMul, reduceIte, Nat.reduceLT, Nat.reduceLeDiff, reduceCtorEq, Int.reduceEq, Int.reduceLT, Int.reduceLE, Int.reduceNeg, Int.reduceToNat, Nat.reduceBEq, Nat.reduceSub, qp, qf, kop, av, RQ, PQ, kres, kres1, kresL, fin, fins, fin1, V.pur?, V.pur1?, V.cells, kld, ones, V.one, Value.oneCell', own, owns, own1, xfill, ksrc, kint, vint, ksub, keqs, kok, V.val1?, ofRes]
    rintro n tm st nx ⟨i, hn, hi2, h16, h15, h14, h1, hnx, hst, hp⟩
    simp only [k27_l0]
    have hnx8 : ∀ j, (8 = nx + j) = False := fun j => eq_false (by omega)
    by_cases hlt : i < e.lines.length
    · obtain ⟨l, hl⟩ := get_lt hlt
      have hd : decide ((i : Int) < (e.lines.length : Int)) = true := decide_eq_true (by omega)
      have hli := line_ok l (hs.lines l (List.mem_of_getElem? hl))
      simp only [encL] at hli
      by_cases hz : lineS l = 0
      · have hdz : decide (lineS l = 0) = true := decide_eq_true hz
        repeat' (first | (simp -implicitDefEqProofs only [ze, Nat.reduceEqDiff, Nat.reduceAdd, Nat.reduceMul, reduceIte, Nat.reduceLT, Nat.reduceLeDiff, reduceCtorEq, Int.reduceEq, Int.reduceLT, Int.reduceLE, Int.reduceNeg, Int.reduceToNat, Nat.reduceBEq, Nat.reduceSub, qp, qf, kop, av, RQ, PQ, kres, kres1, kresL, fin, fins, fin1, V.pur?, V.pur1?, V.cells, kld, ones, V.one, Value.oneCell', own, owns, own1, xfill, ksrc, kint, vint, ksub, keqs, kok, V.val1?, ofRes, h16, h15, h14, h1, hd, hl, encL, nr_pur, hli, hdz, hnx8, hst]) | (with_reducible refine wgd_cases ?_ ?_ <;> intro hb) | (with_reducible refine wcond_cases ?_ ?_ <;> intro hb) | (with_reducible refine qd_i (by kernel_rfl) ?_) | (with_reducible refine W_itn_cases ?_ ?_; omega))
        refine ⟨e.lines.length - (i + 1), by omega, i + 1, rfl, by omega, up64 (by omega), fun j hj x hx => ?_⟩
        rcases Nat.lt_succ_iff_lt_or_eq.mp hj with h | rfl
        · exact hp j h x hx
        · rw [hl] at hx; obtain rfl := Option.some.inj hx; exact hz
      · have hdz : decide (lineS l = 0) = false := decide_eq_false hz
        repeat' (first | (simp -implicitDefEqProofs only [ze, Nat.reduceEqDiff, Nat.reduceAdd, Nat.reduceMul, reduceIte, Nat.reduceLT, Nat.reduceLeDiff, reduceCtorEq, Int.reduceEq, Int.reduceLT, Int.reduceLE, Int.reduceNeg, Int.reduceToNat, Nat.reduceBEq, Nat.reduceSub, qp, qf, kop, av, RQ, PQ, kres, kres1, kresL, fin, fins, fin1, V.pur?, V.pur1?, V.cells, kld, ones, V.one, Value.oneCell', own, owns, own1, xfill, ksrc, kint, vint, ksub, keqs, kok, V.val1?, ofRes, h16, h15, h14, h1, hd, hl, encL, nr_pur, hli, hdz, hnx8, hst]) | (with_reducible refine wgd_cases ?_ ?_ <;> intro hb) | (with_reducible refine wcond_cases ?_ ?_ <;> intro hb) | (with_reducible refine qd_i (by kernel_rfl) ?_) | (with_reducible refine W_itn_cases ?_ ?_; omega))
        have hfs := first_some e.lines 0 i l (fun j hj y hy => hp j hj y hy) hl hz
        rw [Nat.zero_add] at hfs
        simp only [checkS, h0, if_true, hfs]
    · have hd : decide ((i : Int) < (e.lines.length : Int)) = false := decide_eq_false (by omega)
      have hfn := first_none e.lines 0 fun j hj x hx => hp j (by omega) x hx
      repeat' (first | (simp -implicitDefEqProofs only [ze, Nat.reduceEqDiff, Nat.reduceAdd, Nat.reduceMul, reduceIte, Nat.reduceLT, Nat.reduceLeDiff, reduceCtorEq, Int.reduceEq, Int.reduceLT, Int.reduceLE, Int.reduceNeg, Int.reduceToNat, Nat.reduceBEq, Nat.reduceSub, qp, qf, kop, av, RQ, PQ, kres, kres1, kresL, fin, fins, fin1, V.pur?, V.pur1?, V.cells, kld, ones, V.one, Value.oneCell', own, owns, own1, xfill, ksrc, kint, vint, ksub, keqs, kok, V.val1?, ofRes, h16, h15, h14, h1, hd, hst, hbl, nr_pur, k27_t0]) | (with_reducible refine wgd_cases ?_ ?_ <;> intro hb) | (with_reducible refine wcond_cases ?_ ?_ <;> intro hb) | (with_reducible refine qd_i (by kernel_rfl) ?_) | (with_reducible refine W_itn_cases ?_ ?_; omega))
      all_goals simp_all [checkS]
  · have hd0 : decide (headS e = 0) = false := decide_eq_false h0
    repeat' (first | (simp -implicitDefEqProofs only [ze, Nat.reduceEqDiff, Nat.reduceAdd, Nat.reduceMul, reduceIte, Nat.reduceLT, Nat.reduceLeDiff, reduceCtorEq, Int.reduceEq, Int.reduceLT, Int.reduceLE, Int.reduceNeg, Int.reduceToNat, Nat.reduceBEq, Nat.reduceSub, qp, qf, kop, av, RQ, PQ, kres, kres1, kresL, fin, fins, fin1, V.pur?, V.pur1?, V.cells, kld, ones, V.one, Value.oneCell', own, owns, own1, xfill, ksrc, kint, vint, ksub, keqs, kok, V.val1?, ofRes, hh, nr_pur, hd0]) | (with_reducible refine wgd_cases ?_ ?_ <;> intro hb) | (with_reducible refine wcond_cases ?_ ?_ <;> intro hb) | (with_reducible refine qd_i (by kernel_rfl) ?_) | (with_reducible refine W_itn_cases ?_ ?_; omega))
    all_goals simp_all [checkS]
end Go.Proofs.YtkbheoganajhaaaDoor.Vm
