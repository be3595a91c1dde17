/- Proved here: the statement StoreAppend, on the machine. Conditions: none. -/
import Derived.Test.YtkbheoganajhaaaDoorWs8
import Derived.Test.YtkbheoganajhaaaDoorWl1
set_option maxRecDepth 10000
set_option linter.unusedVariables false
set_option linter.unusedSimpArgs false
namespace Go.Proofs.YtkbheoganajhaaaDoor.Vm
open Go Go.Proofs
theorem lgN {st : St} {nx nx' id j : Nat} {out : List Int} {s : Int} {es : List Entry} (h : LG st nx id out s es) (hj : j ∉ toksAt st id) (hi : j ≠ id) (hn : nx ≤ nx') (o : Option Ob) : LG (upd st j o) nx' id out s es := by
  obtain ⟨w, ⟨h1, v, h2, h3⟩, h4⟩ := h
  simp only [toksAt, h2, List.mem_cons, List.not_mem_nil, or_false, not_or] at hj
  refine ⟨w, ⟨by omega, v, by rw [upd_at, if_neg (fun e => hi e.symm)]; exact h2, ?_⟩, ?_⟩
  · rcases h3 with h | ⟨r, a, b, c, d⟩
    · exact .inl h
    · exact .inr ⟨r, a, by omega, c, by rw [upd_at, if_neg (fun e => hj.1 (by rw [c]; exact e.symm))]; exact d⟩
  · rcases h4 with h | ⟨r, a, b, c, d⟩
    · exact .inl h
    · exact .inr ⟨r, a, by omega, c, by rw [upd_at, if_neg (fun e => hj.2 (by rw [c]; exact e.symm))]; exact d⟩
theorem lgSt {st st' : St} {nx nx' id : Nat} {out : List Int} {s : Int} {es : List Entry} (h : LG st nx id out s es) (hk : ∀ i, i < nx → st' i = st i) (hn : nx ≤ nx') : LG st' nx' id out s es := by
  obtain ⟨w, ⟨h1, v, h2, h3⟩, h4⟩ := h
  refine ⟨w, ⟨by omega, v, by rw [hk id h1]; exact h2, ?_⟩, ?_⟩
  · rcases h3 with h | ⟨r, a, b, c, d⟩
    · exact .inl h
    · exact .inr ⟨r, a, by omega, c, by rw [hk r b]; exact d⟩
  · rcases h4 with h | ⟨r, a, b, c, d⟩
    · exact .inl h
    · exact .inr ⟨r, a, by omega, c, by rw [hk r b]; exact d⟩
theorem toks_upd {st : St} {id j : Nat} (o : Option Ob) (h : id ≠ j) : toksAt (upd st j o) id = toksAt st id := by unfold toksAt; rw [upd_at, if_neg h]
/-- A list of the caller's beside a log. -/
def Own (st : St) (nx id : Nat) (es : List Entry) (v : V) : Prop := (es = [] ∧ v = .list 0 [] 1) ∨ ∃ q, 8 ≤ q ∧ q < nx ∧ q ≠ id ∧ q ∉ toksAt st id ∧ v = .list 31 (es.map encE) q ∧ st q = some (.tok es.length 31)
theorem cop_nil (e : Entry) : nilE (copE e) := by
  refine ⟨fun h => ?_, fun l hl => ?_⟩
  · have : e.lines = [] := by
      have h : e.lines.isEmpty = true := h
      simpa using h
    show e.lines.map copL = []
    rw [this]; rfl
  · obtain ⟨l0, _, rfl⟩ := List.mem_map.1 hl
    intro h; cases h
theorem lgTok {st : St} {nx id : Nat} {out : List Int} {s : Int} {es : List Entry} (h : LG st nx id out s es) {k : Nat} (hk : k ∈ toksAt st id) : k < nx ∨ k = 1 := by
  obtain ⟨w, ⟨h1, v, h2, h3⟩, h4⟩ := h
  simp only [toksAt, h2, List.mem_cons, List.not_mem_nil, or_false] at hk
  rcases hk with hk | hk
  · rcases h3 with ⟨_, a⟩ | ⟨r, _, b, c, _⟩
    · rw [a] at hk; exact .inr hk
    · rw [c] at hk; exact .inl (by rw [hk]; exact b)
  · rcases h4 with ⟨_, a⟩ | ⟨r, _, b, c, _⟩
    · rw [a] at hk; exact .inr hk
    · rw [c] at hk; exact .inl (by rw [hk]; exact b)
theorem own_le {st : St} {nx nx' id : Nat} {es : List Entry} {v : V} (h : Own st nx id es v) (hn : nx ≤ nx') : Own st nx' id es v := by
  rcases h with h | ⟨q, a, b, c⟩
  · exact .inl h
  · exact .inr ⟨q, a, by omega, c⟩
set_option maxHeartbeats 2000000 in
theorem sapp_ok (l : List Entry) (hs : ∀ e ∈ l, smallE e ∧ rangeE e) (hl : l.length < 4611686018427387904) : L.pl 3 [.list 31 (l.map encE) 0] = some (.ret (.sc (.bool true))) := by
  refine W_of (pl_w k3_eq ?_)
  simp only [k3]
  obtain ⟨q, hq, b, rfl, hb1⟩ := light_ok l (fun e he => (hs e he).1) hl 0
  cases b
  · repeat' (first | (simp -implicitDefEqProofs only [ze, Nat.reduceEqDiff, Nat.reduceAdd, Nat.reduceMul, reduceIte, Nat.reduceLT, Nat.reduceLeDiff, reduceCtorEq, Int.reduceEq, Int.reduceLT, Int.reduceLE, Int.reduceNeg, Int.reduceToNat, Nat.reduceBEq, Nat.reduceSub, qp, qf, kop, av, RQ, PQ, kres, kres1, kresL, fin, fins, fin1, V.pur?, V.pur1?, V.cells, kld, ones, V.one, Value.oneCell', own, owns, own1, xfill, ksrc, kint, vint, ksub, keqs, kok, V.val1?, ofRes, hq, slives_ok]) | (with_reducible refine wgd_cases ?_ ?_ <;> intro hb) | (with_reducible refine wcond_cases ?_ ?_ <;> intro hb) | (with_reducible refine qd_i (by kernel_rfl) ?_) | (with_reducible refine W_itn_cases ?_ ?_; omega))
  obtain ⟨hl12, hlight⟩ := hb1 rfl
  repeat' (first | (simp -implicitDefEqProofs only [ze, Nat.reduceEqDiff, Nat.reduceAdd, Nat.reduceMul, reduceIte, Nat.reduceLT, Nat.reduceLeDiff, reduceCtorEq, Int.reduceEq, Int.reduceLT, Int.reduceLE, Int.reduceNeg, Int.reduceToNat, Nat.reduceBEq, Nat.reduceSub, qp, qf, kop, av, RQ, PQ, kres, kres1, kresL, fin, fins, fin1, V.pur?, V.pur1?, V.cells, kld, ones, V.one, Value.oneCell', own, owns, own1, xfill, ksrc, kint, vint, ksub, keqs, kok, V.val1?, ofRes, hq]) | (with_reducible refine wgd_cases ?_ ?_ <;> intro hb) | (with_reducible refine wcond_cases ?_ ?_ <;> intro hb) | (with_reducible refine qd_i (by kernel_rfl) ?_) | (with_reducible refine W_itn_cases ?_ ?_; omega))
  refine W_hp (new_ok _ _) ?_
  rintro _ ⟨st1, nx1, id, rfl, hn1, hi1, hLG, hk1⟩
  repeat' (first | (simp -implicitDefEqProofs only [ze, Nat.reduceEqDiff, Nat.reduceAdd, Nat.reduceMul, reduceIte, Nat.reduceLT, Nat.reduceLeDiff, reduceCtorEq, Int.reduceEq, Int.reduceLT, Int.reduceLE, Int.reduceNeg, Int.reduceToNat, Nat.reduceBEq, Nat.reduceSub, qp, qf, kop, av, RQ, PQ, kres, kres1, kresL, fin, fins, fin1, V.pur?, V.pur1?, V.cells, kld, ones, V.one, Value.oneCell', own, owns, own1, xfill, ksrc, kint, vint, ksub, keqs, kok, V.val1?, ofRes]) | (with_reducible refine wgd_cases ?_ ?_ <;> intro hb) | (with_reducible refine wcond_cases ?_ ?_ <;> intro hb) | (with_reducible refine qd_i (by kernel_rfl) ?_) | (with_reducible refine W_itn_cases ?_ ?_; omega))
  refine loop_w (fun n tm st nx => ∃ (i : Nat) (kept : List Entry) (id : Nat) (v : V), n = l.length - i ∧ i ≤ l.length ∧ 8 ≤ nx ∧ tm 3 = .ptr id 0 ∧ tm 5 = .i64 i ∧ tm 0 = .list 31 (l.map encE) 0 ∧ tm 4 = v ∧ kept.length ≤ i ∧ (∀ e ∈ kept, goodE e) ∧ LG st nx id (framesB start kept) (sumE start kept) (kept.map copE) ∧ Own st nx id kept v) l.length ⟨0, [], id, .list 0 [] 1, by omega, by omega, by omega, ?_, ?_, ?_, ?_, by simp, (fun e he => by cases he), lgLe hLG (by omega), .inl ⟨rfl, rfl⟩⟩ ?_
  · simp -implicitDefEqProofs only [ze, Nat.reduceEqDiff, Nat.reduceAdd, Nat.reduceMul, reduceIte, Nat.reduceLT, Nat.reduceLeDiff, reduceCtorEq, Int.reduceEq, Int.reduceLT, Int.reduceLE, Int.reduceNeg, Int.reduceToNat, Nat.reduceBEq, Nat.reduceSub, qp, qf, kop, av, RQ, PQ, kres, kres1, kresL, fin, fins, fin1, V.pur?, V.pur1?, V.cells, kld, ones, V.one, Value.oneCell', own, owns, own1, xfill, ksrc, kint, vint, ksub, keqs, kok, V.val1?, ofRes]; try rfl
  · simp -implicitDefEqProofs only [ze, Nat.reduceEqDiff, Nat.reduceAdd, Nat.reduceMul, reduceIte, Nat.reduceLT, Nat.reduceLeDiff, reduceCtorEq, Int.reduceEq, Int.reduceLT, Int.reduceLE, Int.reduceNeg, Int.reduceToNat, Nat.reduceBEq, Nat.reduceSub, qp, qf, kop, av, RQ, PQ, kres, kres1, kresL, fin, fins, fin1, V.pur?, V.pur1?, V.cells, kld, ones, V.one, Value.oneCell', own, owns, own1, xfill, ksrc, kint, vint, ksub, keqs, kok, V.val1?, ofRes]; try rfl
  · simp -implicitDefEqProofs only [ze, Nat.reduceEqDiff, Nat.reduceAdd, Nat.reduceMul, reduceIte, Nat.reduceLT, Nat.reduceLeDiff, reduceCtorEq, Int.reduceEq, Int.reduceLT, Int.reduceLE, Int.reduceNeg, Int.reduceToNat, Nat.reduceBEq, Nat.reduceSub, qp, qf, kop, av, RQ, PQ, kres, kres1, kresL, fin, fins, fin1, V.pur?, V.pur1?, V.cells, kld, ones, V.one, Value.oneCell', own, owns, own1, xfill, ksrc, kint, vint, ksub, keqs, kok, V.val1?, ofRes]; try rfl
  · simp -implicitDefEqProofs only [ze, Nat.reduceEqDiff, Nat.reduceAdd, Nat.reduceMul, reduceIte, Nat.reduceLT, Nat.reduceLeDiff, reduceCtorEq, Int.reduceEq, Int.reduceLT, Int.reduceLE, Int.reduceNeg, Int.reduceToNat, Nat.reduceBEq, Nat.reduceSub, qp, qf, kop, av, RQ, PQ, kres, kres1, kresL, fin, fins, fin1, V.pur?, V.pur1?, V.cells, kld, ones, V.one, Value.oneCell', own, owns, own1, xfill, ksrc, kint, vint, ksub, keqs, kok, V.val1?, ofRes]; try rfl
  rintro n tm st nx ⟨i, kept, id, v, hn, hi, hnx, h3, h5, h0, h4, hkl, hgood, hG, hown⟩
  simp only [k3_l0, k3_t0]
  have hfl := framesB_len kept start hgood
  have hkc : (kept.map copE).length = kept.length := List.length_map _
  by_cases hlt : i < l.length
  · have hd : decide ((i : Int) < (l.length : Int)) = true := decide_eq_true (by omega)
    obtain ⟨x, hx1⟩ := get_lt (l := l) (i := i) hlt
    obtain ⟨hxs, hxr⟩ := hs x (List.mem_of_getElem? hx1)
    have hrc := rcheck_ok x hxs hxr.amts
    have hap := fun (nx' : Nat) (h : nx ≤ nx') => append_ok (lgLe hG h) x hxs hxr (sumE_r _ start_r) (by omega) (by rw [hkc]; omega)
    rw [hkc] at hap
    have hup : IntKind.i64.wrap ((i : Int) + 1) = ((i + 1 : Nat) : Int) := wrap_i64 (by omega) (by omega)
    have hw8 : IntKind.i64.wrap ((kept.length : Int) + 1) = (kept.length : Int) + 1 := wrap_i64 (by omega) (by omega)
    have hel : encE x = .agg [.i64 x.no, .str x.ent, .i64 x.book, .i64 x.val, .i64 x.kind, .str x.ref, .str x.who, .i64 x.rev, .list (te x.lr 61) (x.lines.map encL) (nr x.lr)] := rfl
    rw [hel] at hrc hap
    obtain ⟨ve, vr, rfl⟩ : ∃ ve vr, v = .list ve (kept.map encE) vr := by
      rcases hown with ⟨rfl, rfl⟩ | ⟨q, _, _, _, _, rfl, _⟩
      · exact ⟨0, 1, rfl⟩
      · exact ⟨_, q, rfl⟩
    have ownQ : ∀ {st2 : St} {nxa nx2 : Nat}, nx ≤ nxa → KQ st st2 nxa id → nxa ≤ nx2 → Own st2 nx2 id kept (.list ve (kept.map encE) vr) := fun {st2 nxa nx2} ha hk hn => by
      rcases hown with ⟨a, b⟩ | ⟨q, a, b, c, d, e, f⟩
      · exact .inl ⟨a, b⟩
      · exact .inr ⟨q, a, by omega, c, fun hm => (hk.2 q hm).elim d (by omega), e, by rw [hk.1 q (by omega) c d]; exact f⟩
    by_cases h1 : (checkS x).2 = 0
    · rw [h1] at hrc
      by_cases h2 : x.no = (kept.length : Int) + 1
      · have hac : appC kept.length x = 0 := by unfold appC; rw [if_pos h1, if_pos h2]
        have hd2 : decide (x.no = (kept.length : Int) + 1) = true := decide_eq_true h2
        repeat' (first | (simp -implicitDefEqProofs only [ze, Nat.reduceEqDiff, Nat.reduceAdd, Nat.reduceMul, reduceIte, Nat.reduceLT, Nat.reduceLeDiff, reduceCtorEq, Int.reduceEq, Int.reduceLT, Int.reduceLE, Int.reduceNeg, Int.reduceToNat, Nat.reduceBEq, Nat.reduceSub, qp, qf, kop, av, RQ, PQ, kres, kres1, kresL, fin, fins, fin1, V.pur?, V.pur1?, V.cells, kld, ones, V.one, Value.oneCell', own, owns, own1, xfill, ksrc, kint, vint, ksub, keqs, kok, V.val1?, ofRes, h3, h5, h0, h4, hd, hd2, enc_get, hx1, hel, hrc, nr_pur, List.length_map, hw8]) | (with_reducible refine wgd_cases ?_ ?_ <;> intro hb) | (with_reducible refine wcond_cases ?_ ?_ <;> intro hb) | (with_reducible refine qd_i (by kernel_rfl) ?_) | (with_reducible refine W_itn_cases ?_ ?_; omega))
        refine W_hp (hap _ (by omega)) ?_
        rintro _ ⟨st2, nx2, rfl, hn2, hKO, hKQ, hor⟩
        have hG2 : LG st2 nx2 id (framesB start (kept ++ [x])) (sumE start (kept ++ [x])) ((kept ++ [x]).map copE) := by
          rcases hor with ⟨_, h⟩ | ⟨h, _⟩
          · rw [framesB_snoc, sumE_snoc, List.map_append]; exact h
          · exact absurd hac h
        have hown2 := ownQ (by omega) hKQ hn2
        have hgx : goodE x := ⟨hxs, hxr, h1⟩
        have hcl : ((kept ++ [x]).map copE).length = kept.length + 1 := by simp
        have hz1 : decide ((0 : Int) = 0) = true := rfl
        have hdd : ∀ n : Nat, decide ((n : Int) = (n : Int)) = true := fun n => decide_eq_true rfl
        have hgood2 : ∀ e ∈ kept ++ [x], goodE e := fun e he => by
          rcases List.mem_append.1 he with h | h
          · exact hgood e h
          · rw [List.mem_singleton.1 h]; exact hgx
        rcases hown2 with ⟨hk0, hv0⟩ | ⟨q, q1, q2, q3, q4, q5, q6⟩
        · subst hk0
          obtain ⟨rfl, rfl⟩ : ve = 0 ∧ vr = 1 := by injection hv0 with a b c; exact ⟨a, c⟩
          have hac0 : appC 0 x = 0 := hac
          repeat' (first | (simp -implicitDefEqProofs only [ze, Nat.reduceEqDiff, Nat.reduceAdd, Nat.reduceMul, reduceIte, Nat.reduceLT, Nat.reduceLeDiff, reduceCtorEq, Int.reduceEq, Int.reduceLT, Int.reduceLE, Int.reduceNeg, Int.reduceToNat, Nat.reduceBEq, Nat.reduceSub, qp, qf, kop, av, RQ, PQ, kres, kres1, kresL, fin, fins, fin1, V.pur?, V.pur1?, V.cells, kld, ones, V.one, Value.oneCell', own, owns, own1, xfill, ksrc, kint, vint, ksub, keqs, kok, V.val1?, ofRes, h3, h5, h0, h4, hac, hz1, hdd, enc_get, hx1, hel, nxj, nr_pur, List.length_map, hup, hac0, List.map_nil, List.length_nil]) | (with_reducible refine wgd_cases ?_ ?_ <;> intro hb) | (with_reducible refine wcond_cases ?_ ?_ <;> intro hb) | (with_reducible refine qd_i (by kernel_rfl) ?_) | (with_reducible refine W_itn_cases ?_ ?_; omega))
          have hL := len_ok (lgU (nx' := nx2 + 120) (lgU hG2 (show nx2 ≤ nx2 + 56 by omega) (Nat.le_refl _) (some (.tok 1 31))) (show nx2 ≤ nx2 + 64 by omega) (by omega) (some (.tok 1 31))) (by rw [hcl]; simp)
          rw [hcl] at hL
          refine W_hp hL ?_
          rintro _ ⟨nx3, rfl, hn3⟩
          repeat' (first | (simp -implicitDefEqProofs only [ze, Nat.reduceEqDiff, Nat.reduceAdd, Nat.reduceMul, reduceIte, Nat.reduceLT, Nat.reduceLeDiff, reduceCtorEq, Int.reduceEq, Int.reduceLT, Int.reduceLE, Int.reduceNeg, Int.reduceToNat, Nat.reduceBEq, Nat.reduceSub, qp, qf, kop, av, RQ, PQ, kres, kres1, kresL, fin, fins, fin1, V.pur?, V.pur1?, V.cells, kld, ones, V.one, Value.oneCell', own, owns, own1, xfill, ksrc, kint, vint, ksub, keqs, kok, V.val1?, ofRes, h3, h5, h0, h4, hac, hz1, hdd, enc_get, hx1, hel, nxj, nr_pur, List.length_map, hup, hac0, List.map_nil, List.length_nil, List.length_cons, Nat.zero_add]) | (with_reducible refine wgd_cases ?_ ?_ <;> intro hb) | (with_reducible refine wcond_cases ?_ ?_ <;> intro hb) | (with_reducible refine qd_i (by kernel_rfl) ?_) | (with_reducible refine W_itn_cases ?_ ?_; omega))
          have hidl : id < nx2 := hG2.choose_spec.1.1
          exact ⟨l.length - (i + 1), by omega, i + 1, [] ++ [x], id, _, rfl, by omega, rfl, rfl, rfl, by simp, hgood2, lgU (nx' := nx3 + 24) (lgU hG2 (show nx2 ≤ nx2 + 56 by omega) (Nat.le_refl _) (some (.tok 1 31))) (show nx2 ≤ nx2 + 64 by omega) (by omega) (some (.tok 1 31)), .inr ⟨nx2 + 64, by omega, by omega, by omega, fun hm => by rw [toks_upd _ (show id ≠ nx2 + 64 by omega), toks_upd _ (show id ≠ nx2 + 56 by omega)] at hm; rcases lgTok hG2 hm with h | h <;> omega, rfl, by rw [upd_at, if_pos rfl]; rfl⟩⟩
        · obtain ⟨rfl, rfl⟩ : ve = 31 ∧ vr = q := by injection q5 with a b c; exact ⟨a, c⟩
          have hr0 : (vr = 0) = False := eq_false (by omega)
          have hr1 : (vr = 1) = False := eq_false (by omega)
          have hrx : ∀ j, (vr = nx2 + j) = False := fun j => eq_false (by omega)
          have hrx' : ∀ j, (nx2 + j = vr) = False := fun j => eq_false (by omega)
          repeat' (first | (simp -implicitDefEqProofs only [ze, Nat.reduceEqDiff, Nat.reduceAdd, Nat.reduceMul, reduceIte, Nat.reduceLT, Nat.reduceLeDiff, reduceCtorEq, Int.reduceEq, Int.reduceLT, Int.reduceLE, Int.reduceNeg, Int.reduceToNat, Nat.reduceBEq, Nat.reduceSub, qp, qf, kop, av, RQ, PQ, kres, kres1, kresL, fin, fins, fin1, V.pur?, V.pur1?, V.cells, kld, ones, V.one, Value.oneCell', own, owns, own1, xfill, ksrc, kint, vint, ksub, keqs, kok, V.val1?, ofRes, h3, h5, h0, h4, hac, hz1, hdd, enc_get, hx1, hel, nxj, nr_pur, List.length_map, hup, hr0, hr1, hrx, hrx', q6]) | (with_reducible refine wgd_cases ?_ ?_ <;> intro hb) | (with_reducible refine wcond_cases ?_ ?_ <;> intro hb) | (with_reducible refine qd_i (by kernel_rfl) ?_) | (with_reducible refine W_itn_cases ?_ ?_; omega))
          have ht1 : vr ∉ toksAt (upd st2 (nx2 + 56) (some (.tok 1 31))) id := by rw [toks_upd _ (show id ≠ nx2 + 56 by have := hG2.choose_spec.1.1; omega)]; exact q4
          have hidl : id < nx2 := hG2.choose_spec.1.1
          have hL0 := lgN (nx' := nx2 + 120) (lgU hG2 (show nx2 ≤ nx2 + 56 by omega) (Nat.le_refl _) (some (.tok 1 31))) ht1 q3 (by omega) (some (.tok (kept.length + 1) 31))
          have hL := len_ok hL0 (by rw [hcl]; omega)
          rw [hcl] at hL
          refine W_hp hL ?_
          rintro _ ⟨nx3, rfl, hn3⟩
          repeat' (first | (simp -implicitDefEqProofs only [ze, Nat.reduceEqDiff, Nat.reduceAdd, Nat.reduceMul, reduceIte, Nat.reduceLT, Nat.reduceLeDiff, reduceCtorEq, Int.reduceEq, Int.reduceLT, Int.reduceLE, Int.reduceNeg, Int.reduceToNat, Nat.reduceBEq, Nat.reduceSub, qp, qf, kop, av, RQ, PQ, kres, kres1, kresL, fin, fins, fin1, V.pur?, V.pur1?, V.cells, kld, ones, V.one, Value.oneCell', own, owns, own1, xfill, ksrc, kint, vint, ksub, keqs, kok, V.val1?, ofRes, h3, h5, h0, h4, hac, hz1, hdd, enc_get, hx1, hel, nxj, nr_pur, List.length_map, hup, List.length_append, List.length_cons, List.length_nil, Nat.zero_add]) | (with_reducible refine wgd_cases ?_ ?_ <;> intro hb) | (with_reducible refine wcond_cases ?_ ?_ <;> intro hb) | (with_reducible refine qd_i (by kernel_rfl) ?_) | (with_reducible refine W_itn_cases ?_ ?_; omega))
          exact ⟨l.length - (i + 1), by omega, i + 1, kept ++ [x], id, _, rfl, by omega, rfl, rfl, rfl, by rw [List.length_append]; show kept.length + 1 ≤ i + 1; omega, hgood2, lgLe (nx := nx2 + 120) hL0 (by omega), .inr ⟨vr, q1, by omega, q3, fun hm => by rw [toks_upd _ (fun e => q3 e.symm)] at hm; exact ht1 hm, by rw [List.map_append]; rfl, by rw [upd_at, if_pos rfl, List.length_append]; rfl⟩⟩
      · have hac : appC kept.length x = 17 := by unfold appC; rw [if_pos h1, if_neg h2]
        have hd2 : decide (x.no = (kept.length : Int) + 1) = false := decide_eq_false h2
        repeat' (first | (simp -implicitDefEqProofs only [ze, Nat.reduceEqDiff, Nat.reduceAdd, Nat.reduceMul, reduceIte, Nat.reduceLT, Nat.reduceLeDiff, reduceCtorEq, Int.reduceEq, Int.reduceLT, Int.reduceLE, Int.reduceNeg, Int.reduceToNat, Nat.reduceBEq, Nat.reduceSub, qp, qf, kop, av, RQ, PQ, kres, kres1, kresL, fin, fins, fin1, V.pur?, V.pur1?, V.cells, kld, ones, V.one, Value.oneCell', own, owns, own1, xfill, ksrc, kint, vint, ksub, keqs, kok, V.val1?, ofRes, h3, h5, h0, h4, hd, hd2, enc_get, hx1, hel, hrc, nr_pur, List.length_map, hw8]) | (with_reducible refine wgd_cases ?_ ?_ <;> intro hb) | (with_reducible refine wcond_cases ?_ ?_ <;> intro hb) | (with_reducible refine qd_i (by kernel_rfl) ?_) | (with_reducible refine W_itn_cases ?_ ?_; omega))
        refine W_hp (hap _ (by omega)) ?_
        rintro _ ⟨st2, nx2, rfl, hn2, hKO, hKQ, hor⟩
        have hG2 : LG st2 nx2 id (framesB start kept) (sumE start kept) (kept.map copE) := by
          rcases hor with ⟨h, _⟩ | ⟨_, h⟩
          · rw [hac] at h; cases h
          · exact h
        have hown2 := ownQ (by omega) hKQ hn2
        have hz1 : decide ((17 : Int) = 17) = true := rfl
        have hz2 : decide ((17 : Int) = 0) = false := rfl
        have hdd : ∀ n : Nat, decide ((n : Int) = (n : Int)) = true := fun n => decide_eq_true rfl
        repeat' (first | (simp -implicitDefEqProofs only [ze, Nat.reduceEqDiff, Nat.reduceAdd, Nat.reduceMul, reduceIte, Nat.reduceLT, Nat.reduceLeDiff, reduceCtorEq, Int.reduceEq, Int.reduceLT, Int.reduceLE, Int.reduceNeg, Int.reduceToNat, Nat.reduceBEq, Nat.reduceSub, qp, qf, kop, av, RQ, PQ, kres, kres1, kresL, fin, fins, fin1, V.pur?, V.pur1?, V.cells, kld, ones, V.one, Value.oneCell', own, owns, own1, xfill, ksrc, kint, vint, ksub, keqs, kok, V.val1?, ofRes, h3, h5, h0, h4, hac, hz1, hdd, enc_get, hx1, hel, nxj, nr_pur, List.length_map, hup, hz2]) | (with_reducible refine wgd_cases ?_ ?_ <;> intro hb) | (with_reducible refine wcond_cases ?_ ?_ <;> intro hb) | (with_reducible refine qd_i (by kernel_rfl) ?_) | (with_reducible refine W_itn_cases ?_ ?_; omega))
        have hL := fun (nx' : Nat) (h : nx2 ≤ nx') => len_ok (lgLe hG2 h) (by rw [hkc]; omega)
        rw [hkc] at hL
        refine W_hp (hL _ (by omega)) ?_
        rintro _ ⟨nx3, rfl, hn3⟩
        repeat' (first | (simp -implicitDefEqProofs only [ze, Nat.reduceEqDiff, Nat.reduceAdd, Nat.reduceMul, reduceIte, Nat.reduceLT, Nat.reduceLeDiff, reduceCtorEq, Int.reduceEq, Int.reduceLT, Int.reduceLE, Int.reduceNeg, Int.reduceToNat, Nat.reduceBEq, Nat.reduceSub, qp, qf, kop, av, RQ, PQ, kres, kres1, kresL, fin, fins, fin1, V.pur?, V.pur1?, V.cells, kld, ones, V.one, Value.oneCell', own, owns, own1, xfill, ksrc, kint, vint, ksub, keqs, kok, V.val1?, ofRes, h3, h5, h0, h4, hac, hz1, hdd, enc_get, hx1, hel, nxj, nr_pur, List.length_map, hup]) | (with_reducible refine wgd_cases ?_ ?_ <;> intro hb) | (with_reducible refine wcond_cases ?_ ?_ <;> intro hb) | (with_reducible refine qd_i (by kernel_rfl) ?_) | (with_reducible refine W_itn_cases ?_ ?_; omega))
        exact ⟨l.length - (i + 1), by omega, i + 1, kept, id, _, rfl, by omega, rfl, rfl, rfl, by omega, hgood, lgLe hG2 (by omega), own_le hown2 (by omega)⟩
    · have hac : appC kept.length x = (checkS x).2 := by unfold appC; rw [if_neg h1]
      have hz1 : decide ((checkS x).2 = (checkS x).2) = true := decide_eq_true rfl
      have hz2 : decide ((checkS x).2 = 0) = false := decide_eq_false h1
      have hdd : ∀ n : Nat, decide ((n : Int) = (n : Int)) = true := fun n => decide_eq_true rfl
      repeat' (first | (simp -implicitDefEqProofs only [ze, Nat.reduceEqDiff, Nat.reduceAdd, Nat.reduceMul, reduceIte, Nat.reduceLT, Nat.reduceLeDiff, reduceCtorEq, Int.reduceEq, Int.reduceLT, Int.reduceLE, Int.reduceNeg, Int.reduceToNat, Nat.reduceBEq, Nat.reduceSub, qp, qf, kop, av, RQ, PQ, kres, kres1, kresL, fin, fins, fin1, V.pur?, V.pur1?, V.cells, kld, ones, V.one, Value.oneCell', own, owns, own1, xfill, ksrc, kint, vint, ksub, keqs, kok, V.val1?, ofRes, h3, h5, h0, h4, hd, hz2, enc_get, hx1, hel, hrc, nr_pur, List.length_map, hw8]) | (with_reducible refine wgd_cases ?_ ?_ <;> intro hb) | (with_reducible refine wcond_cases ?_ ?_ <;> intro hb) | (with_reducible refine qd_i (by kernel_rfl) ?_) | (with_reducible refine W_itn_cases ?_ ?_; omega))
      refine W_hp (hap _ (by omega)) ?_
      rintro _ ⟨st2, nx2, rfl, hn2, hKO, hKQ, hor⟩
      have hG2 : LG st2 nx2 id (framesB start kept) (sumE start kept) (kept.map copE) := by
        rcases hor with ⟨h, _⟩ | ⟨_, h⟩
        · rw [hac] at h; exact absurd h h1
        · exact h
      have hown2 := ownQ (by omega) hKQ hn2
      repeat' (first | (simp -implicitDefEqProofs only [ze, Nat.reduceEqDiff, Nat.reduceAdd, Nat.reduceMul, reduceIte, Nat.reduceLT, Nat.reduceLeDiff, reduceCtorEq, Int.reduceEq, Int.reduceLT, Int.reduceLE, Int.reduceNeg, Int.reduceToNat, Nat.reduceBEq, Nat.reduceSub, qp, qf, kop, av, RQ, PQ, kres, kres1, kresL, fin, fins, fin1, V.pur?, V.pur1?, V.cells, kld, ones, V.one, Value.oneCell', own, owns, own1, xfill, ksrc, kint, vint, ksub, keqs, kok, V.val1?, ofRes, h3, h5, h0, h4, hac, hz1, hdd, enc_get, hx1, hel, nxj, nr_pur, List.length_map, hup, hz2]) | (with_reducible refine wgd_cases ?_ ?_ <;> intro hb) | (with_reducible refine wcond_cases ?_ ?_ <;> intro hb) | (with_reducible refine qd_i (by kernel_rfl) ?_) | (with_reducible refine W_itn_cases ?_ ?_; omega))
      have hL := fun (nx' : Nat) (h : nx2 ≤ nx') => len_ok (lgLe hG2 h) (by rw [hkc]; omega)
      rw [hkc] at hL
      refine W_hp (hL _ (by omega)) ?_
      rintro _ ⟨nx3, rfl, hn3⟩
      repeat' (first | (simp -implicitDefEqProofs only [ze, Nat.reduceEqDiff, Nat.reduceAdd, Nat.reduceMul, reduceIte, Nat.reduceLT, Nat.reduceLeDiff, reduceCtorEq, Int.reduceEq, Int.reduceLT, Int.reduceLE, Int.reduceNeg, Int.reduceToNat, Nat.reduceBEq, Nat.reduceSub, qp, qf, kop, av, RQ, PQ, kres, kres1, kresL, fin, fins, fin1, V.pur?, V.pur1?, V.cells, kld, ones, V.one, Value.oneCell', own, owns, own1, xfill, ksrc, kint, vint, ksub, keqs, kok, V.val1?, ofRes, h3, h5, h0, h4, hac, hz1, hdd, enc_get, hx1, hel, nxj, nr_pur, List.length_map, hup]) | (with_reducible refine wgd_cases ?_ ?_ <;> intro hb) | (with_reducible refine wcond_cases ?_ ?_ <;> intro hb) | (with_reducible refine qd_i (by kernel_rfl) ?_) | (with_reducible refine W_itn_cases ?_ ?_; omega))
      exact ⟨l.length - (i + 1), by omega, i + 1, kept, id, _, rfl, by omega, rfl, rfl, rfl, by omega, hgood, lgLe hG2 (by omega), own_le hown2 (by omega)⟩
  · have hd : decide ((i : Int) < (l.length : Int)) = false := decide_eq_false (by omega)
    obtain ⟨ve, vr, rfl, hve⟩ : ∃ ve vr, v = .list ve (kept.map encE) vr ∧ (kept = [] ∨ ve = 31) := by
      rcases hown with ⟨rfl, rfl⟩ | ⟨q, _, _, _, _, rfl, _⟩
      · exact ⟨0, 1, rfl, .inl rfl⟩
      · exact ⟨_, q, rfl, .inr rfl⟩
    have hS := rsumL_ok kept hgood (by omega) ve (if vr = 1 then 1 else 0) hve
    obtain ⟨t2, r2, hF, hF2⟩ := rframes_ok kept hgood (by omega) ve (if vr = 1 then 1 else 0) hve
    have hdu : decide (sumE start kept = sumE start kept) = true := decide_eq_true rfl
    have hE := fun (t q : Nat) (ht : kept = [] ∨ t = 31) => sames_true ((kept.map copE).map copE) kept (by simp only [List.map_map]; apply List.map_congr_left; intro e he; show (copE (copE e)).k = e.k; rw [cop_k, cop_k]) (fun e he => by
      obtain ⟨e1, he1, rfl⟩ := List.mem_map.1 he
      obtain ⟨e2, he2, rfl⟩ := List.mem_map.1 he1
      have hp := (hgood e2 he2).plain
      refine ⟨?_, ?_, cop_nil _⟩
      · show ((e2.lines.map copL).map copL).length < 1000000
        rw [List.length_map, List.length_map]; have := hp.len; omega
      · intro l hl
        obtain ⟨l1, hl1, rfl⟩ := List.mem_map.1 hl
        obtain ⟨l2, hl2, rfl⟩ := List.mem_map.1 hl1
        show l2.tags.length < 1000000
        have := (hp.lines l2 hl2).len; omega) (fun e he => (hgood e he).sm.nils) (by rw [List.length_map, List.length_map]; omega) t ve (if q = 1 then 1 else 0) (if vr = 1 then 1 else 0) (by
          rcases ht with h | h
          · left; rw [h]; rfl
          · exact .inr h) hve
    repeat' (first | (simp -implicitDefEqProofs only [ze, Nat.reduceEqDiff, Nat.reduceAdd, Nat.reduceMul, reduceIte, Nat.reduceLT, Nat.reduceLeDiff, reduceCtorEq, Int.reduceEq, Int.reduceLT, Int.reduceLE, Int.reduceNeg, Int.reduceToNat, Nat.reduceBEq, Nat.reduceSub, qp, qf, kop, av, RQ, PQ, kres, kres1, kresL, fin, fins, fin1, V.pur?, V.pur1?, V.cells, kld, ones, V.one, Value.oneCell', own, owns, own1, xfill, ksrc, kint, vint, ksub, keqs, kok, V.val1?, ofRes, h3, h5, h0, h4, hd, wnx_tb, wnx_tbn, List.length_map]) | (with_reducible refine W_itn_cases ?_ ?_; omega))
    refine W_hp (lsum_ok (lgLe hG (by omega))) ?_
    rintro _ ⟨nx3, rfl, hn3⟩
    repeat' (first | (simp -implicitDefEqProofs only [ze, Nat.reduceEqDiff, Nat.reduceAdd, Nat.reduceMul, reduceIte, Nat.reduceLT, Nat.reduceLeDiff, reduceCtorEq, Int.reduceEq, Int.reduceLT, Int.reduceLE, Int.reduceNeg, Int.reduceToNat, Nat.reduceBEq, Nat.reduceSub, qp, qf, kop, av, RQ, PQ, kres, kres1, kresL, fin, fins, fin1, V.pur?, V.pur1?, V.cells, kld, ones, V.one, Value.oneCell', own, owns, own1, xfill, ksrc, kint, vint, ksub, keqs, kok, V.val1?, ofRes, h3, h5, h0, h4, hd, wnx_tb, wnx_tbn, List.length_map, hS, hdu]) | (with_reducible refine W_itn_cases ?_ ?_; omega))
    refine W_hp (lbytes_ok (lgLe hG (by omega)) (by omega)) ?_
    rintro _ ⟨st4, nx4, j4, rfl, hn4, hj4, hk4⟩
    have hent := fun (st' : St) (nx' : Nat) (hk : ∀ i, i < nx → st' i = st i) (hn : nx ≤ nx') => lent_ok (lgSt hG hk hn) (by rw [hkc]; omega) (fun e he => by
      obtain ⟨e2, he2, rfl⟩ := List.mem_map.1 he
      have hp := (hgood e2 he2).plain
      refine ⟨cop_nil _, ?_, ?_⟩
      · show (e2.lines.map copL).length < 1000000
        rw [List.length_map]; have := hp.len; omega
      · intro l hl
        obtain ⟨l2, hl2, rfl⟩ := List.mem_map.1 hl
        show l2.tags.length < 1000000
        have := (hp.lines l2 hl2).len; omega)
    have hmm : ((kept.map copE).map fun e => encE (copE e)) = ((kept.map copE).map copE).map encE := by simp only [List.map_map]; rfl
    rw [hmm] at hent
    rcases hF2 with ⟨hF0, rfl, rfl⟩ | ⟨rfl, rfl⟩
    · have hbe : (bv (framesB start kept)).isEmpty = true := by rw [hF0]; rfl
      repeat' (first | (simp -implicitDefEqProofs only [ze, Nat.reduceEqDiff, Nat.reduceAdd, Nat.reduceMul, reduceIte, Nat.reduceLT, Nat.reduceLeDiff, reduceCtorEq, Int.reduceEq, Int.reduceLT, Int.reduceLE, Int.reduceNeg, Int.reduceToNat, Nat.reduceBEq, Nat.reduceSub, qp, qf, kop, av, RQ, PQ, kres, kres1, kresL, fin, fins, fin1, V.pur?, V.pur1?, V.cells, kld, ones, V.one, Value.oneCell', own, owns, own1, xfill, ksrc, kint, vint, ksub, keqs, kok, V.val1?, ofRes, h3, h5, h0, h4, hd, wnx_tb, wnx_tbn, List.length_map, hF, bytesOfV_bv, hbe]) | (with_reducible refine W_itn_cases ?_ ?_; omega))
      refine W_hp (hent _ _ (fun i hi => by rw [hk4 i (by omega)]) (by omega)) ?_
      rintro _ ⟨st5, nx5, t5, q5, rfl, hn5, ht5, hk5⟩
      have hE5 := hE t5 q5 (ht5.imp_left fun h => by simpa using h)
      repeat' (first | (simp -implicitDefEqProofs only [ze, Nat.reduceEqDiff, Nat.reduceAdd, Nat.reduceMul, reduceIte, Nat.reduceLT, Nat.reduceLeDiff, reduceCtorEq, Int.reduceEq, Int.reduceLT, Int.reduceLE, Int.reduceNeg, Int.reduceToNat, Nat.reduceBEq, Nat.reduceSub, qp, qf, kop, av, RQ, PQ, kres, kres1, kresL, fin, fins, fin1, V.pur?, V.pur1?, V.cells, kld, ones, V.one, Value.oneCell', own, owns, own1, xfill, ksrc, kint, vint, ksub, keqs, kok, V.val1?, ofRes, h3, h5, h0, h4, hd, wnx_tb, wnx_tbn, List.length_map, hE5, slives_ok]) | (with_reducible refine W_itn_cases ?_ ?_; omega))
      refine qd_2 ?_ ?_
      · simp [recsOk2, ordB, pairOk, bigF, δF, rF, disj, List.range, List.range.loop, seqSt, upds_nil]
        exact ⟨by decide, by decide, by decide⟩
      · simp -implicitDefEqProofs only [ze, Nat.reduceEqDiff, Nat.reduceAdd, Nat.reduceMul, reduceIte, Nat.reduceLT, Nat.reduceLeDiff, reduceCtorEq, Int.reduceEq, Int.reduceLT, Int.reduceLE, Int.reduceNeg, Int.reduceToNat, Nat.reduceBEq, Nat.reduceSub, qp, qf, kop, av, RQ, PQ, kres, kres1, kresL, fin, fins, fin1, V.pur?, V.pur1?, V.cells, kld, ones, V.one, Value.oneCell', own, owns, own1, xfill, ksrc, kint, vint, ksub, keqs, kok, V.val1?, ofRes]
        try rfl
    · have hbe : True := trivial
      repeat' (first | (simp -implicitDefEqProofs only [ze, Nat.reduceEqDiff, Nat.reduceAdd, Nat.reduceMul, reduceIte, Nat.reduceLT, Nat.reduceLeDiff, reduceCtorEq, Int.reduceEq, Int.reduceLT, Int.reduceLE, Int.reduceNeg, Int.reduceToNat, Nat.reduceBEq, Nat.reduceSub, qp, qf, kop, av, RQ, PQ, kres, kres1, kresL, fin, fins, fin1, V.pur?, V.pur1?, V.cells, kld, ones, V.one, Value.oneCell', own, owns, own1, xfill, ksrc, kint, vint, ksub, keqs, kok, V.val1?, ofRes, h3, h5, h0, h4, hd, wnx_tb, wnx_tbn, List.length_map, hF, bytesOfV_bv, hbe]) | (with_reducible refine W_itn_cases ?_ ?_; omega))
      refine W_hp (hent _ _ (fun i hi => by rw [upd_at, if_neg (by omega), hk4 i (by omega)]) (by omega)) ?_
      rintro _ ⟨st5, nx5, t5, q5, rfl, hn5, ht5, hk5⟩
      have hE5 := hE t5 q5 (ht5.imp_left fun h => by simpa using h)
      repeat' (first | (simp -implicitDefEqProofs only [ze, Nat.reduceEqDiff, Nat.reduceAdd, Nat.reduceMul, reduceIte, Nat.reduceLT, Nat.reduceLeDiff, reduceCtorEq, Int.reduceEq, Int.reduceLT, Int.reduceLE, Int.reduceNeg, Int.reduceToNat, Nat.reduceBEq, Nat.reduceSub, qp, qf, kop, av, RQ, PQ, kres, kres1, kresL, fin, fins, fin1, V.pur?, V.pur1?, V.cells, kld, ones, V.one, Value.oneCell', own, owns, own1, xfill, ksrc, kint, vint, ksub, keqs, kok, V.val1?, ofRes, h3, h5, h0, h4, hd, wnx_tb, wnx_tbn, List.length_map, hE5, slives_ok]) | (with_reducible refine W_itn_cases ?_ ?_; omega))
      refine qd_2 ?_ ?_
      · simp [recsOk2, ordB, pairOk, bigF, δF, rF, disj, List.range, List.range.loop, seqSt, upds_nil]
        exact ⟨by decide, ⟨by decide, by decide⟩, by decide, by decide, by decide⟩
      · simp -implicitDefEqProofs only [ze, Nat.reduceEqDiff, Nat.reduceAdd, Nat.reduceMul, reduceIte, Nat.reduceLT, Nat.reduceLeDiff, reduceCtorEq, Int.reduceEq, Int.reduceLT, Int.reduceLE, Int.reduceNeg, Int.reduceToNat, Nat.reduceBEq, Nat.reduceSub, qp, qf, kop, av, RQ, PQ, kres, kres1, kresL, fin, fins, fin1, V.pur?, V.pur1?, V.cells, kld, ones, V.one, Value.oneCell', own, owns, own1, xfill, ksrc, kint, vint, ksub, keqs, kok, V.val1?, ofRes]
        try rfl
end Go.Proofs.YtkbheoganajhaaaDoor.Vm
