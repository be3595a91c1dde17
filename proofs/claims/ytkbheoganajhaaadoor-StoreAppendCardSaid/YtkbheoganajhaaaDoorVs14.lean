/- Proved here: what entry.columns returns. Conditions: none. -/
import Derived.Test.YtkbheoganajhaaaDoorVs13
set_option maxRecDepth 10000
set_option linter.unusedVariables false
set_option linter.unusedSimpArgs false
namespace Go.Proofs.YtkbheoganajhaaaDoor.Vm
open Go Go.Proofs
def selA (ls : List Line) (k : ByteArray) : List Int := (ls.filter fun l => decide (l.cur = k)).map (·.amt)
def selB (ls : List Line) (k : ByteArray) : List Int := (ls.filter fun l => decide (l.cur = k)).map (·.base)
structure Tab (cs : List Col) (ls : List Line) : Prop where
  a : ∀ c ∈ cs, c.A = selA ls c.key ∧ c.B = selB ls c.key ∧ ∃ l ∈ ls, l.cur = c.key
  b : ∀ l ∈ ls, ∃ c ∈ cs, c.key = l.cur
theorem currency_ok (l : Line) : L.pl 74 [encL l] = some (.ret (.str l.cur)) := by
  refine W_of (pl_w k74_eq ?_)
  simp only [k74, encL]
  repeat' (first | (simp -implicitDefEqProofs only [ze, Nat.reduceEqDiff, Nat.reduceAdd, Nat.reduceMul, reduceIte, Nat.reduceLT, Nat.reduceLeDiff, reduceCtorEq, Int.reduceEq, Int.reduceLT, Int.reduceLE, Int.reduceNeg, Int.reduceToNat, Nat.reduceBEq, Nat.reduceSub, qp, qf, kop, av, RQ, PQ, kres, kres1, kresL, fin, fins, fin1, V.pur?, V.pur1?, V.cells, kld, ones, V.one, Value.oneCell', own, owns, own1, xfill, ksrc, kint, vint, ksub, keqs, kok, V.val1?, ofRes]) | (with_reducible refine wgd_cases ?_ ?_ <;> intro hb) | (with_reducible refine wcond_cases ?_ ?_ <;> intro hb) | (with_reducible refine qd_i (by kernel_rfl) ?_) | (with_reducible refine W_itn_cases ?_ ?_; omega))
theorem Grow.upd {st : St} {nx nx' e j : Nat} {xs : List V} {v : V} (h : Grow st nx e xs v) (hj : nx ≤ j) (hn : nx ≤ nx') (o : Option Ob) : Grow (upd st j o) nx' e xs v := by
  rcases h with h | ⟨r, h1, h2, h3, h4⟩
  · exact .inl h
  · exact .inr ⟨r, h1, by omega, h3, by rw [upd_at, if_neg (by omega)]; exact h4⟩
theorem Cols.upd {st : St} {nx nx' mid j : Nat} {cs : List Col} (h : Cols st nx mid cs) (hj : nx ≤ j) (hn : nx ≤ nx') (o : Option Ob) : Cols (upd st j o) nx' mid cs :=
  ⟨by rw [upd_at, if_neg (by have := h.lt; omega)]; exact h.tab, by have := h.lt; omega,
   fun c hc => (h.ok c hc).same hn (by rw [upd_at, if_neg (by have := (h.ok c hc).id_lt; omega)]) (by rw [upd_at, if_neg (by have := (h.ok c hc).a_lt; omega)]) (by rw [upd_at, if_neg (by have := (h.ok c hc).b_lt; omega)]), h.nd, h.keys⟩
theorem Cols.le {st : St} {nx nx' mid : Nat} {cs : List Col} (h : Cols st nx mid cs) (hn : nx ≤ nx') : Cols st nx' mid cs :=
  ⟨h.tab, by have := h.lt; omega, fun c hc => (h.ok c hc).same hn rfl rfl rfl, h.nd, h.keys⟩
theorem Grow.le {st : St} {nx nx' e : Nat} {xs : List V} {v : V} (h : Grow st nx e xs v) (hn : nx ≤ nx') : Grow st nx' e xs v := by
  rcases h with h | ⟨r, h1, h2, h3, h4⟩
  · exact .inl h
  · exact .inr ⟨r, h1, by omega, h3, h4⟩
theorem selA_app (ls : List Line) (l : Line) (k : ByteArray) : selA (ls ++ [l]) k = if l.cur = k then selA ls k ++ [l.amt] else selA ls k := by
  by_cases h : l.cur = k <;> simp [selA, List.filter_append, h]
theorem selB_app (ls : List Line) (l : Line) (k : ByteArray) : selB (ls ++ [l]) k = if l.cur = k then selB ls k ++ [l.base] else selB ls k := by
  by_cases h : l.cur = k <;> simp [selB, List.filter_append, h]
theorem Tab.old {pre post : List Col} {c : Col} {ls : List Line} {l : Line} (h : Tab (pre ++ c :: post) ls) (hk : ((pre ++ c :: post).map (·.key)).Nodup) (e : c.key = l.cur) : Tab (pre ++ ⟨c.key, c.id, c.A ++ [l.amt], c.B ++ [l.base], c.ra, c.rb⟩ :: post) (ls ++ [l]) := by
  have hne : ∀ d, d ∈ pre ∨ d ∈ post → ¬ l.cur = d.key := by
    rw [List.map_append, List.map_cons, List.nodup_append] at hk
    intro d hd e2
    rcases hd with hd | hd
    · exact hk.2.2 d.key (List.mem_map_of_mem hd) c.key (by simp) (by rw [← e2, e])
    · have := hk.2.1
      rw [List.nodup_cons] at this
      exact this.1 (List.mem_map.mpr ⟨d, hd, by rw [← e2, e]⟩)
  have old : ∀ d, d ∈ pre ∨ d ∈ post → d.A = selA (ls ++ [l]) d.key ∧ d.B = selB (ls ++ [l]) d.key ∧ ∃ l2 ∈ ls ++ [l], l2.cur = d.key := by
    intro d hd
    have hd2 := h.a d (by rcases hd with hd | hd; exact List.mem_append.mpr (.inl hd); exact List.mem_append.mpr (.inr (List.mem_cons_of_mem _ hd)))
    rw [selA_app, selB_app, if_neg (hne d hd), if_neg (hne d hd)]
    obtain ⟨g1, g2, l2, g3, g4⟩ := hd2
    exact ⟨g1, g2, l2, List.mem_append.mpr (.inl g3), g4⟩
  refine ⟨fun d hd => ?_, fun l2 hl2 => ?_⟩
  · rcases List.mem_append.mp hd with hd | hd
    · exact old d (.inl hd)
    · rcases List.mem_cons.mp hd with rfl | hd
      · have hc := h.a c (by simp)
        refine ⟨?_, ?_, l, by simp, e.symm⟩
        · show c.A ++ [l.amt] = selA (ls ++ [l]) c.key; rw [selA_app, if_pos e.symm, hc.1]
        · show c.B ++ [l.base] = selB (ls ++ [l]) c.key; rw [selB_app, if_pos e.symm, hc.2.1]
      · exact old d (.inr hd)
  · rcases List.mem_append.mp hl2 with hl2 | hl2
    · obtain ⟨d, hd, hd2⟩ := h.b l2 hl2
      rcases List.mem_append.mp hd with hd | hd
      · exact ⟨d, List.mem_append.mpr (.inl hd), hd2⟩
      · rcases List.mem_cons.mp hd with rfl | hd
        · exact ⟨_, List.mem_append.mpr (.inr List.mem_cons_self), hd2⟩
        · exact ⟨d, List.mem_append.mpr (.inr (List.mem_cons_of_mem _ hd)), hd2⟩
    · have : l2 = l := by simpa using hl2
      subst this
      exact ⟨_, List.mem_append.mpr (.inr List.mem_cons_self), e⟩
theorem Tab.more {cs : List Col} {ls : List Line} {l : Line} (h : Tab cs ls) (hno : ∀ d ∈ cs, d.key ≠ l.cur) (id ra rb : Nat) : Tab (cs ++ [⟨l.cur, id, [l.amt], [l.base], ra, rb⟩]) (ls ++ [l]) := by
  have hnl : ∀ l2 ∈ ls, ¬ l2.cur = l.cur := fun l2 hl2 e => by
    obtain ⟨d, hd, hd2⟩ := h.b l2 hl2
    exact hno d hd (by rw [hd2, e])
  refine ⟨fun d hd => ?_, fun l2 hl2 => ?_⟩
  · rcases List.mem_append.mp hd with hd | hd
    · have hd2 := h.a d hd
      have hne : ¬ l.cur = d.key := fun e => hno d hd e.symm
      rw [selA_app, selB_app, if_neg hne, if_neg hne]
      obtain ⟨g1, g2, l2, g3, g4⟩ := hd2
      exact ⟨g1, g2, l2, List.mem_append.mpr (.inl g3), g4⟩
    · have : d = ⟨l.cur, id, [l.amt], [l.base], ra, rb⟩ := by simpa using hd
      subst this
      refine ⟨?_, ?_, l, by simp, rfl⟩
      · show [l.amt] = selA (ls ++ [l]) l.cur
        rw [selA_app, if_pos rfl]
        have : selA ls l.cur = [] := by simp only [selA, List.map_eq_nil_iff, List.filter_eq_nil_iff]; intro a ha; simpa using hnl a ha
        rw [this]; rfl
      · show [l.base] = selB (ls ++ [l]) l.cur
        rw [selB_app, if_pos rfl]
        have : selB ls l.cur = [] := by simp only [selB, List.map_eq_nil_iff, List.filter_eq_nil_iff]; intro a ha; simpa using hnl a ha
        rw [this]; rfl
  · rcases List.mem_append.mp hl2 with hl2 | hl2
    · obtain ⟨d, hd, hd2⟩ := h.b l2 hl2
      exact ⟨d, List.mem_append.mpr (.inl hd), hd2⟩
    · have : l2 = l := by simpa using hl2
      subst this
      exact ⟨⟨l2.cur, id, [l2.amt], [l2.base], ra, rb⟩, List.mem_append.mpr (.inr (List.mem_singleton.mpr rfl)), rfl⟩
theorem Grow.keep {st st' : St} {nx nx' : Nat} {xs : List V} {v : V} {c : Col} (h : Grow st nx 9 xs v) (hc : ColOk st nx c) (hn : nx ≤ nx') (hk : ∀ i, i < nx → i ≠ c.id → i ≠ c.ra → i ≠ c.rb → st' i = st i) : Grow st' nx' 9 xs v := by
  rcases h with h | ⟨r, h1, h2, h3, h4⟩
  · exact .inl h
  · refine .inr ⟨r, h1, by omega, h3, ?_⟩
    rw [hk r h2 (fun e => by rw [e, hc.cell] at h4; cases h4) (fun e => by rw [e, hc.a] at h4; simp at h4) (fun e => by rw [e, hc.b] at h4; simp at h4)]
    exact h4
theorem sel_len (ls : List Line) (k : ByteArray) : (selA ls k).length ≤ ls.length ∧ (selB ls k).length ≤ ls.length := by
  simp only [selA, selB, List.length_map]
  exact ⟨List.length_filter_le _ _, List.length_filter_le _ _⟩
theorem columns_ok (ls : List Line) (r : Nat) {st : St} {nx : Nat} (h8 : 8 ≤ nx) (hl : ls.length < 1000000) :
    W (L.hp 73 [.list 61 (ls.map encL) r, .fn (.func 74) [] []] st nx) fun q => ∃ st' nx' mid cs v, q = .ret (.tup [.map mid, v]) st' nx' ∧ nx ≤ nx' ∧ cs.length ≤ ls.length ∧ Cols st' nx' mid cs ∧ Tab cs ls ∧ Grow st' nx' 9 (cs.map fun c => V.str c.key) v := by
  refine hp_w k73_eq ?_
  simp only [k73]
  repeat' (first | (simp -implicitDefEqProofs only [ze, Nat.reduceEqDiff, Nat.reduceAdd, Nat.reduceMul, reduceIte, Nat.reduceLT, Nat.reduceLeDiff, reduceCtorEq, Int.reduceEq, Int.reduceLT, Int.reduceLE, Int.reduceNeg, Int.reduceToNat, Nat.reduceBEq, Nat.reduceSub, qp, qf, kop, av, RQ, PQ, kres, kres1, kresL, fin, fins, fin1, V.pur?, V.pur1?, V.cells, kld, ones, V.one, Value.oneCell', own, owns, own1, xfill, ksrc, kint, vint, ksub, keqs, kok, V.val1?, ofRes, List.length_map]) | (with_reducible refine wgd_cases ?_ ?_ <;> intro hb) | (with_reducible refine wcond_cases ?_ ?_ <;> intro hb) | (with_reducible refine qd_i (by kernel_rfl) ?_) | (with_reducible refine W_itn_cases ?_ ?_; omega))
  refine loop_w (fun n tm st' nx' => ∃ (i mid : Nat) (cs : List Col) (v : V), n = ls.length - i ∧ i ≤ ls.length ∧ tm 14 = .i64 i ∧ tm 13 = .i64 ls.length ∧ tm 12 = .list 61 (ls.map encL) r ∧ tm 1 = .fn (.func 74) [] [] ∧ tm 6 = .map mid ∧ tm 7 = v ∧ nx ≤ nx' ∧ cs.length ≤ i ∧
      Cols st' nx' mid cs ∧ Tab cs (ls.take i) ∧ Grow st' nx' 9 (cs.map fun c => V.str c.key) v) ls.length ⟨0, nx + 16, [], _, by omega, by omega, ?_, ?_, ?_, ?_, ?_, rfl, by omega, Nat.le_refl _, ?_, ?_, ?_⟩ ?_
  · simp -implicitDefEqProofs only [ze, Nat.reduceEqDiff, Nat.reduceAdd, Nat.reduceMul, reduceIte, Nat.reduceLT, Nat.reduceLeDiff, reduceCtorEq, Int.reduceEq, Int.reduceLT, Int.reduceLE, Int.reduceNeg, Int.reduceToNat, Nat.reduceBEq, Nat.reduceSub, qp, qf, kop, av, RQ, PQ, kres, kres1, kresL, fin, fins, fin1, V.pur?, V.pur1?, V.cells, kld, ones, V.one, Value.oneCell', own, owns, own1, xfill, ksrc, kint, vint, ksub, keqs, kok, V.val1?, ofRes]; rfl
  · simp -implicitDefEqProofs only [ze, Nat.reduceEqDiff, Nat.reduceAdd, Nat.reduceMul, reduceIte, Nat.reduceLT, Nat.reduceLeDiff, reduceCtorEq, Int.reduceEq, Int.reduceLT, Int.reduceLE, Int.reduceNeg, Int.reduceToNat, Nat.reduceBEq, Nat.reduceSub, qp, qf, kop, av, RQ, PQ, kres, kres1, kresL, fin, fins, fin1, V.pur?, V.pur1?, V.cells, kld, ones, V.one, Value.oneCell', own, owns, own1, xfill, ksrc, kint, vint, ksub, keqs, kok, V.val1?, ofRes]
  · simp -implicitDefEqProofs only [ze, Nat.reduceEqDiff, Nat.reduceAdd, Nat.reduceMul, reduceIte, Nat.reduceLT, Nat.reduceLeDiff, reduceCtorEq, Int.reduceEq, Int.reduceLT, Int.reduceLE, Int.reduceNeg, Int.reduceToNat, Nat.reduceBEq, Nat.reduceSub, qp, qf, kop, av, RQ, PQ, kres, kres1, kresL, fin, fins, fin1, V.pur?, V.pur1?, V.cells, kld, ones, V.one, Value.oneCell', own, owns, own1, xfill, ksrc, kint, vint, ksub, keqs, kok, V.val1?, ofRes]
  · simp -implicitDefEqProofs only [ze, Nat.reduceEqDiff, Nat.reduceAdd, Nat.reduceMul, reduceIte, Nat.reduceLT, Nat.reduceLeDiff, reduceCtorEq, Int.reduceEq, Int.reduceLT, Int.reduceLE, Int.reduceNeg, Int.reduceToNat, Nat.reduceBEq, Nat.reduceSub, qp, qf, kop, av, RQ, PQ, kres, kres1, kresL, fin, fins, fin1, V.pur?, V.pur1?, V.cells, kld, ones, V.one, Value.oneCell', own, owns, own1, xfill, ksrc, kint, vint, ksub, keqs, kok, V.val1?, ofRes]
  · simp -implicitDefEqProofs only [ze, Nat.reduceEqDiff, Nat.reduceAdd, Nat.reduceMul, reduceIte, Nat.reduceLT, Nat.reduceLeDiff, reduceCtorEq, Int.reduceEq, Int.reduceLT, Int.reduceLE, Int.reduceNeg, Int.reduceToNat, Nat.reduceBEq, Nat.reduceSub, qp, qf, kop, av, RQ, PQ, kres, kres1, kresL, fin, fins, fin1, V.pur?, V.pur1?, V.cells, kld, ones, V.one, Value.oneCell', own, owns, own1, xfill, ksrc, kint, vint, ksub, keqs, kok, V.val1?, ofRes]
  · exact ⟨by simp [upd_at, ents], by omega, by simp, by simp [names], by simp⟩
  · exact ⟨by simp, by simp⟩
  · exact .inl ⟨rfl, by simp -implicitDefEqProofs only [ze, Nat.reduceEqDiff, Nat.reduceAdd, Nat.reduceMul, reduceIte, Nat.reduceLT, Nat.reduceLeDiff, reduceCtorEq, Int.reduceEq, Int.reduceLT, Int.reduceLE, Int.reduceNeg, Int.reduceToNat, Nat.reduceBEq, Nat.reduceSub, qp, qf, kop, av, RQ, PQ, kres, kres1, kresL, fin, fins, fin1, V.pur?, V.pur1?, V.cells, kld, ones, V.one, Value.oneCell', own, owns, own1, xfill, ksrc, kint, vint, ksub, keqs, kok, V.val1?, ofRes]⟩
  rintro n tm st' nx' ⟨i, mid, cs, v, hn, hi2, h14, h13, h12, h1, h6, h7, hnx, hcl, hcs, htab, hg⟩
  simp only [k73_l0]
  have hmlt := hcs.lt
  by_cases hlt : i < ls.length
  · obtain ⟨l, hl2⟩ := get_lt hlt
    have hd : decide ((i : Int) < (ls.length : Int)) = true := decide_eq_true (by omega)
    have hcur := currency_ok l
    simp only [encL] at hcur
    have e1 : ls.take (i + 1) = ls.take i ++ [l] := by rw [List.take_add_one, hl2]; rfl
    have hm : ∀ j, (mid = nx' + j) = False := fun j => eq_false (by omega)
    have hm' : ∀ j, (nx' + j = mid) = False := fun j => eq_false (by omega)
    have hs : ∀ j, (nx' = nx' + (j + 1)) = False := fun j => eq_false (by omega)
    have hxc := fun (st : St) (i0 nx : Nat) (l : List V) => xcall_pl (P := Tryd.prog) (E := L) (st := st) (i0 := i0) (nx := nx) (g := 74) (l := l) (by kernel_rfl) rfl
    by_cases hin : ∃ c ∈ cs, c.key = l.cur
    · obtain ⟨c, hc, hck⟩ := hin
      obtain ⟨pre, post, rfl⟩ := List.append_of_mem hc
      have hpre : ∀ d ∈ pre, d.key ≠ c.key := by
        have := hcs.keys
        rw [List.map_append, List.nodup_append] at this
        intro d hd e
        exact this.2.2 d.key (List.mem_map_of_mem hd) c.key (by simp) e
      have hf := find_yes pre c post 0 hpre
      rw [hck] at hf
      have htb := hcs.tab
      repeat' (first | (simp -implicitDefEqProofs only [ze, Nat.reduceEqDiff, Nat.reduceAdd, Nat.reduceMul, reduceIte, Nat.reduceLT, Nat.reduceLeDiff, reduceCtorEq, Int.reduceEq, Int.reduceLT, Int.reduceLE, Int.reduceNeg, Int.reduceToNat, Nat.reduceBEq, Nat.reduceSub, qp, qf, kop, av, RQ, PQ, kres, kres1, kresL, fin, fins, fin1, V.pur?, V.pur1?, V.cells, kld, ones, V.one, Value.oneCell', own, owns, own1, xfill, ksrc, kint, vint, ksub, keqs, kok, V.val1?, ofRes, h14, h13, h12, h1, h6, h7, hd, hl2, encL, hxc, hcur, nr_pur, hm, htb, hf]) | (with_reducible refine wgd_cases ?_ ?_ <;> intro hb) | (with_reducible refine wcond_cases ?_ ?_ <;> intro hb) | (with_reducible refine qd_i (by kernel_rfl) ?_) | (with_reducible refine W_itn_cases ?_ ?_; omega))
      have hcs2 := (hcs.upd (j := nx' + 24) (nx' := nx') (by omega) (Nat.le_refl _) (some (Ob.cells [V.sc (Value.string { data := #[] }), V.sc (Value.string { data := #[] }), V.sc (Value.int IntKind.i64 0), V.sc (Value.int IntKind.i64 0), V.sc (Value.string { data := #[] }), V.sc (Value.string { data := #[] }), V.list 0 [] 1]))).upd (j := nx' + 24) (nx' := nx' + 144) (by omega) (by omega) (some (Ob.cells [V.str l.acc, V.str l.cur, V.i64 l.amt, V.i64 l.base, V.str l.par, V.str l.pty, V.list (te l.tr 97) (List.map encT l.tags) (nr l.tr)]))
      have hca := htab.a c hc
      have hsl := sel_len (ls.take i) c.key
      have htl : (ls.take i).length ≤ ls.length := by rw [List.length_take]; omega
      refine W_hp (add_old (hcs2.ok c hc) l (by rw [hca.1]; omega) (by rw [hca.2.1]; omega)) ?_
      rintro _ ⟨sa, na, rfl, hna, hco, hka⟩
      repeat' (first | (simp -implicitDefEqProofs only [ze, Nat.reduceEqDiff, Nat.reduceAdd, Nat.reduceMul, reduceIte, Nat.reduceLT, Nat.reduceLeDiff, reduceCtorEq, Int.reduceEq, Int.reduceLT, Int.reduceLE, Int.reduceNeg, Int.reduceToNat, Nat.reduceBEq, Nat.reduceSub, qp, qf, kop, av, RQ, PQ, kres, kres1, kresL, fin, fins, fin1, V.pur?, V.pur1?, V.cells, kld, ones, V.one, Value.oneCell', own, owns, own1, xfill, ksrc, kint, vint, ksub, keqs, kok, V.val1?, ofRes, h14, h13, h12, h1, h6, h7]) | (with_reducible refine wgd_cases ?_ ?_ <;> intro hb) | (with_reducible refine wcond_cases ?_ ?_ <;> intro hb) | (with_reducible refine qd_i (by kernel_rfl) ?_) | (with_reducible refine W_itn_cases ?_ ?_; omega))
      refine ⟨ls.length - (i + 1), by omega, i + 1, mid, pre ++ ⟨c.key, c.id, c.A ++ [l.amt], c.B ++ [l.base], c.ra, c.rb⟩ :: post, v, rfl, by omega, up64 (by omega), rfl, rfl, by omega, by simp only [List.length_append, List.length_cons] at hcl ⊢; omega, ?_, ?_, ?_⟩
      · exact (hcs2.old hna hco rfl rfl rfl rfl hka).le (by omega)
      · rw [e1]; exact htab.old hcs.keys hck
      · have hg2 := (hg.upd (j := nx' + 24) (nx' := nx') (by omega) (Nat.le_refl _) (some (Ob.cells [V.sc (Value.string { data := #[] }), V.sc (Value.string { data := #[] }), V.sc (Value.int IntKind.i64 0), V.sc (Value.int IntKind.i64 0), V.sc (Value.string { data := #[] }), V.sc (Value.string { data := #[] }), V.list 0 [] 1]))).upd (j := nx' + 24) (nx' := nx' + 144) (by omega) (by omega) (some (Ob.cells [V.str l.acc, V.str l.cur, V.i64 l.amt, V.i64 l.base, V.str l.par, V.str l.pty, V.list (te l.tr 97) (List.map encT l.tags) (nr l.tr)]))
        have hg3 := hg2.keep (hcs2.ok c hc) hna hka
        have e3 : (pre ++ ⟨c.key, c.id, c.A ++ [l.amt], c.B ++ [l.base], c.ra, c.rb⟩ :: post).map (fun c => V.str c.key) = (pre ++ c :: post).map fun c => V.str c.key := by simp
        rw [e3]
        exact hg3.le (by omega)
    · have hno : ∀ d ∈ cs, d.key ≠ l.cur := fun d hd e => hin ⟨d, hd, e⟩
      have hf := find_no cs l.cur 0 hno
      have hf2 : ∀ n2, mfind (.string l.cur) (ents cs ++ [(V.sc (.string l.cur), V.ptr n2 0)]) 0 = some (some (cs.length, V.ptr n2 0)) := fun n2 => by
        have := find_yes cs ⟨l.cur, n2, [], [], 0, 0⟩ [] 0 hno
        simpa [ents] using this
      have htb := hcs.tab
      have kl : (cs.map fun c => V.str c.key).length = cs.length := by simp
      rcases hg with ⟨hgn, rfl⟩ | ⟨rk, hk8, hkn, rfl, hkt⟩
      · have hcn : cs = [] := by simpa using hgn
        subst hcn
        simp only [ents, List.map_nil, List.nil_append] at hf hf2 htb
        repeat' (first | (simp -implicitDefEqProofs only [ze, Nat.reduceEqDiff, Nat.reduceAdd, Nat.reduceMul, reduceIte, Nat.reduceLT, Nat.reduceLeDiff, reduceCtorEq, Int.reduceEq, Int.reduceLT, Int.reduceLE, Int.reduceNeg, Int.reduceToNat, Nat.reduceBEq, Nat.reduceSub, qp, qf, kop, av, RQ, PQ, kres, kres1, kresL, fin, fins, fin1, V.pur?, V.pur1?, V.cells, kld, ones, V.one, Value.oneCell', own, owns, own1, xfill, ksrc, kint, vint, ksub, keqs, kok, V.val1?, ofRes, h14, h13, h12, h1, h6, h7, hd, hl2, encL, hxc, hcur, nr_pur, hm, hm', hs, htb, hf, hf2]) | (with_reducible refine wgd_cases ?_ ?_ <;> intro hb) | (with_reducible refine wcond_cases ?_ ?_ <;> intro hb) | (with_reducible refine qd_i (by kernel_rfl) ?_) | (with_reducible refine W_itn_cases ?_ ?_; omega))
        refine W_hp (add_new l.cur (by omega) (by omega) (by simp [upd_at, hm, hm', hs]) l) ?_
        rintro _ ⟨sa, na, ra, rb, rfl, hna, hco, hra, hrb, hka⟩
        repeat' (first | (simp -implicitDefEqProofs only [ze, Nat.reduceEqDiff, Nat.reduceAdd, Nat.reduceMul, reduceIte, Nat.reduceLT, Nat.reduceLeDiff, reduceCtorEq, Int.reduceEq, Int.reduceLT, Int.reduceLE, Int.reduceNeg, Int.reduceToNat, Nat.reduceBEq, Nat.reduceSub, qp, qf, kop, av, RQ, PQ, kres, kres1, kresL, fin, fins, fin1, V.pur?, V.pur1?, V.cells, kld, ones, V.one, Value.oneCell', own, owns, own1, xfill, ksrc, kint, vint, ksub, keqs, kok, V.val1?, ofRes, h14, h13, h12, h1, h6, h7]) | (with_reducible refine wgd_cases ?_ ?_ <;> intro hb) | (with_reducible refine wcond_cases ?_ ?_ <;> intro hb) | (with_reducible refine qd_i (by kernel_rfl) ?_) | (with_reducible refine W_itn_cases ?_ ?_; omega))
        refine ⟨ls.length - (i + 1), by omega, i + 1, mid, [] ++ [⟨l.cur, nx' + 128, [l.amt], [l.base], ra, rb⟩], _, rfl, by omega, up64 (by omega), rfl, rfl, by omega, by simp, ?_, ?_, ?_⟩
        · refine (hcs.more (by omega) hco (Nat.le_add_right _ _) (show nx' ≤ ra by omega) (show nx' ≤ rb by omega) ⟨by show nx' + 128 ≠ ra; omega, by show nx' + 128 ≠ rb; omega⟩ (by simp) ?_ (by simp [names])).le (Nat.le_add_right _ _)
          rw [hka mid (by omega) (by omega)]
          simp [upd_at, hm, ents]
        · rw [e1]; exact htab.more hno _ _ _
        · refine .inr ⟨nx' + 168, by omega, by omega, rfl, ?_⟩
          rw [hka _ (by omega) (by omega)]
          simp [upd_at]
      · have hr0 : (rk = 0) = False := eq_false (by omega)
        have hr1 : (rk = 1) = False := eq_false (by omega)
        have hrn : ∀ j, (rk = nx' + j) = False := fun j => eq_false (by omega)
        have hrn' : ∀ j, (nx' + j = rk) = False := fun j => eq_false (by omega)
        have hrm : (rk = mid) = False := eq_false fun e => by rw [e, hcs.tab] at hkt; cases hkt
        have hrm' : (mid = rk) = False := eq_false fun e => by rw [← e, hcs.tab] at hkt; cases hkt
        rw [kl] at hkt
        repeat' (first | (simp -implicitDefEqProofs only [ze, Nat.reduceEqDiff, Nat.reduceAdd, Nat.reduceMul, reduceIte, Nat.reduceLT, Nat.reduceLeDiff, reduceCtorEq, Int.reduceEq, Int.reduceLT, Int.reduceLE, Int.reduceNeg, Int.reduceToNat, Nat.reduceBEq, Nat.reduceSub, qp, qf, kop, av, RQ, PQ, kres, kres1, kresL, fin, fins, fin1, V.pur?, V.pur1?, V.cells, kld, ones, V.one, Value.oneCell', own, owns, own1, xfill, ksrc, kint, vint, ksub, keqs, kok, V.val1?, ofRes, h14, h13, h12, h1, h6, h7, hd, hl2, encL, hxc, hcur, nr_pur, hm, hm', hs, htb, hf, hf2, hr0, hr1, hrn, hrn', hrm, hrm', hkt, kl, List.length_map]) | (with_reducible refine wgd_cases ?_ ?_ <;> intro hb) | (with_reducible refine wcond_cases ?_ ?_ <;> intro hb) | (with_reducible refine qd_i (by kernel_rfl) ?_) | (with_reducible refine W_itn_cases ?_ ?_; omega))
        refine W_hp (add_new l.cur (by omega) (by omega) (by simp [upd_at, hm, hm', hs, hrn, hrn']) l) ?_
        rintro _ ⟨sa, na, ra, rb, rfl, hna, hco, hra, hrb, hka⟩
        repeat' (first | (simp -implicitDefEqProofs only [ze, Nat.reduceEqDiff, Nat.reduceAdd, Nat.reduceMul, reduceIte, Nat.reduceLT, Nat.reduceLeDiff, reduceCtorEq, Int.reduceEq, Int.reduceLT, Int.reduceLE, Int.reduceNeg, Int.reduceToNat, Nat.reduceBEq, Nat.reduceSub, qp, qf, kop, av, RQ, PQ, kres, kres1, kresL, fin, fins, fin1, V.pur?, V.pur1?, V.cells, kld, ones, V.one, Value.oneCell', own, owns, own1, xfill, ksrc, kint, vint, ksub, keqs, kok, V.val1?, ofRes, h14, h13, h12, h1, h6, h7]) | (with_reducible refine wgd_cases ?_ ?_ <;> intro hb) | (with_reducible refine wcond_cases ?_ ?_ <;> intro hb) | (with_reducible refine qd_i (by kernel_rfl) ?_) | (with_reducible refine W_itn_cases ?_ ?_; omega))
        refine ⟨ls.length - (i + 1), by omega, i + 1, mid, cs ++ [⟨l.cur, nx' + 128, [l.amt], [l.base], ra, rb⟩], _, rfl, by omega, up64 (by omega), rfl, rfl, by omega, by simp; omega, ?_, ?_, ?_⟩
        · refine (hcs.more (by omega) hco (Nat.le_add_right _ _) (show nx' ≤ ra by omega) (show nx' ≤ rb by omega) ⟨by show nx' + 128 ≠ ra; omega, by show nx' + 128 ≠ rb; omega⟩ hno ?_ ?_).le (Nat.le_add_right _ _)
          · rw [hka mid (by omega) (by omega)]
            simp [upd_at, hm, hrm', ents]
          · intro j hj
            have h1 := names_lt hcs j hj
            have h2 : ¬ j = mid := fun e => mid_not hcs (e ▸ hj)
            have h3 : ¬ j = rk := fun e => by
              subst e
              simp only [names, List.mem_flatMap, List.mem_cons, List.not_mem_nil, or_false] at hj
              obtain ⟨c, hc, h5⟩ := hj
              have h6 := hcs.ok c hc
              rcases h5 with e | e | e
              · rw [e, h6.cell] at hkt; cases hkt
              · rw [e, h6.a] at hkt; simp at hkt
              · rw [e, h6.b] at hkt; simp at hkt
            have h4 : ∀ k, ¬ j = nx' + k := fun k => by omega
            rw [hka j (by omega) (h4 _)]
            simp [upd_at, h2, h3, h4]
        · rw [e1]; exact htab.more hno _ _ _
        · refine .inr ⟨rk, by omega, by omega, by simp, ?_⟩
          rw [hka _ (by omega) (by omega)]
          simp [upd_at]
  · have hd : decide ((i : Int) < (ls.length : Int)) = false := decide_eq_false (by omega)
    have hie : i = ls.length := by omega
    rw [hie, List.take_length] at htab
    repeat' (first | (simp -implicitDefEqProofs only [ze, Nat.reduceEqDiff, Nat.reduceAdd, Nat.reduceMul, reduceIte, Nat.reduceLT, Nat.reduceLeDiff, reduceCtorEq, Int.reduceEq, Int.reduceLT, Int.reduceLE, Int.reduceNeg, Int.reduceToNat, Nat.reduceBEq, Nat.reduceSub, qp, qf, kop, av, RQ, PQ, kres, kres1, kresL, fin, fins, fin1, V.pur?, V.pur1?, V.cells, kld, ones, V.one, Value.oneCell', own, owns, own1, xfill, ksrc, kint, vint, ksub, keqs, kok, V.val1?, ofRes, h14, h13, h6, h7, hd, k73_t0]) | (with_reducible refine wgd_cases ?_ ?_ <;> intro hb) | (with_reducible refine wcond_cases ?_ ?_ <;> intro hb) | (with_reducible refine qd_i (by kernel_rfl) ?_) | (with_reducible refine W_itn_cases ?_ ?_; omega))
    exact ⟨_, _, mid, cs, v, rfl, by omega, by omega, hcs.le (by omega), htab, hg.le (by omega)⟩
end Go.Proofs.YtkbheoganajhaaaDoor.Vm
