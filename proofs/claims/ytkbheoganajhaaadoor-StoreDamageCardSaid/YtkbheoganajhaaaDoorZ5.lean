/- Proved here: the law, on a machine over pure data, and what it needs, part 5. Conditions: none. -/
import Derived.Test.YtkbheoganajhaaaDoorRows
import Derived.Test.YtkbheoganajhaaaDoorCards
import Derived.Test.YtkbheoganajhaaaDoorTie
import Derived.Test.YtkbheoganajhaaaDoorZ4
set_option maxRecDepth 10000
set_option linter.unusedVariables false
set_option linter.unusedSimpArgs false
namespace Go.Proofs.YtkbheoganajhaaaDoor.Vm
open Go Go.Proofs
def names (cs : List Col) : List Nat := cs.flatMap fun c => [c.id, c.ra, c.rb]
def ents (cs : List Col) : List (V × V) := cs.map fun c => (V.str c.key, V.ptr c.id 0)
structure Cols (st : St) (nx mid : Nat) (cs : List Col) : Prop where
  tab : st mid = some (.map (ents cs))
  lt : mid < nx
  ok : ∀ c ∈ cs, ColOk st nx c
  nd : (names cs).Nodup
  keys : (cs.map (·.key)).Nodup
theorem ColOk.same {st st' : St} {nx nx' : Nat} {c : Col} (h : ColOk st nx c) (hn : nx ≤ nx') (h1 : st' c.id = st c.id) (h2 : st' c.ra = st c.ra) (h3 : st' c.rb = st c.rb) : ColOk st' nx' c :=
  ⟨by rw [h1]; exact h.cell, by rw [h2]; exact h.a, by rw [h3]; exact h.b, h.ab, by have := h.id_lt; omega, by have := h.a_lt; omega, by have := h.b_lt; omega, h.a8, h.b8⟩
theorem names_lt {st : St} {nx mid : Nat} {cs : List Col} (h : Cols st nx mid cs) : ∀ i ∈ names cs, i < nx := by
  intro i hi
  simp only [names, List.mem_flatMap, List.mem_cons, List.not_mem_nil, or_false] at hi
  obtain ⟨c, hc, h1⟩ := hi
  have := h.ok c hc
  rcases h1 with rfl | rfl | rfl
  · exact this.id_lt
  · exact this.a_lt
  · exact this.b_lt
theorem mid_not {st : St} {nx mid : Nat} {cs : List Col} (h : Cols st nx mid cs) : mid ∉ names cs := by
  intro hi
  simp only [names, List.mem_flatMap, List.mem_cons, List.not_mem_nil, or_false] at hi
  obtain ⟨c, hc, h1⟩ := hi
  have h2 := h.ok c hc
  have h3 := h.tab
  rcases h1 with rfl | rfl | rfl
  · rw [h2.cell] at h3; cases h3
  · rw [h2.a] at h3; cases h3
  · rw [h2.b] at h3; cases h3
theorem Cols.old {st st' : St} {nx nx' mid : Nat} {pre post : List Col} {c c' : Col} (h : Cols st nx mid (pre ++ c :: post)) (hn : nx ≤ nx') (hc : ColOk st' nx' c') (e1 : c'.key = c.key) (e2 : c'.id = c.id) (e3 : c'.ra = c.ra) (e4 : c'.rb = c.rb)
    (hk : ∀ i, i < nx → i ≠ c.id → i ≠ c.ra → i ≠ c.rb → st' i = st i) : Cols st' nx' mid (pre ++ c' :: post) := by
  have hnd := h.nd
  have hmid := mid_not h
  have hcn : ∀ d, d ∈ pre ++ post → ∀ i ∈ [d.id, d.ra, d.rb], i ≠ c.id ∧ i ≠ c.ra ∧ i ≠ c.rb := by
    intro d hd i hi
    have hi' : i ∈ names (pre ++ post) := by simp only [names, List.mem_flatMap]; exact ⟨d, hd, hi⟩
    have hp : (names (pre ++ c :: post)).Perm ([c.id, c.ra, c.rb] ++ names (pre ++ post)) := by
      have : names (pre ++ c :: post) = names pre ++ ([c.id, c.ra, c.rb] ++ names post) := by simp [names]
      rw [this]
      have e : names (pre ++ post) = names pre ++ names post := by simp [names]
      rw [e]
      exact List.perm_append_comm_assoc _ _ _
    have hnd2 := hp.nodup_iff.mp hnd
    rw [List.nodup_append] at hnd2
    have := hnd2.2.2
    exact ⟨fun e => this c.id (by simp) i hi' e.symm, fun e => this c.ra (by simp) i hi' e.symm, fun e => this c.rb (by simp) i hi' e.symm⟩
  refine ⟨?_, by have := h.lt; omega, ?_, ?_, ?_⟩
  · have hm : mid ≠ c.id ∧ mid ≠ c.ra ∧ mid ≠ c.rb := by
      have : names (pre ++ c :: post) = names pre ++ ([c.id, c.ra, c.rb] ++ names post) := by simp [names]
      rw [this] at hmid
      simp only [List.mem_append, List.mem_cons, List.not_mem_nil, or_false, not_or] at hmid
      exact ⟨hmid.2.1.1, hmid.2.1.2.1, hmid.2.1.2.2⟩
    rw [hk mid h.lt hm.1 hm.2.1 hm.2.2, h.tab]
    simp [ents, e1, e2]
  · intro d hd
    rcases List.mem_append.mp hd with hd | hd
    · have hd2 := h.ok d (List.mem_append.mpr (.inl hd))
      have hx := hcn d (List.mem_append.mpr (.inl hd))
      exact hd2.same hn (hk _ hd2.id_lt (hx _ (by simp)).1 (hx _ (by simp)).2.1 (hx _ (by simp)).2.2) (hk _ hd2.a_lt (hx _ (by simp)).1 (hx _ (by simp)).2.1 (hx _ (by simp)).2.2) (hk _ hd2.b_lt (hx _ (by simp)).1 (hx _ (by simp)).2.1 (hx _ (by simp)).2.2)
    · rcases List.mem_cons.mp hd with rfl | hd
      · exact hc
      · have hd2 := h.ok d (List.mem_append.mpr (.inr (List.mem_cons_of_mem _ hd)))
        have hx := hcn d (List.mem_append.mpr (.inr hd))
        exact hd2.same hn (hk _ hd2.id_lt (hx _ (by simp)).1 (hx _ (by simp)).2.1 (hx _ (by simp)).2.2) (hk _ hd2.a_lt (hx _ (by simp)).1 (hx _ (by simp)).2.1 (hx _ (by simp)).2.2) (hk _ hd2.b_lt (hx _ (by simp)).1 (hx _ (by simp)).2.1 (hx _ (by simp)).2.2)
  · have : names (pre ++ c' :: post) = names (pre ++ c :: post) := by simp [names, e2, e3, e4]
    rw [this]; exact hnd
  · have := h.keys
    simpa [e1] using this
theorem Cols.more {st st' : St} {nx nx' mid : Nat} {cs : List Col} {c : Col} (h : Cols st nx mid cs) (hn : nx ≤ nx') (hc : ColOk st' nx' c) (h1 : nx ≤ c.id) (h2 : nx ≤ c.ra) (h3 : nx ≤ c.rb) (hid : c.id ≠ c.ra ∧ c.id ≠ c.rb) (hkey : ∀ d ∈ cs, d.key ≠ c.key)
    (hm : st' mid = some (.map (ents (cs ++ [c])))) (hk : ∀ i ∈ names cs, st' i = st i) : Cols st' nx' mid (cs ++ [c]) := by
  have hlt := names_lt h
  have hmid := mid_not h
  refine ⟨hm, by have := h.lt; omega, ?_, ?_, ?_⟩
  · intro d hd
    rcases List.mem_append.mp hd with hd | hd
    · have hd2 := h.ok d hd
      have hne : ∀ i ∈ [d.id, d.ra, d.rb], i ∈ names cs := fun i hi => by simp only [names, List.mem_flatMap]; exact ⟨d, hd, hi⟩
      exact hd2.same hn (hk _ (hne _ (by simp))) (hk _ (hne _ (by simp))) (hk _ (hne _ (by simp)))
    · have : d = c := by simpa using hd
      subst this; exact hc
  · have e : names (cs ++ [c]) = names cs ++ [c.id, c.ra, c.rb] := by simp [names]
    rw [e, List.nodup_append]
    refine ⟨h.nd, by simp [hid.1, hid.2, hc.ab], ?_⟩
    intro a ha b hb
    have := hlt a ha
    simp only [List.mem_cons, List.not_mem_nil, or_false] at hb
    rcases hb with rfl | rfl | rfl <;> omega
  · rw [List.map_append, List.nodup_append]
    refine ⟨h.keys, by simp, ?_⟩
    intro a ha b hb
    simp only [List.mem_map] at ha
    obtain ⟨d, hd, rfl⟩ := ha
    simp only [List.map_cons, List.map_nil, List.mem_singleton] at hb
    subst hb
    exact hkey d hd
theorem find_no : ∀ (cs : List Col) (k : ByteArray) (j : Nat), (∀ d ∈ cs, d.key ≠ k) → mfind (.string k) (ents cs) j = some none
  | [], _, _, _ => rfl
  | c :: cs, k, j, h => by
    have h1 : ¬ c.key = k := h c (by simp)
    have h2 : ¬ k = c.key := fun e => h1 e.symm
    have hk : keyEq (.string k) (.string c.key) = some false := by simp only [keyEq]; rw [ba_beq, decide_eq_false h2]
    have e : ents (c :: cs) = (V.sc (.string c.key), V.ptr c.id 0) :: ents cs := rfl
    rw [e, mfind, hk]
    exact find_no cs k (j + 1) fun d hd => h d (List.mem_cons_of_mem _ hd)
theorem find_yes : ∀ (pre : List Col) (c : Col) (post : List Col) (j : Nat), (∀ d ∈ pre, d.key ≠ c.key) → mfind (.string c.key) (ents (pre ++ c :: post)) j = some (some (j + pre.length, V.ptr c.id 0))
  | [], c, post, j, _ => by
    have hk : keyEq (.string c.key) (.string c.key) = some true := by simp only [keyEq]; rw [ba_beq]; simp
    have e : ents ([] ++ c :: post) = (V.sc (.string c.key), V.ptr c.id 0) :: ents post := rfl
    rw [e, mfind, hk]; rfl
  | d :: pre, c, post, j, h => by
    have h1 : ¬ d.key = c.key := h d (by simp)
    have h2 : ¬ c.key = d.key := fun e => h1 e.symm
    have hk : keyEq (.string c.key) (.string d.key) = some false := by simp only [keyEq]; rw [ba_beq, decide_eq_false h2]
    have e : ents (d :: pre ++ c :: post) = (V.sc (.string d.key), V.ptr d.id 0) :: ents (pre ++ c :: post) := rfl
    rw [e, mfind, hk]
    show mfind _ _ _ = _
    rw [find_yes pre c post (j + 1) fun x hx => h x (List.mem_cons_of_mem _ hx)]
    simp only [List.length_cons, Option.some.injEq, Prod.mk.injEq, and_true]
    omega
end Go.Proofs.YtkbheoganajhaaaDoor.Vm
set_option maxRecDepth 10000
set_option linter.unusedVariables false
set_option linter.unusedSimpArgs false
namespace Go.Proofs.YtkbheoganajhaaaDoor.Vm
open Go Go.Proofs
def selA (ls : List Line) (k : ByteArray) : List Int := (ls.filter fun l => decide (l.cur = k)).map (·.amt)
def selB (ls : List Line) (k : ByteArray) : List Int := (ls.filter fun l => decide (l.cur = k)).map (·.base)
structure Tab (cs : List Col) (ls : List Line) : Prop where
  a : ∀ c ∈ cs, c.A = selA ls c.key ∧ c.B = selB ls c.key ∧ ∃ l ∈ ls, l.cur = c.key
  b : ∀ l ∈ ls, ∃ c ∈ cs, c.key = l.cur
theorem currency_ok (l : Line) : L.pl 74 [encL l] = some (.ret (.str l.cur)) := by
  refine W_of (pl_w k74_eq ?_)
  simp only [k74, encL]
  repeat' (first | (simp -implicitDefEqProofs only [ze, zd, simprocAttr]) | (with_reducible refine wgd_cases ?_ ?_ <;> intro hb) | (with_reducible refine wcond_cases ?_ ?_ <;> intro hb) | (with_reducible refine qd_i (by kernel_rfl) ?_) | (with_reducible refine W_itn_cases ?_ ?_; omega))
theorem Grow.upd {st : St} {nx nx' e j : Nat} {xs : List V} {v : V} (h : Grow st nx e xs v) (hj : nx ≤ j) (hn : nx ≤ nx') (o : Option Ob) : Grow (upd st j o) nx' e xs v := by
  rcases h with h | ⟨r, h1, h2, h3, h4⟩
  · exact .inl h
  · exact .inr ⟨r, h1, by omega, h3, by rw [upd_at, if_neg (by omega)]; exact h4⟩
theorem Cols.upd {st : St} {nx nx' mid j : Nat} {cs : List Col} (h : Cols st nx mid cs) (hj : nx ≤ j) (hn : nx ≤ nx') (o : Option Ob) : Cols (upd st j o) nx' mid cs :=
  ⟨by rw [upd_at, if_neg (by have := h.lt; omega)]; exact h.tab, by have := h.lt; omega,
   fun c hc => (h.ok c hc).same hn (by rw [upd_at, if_neg (by have := (h.ok c hc).id_lt; omega)]) (by rw [upd_at, if_neg (by have := (h.ok c hc).a_lt; omega)]) (by rw [upd_at, if_neg (by have := (h.ok c hc).b_lt; omega)]), h.nd, h.keys⟩
theorem Cols.le {st : St} {nx nx' mid : Nat} {cs : List Col} (h : Cols st nx mid cs) (hn : nx ≤ nx') : Cols st nx' mid cs :=
  ⟨h.tab, by have := h.lt; omega, fun c hc => (h.ok c hc).same hn rfl rfl rfl, h.nd, h.keys⟩
theorem Grow.le {st : St} {nx nx' e : Nat} {xs : List V} {v : V} (h : Grow st nx e xs v) (hn : nx ≤ nx') : Grow st nx' e xs v := by
  rcases h with h | ⟨r, h1, h2, h3, h4⟩
  · exact .inl h
  · exact .inr ⟨r, h1, by omega, h3, h4⟩
theorem selA_app (ls : List Line) (l : Line) (k : ByteArray) : selA (ls ++ [l]) k = if l.cur = k then selA ls k ++ [l.amt] else selA ls k := by
  by_cases h : l.cur = k <;> simp [selA, List.filter_append, h]
theorem selB_app (ls : List Line) (l : Line) (k : ByteArray) : selB (ls ++ [l]) k = if l.cur = k then selB ls k ++ [l.base] else selB ls k := by
  by_cases h : l.cur = k <;> simp [selB, List.filter_append, h]
theorem Tab.old {pre post : List Col} {c : Col} {ls : List Line} {l : Line} (h : Tab (pre ++ c :: post) ls) (hk : ((pre ++ c :: post).map (·.key)).Nodup) (e : c.key = l.cur) : Tab (pre ++ ⟨c.key, c.id, c.A ++ [l.amt], c.B ++ [l.base], c.ra, c.rb⟩ :: post) (ls ++ [l]) := by
  have hne : ∀ d, d ∈ pre ∨ d ∈ post → ¬ l.cur = d.key := by
    rw [List.map_append, List.map_cons, List.nodup_append] at hk
    intro d hd e2
    rcases hd with hd | hd
    · exact hk.2.2 d.key (List.mem_map_of_mem hd) c.key (by simp) (by rw [← e2, e])
    · have := hk.2.1
      rw [List.nodup_cons] at this
      exact this.1 (List.mem_map.mpr ⟨d, hd, by rw [← e2, e]⟩)
  have old : ∀ d, d ∈ pre ∨ d ∈ post → d.A = selA (ls ++ [l]) d.key ∧ d.B = selB (ls ++ [l]) d.key ∧ ∃ l2 ∈ ls ++ [l], l2.cur = d.key := by
    intro d hd
    have hd2 := h.a d (by rcases hd with hd | hd; exact List.mem_append.mpr (.inl hd); exact List.mem_append.mpr (.inr (List.mem_cons_of_mem _ hd)))
    rw [selA_app, selB_app, if_neg (hne d hd), if_neg (hne d hd)]
    obtain ⟨g1, g2, l2, g3, g4⟩ := hd2
    exact ⟨g1, g2, l2, List.mem_append.mpr (.inl g3), g4⟩
  refine ⟨fun d hd => ?_, fun l2 hl2 => ?_⟩
  · rcases List.mem_append.mp hd with hd | hd
    · exact old d (.inl hd)
    · rcases List.mem_cons.mp hd with rfl | hd
      · have hc := h.a c (by simp)
        refine ⟨?_, ?_, l, by simp, e.symm⟩
        · show c.A ++ [l.amt] = selA (ls ++ [l]) c.key; rw [selA_app, if_pos e.symm, hc.1]
        · show c.B ++ [l.base] = selB (ls ++ [l]) c.key; rw [selB_app, if_pos e.symm, hc.2.1]
      · exact old d (.inr hd)
  · rcases List.mem_append.mp hl2 with hl2 | hl2
    · obtain ⟨d, hd, hd2⟩ := h.b l2 hl2
      rcases List.mem_append.mp hd with hd | hd
      · exact ⟨d, List.mem_append.mpr (.inl hd), hd2⟩
      · rcases List.mem_cons.mp hd with rfl | hd
        · exact ⟨_, List.mem_append.mpr (.inr List.mem_cons_self), hd2⟩
        · exact ⟨d, List.mem_append.mpr (.inr (List.mem_cons_of_mem _ hd)), hd2⟩
    · have : l2 = l := by simpa using hl2
      subst this
      exact ⟨_, List.mem_append.mpr (.inr List.mem_cons_self), e⟩
theorem Tab.more {cs : List Col} {ls : List Line} {l : Line} (h : Tab cs ls) (hno : ∀ d ∈ cs, d.key ≠ l.cur) (id ra rb : Nat) : Tab (cs ++ [⟨l.cur, id, [l.amt], [l.base], ra, rb⟩]) (ls ++ [l]) := by
  have hnl : ∀ l2 ∈ ls, ¬ l2.cur = l.cur := fun l2 hl2 e => by
    obtain ⟨d, hd, hd2⟩ := h.b l2 hl2
    exact hno d hd (by rw [hd2, e])
  refine ⟨fun d hd => ?_, fun l2 hl2 => ?_⟩
  · rcases List.mem_append.mp hd with hd | hd
    · have hd2 := h.a d hd
      have hne : ¬ l.cur = d.key := fun e => hno d hd e.symm
      rw [selA_app, selB_app, if_neg hne, if_neg hne]
      obtain ⟨g1, g2, l2, g3, g4⟩ := hd2
      exact ⟨g1, g2, l2, List.mem_append.mpr (.inl g3), g4⟩
    · have : d = ⟨l.cur, id, [l.amt], [l.base], ra, rb⟩ := by simpa using hd
      subst this
      refine ⟨?_, ?_, l, by simp, rfl⟩
      · show [l.amt] = selA (ls ++ [l]) l.cur
        rw [selA_app, if_pos rfl]
        have : selA ls l.cur = [] := by simp only [selA, List.map_eq_nil_iff, List.filter_eq_nil_iff]; intro a ha; simpa using hnl a ha
        rw [this]; rfl
      · show [l.base] = selB (ls ++ [l]) l.cur
        rw [selB_app, if_pos rfl]
        have : selB ls l.cur = [] := by simp only [selB, List.map_eq_nil_iff, List.filter_eq_nil_iff]; intro a ha; simpa using hnl a ha
        rw [this]; rfl
  · rcases List.mem_append.mp hl2 with hl2 | hl2
    · obtain ⟨d, hd, hd2⟩ := h.b l2 hl2
      exact ⟨d, List.mem_append.mpr (.inl hd), hd2⟩
    · have : l2 = l := by simpa using hl2
      subst this
      exact ⟨⟨l2.cur, id, [l2.amt], [l2.base], ra, rb⟩, List.mem_append.mpr (.inr (List.mem_singleton.mpr rfl)), rfl⟩
theorem Grow.keep {st st' : St} {nx nx' : Nat} {xs : List V} {v : V} {c : Col} (h : Grow st nx 9 xs v) (hc : ColOk st nx c) (hn : nx ≤ nx') (hk : ∀ i, i < nx → i ≠ c.id → i ≠ c.ra → i ≠ c.rb → st' i = st i) : Grow st' nx' 9 xs v := by
  rcases h with h | ⟨r, h1, h2, h3, h4⟩
  · exact .inl h
  · refine .inr ⟨r, h1, by omega, h3, ?_⟩
    rw [hk r h2 (fun e => by rw [e, hc.cell] at h4; cases h4) (fun e => by rw [e, hc.a] at h4; simp at h4) (fun e => by rw [e, hc.b] at h4; simp at h4)]
    exact h4
theorem sel_len (ls : List Line) (k : ByteArray) : (selA ls k).length ≤ ls.length ∧ (selB ls k).length ≤ ls.length := by
  simp only [selA, selB, List.length_map]
  exact ⟨List.length_filter_le _ _, List.length_filter_le _ _⟩
theorem columns_ok (ls : List Line) (r : Nat) {st : St} {nx : Nat} (h8 : 8 ≤ nx) (hl : ls.length < 1000000) :
    W (L.hp 73 [.list 61 (ls.map encL) r, .fn (.func 74) [] []] st nx) fun q => ∃ st' nx' mid cs v, q = .ret (.tup [.map mid, v]) st' nx' ∧ nx ≤ nx' ∧ cs.length ≤ ls.length ∧ Cols st' nx' mid cs ∧ Tab cs ls ∧ Grow st' nx' 9 (cs.map fun c => V.str c.key) v := by
  refine hp_w k73_eq ?_
  simp only [k73]
  repeat' (first | (simp -implicitDefEqProofs only [ze, zd, simprocAttr, List.length_map]) | (with_reducible refine wgd_cases ?_ ?_ <;> intro hb) | (with_reducible refine wcond_cases ?_ ?_ <;> intro hb) | (with_reducible refine qd_i (by kernel_rfl) ?_) | (with_reducible refine W_itn_cases ?_ ?_; omega))
  refine loop_w (fun n tm st' nx' => ∃ (i mid : Nat) (cs : List Col) (v : V), n = ls.length - i ∧ i ≤ ls.length ∧ tm 14 = .i64 i ∧ tm 13 = .i64 ls.length ∧ tm 12 = .list 61 (ls.map encL) r ∧ tm 1 = .fn (.func 74) [] [] ∧ tm 6 = .map mid ∧ tm 7 = v ∧ nx ≤ nx' ∧ cs.length ≤ i ∧
      Cols st' nx' mid cs ∧ Tab cs (ls.take i) ∧ Grow st' nx' 9 (cs.map fun c => V.str c.key) v) ls.length ⟨0, nx + 16, [], _, by omega, by omega, ?_, ?_, ?_, ?_, ?_, rfl, by omega, Nat.le_refl _, ?_, ?_, ?_⟩ ?_
  · simp -implicitDefEqProofs only [ze, zd, simprocAttr]; try rfl
  · simp -implicitDefEqProofs only [ze, zd, simprocAttr]
  · simp -implicitDefEqProofs only [ze, zd, simprocAttr]
  · simp -implicitDefEqProofs only [ze, zd, simprocAttr]
  · simp -implicitDefEqProofs only [ze, zd, simprocAttr]
  · exact ⟨by simp [upd_at, ents], by omega, by simp, by simp [names], by simp⟩
  · exact ⟨by simp, by simp⟩
  · exact .inl ⟨rfl, by simp -implicitDefEqProofs only [ze, zd, simprocAttr]⟩
  rintro n tm st' nx' ⟨i, mid, cs, v, hn, hi2, h14, h13, h12, h1, h6, h7, hnx, hcl, hcs, htab, hg⟩
  simp only [k73_l0]
  have hmlt := hcs.lt
  by_cases hlt : i < ls.length
  · obtain ⟨l, hl2⟩ := get_lt hlt
    have hd : decide ((i : Int) < (ls.length : Int)) = true := decide_eq_true (by omega)
    have hcur := currency_ok l
    simp only [encL] at hcur
    have e1 : ls.take (i + 1) = ls.take i ++ [l] := by rw [List.take_add_one, hl2]; rfl
    have hm : ∀ j, (mid = nx' + j) = False := fun j => eq_false (by omega)
    have hm' : ∀ j, (nx' + j = mid) = False := fun j => eq_false (by omega)
    have hs : ∀ j, (nx' = nx' + (j + 1)) = False := fun j => eq_false (by omega)
    have hxc := fun (st : St) (i0 nx : Nat) (l : List V) => xcall_pl (P := Tryd.prog) (E := L) (st := st) (i0 := i0) (nx := nx) (g := 74) (l := l) (by kernel_rfl) rfl
    by_cases hin : ∃ c ∈ cs, c.key = l.cur
    · obtain ⟨c, hc, hck⟩ := hin
      obtain ⟨pre, post, rfl⟩ := List.append_of_mem hc
      have hpre : ∀ d ∈ pre, d.key ≠ c.key := by
        have := hcs.keys
        rw [List.map_append, List.nodup_append] at this
        intro d hd e
        exact this.2.2 d.key (List.mem_map_of_mem hd) c.key (by simp) e
      have hf := find_yes pre c post 0 hpre
      rw [hck] at hf
      have htb := hcs.tab
      repeat' (first | (simp -implicitDefEqProofs only [ze, zd, simprocAttr, h14, h13, h12, h1, h6, h7, hd, hl2, encL, hxc, hcur, nr_pur, hm, htb, hf]) | (with_reducible refine wgd_cases ?_ ?_ <;> intro hb) | (with_reducible refine wcond_cases ?_ ?_ <;> intro hb) | (with_reducible refine qd_i (by kernel_rfl) ?_) | (with_reducible refine W_itn_cases ?_ ?_; omega))
      have hcs2 := (hcs.upd (j := nx' + 24) (nx' := nx') (by omega) (Nat.le_refl _) (some (Ob.cells [V.sc (Value.string { data := #[] }), V.sc (Value.string { data := #[] }), V.sc (Value.int IntKind.i64 0), V.sc (Value.int IntKind.i64 0), V.sc (Value.string { data := #[] }), V.sc (Value.string { data := #[] }), V.list 0 [] 1]))).upd (j := nx' + 24) (nx' := nx' + 144) (by omega) (by omega) (some (Ob.cells [V.str l.acc, V.str l.cur, V.i64 l.amt, V.i64 l.base, V.str l.par, V.str l.pty, V.list (te l.tr 97) (List.map encT l.tags) (nr l.tr)]))
      have hca := htab.a c hc
      have hsl := sel_len (ls.take i) c.key
      have htl : (ls.take i).length ≤ ls.length := by rw [List.length_take]; omega
      refine W_hp (add_old (hcs2.ok c hc) l (by rw [hca.1]; omega) (by rw [hca.2.1]; omega)) ?_
      rintro _ ⟨sa, na, rfl, hna, hco, hka⟩
      repeat' (first | (simp -implicitDefEqProofs only [ze, zd, simprocAttr, h14, h13, h12, h1, h6, h7]) | (with_reducible refine wgd_cases ?_ ?_ <;> intro hb) | (with_reducible refine wcond_cases ?_ ?_ <;> intro hb) | (with_reducible refine qd_i (by kernel_rfl) ?_) | (with_reducible refine W_itn_cases ?_ ?_; omega))
      refine ⟨ls.length - (i + 1), by omega, i + 1, mid, pre ++ ⟨c.key, c.id, c.A ++ [l.amt], c.B ++ [l.base], c.ra, c.rb⟩ :: post, v, rfl, by omega, up64 (by omega), rfl, rfl, by omega, by simp only [List.length_append, List.length_cons] at hcl ⊢; omega, ?_, ?_, ?_⟩
      · exact (hcs2.old hna hco rfl rfl rfl rfl hka).le (by omega)
      · rw [e1]; exact htab.old hcs.keys hck
      · have hg2 := (hg.upd (j := nx' + 24) (nx' := nx') (by omega) (Nat.le_refl _) (some (Ob.cells [V.sc (Value.string { data := #[] }), V.sc (Value.string { data := #[] }), V.sc (Value.int IntKind.i64 0), V.sc (Value.int IntKind.i64 0), V.sc (Value.string { data := #[] }), V.sc (Value.string { data := #[] }), V.list 0 [] 1]))).upd (j := nx' + 24) (nx' := nx' + 144) (by omega) (by omega) (some (Ob.cells [V.str l.acc, V.str l.cur, V.i64 l.amt, V.i64 l.base, V.str l.par, V.str l.pty, V.list (te l.tr 97) (List.map encT l.tags) (nr l.tr)]))
        have hg3 := hg2.keep (hcs2.ok c hc) hna hka
        have e3 : (pre ++ ⟨c.key, c.id, c.A ++ [l.amt], c.B ++ [l.base], c.ra, c.rb⟩ :: post).map (fun c => V.str c.key) = (pre ++ c :: post).map fun c => V.str c.key := by simp
        rw [e3]
        exact hg3.le (by omega)
    · have hno : ∀ d ∈ cs, d.key ≠ l.cur := fun d hd e => hin ⟨d, hd, e⟩
      have hf := find_no cs l.cur 0 hno
      have hf2 : ∀ n2, mfind (.string l.cur) (ents cs ++ [(V.sc (.string l.cur), V.ptr n2 0)]) 0 = some (some (cs.length, V.ptr n2 0)) := fun n2 => by
        have := find_yes cs ⟨l.cur, n2, [], [], 0, 0⟩ [] 0 hno
        simpa [ents] using this
      have htb := hcs.tab
      have kl : (cs.map fun c => V.str c.key).length = cs.length := by simp
      rcases hg with ⟨hgn, rfl⟩ | ⟨rk, hk8, hkn, rfl, hkt⟩
      · have hcn : cs = [] := by simpa using hgn
        subst hcn
        simp only [ents, List.map_nil, List.nil_append] at hf hf2 htb
        repeat' (first | (simp -implicitDefEqProofs only [ze, zd, simprocAttr, h14, h13, h12, h1, h6, h7, hd, hl2, encL, hxc, hcur, nr_pur, hm, hm', hs, htb, hf, hf2]) | (with_reducible refine wgd_cases ?_ ?_ <;> intro hb) | (with_reducible refine wcond_cases ?_ ?_ <;> intro hb) | (with_reducible refine qd_i (by kernel_rfl) ?_) | (with_reducible refine W_itn_cases ?_ ?_; omega))
        refine W_hp (add_new l.cur (by omega) (by omega) (by simp [upd_at, hm, hm', hs]) l) ?_
        rintro _ ⟨sa, na, ra, rb, rfl, hna, hco, hra, hrb, hka⟩
        repeat' (first | (simp -implicitDefEqProofs only [ze, zd, simprocAttr, h14, h13, h12, h1, h6, h7]) | (with_reducible refine wgd_cases ?_ ?_ <;> intro hb) | (with_reducible refine wcond_cases ?_ ?_ <;> intro hb) | (with_reducible refine qd_i (by kernel_rfl) ?_) | (with_reducible refine W_itn_cases ?_ ?_; omega))
        refine ⟨ls.length - (i + 1), by omega, i + 1, mid, [] ++ [⟨l.cur, nx' + 128, [l.amt], [l.base], ra, rb⟩], _, rfl, by omega, up64 (by omega), rfl, rfl, by omega, by simp, ?_, ?_, ?_⟩
        · refine (hcs.more (by omega) hco (Nat.le_add_right _ _) (show nx' ≤ ra by omega) (show nx' ≤ rb by omega) ⟨by show nx' + 128 ≠ ra; omega, by show nx' + 128 ≠ rb; omega⟩ (by simp) ?_ (by simp [names])).le (Nat.le_add_right _ _)
          rw [hka mid (by omega) (by omega)]
          simp [upd_at, hm, ents]
        · rw [e1]; exact htab.more hno _ _ _
        · refine .inr ⟨nx' + 168, by omega, by omega, rfl, ?_⟩
          rw [hka _ (by omega) (by omega)]
          simp [upd_at]
      · have hr0 : (rk = 0) = False := eq_false (by omega)
        have hr1 : (rk = 1) = False := eq_false (by omega)
        have hrn : ∀ j, (rk = nx' + j) = False := fun j => eq_false (by omega)
        have hrn' : ∀ j, (nx' + j = rk) = False := fun j => eq_false (by omega)
        have hrm : (rk = mid) = False := eq_false fun e => by rw [e, hcs.tab] at hkt; cases hkt
        have hrm' : (mid = rk) = False := eq_false fun e => by rw [← e, hcs.tab] at hkt; cases hkt
        rw [kl] at hkt
        repeat' (first | (simp -implicitDefEqProofs only [ze, zd, simprocAttr, h14, h13, h12, h1, h6, h7, hd, hl2, encL, hxc, hcur, nr_pur, hm, hm', hs, htb, hf, hf2, hr0, hr1, hrn, hrn', hrm, hrm', hkt, kl, List.length_map]) | (with_reducible refine wgd_cases ?_ ?_ <;> intro hb) | (with_reducible refine wcond_cases ?_ ?_ <;> intro hb) | (with_reducible refine qd_i (by kernel_rfl) ?_) | (with_reducible refine W_itn_cases ?_ ?_; omega))
        refine W_hp (add_new l.cur (by omega) (by omega) (by simp [upd_at, hm, hm', hs, hrn, hrn']) l) ?_
        rintro _ ⟨sa, na, ra, rb, rfl, hna, hco, hra, hrb, hka⟩
        repeat' (first | (simp -implicitDefEqProofs only [ze, zd, simprocAttr, h14, h13, h12, h1, h6, h7]) | (with_reducible refine wgd_cases ?_ ?_ <;> intro hb) | (with_reducible refine wcond_cases ?_ ?_ <;> intro hb) | (with_reducible refine qd_i (by kernel_rfl) ?_) | (with_reducible refine W_itn_cases ?_ ?_; omega))
        refine ⟨ls.length - (i + 1), by omega, i + 1, mid, cs ++ [⟨l.cur, nx' + 128, [l.amt], [l.base], ra, rb⟩], _, rfl, by omega, up64 (by omega), rfl, rfl, by omega, by simp; omega, ?_, ?_, ?_⟩
        · refine (hcs.more (by omega) hco (Nat.le_add_right _ _) (show nx' ≤ ra by omega) (show nx' ≤ rb by omega) ⟨by show nx' + 128 ≠ ra; omega, by show nx' + 128 ≠ rb; omega⟩ hno ?_ ?_).le (Nat.le_add_right _ _)
          · rw [hka mid (by omega) (by omega)]
            simp [upd_at, hm, hrm', ents]
          · intro j hj
            have h1 := names_lt hcs j hj
            have h2 : ¬ j = mid := fun e => mid_not hcs (e ▸ hj)
            have h3 : ¬ j = rk := fun e => by
              subst e
              simp only [names, List.mem_flatMap, List.mem_cons, List.not_mem_nil, or_false] at hj
              obtain ⟨c, hc, h5⟩ := hj
              have h6 := hcs.ok c hc
              rcases h5 with e | e | e
              · rw [e, h6.cell] at hkt; cases hkt
              · rw [e, h6.a] at hkt; simp at hkt
              · rw [e, h6.b] at hkt; simp at hkt
            have h4 : ∀ k, ¬ j = nx' + k := fun k => by omega
            rw [hka j (by omega) (h4 _)]
            simp [upd_at, h2, h3, h4]
        · rw [e1]; exact htab.more hno _ _ _
        · refine .inr ⟨rk, by omega, by omega, by simp, ?_⟩
          rw [hka _ (by omega) (by omega)]
          simp [upd_at]
  · have hd : decide ((i : Int) < (ls.length : Int)) = false := decide_eq_false (by omega)
    have hie : i = ls.length := by omega
    rw [hie, List.take_length] at htab
    repeat' (first | (simp -implicitDefEqProofs only [ze, zd, simprocAttr, h14, h13, h6, h7, hd, k73_t0]) | (with_reducible refine wgd_cases ?_ ?_ <;> intro hb) | (with_reducible refine wcond_cases ?_ ?_ <;> intro hb) | (with_reducible refine qd_i (by kernel_rfl) ?_) | (with_reducible refine W_itn_cases ?_ ?_; omega))
    exact ⟨_, _, mid, cs, v, rfl, by omega, by omega, hcs.le (by omega), htab, hg.le (by omega)⟩
end Go.Proofs.YtkbheoganajhaaaDoor.Vm
set_option maxRecDepth 10000
set_option linter.unusedVariables false
set_option linter.unusedSimpArgs false
namespace Go.Proofs.YtkbheoganajhaaaDoor.Vm
open Go Go.Proofs
def okAt (ls : List Line) (k : ByteArray) : Bool := sumOk (selA ls k) 0 && sumOk (selB ls k) 0
def balS (ls : List Line) : Bool := ls.all fun l => okAt ls l.cur
def amts (ls : List Line) : Prop := ∀ l ∈ ls, i64r l.amt ∧ i64r l.base
theorem sel_mem {ls : List Line} (h : amts ls) (k : ByteArray) : (∀ x ∈ selA ls k, i64r x) ∧ ∀ x ∈ selB ls k, i64r x := by
  constructor
  · intro x hx
    simp only [selA, List.mem_map, List.mem_filter] at hx
    obtain ⟨l, ⟨hl, _⟩, rfl⟩ := hx
    exact (h l hl).1
  · intro x hx
    simp only [selB, List.mem_map, List.mem_filter] at hx
    obtain ⟨l, ⟨hl, _⟩, rfl⟩ := hx
    exact (h l hl).2
theorem balanced_ok (ls : List Line) (r : Nat) (ha : amts ls) (hl : ls.length < 1000000) : L.pl 47 [.list 61 (ls.map encL) r] = some (.ret (.bool (balS ls))) := by
  refine W_of (pl_w k47_eq ?_)
  simp only [k47]
  repeat' (first | (simp -implicitDefEqProofs only [ze, zd, simprocAttr]) | (with_reducible refine wgd_cases ?_ ?_ <;> intro hb) | (with_reducible refine wcond_cases ?_ ?_ <;> intro hb) | (with_reducible refine qd_i (by kernel_rfl) ?_) | (with_reducible refine W_itn_cases ?_ ?_; omega))
  refine W_hp (columns_ok ls r (by omega) hl) ?_
  rintro _ ⟨st, nx, mid, cs, v, rfl, hnx, hcl, hcs, htab, hg⟩
  have hbal : (cs.all fun c => okAt ls c.key) = balS ls := by
    rw [Bool.eq_iff_iff, balS, List.all_eq_true, List.all_eq_true]
    constructor
    · intro h l hl
      obtain ⟨c, hc, hk⟩ := htab.b l hl
      rw [← hk]; exact h c hc
    · intro h c hc
      obtain ⟨_, _, l, hl, hk⟩ := htab.a c hc
      rw [← hk]; exact h l hl
  have hlenv : ∃ e xs rk, v = .list e xs rk ∧ xs.length = cs.length ∧ (∀ (i : Nat) (c : Col), cs[i]? = some c → e = 9 ∧ xs[i]? = some (V.str c.key)) := by
    rcases hg with ⟨h1, h2⟩ | ⟨rk, _, _, h3, _⟩
    · have : cs = [] := by simpa using h1
      subst this
      exact ⟨0, [], 1, h2, rfl, fun i c h => by simp at h⟩
    · exact ⟨_, _, rk, h3, by simp, fun i c h => ⟨rfl, by simp [h]⟩⟩
  obtain ⟨e, xs, rk, rfl, hxl, hxs⟩ := hlenv
  repeat' (first | (simp -implicitDefEqProofs only [ze, zd, simprocAttr, hxl]) | (with_reducible refine wgd_cases ?_ ?_ <;> intro hb) | (with_reducible refine wcond_cases ?_ ?_ <;> intro hb) | (with_reducible refine qd_i (by kernel_rfl) ?_) | (with_reducible refine W_itn_cases ?_ ?_; omega))
  refine loop_w (fun n tm st' nx' => ∃ i : Nat, n = cs.length - i ∧ i ≤ cs.length ∧ tm 17 = .i64 i ∧ tm 16 = .i64 cs.length ∧ tm 15 = .list e xs rk ∧ tm 3 = .map mid ∧ st' = st ∧ nx ≤ nx' ∧ ∀ j, j < i → ∀ c, cs[j]? = some c → okAt ls c.key = true) cs.length ⟨0, by omega, by omega, ?_, ?_, ?_, ?_, rfl, by omega, by omega⟩ ?_
  · simp -implicitDefEqProofs only [ze, zd, simprocAttr]; try rfl
  · simp -implicitDefEqProofs only [ze, zd, simprocAttr]
  · simp -implicitDefEqProofs only [ze, zd, simprocAttr]
  · simp -implicitDefEqProofs only [ze, zd, simprocAttr]
  rintro n tm st' nx' ⟨i, hn, hi2, h17, h16, h15, h3, rfl, hnx', hp⟩
  simp only [k47_l0]
  by_cases hlt : i < cs.length
  · obtain ⟨c, hc⟩ := get_lt hlt
    have hcm := List.mem_of_getElem? hc
    obtain ⟨he, hx⟩ := hxs i c hc
    subst he
    have hd : decide ((i : Int) < (cs.length : Int)) = true := decide_eq_true (by omega)
    have hco := hcs.ok c hcm
    obtain ⟨hA, hB, _⟩ := htab.a c hcm
    have hsm := sel_mem ha c.key
    have hsl := sel_len ls c.key
    have htb := hcs.tab
    obtain ⟨pre, post, hsplit⟩ := List.append_of_mem hcm
    have hf : ∃ j, mfind (.string c.key) (ents cs) 0 = some (some (j, V.ptr c.id 0)) := by
      subst hsplit
      refine ⟨_, find_yes pre c post 0 ?_⟩
      have := hcs.keys
      rw [List.map_append, List.nodup_append] at this
      intro d hd e
      exact this.2.2 d.key (List.mem_map_of_mem hd) c.key (by simp) e
    obtain ⟨j, hf⟩ := hf
    repeat' (first | (simp -implicitDefEqProofs only [ze, zd, simprocAttr, h17, h16, h15, h3, hd, hx, htb, hf]) | (with_reducible refine wgd_cases ?_ ?_ <;> intro hb) | (with_reducible refine wcond_cases ?_ ?_ <;> intro hb) | (with_reducible refine qd_i (by kernel_rfl) ?_) | (with_reducible refine W_itn_cases ?_ ?_; omega))
    refine W_hp (both_ok (A := c.A) (B := c.B) (by have := hco.id_lt; omega) hco.cell (by rw [hA]; exact hsm.1) (by rw [hB]; exact hsm.2) (by rw [hA]; omega) (by rw [hB]; omega) 0 (by omega) (by omega)) ?_
    rintro _ ⟨na, rfl, hna⟩
    have hok : (sumOk c.A 0 && sumOk c.B 0) = okAt ls c.key := by rw [hA, hB]; rfl
    rw [hok]
    cases hokv : okAt ls c.key with
    | true =>
      repeat' (first | (simp -implicitDefEqProofs only [ze, zd, simprocAttr, h17, h16, h15, h3]) | (with_reducible refine wgd_cases ?_ ?_ <;> intro hb) | (with_reducible refine wcond_cases ?_ ?_ <;> intro hb) | (with_reducible refine qd_i (by kernel_rfl) ?_) | (with_reducible refine W_itn_cases ?_ ?_; omega))
      refine ⟨cs.length - (i + 1), by omega, i + 1, rfl, by omega, up64 (by omega), by omega, fun j hj d hd2 => ?_⟩
      rcases Nat.lt_succ_iff_lt_or_eq.mp hj with h | rfl
      · exact hp j h d hd2
      · rw [hc] at hd2; obtain rfl := Option.some.inj hd2; exact hokv
    | false =>
      repeat' (first | (simp -implicitDefEqProofs only [ze, zd, simprocAttr, h17, h16, h15, h3]) | (with_reducible refine wgd_cases ?_ ?_ <;> intro hb) | (with_reducible refine wcond_cases ?_ ?_ <;> intro hb) | (with_reducible refine qd_i (by kernel_rfl) ?_) | (with_reducible refine W_itn_cases ?_ ?_; omega))
      exact ret_b (by rw [← hbal]; exact (all_not hc hokv).symm)
  · have hd : decide ((i : Int) < (cs.length : Int)) = false := decide_eq_false (by omega)
    repeat' (first | (simp -implicitDefEqProofs only [ze, zd, simprocAttr, h17, h16, hd, k47_t0]) | (with_reducible refine wgd_cases ?_ ?_ <;> intro hb) | (with_reducible refine wcond_cases ?_ ?_ <;> intro hb) | (with_reducible refine qd_i (by kernel_rfl) ?_) | (with_reducible refine W_itn_cases ?_ ?_; omega))
    refine ret_b ?_
    rw [← hbal]
    exact (all_get fun j hj c hc => hp j (by omega) c hc).symm
def firstS : List Line → Nat → Option (Nat × Int)
  | [], _ => none
  | l :: r, i => if lineS l = 0 then firstS r (i + 1) else some (i, lineS l)
def checkS (e : Entry) : Int × Int :=
  if headS e = 0 then (match firstS e.lines 0 with
    | some (i, er) => ((i : Int), er)
    | none => if balS e.lines then (-1, 0) else (-1, 15))
  else (-1, headS e)
theorem first_none : ∀ (l : List Line) (k : Nat), (∀ j, j < l.length → ∀ x, l[j]? = some x → lineS x = 0) → firstS l k = none
  | [], _, _ => rfl
  | x :: r, k, h => by
    have h0 := h 0 (by simp) x rfl
    rw [firstS, if_pos h0]
    exact first_none r (k + 1) fun j hj y hy => h (j + 1) (by simpa using hj) y (by simpa using hy)
theorem first_some : ∀ (l : List Line) (k i : Nat) (x : Line), (∀ j, j < i → ∀ y, l[j]? = some y → lineS y = 0) → l[i]? = some x → ¬ lineS x = 0 → firstS l k = some (k + i, lineS x)
  | [], _, _, _, _, h, _ => by simp at h
  | y :: r, k, 0, x, _, h, hx => by
    have : y = x := by simpa using h
    subst this
    rw [firstS, if_neg hx]; rfl
  | y :: r, k, i + 1, x, hp, h, hx => by
    have h0 := hp 0 (by omega) y rfl
    rw [firstS, if_pos h0, first_some r (k + 1) i x (fun j hj z hz => hp (j + 1) (by omega) z (by simpa using hz)) (by simpa using h) hx]
    congr 2; omega
theorem check_ok (e : Entry) (hs : smallE e) (ha : amts e.lines) : L.pl 27 [encE e] = some (.ret (.tup [.i64 (checkS e).1, .i64 (checkS e).2])) := by
  have hh := head_ok e hs
  simp only [encE] at hh
  refine W_of (pl_w k27_eq ?_)
  simp only [k27, encE]
  by_cases h0 : headS e = 0
  · have hd0 : decide (headS e = 0) = true := decide_eq_true h0
    have hlen : e.lines.length ≤ 100 := by
      unfold headS at h0
      repeat' (split at h0 <;> first | omega | skip)
    have hlr : e.lr = false := by
      cases h : e.lr
      · rfl
      · have h1 := hs.nil h
        unfold headS at h0
        rw [h1] at h0
        repeat' (split at h0 <;> first | omega | skip)
        all_goals simp_all
    rw [hlr] at hh ⊢
    simp only [te_f] at hh ⊢
    have hbl := balanced_ok e.lines (nr false) ha (by omega)
    repeat' (first | (simp -implicitDefEqProofs only [ze, zd, simprocAttr, hh, nr_pur, h0, List.length_map]) | (with_reducible refine wgd_cases ?_ ?_ <;> intro hb) | (with_reducible refine wcond_cases ?_ ?_ <;> intro hb) | (with_reducible refine qd_i (by kernel_rfl) ?_) | (with_reducible refine W_itn_cases ?_ ?_; omega))
    refine loop_w (fun n tm st nx => ∃ i : Nat, n = e.lines.length - i ∧ i ≤ e.lines.length ∧ tm 16 = .i64 i ∧ tm 15 = .i64 e.lines.length ∧ tm 14 = .list 61 (e.lines.map encL) (nr false) ∧ tm 1 = .ptr 8 0 ∧ 9 ≤ nx ∧ st 8 = some (.cells [.i64 e.no, .str e.ent, .i64 e.book, .i64 e.val, .i64 e.kind, .str e.ref, .str e.who, .i64 e.rev, .list 61 (e.lines.map encL) (nr false)]) ∧
      ∀ j, j < i → ∀ x, e.lines[j]? = some x → lineS x = 0) e.lines.length ⟨0, by omega, by omega, ?_, ?_, ?_, ?_, by omega, ?_, by omega⟩ ?_
    · simp -implicitDefEqProofs only [ze, zd, simprocAttr]; try rfl
    · simp -implicitDefEqProofs only [ze, zd, simprocAttr]
    · simp -implicitDefEqProofs only [ze, zd, simprocAttr]
    · simp -implicitDefEqProofs only [ze, zd, simprocAttr]
    · simp -implicitDefEqProofs only [ze, zd, simprocAttr]
    rintro n tm st nx ⟨i, hn, hi2, h16, h15, h14, h1, hnx, hst, hp⟩
    simp only [k27_l0]
    have hnx8 : ∀ j, (8 = nx + j) = False := fun j => eq_false (by omega)
    by_cases hlt : i < e.lines.length
    · obtain ⟨l, hl⟩ := get_lt hlt
      have hd : decide ((i : Int) < (e.lines.length : Int)) = true := decide_eq_true (by omega)
      have hli := line_ok l (hs.lines l (List.mem_of_getElem? hl))
      simp only [encL] at hli
      by_cases hz : lineS l = 0
      · have hdz : decide (lineS l = 0) = true := decide_eq_true hz
        repeat' (first | (simp -implicitDefEqProofs only [ze, zd, simprocAttr, h16, h15, h14, h1, hd, hl, encL, nr_pur, hli, hdz, hnx8, hst]) | (with_reducible refine wgd_cases ?_ ?_ <;> intro hb) | (with_reducible refine wcond_cases ?_ ?_ <;> intro hb) | (with_reducible refine qd_i (by kernel_rfl) ?_) | (with_reducible refine W_itn_cases ?_ ?_; omega))
        refine ⟨e.lines.length - (i + 1), by omega, i + 1, rfl, by omega, up64 (by omega), fun j hj x hx => ?_⟩
        rcases Nat.lt_succ_iff_lt_or_eq.mp hj with h | rfl
        · exact hp j h x hx
        · rw [hl] at hx; obtain rfl := Option.some.inj hx; exact hz
      · have hdz : decide (lineS l = 0) = false := decide_eq_false hz
        repeat' (first | (simp -implicitDefEqProofs only [ze, zd, simprocAttr, h16, h15, h14, h1, hd, hl, encL, nr_pur, hli, hdz, hnx8, hst]) | (with_reducible refine wgd_cases ?_ ?_ <;> intro hb) | (with_reducible refine wcond_cases ?_ ?_ <;> intro hb) | (with_reducible refine qd_i (by kernel_rfl) ?_) | (with_reducible refine W_itn_cases ?_ ?_; omega))
        have hfs := first_some e.lines 0 i l (fun j hj y hy => hp j hj y hy) hl hz
        rw [Nat.zero_add] at hfs
        simp only [checkS, h0, if_true, hfs]
    · have hd : decide ((i : Int) < (e.lines.length : Int)) = false := decide_eq_false (by omega)
      have hfn := first_none e.lines 0 fun j hj x hx => hp j (by omega) x hx
      repeat' (first | (simp -implicitDefEqProofs only [ze, zd, simprocAttr, h16, h15, h14, h1, hd, hst, hbl, nr_pur, k27_t0]) | (with_reducible refine wgd_cases ?_ ?_ <;> intro hb) | (with_reducible refine wcond_cases ?_ ?_ <;> intro hb) | (with_reducible refine qd_i (by kernel_rfl) ?_) | (with_reducible refine W_itn_cases ?_ ?_; omega))
      all_goals simp_all [checkS]
  · have hd0 : decide (headS e = 0) = false := decide_eq_false h0
    repeat' (first | (simp -implicitDefEqProofs only [ze, zd, simprocAttr, hh, nr_pur, hd0]) | (with_reducible refine wgd_cases ?_ ?_ <;> intro hb) | (with_reducible refine wcond_cases ?_ ?_ <;> intro hb) | (with_reducible refine qd_i (by kernel_rfl) ?_) | (with_reducible refine W_itn_cases ?_ ?_; omega))
    all_goals simp_all [checkS]
end Go.Proofs.YtkbheoganajhaaaDoor.Vm
set_option maxRecDepth 10000
set_option linter.unusedVariables false
set_option linter.unusedSimpArgs false
namespace Go.Proofs.YtkbheoganajhaaaDoor.Vm
open Go Go.Proofs
theorem ch_pr (b : UInt8) (h : isCh b = true) : isPr b = true := by
  simp only [isCh, isLet, isDig, isPr, Bool.or_eq_true, Bool.and_eq_true, decide_eq_true_eq] at h ⊢; omega
theorem code_plain {s : ByteArray} (h : codeS s = true) : plainS s = true := by
  simp only [codeS, Bool.and_eq_true, decide_eq_true_eq] at h
  simp only [plainS, Bool.and_eq_true, decide_eq_true_eq]
  refine ⟨by omega, ?_⟩
  rw [List.all_eq_true] at h ⊢
  exact fun b hb => ch_pr b (h.2 b hb)
theorem empty_plain {s : ByteArray} (h : s.size = 0) : plainS s = true := by
  rw [size_zero.mpr h]; rfl
theorem opt_plain {s : ByteArray} (h : optS s = true) : plainS s = true := by
  simp only [optS, Bool.or_eq_true, decide_eq_true_eq] at h
  rcases h with h | h
  · exact empty_plain h
  · exact code_plain h
theorem cur_plain {s : ByteArray} (h : curS s = true) : plainS s = true := by
  simp only [curS, Bool.and_eq_true, decide_eq_true_eq] at h
  simp only [plainS, Bool.and_eq_true, decide_eq_true_eq]
  refine ⟨by omega, ?_⟩
  rw [List.all_eq_true] at h ⊢
  intro b hb
  have := h.2 b hb
  simp only [isUp, isPr, Bool.and_eq_true, decide_eq_true_eq] at this ⊢; omega
theorem line_plain {l : Line} (h : lineS l = 0) (ha : i64r l.amt ∧ i64r l.base) (hn : nilL l) : plainL l := by
  unfold lineS at h
  split at h
  · cases h
  split at h
  · cases h
  split at h
  · cases h
  split at h
  · cases h
  split at h
  · cases h
  rename_i h1 h2 h3 h4 h5
  simp only [Bool.not_eq_false, Bool.and_eq_true] at h1 h2 h3 h5
  simp only [rightS, Bool.and_eq_true, decide_eq_true_eq] at h5
  refine ⟨code_plain h1.1.1, cur_plain h2, ha.1, ha.2, opt_plain h1.1.2, opt_plain h1.2, fun t ht => ?_, by omega, hn⟩
  obtain ⟨j, hj, rfl⟩ := List.getElem_of_mem ht
  have h6 := List.all_eq_true.mp h5.2 j (List.mem_range.mpr hj)
  simp only [tagAt, List.getElem?_eq_getElem hj, Bool.and_eq_true, tagS] at h6
  exact ⟨code_plain h6.1.1, code_plain h6.1.2⟩
theorem first_all : ∀ (l : List Line) (k : Nat), firstS l k = none → ∀ x ∈ l, lineS x = 0
  | [], _, _ => by simp
  | y :: r, k, h => by
    unfold firstS at h
    split at h
    · rename_i h0
      intro x hx
      rcases List.mem_cons.mp hx with rfl | hx
      · exact h0
      · exact first_all r (k + 1) h x hx
    · cases h
structure rangeE (e : Entry) : Prop where
  no : i64r e.no
  book : i64r e.book
  val : i64r e.val
  kind : i64r e.kind
  rev : i64r e.rev
  amts : amts e.lines
theorem check_plain {e : Entry} (h : (checkS e).2 = 0) (hr : rangeE e) (hn : nilE e) : plainE e := by
  unfold checkS at h
  split at h
  · rename_i h0
    have hfn : firstS e.lines 0 = none := by
      split at h
      · rename_i i er hf
        exfalso
        have : ∀ (l : List Line) (k : Nat), firstS l k = some (i, er) → ¬ er = 0 := by
          intro l
          induction l with
          | nil => intro k h; cases h
          | cons y r ih =>
            intro k h
            unfold firstS at h
            split at h
            · exact ih _ h
            · rename_i hy; simp only [Option.some.injEq, Prod.mk.injEq] at h; rw [← h.2]; exact hy
        exact this _ _ hf h
      · assumption
    have hl := first_all _ _ hfn
    unfold headS at h0
    split at h0
    · cases h0
    split at h0
    · cases h0
    split at h0
    · cases h0
    split at h0
    · cases h0
    split at h0
    · cases h0
    split at h0
    · cases h0
    split at h0
    · cases h0
    rename_i h1 h2 h3 h4 h5 h6 h7
    simp only [Bool.not_eq_false, Bool.and_eq_true] at h2 h5
    exact ⟨hr.no, code_plain h2.1, hr.book, hr.val, hr.kind, h5, code_plain h2.2, hr.rev, fun l hl2 => line_plain (hl l hl2) (hr.amts l hl2) (hn.2 l hl2), by omega, hn.1⟩
  · rename_i h0; exact absurd h h0
end Go.Proofs.YtkbheoganajhaaaDoor.Vm
set_option maxRecDepth 10000
set_option linter.unusedVariables false
set_option linter.unusedSimpArgs false
namespace Go.Proofs.YtkbheoganajhaaaDoor.Vm
open Go Go.Proofs
def sB (l : List Int) : ByteArray := ⟨(l.map fun n => UInt8.ofNat n.toNat).toArray⟩
theorem bytesOfV_bv : ∀ l : List Int, bytesOfV (bv l) = some (l.map fun n => UInt8.ofNat n.toNat)
  | [] => rfl
  | x :: r => by
    have e : bv (x :: r) = V.sc (.int .u8 x) :: bv r := rfl
    rw [e, bytesOfV, bytesOfV_bv r]; rfl
def inR (l : List Int) : Prop := ∀ b ∈ l, 0 ≤ b ∧ b < 256
theorem sB_inj {a b : List Int} (ha : inR a) (hb : inR b) (h : sB a = sB b) : a = b := by
  have h1 : (a.map fun n => UInt8.ofNat n.toNat) = b.map fun n => UInt8.ofNat n.toNat := by
    have := congrArg ByteArray.data h
    have := congrArg Array.toList this
    simpa [sB] using this
  have back : ∀ l : List Int, inR l → ((l.map fun n => UInt8.ofNat n.toNat).map fun b : UInt8 => (b.toNat : Int)) = l := by
    intro l hl
    rw [List.map_map]
    conv => rhs; rw [← List.map_id l]
    apply List.map_congr_left
    intro x hx
    have := hl x hx
    show ((UInt8.ofNat x.toNat).toNat : Int) = x
    simp only [UInt8.toNat_ofNat']
    omega
  rw [← back a ha, ← back b hb, h1]
theorem putS_inR (n : Int) (h : i64r n) : inR (Co.putS n) := fun b hb => Co.vL_range 10 _ (Co.zz_range n h.1 h.2).1 b hb
theorem inR_app {a b : List Int} (ha : inR a) (hb : inR b) : inR (a ++ b) := fun x hx => (List.mem_append.mp hx).elim (ha x) (hb x)
theorem ptB_inR {s : ByteArray} (h : plainS s = true) : inR (ptB s) := inR_app (putS_inR _ ⟨by omega, by have := plain_size h; omega⟩) (Co.bytes_range s)
theorem tagsB_inR {l : List Tag} (h : ∀ t ∈ l, plainS t.n = true ∧ plainS t.v = true) : inR (tagsB l) := fun b hb => by
  simp only [tagsB, List.mem_flatMap] at hb
  obtain ⟨t, ht, hb⟩ := hb
  exact inR_app (ptB_inR (h t ht).1) (ptB_inR (h t ht).2) b hb
theorem lineB_inR {l : Line} (h : plainL l) : inR (lineB l) := by
  have := h.len
  exact inR_app (inR_app (inR_app (inR_app (inR_app (inR_app (inR_app (ptB_inR h.acc) (ptB_inR h.cur)) (putS_inR _ h.amt)) (putS_inR _ h.base)) (ptB_inR h.par)) (ptB_inR h.pty)) (putS_inR _ ⟨by omega, by omega⟩)) (tagsB_inR h.tags)
theorem entryB_inR {e : Entry} (h : plainE e) : inR (entryB e) := by
  have := h.len
  refine inR_app (inR_app (inR_app (inR_app (inR_app (inR_app (inR_app (inR_app (inR_app (putS_inR _ h.no) (ptB_inR h.ent)) (putS_inR _ h.book)) (putS_inR _ h.val)) (putS_inR _ h.kind)) (ptB_inR h.ref)) (ptB_inR h.who)) (putS_inR _ h.rev)) (putS_inR _ ⟨by omega, by omega⟩)) ?_
  intro b hb
  simp only [linesB, List.mem_flatMap] at hb
  obtain ⟨l, hl, hb⟩ := hb
  exact lineB_inR (h.lines l hl) b hb
end Go.Proofs.YtkbheoganajhaaaDoor.Vm
set_option linter.unusedVariables false
set_option linter.unusedSimpArgs false
namespace Go.Proofs.YtkbheoganajhaaaDoor.Vm
open Go.ChangeShapes Go.WideShapes Go.ChangeAt Go.RowKit Go.Proofs
theorem RepPs.last {P : Program} {p : Pr} {cs : List Value} {o n : Nat} {xs : List V} (ha : RepPs P p xs ((cs.drop o).take n)) (hl : cs.length ≤ o + n) : RepPs P p xs (cs.drop o) := by
  rwa [List.take_of_length_le (by rw [List.length_drop]; omega)] at ha
def gT (t : Tag) : Prop := t.n.size ≤ reachBytes ∧ t.v.size ≤ reachBytes
section
variable {H : Type} {enc : TypeId × Value → H}
theorem opTag : OpV enc Tryd.prog 97 encT gT := by
  intro w base spare held fuel cs x h hR
  obtain ⟨n, hl, hf⟩ := opV_fields Tryd.underlying97 h hR
  have hl : cs.length = 2 := hl.trans (by kernel_rfl)
  obtain ⟨y0, t0, w0⟩ := hf 0 _ rfl
  obtain ⟨x0, K0, o0, g0⟩ := opV_string Tryd.underlying9 t0 w0
  obtain ⟨y1, t1, w1⟩ := hf 1 _ rfl
  obtain ⟨x1, K1, o1, g1⟩ := opV_string Tryd.underlying9 t1 w1
  refine ⟨⟨x0, x1⟩, ?_, rfl, g0, g1⟩
  exact RepPs.step (o := 0) (m := 1) K0 (by kernel_rfl) (RepPs.last K1 (by rw [hl]; exact Nat.le_of_eq (by kernel_rfl)))
def gL (l : Line) : Prop := l.tr = false ∧ l.acc.size ≤ reachBytes ∧ l.cur.size ≤ reachBytes ∧ (Lit.int .i64 l.amt).wf = true ∧ (Lit.int .i64 l.base).wf = true ∧ l.par.size ≤ reachBytes ∧ l.pty.size ≤ reachBytes ∧ l.tags.length ≤ reachBytes ∧ ∀ t ∈ l.tags, gT t
theorem encT_len (t : Tag) : (encT t).cells.length = 2 := rfl
theorem encL_len (l : Line) : (encL l).cells.length = 7 := rfl
theorem opTags : OpV enc Tryd.prog 59 (fun (l : List Tag) => V.list 97 (l.map encT) 0) (fun (l : List Tag) => l.length ≤ reachBytes ∧ ∀ x ∈ l, gT x) :=
  opV_slice Tryd.underlying59 opTag (s := 2) (by kernel_rfl) (by kernel_rfl) encT_len (of_decide_eq_true (by kernel_rfl))
theorem opLine : OpV enc Tryd.prog 61 encL gL := by
  intro w base spare held fuel cs x h hR
  obtain ⟨n, hl, hf⟩ := opV_fields Tryd.underlying61 h hR
  have hl : cs.length = 7 := hl.trans (by kernel_rfl)
  obtain ⟨y0, t0, w0⟩ := hf 0 _ rfl
  obtain ⟨x0, K0, o0, g0⟩ := opV_string Tryd.underlying9 t0 w0
  obtain ⟨y1, t1, w1⟩ := hf 1 _ rfl
  obtain ⟨x1, K1, o1, g1⟩ := opV_string Tryd.underlying9 t1 w1
  obtain ⟨y2, t2, w2⟩ := hf 2 _ rfl
  obtain ⟨x2, K2, o2, g2⟩ := opV_int Tryd.underlying3 t2 w2
  obtain ⟨y3, t3, w3⟩ := hf 3 _ rfl
  obtain ⟨x3, K3, o3, g3⟩ := opV_int Tryd.underlying3 t3 w3
  obtain ⟨y4, t4, w4⟩ := hf 4 _ rfl
  obtain ⟨x4, K4, o4, g4⟩ := opV_string Tryd.underlying9 t4 w4
  obtain ⟨y5, t5, w5⟩ := hf 5 _ rfl
  obtain ⟨x5, K5, o5, g5⟩ := opV_string Tryd.underlying9 t5 w5
  obtain ⟨y6, t6, w6⟩ := hf 6 _ rfl
  obtain ⟨x6, K6, o6, g6⟩ := opTags t6 w6
  refine ⟨⟨x0, x1, x2, x3, x4, x5, x6, false⟩, ?_, rfl, rfl, g0, g1, g2, g3, g4, g5, g6.1, g6.2⟩
  exact RepPs.step (o := 0) (m := 1) K0 (by kernel_rfl) (RepPs.step (o := 1) (m := 2) K1 (by kernel_rfl) (RepPs.step (o := 2) (m := 3) K2 (by kernel_rfl) (RepPs.step (o := 3) (m := 4) K3 (by kernel_rfl) (RepPs.step (o := 4) (m := 5) K4 (by kernel_rfl) (RepPs.step (o := 5) (m := 6) K5 (by kernel_rfl) (RepPs.last K6 (by rw [hl]; exact Nat.le_of_eq (by kernel_rfl))))))))
def gE (e : Entry) : Prop := e.lr = false ∧ (Lit.int .i64 e.no).wf = true ∧ e.ent.size ≤ reachBytes ∧ (Lit.int .i64 e.book).wf = true ∧ (Lit.int .i64 e.val).wf = true ∧ (Lit.int .i64 e.kind).wf = true ∧ e.ref.size ≤ reachBytes ∧ e.who.size ≤ reachBytes ∧ (Lit.int .i64 e.rev).wf = true ∧ e.lines.length ≤ reachBytes ∧ ∀ l ∈ e.lines, gL l
theorem opLines : OpV enc Tryd.prog 29 (fun (l : List Line) => V.list 61 (l.map encL) 0) (fun (l : List Line) => l.length ≤ reachBytes ∧ ∀ x ∈ l, gL x) :=
  opV_slice Tryd.underlying29 opLine (s := 7) (by kernel_rfl) (by kernel_rfl) encL_len (of_decide_eq_true (by kernel_rfl))
theorem opEntry : OpV enc Tryd.prog 31 encE gE := by
  intro w base spare held fuel cs x h hR
  obtain ⟨n, hl, hf⟩ := opV_fields Tryd.underlying31 h hR
  have hl : cs.length = 9 := hl.trans (by kernel_rfl)
  obtain ⟨y0, t0, w0⟩ := hf 0 _ rfl
  obtain ⟨x0, K0, o0, g0⟩ := opV_int Tryd.underlying3 t0 w0
  obtain ⟨y1, t1, w1⟩ := hf 1 _ rfl
  obtain ⟨x1, K1, o1, g1⟩ := opV_string Tryd.underlying9 t1 w1
  obtain ⟨y2, t2, w2⟩ := hf 2 _ rfl
  obtain ⟨x2, K2, o2, g2⟩ := opV_int Tryd.underlying3 t2 w2
  obtain ⟨y3, t3, w3⟩ := hf 3 _ rfl
  obtain ⟨x3, K3, o3, g3⟩ := opV_int Tryd.underlying3 t3 w3
  obtain ⟨y4, t4, w4⟩ := hf 4 _ rfl
  obtain ⟨x4, K4, o4, g4⟩ := opV_int Tryd.underlying3 t4 w4
  obtain ⟨y5, t5, w5⟩ := hf 5 _ rfl
  obtain ⟨x5, K5, o5, g5⟩ := opV_string Tryd.underlying9 t5 w5
  obtain ⟨y6, t6, w6⟩ := hf 6 _ rfl
  obtain ⟨x6, K6, o6, g6⟩ := opV_string Tryd.underlying9 t6 w6
  obtain ⟨y7, t7, w7⟩ := hf 7 _ rfl
  obtain ⟨x7, K7, o7, g7⟩ := opV_int Tryd.underlying3 t7 w7
  obtain ⟨y8, t8, w8⟩ := hf 8 _ rfl
  obtain ⟨x8, K8, o8, g8⟩ := opLines t8 w8
  refine ⟨⟨x0, x1, x2, x3, x4, x5, x6, x7, x8, false⟩, ?_, rfl, rfl, g0, g1, g2, g3, g4, g5, g6, g7, g8.1, g8.2⟩
  exact RepPs.step (o := 0) (m := 1) K0 (by kernel_rfl) (RepPs.step (o := 1) (m := 2) K1 (by kernel_rfl) (RepPs.step (o := 2) (m := 3) K2 (by kernel_rfl) (RepPs.step (o := 3) (m := 4) K3 (by kernel_rfl) (RepPs.step (o := 4) (m := 5) K4 (by kernel_rfl) (RepPs.step (o := 5) (m := 6) K5 (by kernel_rfl) (RepPs.step (o := 6) (m := 7) K6 (by kernel_rfl) (RepPs.step (o := 7) (m := 8) K7 (by kernel_rfl) (RepPs.last K8 (by rw [hl]; exact Nat.le_of_eq (by kernel_rfl))))))))))
end
theorem small_of {s : ByteArray} (h : s.size ≤ reachBytes) : small s := by unfold small; have : reachBytes = 140737488351232 := rfl; omega
theorem wf_r {a : Int} (h : (Lit.int .i64 a).wf = true) : i64r a := by
  have h1 : IntKind.i64.min = -9223372036854775808 := rfl
  have h2 : IntKind.i64.max = 9223372036854775807 := rfl
  simp only [Lit.wf, Bool.and_eq_true, decide_eq_true_eq] at h
  unfold i64r; omega
theorem gL_small {l : Line} (h : gL l) : smallL l := by
  have hr : reachBytes = 140737488351232 := rfl
  obtain ⟨hn, h⟩ := h
  exact ⟨small_of h.1, small_of h.2.1, small_of h.2.2.2.2.1, small_of h.2.2.2.2.2.1, fun t ht => ⟨small_of (h.2.2.2.2.2.2.2 t ht).1, small_of (h.2.2.2.2.2.2.2 t ht).2⟩, by have := h.2.2.2.2.2.2.1; omega, fun h2 => by rw [hn] at h2; cases h2⟩
theorem gE_small {e : Entry} (h : gE e) : smallE e := by
  have hr : reachBytes = 140737488351232 := rfl
  obtain ⟨hn, h0, h1, h2, h3, h4, h5, h6, h7, h8, h9⟩ := h
  exact ⟨small_of h1, small_of h5, small_of h6, fun l hl => gL_small (h9 l hl), by omega, fun h2 => by rw [hn] at h2; cases h2⟩
theorem gE_range {e : Entry} (h : gE e) : rangeE e := by
  obtain ⟨hn, h0, h1, h2, h3, h4, h5, h6, h7, h8, h9⟩ := h
  exact ⟨wf_r h0, wf_r h2, wf_r h3, wf_r h4, wf_r h7, fun l hl => ⟨wf_r (h9 l hl).2.2.2.1, wf_r (h9 l hl).2.2.2.2.1⟩⟩
end Go.Proofs.YtkbheoganajhaaaDoor.Vm
set_option maxRecDepth 100000
set_option linter.unusedVariables false
set_option linter.unusedSimpArgs false
namespace Go.Proofs.YtkbheoganajhaaaDoor.Vm
open Go.ChangeShapes Go.WideShapes Go.ChangeAt Go.RowKit Go.Proofs
theorem progOK : ProgOK Tryd.prog := ⟨by kernel_rfl, by kernel_rfl⟩
theorem gLen : Tryd.prog.globalNamed "accounting/days.lengths" = some 0 := by kernel_rfl
theorem tLen : (Tryd.prog.globals[0]?).map (·.type) = some 148 := by kernel_rfl
def lensT : List Int := [31, 28, 31, 30, 31, 30, 31, 31, 30, 31, 30, 31]
theorem lens_of_laid {W : World} (h : laidMetH Tryd.prog Rows.storeNilRow.laid W) : ∀ (i : Nat) (n : Int), lensT[i]? = some n → W.cell? ⟨0, i, none⟩ = some (.int .i64 n) := by
  rw [MakeChecks.laidMetH_plain _ _ _ (by kernel_rfl)] at h
  obtain ⟨ps, ⟨g0, t0, cs0, f0, p0, q0, hg0, ht0, hv0, hd0, _, _⟩, _, _⟩ := h
  obtain rfl := Option.some.inj (gLen.symm.trans hg0)
  obtain rfl := Option.some.inj (tLen.symm.trans ht0)
  obtain ⟨xs, m1, rfl, hx1, hlen, hn3, hel⟩ := DataW.trod_array Tryd.underlying148 hd0
  have c9 : Tryd.prog.cellsOf 3 = 1 := by kernel_rfl
  have c30 : Tryd.prog.cellsOf 148 = 12 := by kernel_rfl
  rw [c30] at hlen
  intro i s hi
  have hil : i < 12 := (List.getElem?_eq_some_iff.1 hi).1
  have h1 := hel i hil
  rw [c9, Nat.mul_one, List.getElem?_eq_getElem (by omega)] at h1
  obtain ⟨z, e1, e2, _⟩ := DataW.trod_int Tryd.underlying3 h1
  simp only [Prod.mk.injEq] at hx1
  have hd := hx1.1
  have e3 : (Rows.laid_accounting_days_lengths : DataW Unit) = .agg (lensT.map fun s => .lit (.int .i64 s)) := rfl
  have hd2 : (Rows.laid_accounting_days_lengths : DataW Unit) = .agg (xs.map (·.1)) := hd
  rw [e3] at hd2
  injection hd2 with hd2
  have h4 := congrArg (fun l => l[i]?) hd2
  simp only [List.getElem?_map, hi, Option.map_some] at h4
  rw [List.getElem?_eq_getElem (show i < xs.length by omega), Option.map_some, e2] at h4
  have hz : s = z := by
    injection h4 with h4
    injection h4 with h4
    injection h4
  subst hz
  have h5 := World.var?_cell hg0 hv0 i
  have h6 : cs0[i]? = some (.int .i64 s) := by
    have h7 := congrArg List.head? e1
    rw [List.head?_take, if_neg (by decide), List.head?_drop, Array.getElem?_toList] at h7
    exact h7
  rw [h6] at h5
  exact h5
theorem glOK_of {W : World} (h : ∀ (i : Nat) (n : Int), lensT[i]? = some n → W.cell? ⟨0, i, none⟩ = some (.int .i64 n)) : GlOK Tryd.prog glS (pw W) := by
  intro g x hg
  unfold glS at hg
  split at hg
  · rename_i h0
    have h0 : g = 0 := by simpa using h0
    subst h0
    simp only [Option.some.injEq] at hg; subst hg
    refine .cp (vs := lensT.map fun n => .int .i64 n) rfl ?_ ?_
    · intro j u hj
      rw [List.getElem?_map, Option.map_eq_some_iff] at hj
      obtain ⟨n, hn, rfl⟩ := hj
      have := h j n hn
      have e : (⟨0, 0, none⟩ : Addr).add j = ⟨0, j, none⟩ := by simp [Addr.add]; exact fun h => h.symm
      rw [← e] at this
      exact holds_pw this
    · have : ∀ l : List Int, RepPs Tryd.prog (pw W) (l.map V.i64) (l.map fun n => .int .i64 n) := fun l => by
        induction l with
        | nil => exact .nil
        | cons a r ih => exact .cons (.sc _) ih
      exact this lensT
  · cases hg
end Go.Proofs.YtkbheoganajhaaaDoor.Vm
set_option linter.unusedVariables false
set_option linter.unusedSimpArgs false
namespace Go.Proofs.YtkbheoganajhaaaDoor.Vm
open Go.ChangeShapes Go.WideShapes Go.ChangeAt Go.RowKit Go.Proofs
section
variable {H : Type} {enc : TypeId × Value → H}
def gEs (l : List Entry) : Prop := l.length ≤ reachBytes ∧ ∀ e ∈ l, gE e
theorem opEntries : OpV enc Tryd.prog 22 (fun (l : List Entry) => V.list 31 (l.map encE) 0) gEs :=
  opV_slice Tryd.underlying22 opEntry (s := 9) (by kernel_rfl) (by kernel_rfl) (fun _ => rfl) (of_decide_eq_true (by kernel_rfl))
end
theorem gEs_len {l : List Entry} (h : gEs l) : l.length < 4611686018427387904 := by
  have hr : reachBytes = 140737488351232 := rfl
  have := h.1
  omega
end Go.Proofs.YtkbheoganajhaaaDoor.Vm
set_option maxRecDepth 10000
set_option linter.unusedVariables false
set_option linter.unusedSimpArgs false
namespace Go.Proofs.YtkbheoganajhaaaDoor.Vm
open Go Go.Proofs
def bOK (bs : List Int) : Prop := ∀ b ∈ bs, 0 ≤ b ∧ b < 256
theorem bOK.drop {bs : List Int} (h : bOK bs) (n : Nat) : bOK (bs.drop n) := fun b hb => h b (List.mem_of_mem_drop hb)
theorem bv_get (bs : List Int) (i : Nat) : (bv bs)[i]? = (bs[i]?).map fun b => V.sc (.int .u8 b) := by simp [bv]
theorem tS_10 (l : List Int) (x : Int) : Co.tS l 10 x = (0, 0, 5) := by cases l <;> simp [Co.tS]
theorem takefin (y : Int) (h0 : 0 ≤ y) (h1 : y < 18446744073709551616) : Go.bits .xor .i64 (IntKind.i64.wrap (y.fdiv (2 ^ Nat.min 1 IntKind.u64.bits))) (IntKind.i64.wrap (0 - IntKind.i64.wrap (Go.bits .and .u64 y 1))) = Co.fin y := by
  rw [shr_eq y _ 2 (by decide)]
  have := Co.fin_xor y h0 h1
  have e : ∀ z, IntKind.i64.wrap z = RowKit.wrap64 z := fun z => by rw [IntKind.wrap_i64]; unfold RowKit.wrap64; omega
  rw [Int.zero_sub, e, e, e]
  exact this
theorem takeint_ok (bs : List Int) (hb : bOK bs) (hl : bs.length < 4611686018427387904) (r : Nat) : L.pl 104 [.list 5 (bv bs) r] = some (.ret (.tup [.i64 (Co.tS bs 0 0).1, .i64 (Co.tS bs 0 0).2.1, .i64 (Co.tS bs 0 0).2.2])) := by
  refine W_of (pl_w k104_eq ?_)
  simp only [k104]
  repeat' (first | (simp -implicitDefEqProofs only [ze, zd, simprocAttr]) | (with_reducible refine wgd_cases ?_ ?_ <;> intro hb) | (with_reducible refine wcond_cases ?_ ?_ <;> intro hb) | (with_reducible refine qd_i (by kernel_rfl) ?_) | (with_reducible refine W_itn_cases ?_ ?_; omega))
  refine loop_w (fun n tm st nx => ∃ (i : Nat) (x : Int), n = 10 - i ∧ i ≤ 10 ∧ i ≤ bs.length ∧ 0 ≤ x ∧ x < 128 ^ i ∧ Co.tS (bs.drop i) i x = Co.tS bs 0 0 ∧ tm 8 = .i64 i ∧ tm 5 = .sc (.int .u64 x) ∧ tm 0 = .list 5 (bv bs) r) 10 ⟨0, 0, by omega, by omega, by omega, by omega, by decide, rfl, ?_, ?_, ?_⟩ ?_
  · simp -implicitDefEqProofs only [ze, zd, simprocAttr]; try rfl
  · simp -implicitDefEqProofs only [ze, zd, simprocAttr]
  · simp -implicitDefEqProofs only [ze, zd, simprocAttr]
  rintro n tm st nx ⟨i, x, hn, hi, hil, hx0, hx1, hts, h8, h5, h0⟩
  simp only [k104_l0, k104_t0]
  by_cases hlt : i < 10
  · have hd : decide ((i : Int) < 10) = true := decide_eq_true (by omega)
    by_cases hend : i = bs.length
    · have hd2 : decide ((i : Int) = (bs.length : Int)) = true := decide_eq_true (by omega)
      have e : bs.drop i = [] := List.drop_eq_nil_of_le (by omega)
      rw [e] at hts
      simp only [Co.tS, if_pos hlt] at hts
      repeat' (first | (simp -implicitDefEqProofs only [ze, zd, simprocAttr, h8, h5, h0, hd, bv_len, hd2, ← hts]) | (with_reducible refine wgd_cases ?_ ?_ <;> intro hb) | (with_reducible refine wcond_cases ?_ ?_ <;> intro hb) | (with_reducible refine qd_i (by kernel_rfl) ?_) | (with_reducible refine W_itn_cases ?_ ?_; omega))
    · have hd2 : decide ((i : Int) = (bs.length : Int)) = false := decide_eq_false (by omega)
      obtain ⟨b, hb1⟩ := get_lt (l := bs) (i := i) (by omega)
      obtain ⟨hb2, hb3⟩ := hb b (List.mem_of_getElem? hb1)
      have e : bs.drop i = b :: bs.drop (i + 1) := by rw [List.drop_eq_getElem_cons (by omega)]; rw [List.getElem?_eq_getElem (by omega)] at hb1; rw [Option.some.inj hb1]
      rw [e] at hts
      simp only [Co.tS, if_pos hlt] at hts
      have hm : IntKind.i64.wrap (7 * (i : Int)) = 7 * (i : Int) := wrap_i64 (by omega) (by omega)
      have hup : IntKind.i64.wrap ((i : Int) + 1) = ((i + 1 : Nat) : Int) := wrap_i64 (by omega) (by omega)
      have hneg : (7 * (i : Int) < 0) = False := eq_false (by omega)
      have hgo : Co.badS i b = false → ∃ y, Go.bits .or .u64 x (IntKind.u64.wrap (IntKind.u64.wrap (Go.bits .and .u8 b 127) * 2 ^ Nat.min (7 * (i : Int)).toNat IntKind.u64.bits)) = y ∧ y = x + b % 128 * 128 ^ i ∧ 0 ≤ y ∧ y < 18446744073709551616 ∧ y < 128 ^ (i + 1) := fun h => by
        obtain ⟨g1, g2⟩ := Co.bad_no h
        obtain ⟨s1, s2, s3⟩ := Co.step_bound i x b hlt hx0 hx1 hb2 hb3 g1
        refine ⟨x + b % 128 * 128 ^ i, ?_, rfl, by omega, s2, s3⟩
        have := Co.or_shift i x b hlt hx0 hx1 hb2 hb3 g1
        rw [Co.w64_small (by omega) (by omega)] at this
        exact this
      repeat' (first | (simp -implicitDefEqProofs only [ze, zd, simprocAttr, h8, h5, h0, hd, hd2, bv_len, bv_get, hb1, hm, hneg, hup]) | (with_reducible refine wgd_cases ?_ ?_ <;> intro hb) | (with_reducible refine wcond_cases ?_ ?_ <;> intro hb) | (with_reducible refine qd_i (by kernel_rfl) ?_) | (with_reducible refine W_itn_cases ?_ ?_; omega))
      all_goals (simp only [decide_eq_true_eq, decide_eq_false_iff_not] at *)
      all_goals first
        | (exfalso; omega)
        | (have hB : Co.badS i b = true := by (simp only [Co.badS, Bool.or_eq_true, Bool.and_eq_true, decide_eq_true_eq]; omega)
           rw [if_pos hB] at hts; rw [← hts])
        | (have hB : Co.badS i b = false := by (simp only [Co.badS, Bool.or_eq_false_iff, Bool.and_eq_false_iff, decide_eq_false_iff_not]; omega)
           obtain ⟨y, hy1, hy2, hy3, hy4, hy5⟩ := hgo hB
           rw [if_neg (by rw [hB]; simp), ← hy2] at hts
           first
           | (rw [if_pos (by assumption)] at hts; rw [← hts, hy1, takefin y hy3 hy4])
           | (rw [if_neg (by assumption)] at hts; exact ⟨10 - (i + 1), by omega, i + 1, y, rfl, by omega, by omega, hy3, hy5, hts, rfl, by rw [hy1]⟩))
  · have : i = 10 := by omega
    subst this
    have hd : decide (((10 : Nat) : Int) < 10) = false := by decide
    rw [tS_10] at hts
    repeat' (first | (simp -implicitDefEqProofs only [ze, zd, simprocAttr, h8, h5, h0, hd, ← hts]) | (with_reducible refine wgd_cases ?_ ?_ <;> intro hb) | (with_reducible refine wcond_cases ?_ ?_ <;> intro hb) | (with_reducible refine qd_i (by kernel_rfl) ?_) | (with_reducible refine W_itn_cases ?_ ?_; omega))
def strB (l : List Int) : ByteArray := ⟨(l.map fun b => UInt8.ofNat b.toNat).toArray⟩
theorem strB_of (s : ByteArray) : strB (Co.bytesOf s) = s := by
  unfold strB Co.bytesOf
  rw [List.map_map]
  have : (s.data.toList.map ((fun b : Int => UInt8.ofNat b.toNat) ∘ fun b : UInt8 => (b.toNat : Int))) = s.data.toList := by
    conv => rhs; rw [← List.map_id s.data.toList]
    apply List.map_congr_left
    intro b _
    simp
  rw [this]
def tT (bs : List Int) : ByteArray × Int × Int :=
  let q := Co.tS bs 0 0
  if q.2.2 ≠ 0 then (ByteArray.mk #[], 0, q.2.2)
  else if q.1 < 0 ∨ 60 < q.1 then (ByteArray.mk #[], 0, 9)
  else if (bs.length : Int) - q.2.1 < q.1 then (ByteArray.mk #[], 0, 6)
  else if plainS (strB ((bs.drop q.2.1.toNat).take q.1.toNat)) = false then (ByteArray.mk #[], 0, 5)
  else (strB ((bs.drop q.2.1.toNat).take q.1.toNat), q.2.1 + q.1, 0)
theorem bytesOfV_bq : ∀ (l : List Int), bytesOfV (bv l) = some (l.map fun b => UInt8.ofNat b.toNat)
  | [] => rfl
  | b :: l => by
    have := bytesOfV_bq l
    simp only [bv] at this
    simp only [bv, List.map_cons, bytesOfV, this, Option.map_some]
theorem bv_tk (l : List Int) (n : Nat) : (bv l).take n = bv (l.take n) := by simp [bv, List.map_take]
theorem bv_dp (l : List Int) (n : Nat) : (bv l).drop n = bv (l.drop n) := by simp [bv, List.map_drop]
theorem taketext_ok (bs : List Int) (hb : bOK bs) (hl : bs.length < 4611686018427387904) (r : Nat) : L.pl 105 [.list 5 (bv bs) r] = some (.ret (.tup [.str (tT bs).1, .i64 (tT bs).2.1, .i64 (tT bs).2.2])) := by
  refine W_of (pl_w k105_eq ?_)
  simp only [k105]
  have hp := Co.tS_pos bs 0 0
  unfold tT
  have ht := takeint_ok bs hb hl
  generalize hq : Co.tS bs 0 0 = q at hp ht ⊢
  obtain ⟨n, at_, e⟩ := q
  simp only at hp ht ⊢
  by_cases he : e = 0
  · subst he
    by_cases hn : n < 0 ∨ 60 < n
    · repeat' (first | (simp -implicitDefEqProofs only [ze, zd, simprocAttr, ht, bv_len]) | (with_reducible refine wgd_cases ?_ ?_ <;> intro hb) | (with_reducible refine wcond_cases ?_ ?_ <;> intro hb) | (with_reducible refine qd_i (by kernel_rfl) ?_) | (with_reducible refine W_itn_cases ?_ ?_; omega))
      all_goals (simp only [decide_eq_true_eq, decide_eq_false_iff_not] at *)
      all_goals first | (exfalso; omega) | simp [hn]
    · have hd1 : decide (n < 0) = false := decide_eq_false (by omega)
      have hd2 : decide (60 < n) = false := decide_eq_false (by omega)
      have hw : IntKind.i64.wrap ((bs.length : Int) - at_) = (bs.length : Int) - at_ := wrap_i64 (by omega) (by omega)
      have hw2 : IntKind.i64.wrap (at_ + n) = at_ + n := wrap_i64 (by omega) (by omega)
      by_cases hs : (bs.length : Int) - at_ < n
      · have hd3 : decide ((bs.length : Int) - at_ < n) = true := decide_eq_true hs
        repeat' (first | (simp -implicitDefEqProofs only [ze, zd, simprocAttr, ht, bv_len, hd1, hd2, hw, hd3]) | (with_reducible refine wgd_cases ?_ ?_ <;> intro hb) | (with_reducible refine wcond_cases ?_ ?_ <;> intro hb) | (with_reducible refine qd_i (by kernel_rfl) ?_) | (with_reducible refine W_itn_cases ?_ ?_; omega))
        simp [hn, hs]
      · have hd3 : decide ((bs.length : Int) - at_ < n) = false := decide_eq_false hs
        have heq : strB ((bs.drop at_.toNat).take n.toNat) = ByteArray.mk (List.map (fun b => UInt8.ofNat b.toNat) (List.drop at_.toNat (List.take (at_ + n).toNat bs))).toArray := by
          unfold strB
          rw [List.take_drop, show at_.toNat + n.toNat = (at_ + n).toNat by omega]
        repeat' (first | (simp -implicitDefEqProofs only [ze, zd, simprocAttr, ht, bv_len, hd1, hd2, hw, hw2, hd3, bytesOfV_bq, bv_tk, bv_dp, plain_ok]) | (with_reducible refine wgd_cases ?_ ?_ <;> intro hb) | (with_reducible refine wcond_cases ?_ ?_ <;> intro hb) | (with_reducible refine qd_i (by kernel_rfl) ?_) | (with_reducible refine W_itn_cases ?_ ?_; omega))
        all_goals (simp only [Bool.not_eq_eq_eq_not, Bool.not_true, Bool.not_false] at *; rw [← heq] at *; simp [hn, hs, *])
  · have hd : decide (e = 0) = false := decide_eq_false he
    repeat' (first | (simp -implicitDefEqProofs only [ze, zd, simprocAttr, ht, hd]) | (with_reducible refine wgd_cases ?_ ?_ <;> intro hb) | (with_reducible refine wcond_cases ?_ ?_ <;> intro hb) | (with_reducible refine qd_i (by kernel_rfl) ?_) | (with_reducible refine W_itn_cases ?_ ?_; omega))
    simp [he]
end Go.Proofs.YtkbheoganajhaaaDoor.Vm
set_option maxRecDepth 10000
set_option linter.unusedVariables false
set_option linter.unusedSimpArgs false
namespace Go.Proofs.YtkbheoganajhaaaDoor.Vm
open Go Go.Proofs
def Dec (st : St) (nx id : Nat) (bs : List Int) (rr at_ : Nat) : Prop := id < nx ∧ at_ ≤ bs.length ∧ st id = some (.cells [.list 5 (bv bs) rr, .i64 at_])
def KeepX (st st' : St) (nx id : Nat) : Prop := ∀ i, i < nx → i ≠ id → st' i = st i
theorem KeepX.trans {s0 s1 s2 : St} {n0 n1 id : Nat} (h : KeepX s0 s1 n0 id) (k : KeepX s1 s2 n1 id) (hn : n0 ≤ n1) : KeepX s0 s2 n0 id := fun i h1 h2 => (k i (by omega) h2).trans (h i h1 h2)
theorem KeepX.refl (st : St) (nx id : Nat) : KeepX st st nx id := fun _ _ _ => rfl
theorem KeepX.upd {s0 s1 : St} {n0 id j : Nat} (h : KeepX s0 s1 n0 id) (hj : n0 ≤ j) (o : Option Ob) : KeepX s0 (upd s1 j o) n0 id := fun i h1 h2 => by rw [upd_at, if_neg (by omega)]; exact h i h1 h2
theorem Dec.upd {st : St} {nx nx' id j : Nat} {bs : List Int} {rr a : Nat} (h : Dec st nx id bs rr a) (hj : nx ≤ j) (hn : nx ≤ nx') (o : Option Ob) : Dec (upd st j o) nx' id bs rr a := ⟨Nat.lt_of_lt_of_le h.1 hn, h.2.1, by rw [upd_at, if_neg (by have := h.1; omega)]; exact h.2.2⟩
theorem Dec.le {st : St} {nx nx' id : Nat} {bs : List Int} {rr a : Nat} (h : Dec st nx id bs rr a) (hn : nx ≤ nx') : Dec st nx' id bs rr a := ⟨Nat.lt_of_lt_of_le h.1 hn, h.2⟩
def errV (e : Int) : V := .ifc 125 (.agg [.i64 e])
def DP {α : Type} (st : St) (nx id : Nat) (bs : List Int) (rr : Nat) (o : Except Int (α × Nat)) (Q : α → V → St → Nat → Prop) (r : HR) : Prop := match o with
  | .error e => ∃ st' nx', r = .pan (errV e) st' nx' ∧ nx ≤ nx' ∧ KeepX st st' nx id
  | .ok p => ∃ v st' nx', r = .ret v st' nx' ∧ nx ≤ nx' ∧ KeepX st st' nx id ∧ Dec st' nx' id bs rr p.2 ∧ Q p.1 v st' nx'
theorem dend_ok {st : St} {nx id : Nat} {bs : List Int} {rr a : Nat} (h : Dec st nx id bs rr a) (hl : bs.length < 4611686018427387904) (u : Nat) (hu : a + u ≤ bs.length) :
    W (L.hp 84 [.ptr id 0, .i64 u, .i64 0] st nx) fun r => ∃ st' nx', r = .ret (.tup []) st' nx' ∧ nx ≤ nx' ∧ Dec st' nx' id bs rr (a + u) ∧ KeepX st st' nx id := by
  refine hp_w k84_eq ?_
  simp only [k84]
  obtain ⟨h1, h2, h3⟩ := h
  have hw : IntKind.i64.wrap ((a : Int) + (u : Int)) = ((a + u : Nat) : Int) := by rw [wrap_i64 (by omega) (by omega)]; omega
  repeat' (first | (simp -implicitDefEqProofs only [ze, zd, simprocAttr, h3, hw]) | (with_reducible refine wgd_cases ?_ ?_ <;> intro hb) | (with_reducible refine wcond_cases ?_ ?_ <;> intro hb) | (with_reducible refine qd_i (by kernel_rfl) ?_) | (with_reducible refine W_itn_cases ?_ ?_; omega))
  exact ⟨_, _, rfl, by omega, ⟨by omega, hu, by rw [upd_at, if_pos rfl]⟩, fun i g1 g2 => by rw [upd_at, if_neg g2]⟩
theorem dend_bad {st : St} {nx id : Nat} (u e : Int) (he : ¬ e = 0) :
    W (L.hp 84 [.ptr id 0, .i64 u, .i64 e] st nx) fun r => ∃ st' nx', r = .pan (errV e) st' nx' ∧ nx ≤ nx' ∧ KeepX st st' nx id := by
  refine hp_w k84_eq ?_
  simp only [k84]
  have hd : decide (e = 0) = false := decide_eq_false he
  repeat' (first | (simp -implicitDefEqProofs only [ze, zd, simprocAttr, hd, ne_eq, not_true_eq_false, gt_iff_lt]) | (with_reducible refine wgd_cases ?_ ?_ <;> intro hb) | (with_reducible refine wcond_cases ?_ ?_ <;> intro hb) | (with_reducible refine qd_i (by kernel_rfl) ?_) | (with_reducible refine W_itn_cases ?_ ?_; omega))
  exact ⟨_, _, rfl, by omega, fun i g1 g2 => rfl⟩
def dInt (bs : List Int) (a : Nat) : Except Int (Int × Nat) :=
  if (Co.tS (bs.drop a) 0 0).2.2 = 0 then .ok ((Co.tS (bs.drop a) 0 0).1, a + (Co.tS (bs.drop a) 0 0).2.1.toNat) else .error (Co.tS (bs.drop a) 0 0).2.2
def dText (bs : List Int) (a : Nat) : Except Int (ByteArray × Nat) :=
  if (tT (bs.drop a)).2.2 = 0 then .ok ((tT (bs.drop a)).1, a + (tT (bs.drop a)).2.1.toNat) else .error (tT (bs.drop a)).2.2
def dCount (most : Int) (bs : List Int) (a : Nat) : Except Int (Int × Nat) := match dInt bs a with
  | .error e => .error e
  | .ok p => if p.1 < 0 ∨ most < p.1 then .error 9 else .ok p
theorem W_dec {α : Type} {o : Option HR} {st : St} {nx id : Nat} {bs : List Int} {rr : Nat} {x : Except Int (α × Nat)} {Q : α → V → St → Nat → Prop} {C : R → Prop} (h : W o (DP st nx id bs rr x Q))
    (hbad : ∀ e st' nx', x = .error e → nx ≤ nx' → KeepX st st' nx id → C (.bpan (errV e) st' nx'))
    (hok : ∀ p v st' nx', x = .ok p → nx ≤ nx' → KeepX st st' nx id → Dec st' nx' id bs rr p.2 → Q p.1 v st' nx' → C (.big v st' nx')) : W (match o with | some (.ret v st' n) => some (R.big v st' n) | some (.pan v st' n) => some (.bpan v st' n) | none => none) C := by
  obtain ⟨r, rfl, hd⟩ := h
  cases hx : x with
  | error e =>
    rw [hx] at hd
    obtain ⟨st', nx', rfl, h1, h2⟩ := hd
    exact ⟨_, rfl, hbad e st' nx' hx h1 h2⟩
  | ok p =>
    rw [hx] at hd
    obtain ⟨v, st', nx', rfl, h1, h2, h3, h4⟩ := hd
    exact ⟨_, rfl, hok p v st' nx' hx h1 h2 h3 h4⟩
theorem bv_all (l : List Int) : (bv l).take l.length = bv l := by rw [bv_tk, List.take_length]
theorem dnumber_ok {st : St} {nx id : Nat} {bs : List Int} {rr a : Nat} (h : Dec st nx id bs rr a) (hb : bOK bs) (hl : bs.length < 4611686018427387904) :
    W (L.hp 95 [.ptr id 0] st nx) (DP st nx id bs rr (dInt bs a) fun n v _ _ => v = .i64 n) := by
  refine hp_w k95_eq ?_
  simp only [k95]
  have hD := h
  obtain ⟨h1, h2, h3⟩ := h
  have hi := takeint_ok (bs.drop a) (hb.drop a) (by rw [List.length_drop]; omega)
  have hp := Co.tS_pos (bs.drop a) 0 0
  have hdi : dInt bs a = dInt bs a := rfl
  unfold dInt at hdi
  unfold dInt
  generalize Co.tS (bs.drop a) 0 0 = q at hi hp hdi ⊢
  obtain ⟨n, u, e⟩ := q
  simp only at hi hp hdi ⊢
  rw [List.length_drop] at hp
  have hha : ((0 : Int) ≤ (a : Int)) = True := eq_true (by omega)
  by_cases he : e = 0
  · subst he
    have hk : a + u.toNat ≤ bs.length := by omega
    have hu : (u : Int) = ((u.toNat : Nat) : Int) := by omega
    repeat' (first | (simp -implicitDefEqProofs only [ze, zd, simprocAttr, h3, bv_len, bv_all, bv_dp, hi]) | (with_reducible refine W_itn_cases ?_ ?_; omega))
    refine qd_i ?_ ?_
    · simp [recsOk, ordB, Rec.free, Rec.wr, disj, List.range, List.range.loop]; try decide
    · simp -implicitDefEqProofs only [ze, zd, simprocAttr]
      rw [hu]
      refine W_hp (dend_ok (hD.le (Nat.le_add_right _ _)) hl u.toNat hk) ?_
      rintro _ ⟨st1, nx1, rfl, hn1, hd1, hk1⟩
      repeat' (first | (simp -implicitDefEqProofs only [ze, zd, simprocAttr]) | (with_reducible refine wgd_cases ?_ ?_ <;> intro hb) | (with_reducible refine wcond_cases ?_ ?_ <;> intro hb) | (with_reducible refine qd_i (by kernel_rfl) ?_) | (with_reducible refine W_itn_cases ?_ ?_; omega))
      exact ⟨_, _, _, rfl, by omega, fun i g1 g2 => hk1 i (by omega) g2, hd1.le (by omega), rfl⟩
  · repeat' (first | (simp -implicitDefEqProofs only [ze, zd, simprocAttr, h3, bv_len, bv_all, bv_dp, hi]) | (with_reducible refine W_itn_cases ?_ ?_; omega))
    refine qd_i ?_ ?_
    · simp [recsOk, ordB, Rec.free, Rec.wr, disj, List.range, List.range.loop]; try decide
    · simp -implicitDefEqProofs only [ze, zd, simprocAttr]
      refine W_hp (dend_bad u e he) ?_
      rintro _ ⟨st1, nx1, rfl, hn1, hk1⟩
      repeat' (first | (simp -implicitDefEqProofs only [ze, zd, simprocAttr]) | (with_reducible refine wgd_cases ?_ ?_ <;> intro hb) | (with_reducible refine wcond_cases ?_ ?_ <;> intro hb) | (with_reducible refine qd_i (by kernel_rfl) ?_) | (with_reducible refine W_itn_cases ?_ ?_; omega))
      rw [if_neg he]
      exact ⟨_, _, rfl, by omega, fun i g1 g2 => hk1 i (by omega) g2⟩
theorem tT_pos (bs : List Int) : 0 ≤ (tT bs).2.1 ∧ (tT bs).2.1 ≤ bs.length := by
  have hp := Co.tS_pos bs 0 0
  unfold tT
  generalize Co.tS bs 0 0 = q at hp ⊢
  obtain ⟨n, u, e⟩ := q
  simp only at hp ⊢
  repeat' split
  all_goals (simp only at *; omega)
theorem dtext_ok {st : St} {nx id : Nat} {bs : List Int} {rr a : Nat} (h : Dec st nx id bs rr a) (hb : bOK bs) (hl : bs.length < 4611686018427387904) :
    W (L.hp 96 [.ptr id 0] st nx) (DP st nx id bs rr (dText bs a) fun n v _ _ => v = .str n) := by
  refine hp_w k96_eq ?_
  simp only [k96]
  have hD := h
  obtain ⟨h1, h2, h3⟩ := h
  have hi := taketext_ok (bs.drop a) (hb.drop a) (by rw [List.length_drop]; omega)
  have hp := tT_pos (bs.drop a)
  have hdi : dText bs a = dText bs a := rfl
  unfold dText at hdi
  unfold dText
  generalize tT (bs.drop a) = q at hi hp hdi ⊢
  obtain ⟨n, u, e⟩ := q
  simp only at hi hp hdi ⊢
  rw [List.length_drop] at hp
  have hha : ((0 : Int) ≤ (a : Int)) = True := eq_true (by omega)
  by_cases he : e = 0
  · subst he
    have hk : a + u.toNat ≤ bs.length := by omega
    have hu : (u : Int) = ((u.toNat : Nat) : Int) := by omega
    repeat' (first | (simp -implicitDefEqProofs only [ze, zd, simprocAttr, h3, bv_len, bv_all, bv_dp, hi]) | (with_reducible refine W_itn_cases ?_ ?_; omega))
    refine qd_i ?_ ?_
    · simp [recsOk, ordB, Rec.free, Rec.wr, disj, List.range, List.range.loop]; try decide
    · simp -implicitDefEqProofs only [ze, zd, simprocAttr]
      rw [hu]
      refine W_hp (dend_ok (hD.le (Nat.le_add_right _ _)) hl u.toNat hk) ?_
      rintro _ ⟨st1, nx1, rfl, hn1, hd1, hk1⟩
      repeat' (first | (simp -implicitDefEqProofs only [ze, zd, simprocAttr]) | (with_reducible refine wgd_cases ?_ ?_ <;> intro hb) | (with_reducible refine wcond_cases ?_ ?_ <;> intro hb) | (with_reducible refine qd_i (by kernel_rfl) ?_) | (with_reducible refine W_itn_cases ?_ ?_; omega))
      exact ⟨_, _, _, rfl, by omega, fun i g1 g2 => hk1 i (by omega) g2, hd1.le (by omega), rfl⟩
  · repeat' (first | (simp -implicitDefEqProofs only [ze, zd, simprocAttr, h3, bv_len, bv_all, bv_dp, hi]) | (with_reducible refine W_itn_cases ?_ ?_; omega))
    refine qd_i ?_ ?_
    · simp [recsOk, ordB, Rec.free, Rec.wr, disj, List.range, List.range.loop]; try decide
    · simp -implicitDefEqProofs only [ze, zd, simprocAttr]
      refine W_hp (dend_bad u e he) ?_
      rintro _ ⟨st1, nx1, rfl, hn1, hk1⟩
      repeat' (first | (simp -implicitDefEqProofs only [ze, zd, simprocAttr]) | (with_reducible refine wgd_cases ?_ ?_ <;> intro hb) | (with_reducible refine wcond_cases ?_ ?_ <;> intro hb) | (with_reducible refine qd_i (by kernel_rfl) ?_) | (with_reducible refine W_itn_cases ?_ ?_; omega))
      rw [if_neg he]
      exact ⟨_, _, rfl, by omega, fun i g1 g2 => hk1 i (by omega) g2⟩
theorem dcount_ok {st : St} {nx id : Nat} {bs : List Int} {rr a : Nat} (h : Dec st nx id bs rr a) (hb : bOK bs) (hl : bs.length < 4611686018427387904) (most : Int) :
    W (L.hp 97 [.ptr id 0, .i64 most] st nx) (DP st nx id bs rr (dCount most bs a) fun n v _ _ => v = .i64 n ∧ 0 ≤ n ∧ n ≤ most) := by
  refine hp_w k97_eq ?_
  simp only [k97]
  repeat' (first | (simp -implicitDefEqProofs only [ze, zd, simprocAttr]) | (with_reducible refine wgd_cases ?_ ?_ <;> intro hb) | (with_reducible refine wcond_cases ?_ ?_ <;> intro hb) | (with_reducible refine qd_i (by kernel_rfl) ?_) | (with_reducible refine W_itn_cases ?_ ?_; omega))
  refine W_dec (dnumber_ok (h.le (Nat.le_add_right _ _)) hb hl) (fun e st1 nx1 hx hn hk => ?_) (fun p v st1 nx1 hx hn hk hd hv => ?_)
  · repeat' (first | (simp -implicitDefEqProofs only [ze, zd, simprocAttr]) | (with_reducible refine wgd_cases ?_ ?_ <;> intro hb) | (with_reducible refine wcond_cases ?_ ?_ <;> intro hb) | (with_reducible refine qd_i (by kernel_rfl) ?_) | (with_reducible refine W_itn_cases ?_ ?_; omega))
    unfold dCount
    rw [hx]
    exact ⟨_, _, rfl, by omega, fun i g1 g2 => hk i (by omega) g2⟩
  · subst hv
    unfold dCount
    rw [hx]
    by_cases hc : p.1 < 0 ∨ most < p.1
    · simp only [if_pos hc]
      repeat' (first | (simp -implicitDefEqProofs only [ze, zd, simprocAttr]) | (with_reducible refine wgd_cases ?_ ?_ <;> intro hb) | (with_reducible refine wcond_cases ?_ ?_ <;> intro hb) | (with_reducible refine qd_i (by kernel_rfl) ?_) | (with_reducible refine W_itn_cases ?_ ?_; omega))
      all_goals (simp only [decide_eq_true_eq, decide_eq_false_iff_not] at *)
      all_goals (try (exfalso; omega))
      all_goals (refine W_hp (dend_bad 0 9 (by decide)) ?_; rintro _ ⟨st2, nx2, rfl, hn2, hk2⟩; repeat' (first | (simp -implicitDefEqProofs only [ze, zd, simprocAttr]) | (with_reducible refine wgd_cases ?_ ?_ <;> intro hb) | (with_reducible refine wcond_cases ?_ ?_ <;> intro hb) | (with_reducible refine qd_i (by kernel_rfl) ?_) | (with_reducible refine W_itn_cases ?_ ?_; omega)); exact ⟨_, _, rfl, by omega, fun i g1 g2 => (hk2 i (by omega) g2).trans (hk i (by omega) g2)⟩)
    · simp only [if_neg hc]
      have d1 : decide (p.1 < 0) = false := decide_eq_false (by omega)
      have d2 : decide (most < p.1) = false := decide_eq_false (by omega)
      repeat' (first | (simp -implicitDefEqProofs only [ze, zd, simprocAttr, d1, d2]) | (with_reducible refine wgd_cases ?_ ?_ <;> intro hb) | (with_reducible refine wcond_cases ?_ ?_ <;> intro hb) | (with_reducible refine qd_i (by kernel_rfl) ?_) | (with_reducible refine W_itn_cases ?_ ?_; omega))
      exact ⟨_, _, _, rfl, by omega, fun i g1 g2 => hk i (by omega) g2, hd.le (by omega), rfl, by omega, by omega⟩
end Go.Proofs.YtkbheoganajhaaaDoor.Vm
set_option maxRecDepth 10000
set_option linter.unusedVariables false
set_option linter.unusedSimpArgs false
namespace Go.Proofs.YtkbheoganajhaaaDoor.Vm
open Go Go.Proofs
def bindD {α β : Type} (x : Except Int (α × Nat)) (f : α → Nat → Except Int (β × Nat)) : Except Int (β × Nat) := match x with
  | .error e => .error e
  | .ok p => f p.1 p.2
def dTags (bs : List Int) : Nat → List Tag → Nat → Except Int (List Tag × Nat)
  | 0, acc, a => .ok (acc, a)
  | n + 1, acc, a => bindD (dText bs a) fun x a => bindD (dText bs a) fun y a => dTags bs n (acc ++ [⟨x, y⟩]) a
def dLine (bs : List Int) (a : Nat) : Except Int (Line × Nat) :=
  bindD (dText bs a) fun acc a => bindD (dText bs a) fun cur a => bindD (dInt bs a) fun amt a => bindD (dInt bs a) fun base a => bindD (dText bs a) fun par a => bindD (dText bs a) fun pty a =>
  bindD (dCount 6 bs a) fun n a => bindD (dTags bs n.toNat [] a) fun tags a => .ok (⟨acc, cur, amt, base, par, pty, tags, tags.isEmpty⟩, a)
def fresh1 (e : Nat) (xs : List V) (v : V) : Prop := (xs = [] ∧ v = .list 0 [] 1) ∨ (xs ≠ [] ∧ ∃ r, 8 ≤ r ∧ v = .list e xs r)
def lineQ (l : Line) (v : V) (st : St) (nx : Nat) : Prop := ∃ vt, fresh1 97 (l.tags.map encT) vt ∧ l.tr = l.tags.isEmpty ∧ v = .agg [.str l.acc, .str l.cur, .i64 l.amt, .i64 l.base, .str l.par, .str l.pty, vt]
def GrowN (st : St) (n0 nx e : Nat) (xs : List V) (v : V) : Prop := (xs = [] ∧ v = .list 0 [] 1) ∨ (xs ≠ [] ∧ ∃ r, n0 < r ∧ 8 ≤ r ∧ r < nx ∧ v = .list e xs r ∧ st r = some (.tok xs.length e))
theorem W_xdec {α : Type} {P : Program} {E : Env} {i0 nx : Nat} {f : FuncId} {al : List V} {st : St} {id : Nat} {bs : List Int} {rr : Nat} {x : Except Int (α × Nat)} {Q : α → V → St → Nat → Prop} {C : R → Prop} (hn : nobody P f = false) (hh : isM (E.hm f) = true) (h : W (E.hp f al st nx) (DP st nx id bs rr x Q))
    (hbad : ∀ e st' nx', x = .error e → nx ≤ nx' → KeepX st st' nx id → C (.bpan (errV e) st' nx'))
    (hok : ∀ p v st' nx', x = .ok p → nx ≤ nx' → KeepX st st' nx id → Dec st' nx' id bs rr p.2 → Q p.1 v st' nx' → C (.big v st' nx')) : W (xcall P E i0 nx st f al) C := by
  unfold xcall
  rw [if_neg (by rw [hn]; simp), if_pos hh]
  exact W_dec h hbad hok
theorem dec_set {st : St} {nx nx' id j : Nat} {bs : List Int} {rr a : Nat} (h : Dec st nx id bs rr a) (hj : id ≠ j) (hn : nx ≤ nx') (o : Option Ob) : Dec (upd st j o) nx' id bs rr a := ⟨Nat.lt_of_lt_of_le h.1 hn, h.2.1, by rw [upd_at, if_neg hj]; exact h.2.2⟩
theorem dline_ok {st : St} {nx id : Nat} {bs : List Int} {rr a : Nat} (h : Dec st nx id bs rr a) (hb : bOK bs) (hl : bs.length < 4611686018427387904) :
    W (L.hp 98 [.ptr id 0] st nx) (DP st nx id bs rr (dLine bs a) lineQ) := by
  refine hp_w k98_eq ?_
  simp only [k98]
  have hid := h.1
  repeat' (first | (simp -implicitDefEqProofs only [ze, zd, simprocAttr]))
  have kk : KeepX st (upd st nx (some (Ob.cells [V.sc (Value.string (ByteArray.mk #[])), V.sc (Value.string (ByteArray.mk #[])), V.sc (Value.int IntKind.i64 0), V.sc (Value.int IntKind.i64 0), V.sc (Value.string (ByteArray.mk #[])), V.sc (Value.string (ByteArray.mk #[])), V.list 0 [] 1]))) nx id := (KeepX.refl st nx id).upd (Nat.le_refl _) _
  have hD := h.upd (Nat.le_refl nx) (Nat.le_refl nx) (some (Ob.cells [V.sc (Value.string (ByteArray.mk #[])), V.sc (Value.string (ByteArray.mk #[])), V.sc (Value.int IntKind.i64 0), V.sc (Value.int IntKind.i64 0), V.sc (Value.string (ByteArray.mk #[])), V.sc (Value.string (ByteArray.mk #[])), V.list 0 [] 1]))
  have hne : (id = nx) = False := eq_false (by omega)
  have hne' : ¬ id = nx := by omega
  have hO : (upd st nx (some (Ob.cells [V.sc (Value.string (ByteArray.mk #[])), V.sc (Value.string (ByteArray.mk #[])), V.sc (Value.int IntKind.i64 0), V.sc (Value.int IntKind.i64 0), V.sc (Value.string (ByteArray.mk #[])), V.sc (Value.string (ByteArray.mk #[])), V.list 0 [] 1]))) nx = some (Ob.cells [V.sc (Value.string (ByteArray.mk #[])), V.sc (Value.string (ByteArray.mk #[])), V.sc (Value.int IntKind.i64 0), V.sc (Value.int IntKind.i64 0), V.sc (Value.string (ByteArray.mk #[])), V.sc (Value.string (ByteArray.mk #[])), V.list 0 [] 1]) := by rw [upd_at, if_pos rfl]
  refine W_xdec (by kernel_rfl) rfl (dtext_ok (hD.le (by omega)) hb hl) (fun e s n hx1 hn hk => ?_) (fun p1 v s1 n1 hx1 hn1 hk hd hv => ?_)
  · repeat' (first | (simp -implicitDefEqProofs only [ze, zd, simprocAttr]) | (with_reducible refine wgd_cases ?_ ?_ <;> intro hb) | (with_reducible refine wcond_cases ?_ ?_ <;> intro hb) | (with_reducible refine qd_i (by kernel_rfl) ?_) | (with_reducible refine W_itn_cases ?_ ?_; omega))
    have e0 : dLine bs a = .error e := by simp only [dLine, bindD, hx1]
    rw [e0]
    exact ⟨_, _, rfl, by omega, kk.trans hk (by omega)⟩
  subst hv
  replace kk := kk.trans hk (by omega)
  replace hO := (hk nx (by omega) (by omega)).trans hO
  replace hD := hd
  repeat' (first | (simp -implicitDefEqProofs only [ze, zd, simprocAttr, hO]) | (with_reducible refine wgd_cases ?_ ?_ <;> intro hb) | (with_reducible refine wcond_cases ?_ ?_ <;> intro hb) | (with_reducible refine qd_i (by kernel_rfl) ?_) | (with_reducible refine W_itn_cases ?_ ?_; omega))
  refine W_xdec (by kernel_rfl) rfl (dtext_ok (hD.le (by omega)) hb hl) (fun e s n hx2 hn hk => ?_) (fun p2 v s2 n2 hx2 hn2 hk hd hv => ?_)
  · repeat' (first | (simp -implicitDefEqProofs only [ze, zd, simprocAttr]) | (with_reducible refine wgd_cases ?_ ?_ <;> intro hb) | (with_reducible refine wcond_cases ?_ ?_ <;> intro hb) | (with_reducible refine qd_i (by kernel_rfl) ?_) | (with_reducible refine W_itn_cases ?_ ?_; omega))
    have e0 : dLine bs a = .error e := by simp only [dLine, bindD, hx1, hx2]
    rw [e0]
    exact ⟨_, _, rfl, by omega, kk.trans hk (by omega)⟩
  subst hv
  replace kk := kk.trans hk (by omega)
  replace hO := (hk nx (by omega) (by omega)).trans hO
  replace hD := hd
  repeat' (first | (simp -implicitDefEqProofs only [ze, zd, simprocAttr, hO]) | (with_reducible refine wgd_cases ?_ ?_ <;> intro hb) | (with_reducible refine wcond_cases ?_ ?_ <;> intro hb) | (with_reducible refine qd_i (by kernel_rfl) ?_) | (with_reducible refine W_itn_cases ?_ ?_; omega))
  refine W_xdec (by kernel_rfl) rfl (dnumber_ok ((dec_set (dec_set hD hne' (Nat.le_refl _) _) hne' (Nat.le_refl _) _).le (by omega)) hb hl) (fun e s n hx3 hn hk => ?_) (fun p3 v s3 n3 hx3 hn3 hk hd hv => ?_)
  · repeat' (first | (simp -implicitDefEqProofs only [ze, zd, simprocAttr]) | (with_reducible refine wgd_cases ?_ ?_ <;> intro hb) | (with_reducible refine wcond_cases ?_ ?_ <;> intro hb) | (with_reducible refine qd_i (by kernel_rfl) ?_) | (with_reducible refine W_itn_cases ?_ ?_; omega))
    have e0 : dLine bs a = .error e := by simp only [dLine, bindD, hx1, hx2, hx3]
    rw [e0]
    exact ⟨_, _, rfl, by omega, ((kk.upd (Nat.le_refl _) _).upd (Nat.le_refl _) _).trans hk (by omega)⟩
  subst hv
  replace kk := ((kk.upd (Nat.le_refl _) _).upd (Nat.le_refl _) _).trans hk (by omega)
  replace hO := (hk nx (by omega) (by omega)).trans (by rw [upd_at, if_pos rfl])
  replace hD := hd
  repeat' (first | (simp -implicitDefEqProofs only [ze, zd, simprocAttr, hO]) | (with_reducible refine wgd_cases ?_ ?_ <;> intro hb) | (with_reducible refine wcond_cases ?_ ?_ <;> intro hb) | (with_reducible refine qd_i (by kernel_rfl) ?_) | (with_reducible refine W_itn_cases ?_ ?_; omega))
  refine W_xdec (by kernel_rfl) rfl (dnumber_ok (hD.le (by omega)) hb hl) (fun e s n hx4 hn hk => ?_) (fun p4 v s4 n4 hx4 hn4 hk hd hv => ?_)
  · repeat' (first | (simp -implicitDefEqProofs only [ze, zd, simprocAttr]) | (with_reducible refine wgd_cases ?_ ?_ <;> intro hb) | (with_reducible refine wcond_cases ?_ ?_ <;> intro hb) | (with_reducible refine qd_i (by kernel_rfl) ?_) | (with_reducible refine W_itn_cases ?_ ?_; omega))
    have e0 : dLine bs a = .error e := by simp only [dLine, bindD, hx1, hx2, hx3, hx4]
    rw [e0]
    exact ⟨_, _, rfl, by omega, kk.trans hk (by omega)⟩
  subst hv
  replace kk := kk.trans hk (by omega)
  replace hO := (hk nx (by omega) (by omega)).trans hO
  replace hD := hd
  repeat' (first | (simp -implicitDefEqProofs only [ze, zd, simprocAttr, hO]) | (with_reducible refine wgd_cases ?_ ?_ <;> intro hb) | (with_reducible refine wcond_cases ?_ ?_ <;> intro hb) | (with_reducible refine qd_i (by kernel_rfl) ?_) | (with_reducible refine W_itn_cases ?_ ?_; omega))
  refine W_xdec (by kernel_rfl) rfl (dtext_ok ((dec_set (dec_set hD hne' (Nat.le_refl _) _) hne' (Nat.le_refl _) _).le (by omega)) hb hl) (fun e s n hx5 hn hk => ?_) (fun p5 v s5 n5 hx5 hn5 hk hd hv => ?_)
  · repeat' (first | (simp -implicitDefEqProofs only [ze, zd, simprocAttr]) | (with_reducible refine wgd_cases ?_ ?_ <;> intro hb) | (with_reducible refine wcond_cases ?_ ?_ <;> intro hb) | (with_reducible refine qd_i (by kernel_rfl) ?_) | (with_reducible refine W_itn_cases ?_ ?_; omega))
    have e0 : dLine bs a = .error e := by simp only [dLine, bindD, hx1, hx2, hx3, hx4, hx5]
    rw [e0]
    exact ⟨_, _, rfl, by omega, ((kk.upd (Nat.le_refl _) _).upd (Nat.le_refl _) _).trans hk (by omega)⟩
  subst hv
  replace kk := ((kk.upd (Nat.le_refl _) _).upd (Nat.le_refl _) _).trans hk (by omega)
  replace hO := (hk nx (by omega) (by omega)).trans (by rw [upd_at, if_pos rfl])
  replace hD := hd
  repeat' (first | (simp -implicitDefEqProofs only [ze, zd, simprocAttr, hO]) | (with_reducible refine wgd_cases ?_ ?_ <;> intro hb) | (with_reducible refine wcond_cases ?_ ?_ <;> intro hb) | (with_reducible refine qd_i (by kernel_rfl) ?_) | (with_reducible refine W_itn_cases ?_ ?_; omega))
  refine W_xdec (by kernel_rfl) rfl (dtext_ok (hD.le (by omega)) hb hl) (fun e s n hx6 hn hk => ?_) (fun p6 v s6 n6 hx6 hn6 hk hd hv => ?_)
  · repeat' (first | (simp -implicitDefEqProofs only [ze, zd, simprocAttr]) | (with_reducible refine wgd_cases ?_ ?_ <;> intro hb) | (with_reducible refine wcond_cases ?_ ?_ <;> intro hb) | (with_reducible refine qd_i (by kernel_rfl) ?_) | (with_reducible refine W_itn_cases ?_ ?_; omega))
    have e0 : dLine bs a = .error e := by simp only [dLine, bindD, hx1, hx2, hx3, hx4, hx5, hx6]
    rw [e0]
    exact ⟨_, _, rfl, by omega, kk.trans hk (by omega)⟩
  subst hv
  replace kk := kk.trans hk (by omega)
  replace hO := (hk nx (by omega) (by omega)).trans hO
  replace hD := hd
  repeat' (first | (simp -implicitDefEqProofs only [ze, zd, simprocAttr, hO]) | (with_reducible refine wgd_cases ?_ ?_ <;> intro hb) | (with_reducible refine wcond_cases ?_ ?_ <;> intro hb) | (with_reducible refine qd_i (by kernel_rfl) ?_) | (with_reducible refine W_itn_cases ?_ ?_; omega))
  refine W_dec (dcount_ok ((dec_set (dec_set hD hne' (Nat.le_refl _) _) hne' (Nat.le_refl _) _).le (by omega)) hb hl 6) (fun e s n hx7 hn hk => ?_) (fun p7 v s7 n7 hx7 hn7 hk hd hv => ?_)
  · repeat' (first | (simp -implicitDefEqProofs only [ze, zd, simprocAttr]) | (with_reducible refine wgd_cases ?_ ?_ <;> intro hb) | (with_reducible refine wcond_cases ?_ ?_ <;> intro hb) | (with_reducible refine qd_i (by kernel_rfl) ?_) | (with_reducible refine W_itn_cases ?_ ?_; omega))
    have e0 : dLine bs a = .error e := by simp only [dLine, bindD, hx1, hx2, hx3, hx4, hx5, hx6, hx7]
    rw [e0]
    exact ⟨_, _, rfl, by omega, ((kk.upd (Nat.le_refl _) _).upd (Nat.le_refl _) _).trans hk (by omega)⟩
  obtain ⟨rfl, hc0, hc1⟩ := hv
  replace kk := ((kk.upd (Nat.le_refl _) _).upd (Nat.le_refl _) _).trans hk (by omega)
  replace hO := (hk nx (by omega) (by omega)).trans (by rw [upd_at, if_pos rfl])
  replace hD := hd
  repeat' (first | (simp -implicitDefEqProofs only [ze, zd, simprocAttr, hO]) | (with_reducible refine wgd_cases ?_ ?_ <;> intro hb) | (with_reducible refine wcond_cases ?_ ?_ <;> intro hb) | (with_reducible refine qd_i (by kernel_rfl) ?_) | (with_reducible refine W_itn_cases ?_ ?_; omega))
  refine loop_w (fun m tm st' nx' => ∃ (i : Nat) (acc : List Tag) (ai : Nat) (vt : V), m = p7.1.toNat - i ∧ i ≤ p7.1.toNat ∧ acc.length = i ∧ dTags bs p7.1.toNat [] p7.2 = dTags bs (p7.1.toNat - i) acc ai ∧ tm 30 = .i64 i ∧ tm 29 = .i64 p7.1 ∧ tm 0 = .ptr id 0 ∧ tm 2 = .ptr nx 0 ∧ tm 4 = .fn (.func 96) [.ptr id 0] [] ∧ nx + 8 ≤ nx' ∧ KeepX st st' nx id ∧
      st' nx = some (.cells [.str p1.1, .str p2.1, .i64 p3.1, .i64 p4.1, .str p5.1, .str p6.1, vt]) ∧ Dec st' nx' id bs rr ai ∧ GrowN st' nx nx' 97 (acc.map encT) vt) p7.1.toNat ⟨0, [], p7.2, .list 0 [] 1, by omega, by omega, rfl, rfl, ?_, ?_, ?_, ?_, ?_, by omega, kk, hO, hD.le (by omega), .inl ⟨rfl, rfl⟩⟩ ?_
  · simp -implicitDefEqProofs only [ze, zd, simprocAttr]; try rfl
  · simp -implicitDefEqProofs only [ze, zd, simprocAttr]
  · simp -implicitDefEqProofs only [ze, zd, simprocAttr]
  · simp -implicitDefEqProofs only [ze, zd, simprocAttr]
  · simp -implicitDefEqProofs only [ze, zd, simprocAttr]
  clear hD kk hO
  rintro m tm st' nx' ⟨i, acc, ai, vt, hm, hi, hacc, hdt, h30, h29, h0, h2, h4, hnx, kk, hO, hD, hg⟩
  simp only [k98_l0]
  by_cases hlt : i < p7.1.toNat
  · have hd : decide ((i : Int) < p7.1) = true := decide_eq_true (by omega)
    obtain ⟨k, hki⟩ : ∃ k, p7.1.toNat - i = k + 1 := ⟨p7.1.toNat - i - 1, by omega⟩
    rw [hki] at hdt
    repeat' (first | (simp -implicitDefEqProofs only [ze, zd, simprocAttr, h30, h29, h0, h2, h4, hd]) | (with_reducible refine wgd_cases ?_ ?_ <;> intro hb) | (with_reducible refine wcond_cases ?_ ?_ <;> intro hb) | (with_reducible refine qd_i (by kernel_rfl) ?_) | (with_reducible refine W_itn_cases ?_ ?_; omega))
    refine W_xdec (by kernel_rfl) rfl (dtext_ok (hD.upd (j := nx' + 8) (nx' := nx' + 80) (by omega) (by omega) _) hb hl) (fun e s n hxa hn hk => ?_) (fun pa v sa na hxa hna hka hDa hv => ?_)
    · repeat' (first | (simp -implicitDefEqProofs only [ze, zd, simprocAttr, h30, h29, h0, h2, h4]) | (with_reducible refine wgd_cases ?_ ?_ <;> intro hb) | (with_reducible refine wcond_cases ?_ ?_ <;> intro hb) | (with_reducible refine qd_i (by kernel_rfl) ?_) | (with_reducible refine W_itn_cases ?_ ?_; omega))
      have e0 : dLine bs a = .error e := by simp only [dLine, bindD, hx1, hx2, hx3, hx4, hx5, hx6, hx7, hdt, dTags, hxa]
      rw [e0]
      exact ⟨_, _, rfl, by omega, (kk.upd (by omega) _).trans hk (by omega)⟩
    subst hv
    have hOa := (hka nx (by omega) (by omega)).trans (Eq.trans (by rw [upd_at, if_neg (by omega)]) hO)
    have hPa := (hka (nx' + 8) (by omega) (by omega)).trans (by rw [upd_at, if_pos rfl])
    have kka := (kk.upd (j := nx' + 8) (by omega) _).trans hka (by omega)
    repeat' (first | (simp -implicitDefEqProofs only [ze, zd, simprocAttr, h30, h29, h0, h2, h4]) | (with_reducible refine wgd_cases ?_ ?_ <;> intro hb) | (with_reducible refine wcond_cases ?_ ?_ <;> intro hb) | (with_reducible refine qd_i (by kernel_rfl) ?_) | (with_reducible refine W_itn_cases ?_ ?_; omega))
    refine W_xdec (by kernel_rfl) rfl (dtext_ok (hDa.le (by omega)) hb hl) (fun e s n hxb hn hk => ?_) (fun pb v sb nb hxb hnb hkb hDb hv => ?_)
    · repeat' (first | (simp -implicitDefEqProofs only [ze, zd, simprocAttr, h30, h29, h0, h2, h4]) | (with_reducible refine wgd_cases ?_ ?_ <;> intro hb) | (with_reducible refine wcond_cases ?_ ?_ <;> intro hb) | (with_reducible refine qd_i (by kernel_rfl) ?_) | (with_reducible refine W_itn_cases ?_ ?_; omega))
      have e0 : dLine bs a = .error e := by simp only [dLine, bindD, hx1, hx2, hx3, hx4, hx5, hx6, hx7, hdt, dTags, hxa, hxb]
      rw [e0]
      exact ⟨_, _, rfl, by omega, kka.trans hk (by omega)⟩
    subst hv
    have hOb := (hkb nx (by omega) (by omega)).trans hOa
    have hPb := (hkb (nx' + 8) (by omega) (by omega)).trans hPa
    have kkb := kka.trans hkb (by omega)
    have f1 : (nx = nx' + 8) = False := eq_false (by omega)
    have f2 : ∀ j, (nx = nb + j) = False := fun j => eq_false (by omega)
    have f3 : ∀ j, (nx' + 8 = nb + j) = False := fun j => eq_false (by omega)
    have f4 : (nx' + 8 = nx) = False := eq_false (by omega)
    rcases hg with ⟨hb0, rfl⟩ | ⟨hb1, r, hr0, hr8, hrn, rfl, hst⟩
    · repeat' (first | (simp -implicitDefEqProofs only [ze, zd, simprocAttr, hOb, hPb, f1, f2, f3, f4, h30, h29, h0, h2, h4]) | (with_reducible refine wgd_cases ?_ ?_ <;> intro hb) | (with_reducible refine wcond_cases ?_ ?_ <;> intro hb) | (with_reducible refine qd_i (by kernel_rfl) ?_) | (with_reducible refine W_itn_cases ?_ ?_; omega))
      have hacc0 : acc = [] := by simpa using hb0
      subst hacc0
      have hi0 : i = 0 := hacc.symm
      subst hi0
      refine ⟨p7.1.toNat - 1, by omega, 1, [⟨pa.1, pb.1⟩], pb.2, _, rfl, by omega, rfl, ?_, up64 (by omega), by omega, ((((kkb.upd (by omega) _).upd (by omega) _).upd (by omega) _).upd (by omega) _).upd (Nat.le_refl _) _, rfl,
        dec_set (((dec_set (dec_set hDb (by omega) (Nat.le_refl _) _) (by omega) (Nat.le_refl _) _).upd (by omega) (Nat.le_refl _) _).upd (by omega) (Nat.le_refl _) _) hne' (by omega) _, .inr ⟨by simp, nb + 32, by omega, by omega, by omega, rfl, ?_⟩⟩
      · rw [hdt, show p7.1.toNat - 1 = k by omega]; simp only [dTags, bindD, hxa, hxb, List.nil_append]
      · rw [upd_at, if_neg (by omega), upd_at, if_pos rfl]; rfl
    · have hstb := (hkb r (by omega) (by omega)).trans ((hka r (by omega) (by omega)).trans (Eq.trans (by rw [upd_at, if_neg (by omega)]) hst))
      have g1 : (r = 0) = False := eq_false (by omega)
      have g2 : (r = 1) = False := eq_false (by omega)
      have g3 : ∀ j, (r = nb + j) = False := fun j => eq_false (by omega)
      have g4 : (r = nx' + 8) = False := eq_false (by omega)
      have g5 : (nx = r) = False := eq_false (by omega)
      have g6 : (nx' + 8 = r) = False := eq_false (by omega)
      repeat' (first | (simp -implicitDefEqProofs only [ze, zd, simprocAttr, hOb, hPb, hstb, f1, f2, f3, f4, g1, g2, g3, g4, g5, g6, h30, h29, h0, h2, h4, List.length_map]) | (with_reducible refine wgd_cases ?_ ?_ <;> intro hb) | (with_reducible refine wcond_cases ?_ ?_ <;> intro hb) | (with_reducible refine qd_i (by kernel_rfl) ?_) | (with_reducible refine W_itn_cases ?_ ?_; omega))
      refine ⟨p7.1.toNat - (i + 1), by omega, i + 1, acc ++ [⟨pa.1, pb.1⟩], pb.2, _, rfl, by omega, by simp [hacc], ?_, up64 (by omega), by omega, ((((kkb.upd (by omega) _).upd (by omega) _).upd (by omega) _).upd (by omega) _).upd (Nat.le_refl _) _, rfl,
        dec_set (dec_set ((dec_set (dec_set hDb (by omega) (Nat.le_refl _) _) (by omega) (Nat.le_refl _) _).upd (by omega) (Nat.le_refl _) _) (by omega) (Nat.le_refl _) _) hne' (by omega) _, .inr ⟨by simp, r, by omega, by omega, by omega, by simp [encT], ?_⟩⟩
      · rw [hdt, show p7.1.toNat - (i + 1) = k by omega]; simp only [dTags, bindD, hxa, hxb]
      · rw [upd_at, if_neg (by omega), upd_at, if_pos rfl]; simp
  · have hd : decide ((i : Int) < p7.1) = false := decide_eq_false (by omega)
    have hin : i = p7.1.toNat := by omega
    rw [hin, Nat.sub_self] at hdt
    have e0 : dLine bs a = .ok (⟨p1.1, p2.1, p3.1, p4.1, p5.1, p6.1, acc, acc.isEmpty⟩, ai) := by simp only [dLine, bindD, hx1, hx2, hx3, hx4, hx5, hx6, hx7, hdt, dTags]
    rcases hg with ⟨hb0, rfl⟩ | ⟨hb1, r, hr0, hr8, hrn, rfl, hst⟩
    · repeat' (first | (simp -implicitDefEqProofs only [ze, zd, simprocAttr, h30, h29, h0, h2, h4, hd, k98_t0, hO]) | (with_reducible refine wgd_cases ?_ ?_ <;> intro hb) | (with_reducible refine wcond_cases ?_ ?_ <;> intro hb) | (with_reducible refine qd_i (by kernel_rfl) ?_) | (with_reducible refine W_itn_cases ?_ ?_; omega))
      rw [e0]
      exact ⟨_, _, _, rfl, by omega, kk.upd (Nat.le_refl _) _, dec_set hD hne' (by omega) _, _, .inl ⟨hb0, rfl⟩, rfl, rfl⟩
    · repeat' (first | (simp -implicitDefEqProofs only [ze, zd, simprocAttr, h30, h29, h0, h2, h4, hd, k98_t0, hO]) | (with_reducible refine wgd_cases ?_ ?_ <;> intro hb) | (with_reducible refine wcond_cases ?_ ?_ <;> intro hb) | (with_reducible refine qd_i (by kernel_rfl) ?_) | (with_reducible refine W_itn_cases ?_ ?_; omega))
      rw [e0]
      exact ⟨_, _, _, rfl, by omega, kk.upd (Nat.le_refl _) _, dec_set hD hne' (by omega) _, _, .inr ⟨hb1, r, hr8, rfl⟩, rfl, rfl⟩
end Go.Proofs.YtkbheoganajhaaaDoor.Vm
set_option maxRecDepth 10000
set_option linter.unusedVariables false
set_option linter.unusedSimpArgs false
namespace Go.Proofs.YtkbheoganajhaaaDoor.Vm
open Go Go.Proofs
def dLines (bs : List Int) : Nat → List Line → Nat → Except Int (List Line × Nat)
  | 0, acc, a => .ok (acc, a)
  | n + 1, acc, a => bindD (dLine bs a) fun x a => dLines bs n (acc ++ [x]) a
def dEntry (bs : List Int) (a : Nat) : Except Int (Entry × Nat) :=
  bindD (dInt bs a) fun no a => bindD (dText bs a) fun ent a => bindD (dInt bs a) fun book a => bindD (dInt bs a) fun val a => bindD (dInt bs a) fun kind a => bindD (dText bs a) fun ref a => bindD (dText bs a) fun who a => bindD (dInt bs a) fun rev a =>
  bindD (dCount 100 bs a) fun n a => bindD (dLines bs n.toNat [] a) fun lines a => .ok (⟨no, ent, book, val, kind, ref, who, rev, lines, lines.isEmpty⟩, a)
def entryQ (e : Entry) (v : V) (st : St) (nx : Nat) : Prop := ∃ vt, fresh1 61 (e.lines.map encL) vt ∧ e.lr = e.lines.isEmpty ∧ v = .agg [.i64 e.no, .str e.ent, .i64 e.book, .i64 e.val, .i64 e.kind, .str e.ref, .str e.who, .i64 e.rev, vt]
theorem dentry_ok {st : St} {nx id : Nat} {bs : List Int} {rr a : Nat} (h : Dec st nx id bs rr a) (hb : bOK bs) (hl : bs.length < 4611686018427387904) :
    W (L.hp 83 [.ptr id 0] st nx) (DP st nx id bs rr (dEntry bs a) entryQ) := by
  refine hp_w k83_eq ?_
  simp only [k83]
  have hid := h.1
  repeat' (first | (simp -implicitDefEqProofs only [ze, zd, simprocAttr]))
  have kk : KeepX st (upd st nx (some (Ob.cells [V.sc (Value.int IntKind.i64 0), V.sc (Value.string (ByteArray.mk #[])), V.sc (Value.int IntKind.i64 0), V.sc (Value.int IntKind.i64 0), V.sc (Value.int IntKind.i64 0), V.sc (Value.string (ByteArray.mk #[])), V.sc (Value.string (ByteArray.mk #[])), V.sc (Value.int IntKind.i64 0), V.list 0 [] 1]))) nx id := (KeepX.refl st nx id).upd (Nat.le_refl _) _
  have hD := h.upd (Nat.le_refl nx) (Nat.le_refl nx) (some (Ob.cells [V.sc (Value.int IntKind.i64 0), V.sc (Value.string (ByteArray.mk #[])), V.sc (Value.int IntKind.i64 0), V.sc (Value.int IntKind.i64 0), V.sc (Value.int IntKind.i64 0), V.sc (Value.string (ByteArray.mk #[])), V.sc (Value.string (ByteArray.mk #[])), V.sc (Value.int IntKind.i64 0), V.list 0 [] 1]))
  have hne : (id = nx) = False := eq_false (by omega)
  have hne' : ¬ id = nx := by omega
  have hO : (upd st nx (some (Ob.cells [V.sc (Value.int IntKind.i64 0), V.sc (Value.string (ByteArray.mk #[])), V.sc (Value.int IntKind.i64 0), V.sc (Value.int IntKind.i64 0), V.sc (Value.int IntKind.i64 0), V.sc (Value.string (ByteArray.mk #[])), V.sc (Value.string (ByteArray.mk #[])), V.sc (Value.int IntKind.i64 0), V.list 0 [] 1]))) nx = some (Ob.cells [V.sc (Value.int IntKind.i64 0), V.sc (Value.string (ByteArray.mk #[])), V.sc (Value.int IntKind.i64 0), V.sc (Value.int IntKind.i64 0), V.sc (Value.int IntKind.i64 0), V.sc (Value.string (ByteArray.mk #[])), V.sc (Value.string (ByteArray.mk #[])), V.sc (Value.int IntKind.i64 0), V.list 0 [] 1]) := by rw [upd_at, if_pos rfl]
  refine W_xdec (by kernel_rfl) rfl (dnumber_ok (hD.le (by omega)) hb hl) (fun e s n hx1 hn hk => ?_) (fun p1 v s1 n1 hx1 hn1 hk hd hv => ?_)
  · repeat' (first | (simp -implicitDefEqProofs only [ze, zd, simprocAttr]) | (with_reducible refine wgd_cases ?_ ?_ <;> intro hb) | (with_reducible refine wcond_cases ?_ ?_ <;> intro hb) | (with_reducible refine qd_i (by kernel_rfl) ?_) | (with_reducible refine W_itn_cases ?_ ?_; omega))
    have e0 : dEntry bs a = .error e := by simp only [dEntry, bindD, hx1]
    rw [e0]
    exact ⟨_, _, rfl, by omega, kk.trans hk (by omega)⟩
  subst hv
  replace kk := kk.trans hk (by omega)
  replace hO := (hk nx (by omega) (by omega)).trans hO
  replace hD := hd
  repeat' (first | (simp -implicitDefEqProofs only [ze, zd, simprocAttr, hO]) | (with_reducible refine wgd_cases ?_ ?_ <;> intro hb) | (with_reducible refine wcond_cases ?_ ?_ <;> intro hb) | (with_reducible refine qd_i (by kernel_rfl) ?_) | (with_reducible refine W_itn_cases ?_ ?_; omega))
  refine W_xdec (by kernel_rfl) rfl (dtext_ok ((dec_set hD hne' (Nat.le_refl _) _).le (by omega)) hb hl) (fun e s n hx2 hn hk => ?_) (fun p2 v s2 n2 hx2 hn2 hk hd hv => ?_)
  · repeat' (first | (simp -implicitDefEqProofs only [ze, zd, simprocAttr]) | (with_reducible refine wgd_cases ?_ ?_ <;> intro hb) | (with_reducible refine wcond_cases ?_ ?_ <;> intro hb) | (with_reducible refine qd_i (by kernel_rfl) ?_) | (with_reducible refine W_itn_cases ?_ ?_; omega))
    have e0 : dEntry bs a = .error e := by simp only [dEntry, bindD, hx1, hx2]
    rw [e0]
    exact ⟨_, _, rfl, by omega, (kk.upd (Nat.le_refl _) _).trans hk (by omega)⟩
  subst hv
  replace kk := (kk.upd (Nat.le_refl _) _).trans hk (by omega)
  replace hO := (hk nx (by omega) (by omega)).trans (by rw [upd_at, if_pos rfl])
  replace hD := hd
  repeat' (first | (simp -implicitDefEqProofs only [ze, zd, simprocAttr, hO]) | (with_reducible refine wgd_cases ?_ ?_ <;> intro hb) | (with_reducible refine wcond_cases ?_ ?_ <;> intro hb) | (with_reducible refine qd_i (by kernel_rfl) ?_) | (with_reducible refine W_itn_cases ?_ ?_; omega))
  refine W_xdec (by kernel_rfl) rfl (dnumber_ok ((dec_set hD hne' (Nat.le_refl _) _).le (by omega)) hb hl) (fun e s n hx3 hn hk => ?_) (fun p3 v s3 n3 hx3 hn3 hk hd hv => ?_)
  · repeat' (first | (simp -implicitDefEqProofs only [ze, zd, simprocAttr]) | (with_reducible refine wgd_cases ?_ ?_ <;> intro hb) | (with_reducible refine wcond_cases ?_ ?_ <;> intro hb) | (with_reducible refine qd_i (by kernel_rfl) ?_) | (with_reducible refine W_itn_cases ?_ ?_; omega))
    have e0 : dEntry bs a = .error e := by simp only [dEntry, bindD, hx1, hx2, hx3]
    rw [e0]
    exact ⟨_, _, rfl, by omega, (kk.upd (Nat.le_refl _) _).trans hk (by omega)⟩
  subst hv
  replace kk := (kk.upd (Nat.le_refl _) _).trans hk (by omega)
  replace hO := (hk nx (by omega) (by omega)).trans (by rw [upd_at, if_pos rfl])
  replace hD := hd
  repeat' (first | (simp -implicitDefEqProofs only [ze, zd, simprocAttr, hO]) | (with_reducible refine wgd_cases ?_ ?_ <;> intro hb) | (with_reducible refine wcond_cases ?_ ?_ <;> intro hb) | (with_reducible refine qd_i (by kernel_rfl) ?_) | (with_reducible refine W_itn_cases ?_ ?_; omega))
  refine W_xdec (by kernel_rfl) rfl (dnumber_ok (hD.le (by omega)) hb hl) (fun e s n hx4 hn hk => ?_) (fun p4 v s4 n4 hx4 hn4 hk hd hv => ?_)
  · repeat' (first | (simp -implicitDefEqProofs only [ze, zd, simprocAttr]) | (with_reducible refine wgd_cases ?_ ?_ <;> intro hb) | (with_reducible refine wcond_cases ?_ ?_ <;> intro hb) | (with_reducible refine qd_i (by kernel_rfl) ?_) | (with_reducible refine W_itn_cases ?_ ?_; omega))
    have e0 : dEntry bs a = .error e := by simp only [dEntry, bindD, hx1, hx2, hx3, hx4]
    rw [e0]
    exact ⟨_, _, rfl, by omega, kk.trans hk (by omega)⟩
  subst hv
  replace kk := kk.trans hk (by omega)
  replace hO := (hk nx (by omega) (by omega)).trans hO
  replace hD := hd
  repeat' (first | (simp -implicitDefEqProofs only [ze, zd, simprocAttr, hO]) | (with_reducible refine wgd_cases ?_ ?_ <;> intro hb) | (with_reducible refine wcond_cases ?_ ?_ <;> intro hb) | (with_reducible refine qd_i (by kernel_rfl) ?_) | (with_reducible refine W_itn_cases ?_ ?_; omega))
  refine W_xdec (by kernel_rfl) rfl (dnumber_ok (hD.le (by omega)) hb hl) (fun e s n hx5 hn hk => ?_) (fun p5 v s5 n5 hx5 hn5 hk hd hv => ?_)
  · repeat' (first | (simp -implicitDefEqProofs only [ze, zd, simprocAttr]) | (with_reducible refine wgd_cases ?_ ?_ <;> intro hb) | (with_reducible refine wcond_cases ?_ ?_ <;> intro hb) | (with_reducible refine qd_i (by kernel_rfl) ?_) | (with_reducible refine W_itn_cases ?_ ?_; omega))
    have e0 : dEntry bs a = .error e := by simp only [dEntry, bindD, hx1, hx2, hx3, hx4, hx5]
    rw [e0]
    exact ⟨_, _, rfl, by omega, kk.trans hk (by omega)⟩
  subst hv
  replace kk := kk.trans hk (by omega)
  replace hO := (hk nx (by omega) (by omega)).trans hO
  replace hD := hd
  repeat' (first | (simp -implicitDefEqProofs only [ze, zd, simprocAttr, hO]) | (with_reducible refine wgd_cases ?_ ?_ <;> intro hb) | (with_reducible refine wcond_cases ?_ ?_ <;> intro hb) | (with_reducible refine qd_i (by kernel_rfl) ?_) | (with_reducible refine W_itn_cases ?_ ?_; omega))
  refine W_xdec (by kernel_rfl) rfl (dtext_ok ((dec_set (dec_set (dec_set hD hne' (Nat.le_refl _) _) hne' (Nat.le_refl _) _) hne' (Nat.le_refl _) _).le (by omega)) hb hl) (fun e s n hx6 hn hk => ?_) (fun p6 v s6 n6 hx6 hn6 hk hd hv => ?_)
  · repeat' (first | (simp -implicitDefEqProofs only [ze, zd, simprocAttr]) | (with_reducible refine wgd_cases ?_ ?_ <;> intro hb) | (with_reducible refine wcond_cases ?_ ?_ <;> intro hb) | (with_reducible refine qd_i (by kernel_rfl) ?_) | (with_reducible refine W_itn_cases ?_ ?_; omega))
    have e0 : dEntry bs a = .error e := by simp only [dEntry, bindD, hx1, hx2, hx3, hx4, hx5, hx6]
    rw [e0]
    exact ⟨_, _, rfl, by omega, (((kk.upd (Nat.le_refl _) _).upd (Nat.le_refl _) _).upd (Nat.le_refl _) _).trans hk (by omega)⟩
  subst hv
  replace kk := (((kk.upd (Nat.le_refl _) _).upd (Nat.le_refl _) _).upd (Nat.le_refl _) _).trans hk (by omega)
  replace hO := (hk nx (by omega) (by omega)).trans (by rw [upd_at, if_pos rfl])
  replace hD := hd
  repeat' (first | (simp -implicitDefEqProofs only [ze, zd, simprocAttr, hO]) | (with_reducible refine wgd_cases ?_ ?_ <;> intro hb) | (with_reducible refine wcond_cases ?_ ?_ <;> intro hb) | (with_reducible refine qd_i (by kernel_rfl) ?_) | (with_reducible refine W_itn_cases ?_ ?_; omega))
  refine W_xdec (by kernel_rfl) rfl (dtext_ok (hD.le (by omega)) hb hl) (fun e s n hx7 hn hk => ?_) (fun p7 v s7 n7 hx7 hn7 hk hd hv => ?_)
  · repeat' (first | (simp -implicitDefEqProofs only [ze, zd, simprocAttr]) | (with_reducible refine wgd_cases ?_ ?_ <;> intro hb) | (with_reducible refine wcond_cases ?_ ?_ <;> intro hb) | (with_reducible refine qd_i (by kernel_rfl) ?_) | (with_reducible refine W_itn_cases ?_ ?_; omega))
    have e0 : dEntry bs a = .error e := by simp only [dEntry, bindD, hx1, hx2, hx3, hx4, hx5, hx6, hx7]
    rw [e0]
    exact ⟨_, _, rfl, by omega, kk.trans hk (by omega)⟩
  subst hv
  replace kk := kk.trans hk (by omega)
  replace hO := (hk nx (by omega) (by omega)).trans hO
  replace hD := hd
  repeat' (first | (simp -implicitDefEqProofs only [ze, zd, simprocAttr, hO]) | (with_reducible refine wgd_cases ?_ ?_ <;> intro hb) | (with_reducible refine wcond_cases ?_ ?_ <;> intro hb) | (with_reducible refine qd_i (by kernel_rfl) ?_) | (with_reducible refine W_itn_cases ?_ ?_; omega))
  refine W_xdec (by kernel_rfl) rfl (dnumber_ok ((dec_set (dec_set hD hne' (Nat.le_refl _) _) hne' (Nat.le_refl _) _).le (by omega)) hb hl) (fun e s n hx8 hn hk => ?_) (fun p8 v s8 n8 hx8 hn8 hk hd hv => ?_)
  · repeat' (first | (simp -implicitDefEqProofs only [ze, zd, simprocAttr]) | (with_reducible refine wgd_cases ?_ ?_ <;> intro hb) | (with_reducible refine wcond_cases ?_ ?_ <;> intro hb) | (with_reducible refine qd_i (by kernel_rfl) ?_) | (with_reducible refine W_itn_cases ?_ ?_; omega))
    have e0 : dEntry bs a = .error e := by simp only [dEntry, bindD, hx1, hx2, hx3, hx4, hx5, hx6, hx7, hx8]
    rw [e0]
    exact ⟨_, _, rfl, by omega, ((kk.upd (Nat.le_refl _) _).upd (Nat.le_refl _) _).trans hk (by omega)⟩
  subst hv
  replace kk := ((kk.upd (Nat.le_refl _) _).upd (Nat.le_refl _) _).trans hk (by omega)
  replace hO := (hk nx (by omega) (by omega)).trans (by rw [upd_at, if_pos rfl])
  replace hD := hd
  repeat' (first | (simp -implicitDefEqProofs only [ze, zd, simprocAttr, hO]) | (with_reducible refine wgd_cases ?_ ?_ <;> intro hb) | (with_reducible refine wcond_cases ?_ ?_ <;> intro hb) | (with_reducible refine qd_i (by kernel_rfl) ?_) | (with_reducible refine W_itn_cases ?_ ?_; omega))
  refine W_dec (dcount_ok ((dec_set hD hne' (Nat.le_refl _) _).le (by omega)) hb hl 100) (fun e s n hx9 hn hk => ?_) (fun p9 v s9 n9 hx9 hn9 hk hd hv => ?_)
  · repeat' (first | (simp -implicitDefEqProofs only [ze, zd, simprocAttr]) | (with_reducible refine wgd_cases ?_ ?_ <;> intro hb) | (with_reducible refine wcond_cases ?_ ?_ <;> intro hb) | (with_reducible refine qd_i (by kernel_rfl) ?_) | (with_reducible refine W_itn_cases ?_ ?_; omega))
    have e0 : dEntry bs a = .error e := by simp only [dEntry, bindD, hx1, hx2, hx3, hx4, hx5, hx6, hx7, hx8, hx9]
    rw [e0]
    exact ⟨_, _, rfl, by omega, (kk.upd (Nat.le_refl _) _).trans hk (by omega)⟩
  obtain ⟨rfl, hc0, hc1⟩ := hv
  replace kk := (kk.upd (Nat.le_refl _) _).trans hk (by omega)
  replace hO := (hk nx (by omega) (by omega)).trans (by rw [upd_at, if_pos rfl])
  replace hD := hd
  repeat' (first | (simp -implicitDefEqProofs only [ze, zd, simprocAttr, hO]) | (with_reducible refine wgd_cases ?_ ?_ <;> intro hb) | (with_reducible refine wcond_cases ?_ ?_ <;> intro hb) | (with_reducible refine qd_i (by kernel_rfl) ?_) | (with_reducible refine W_itn_cases ?_ ?_; omega))
  have hC : ∃ c, c = [V.i64 p1.1, V.str p2.1, V.i64 p3.1, V.i64 p4.1, V.i64 p5.1, V.str p6.1, V.str p7.1, V.i64 p8.1] := ⟨_, rfl⟩
  refine loop_w (fun m tm st' nx' => ∃ (i : Nat) (acc : List Line) (ai : Nat) (vt : V), m = p9.1.toNat - i ∧ i ≤ p9.1.toNat ∧ acc.length = i ∧ dLines bs p9.1.toNat [] p9.2 = dLines bs (p9.1.toNat - i) acc ai ∧ tm 35 = .i64 i ∧ tm 34 = .i64 p9.1 ∧ tm 0 = .ptr id 0 ∧ tm 2 = .ptr nx 0 ∧ nx + 8 ≤ nx' ∧ KeepX st st' nx id ∧
      st' nx = some (.cells [.i64 p1.1, .str p2.1, .i64 p3.1, .i64 p4.1, .i64 p5.1, .str p6.1, .str p7.1, .i64 p8.1, vt]) ∧ Dec st' nx' id bs rr ai ∧ GrowN st' nx nx' 61 (acc.map encL) vt) p9.1.toNat ⟨0, [], p9.2, .list 0 [] 1, by omega, by omega, rfl, rfl, ?_, ?_, ?_, ?_, by omega, kk, hO, hD.le (by omega), .inl ⟨rfl, rfl⟩⟩ ?_
  · simp -implicitDefEqProofs only [ze, zd, simprocAttr]; try rfl
  · simp -implicitDefEqProofs only [ze, zd, simprocAttr]
  · simp -implicitDefEqProofs only [ze, zd, simprocAttr]
  · simp -implicitDefEqProofs only [ze, zd, simprocAttr]
  clear hD kk hO
  rintro m tm st' nx' ⟨i, acc, ai, vt, hm, hi, hacc, hdt, h35, h34, h0, h2, hnx, kk, hO, hD, hg⟩
  simp only [k83_l0]
  by_cases hlt : i < p9.1.toNat
  · have hd : decide ((i : Int) < p9.1) = true := decide_eq_true (by omega)
    obtain ⟨k, hki⟩ : ∃ k, p9.1.toNat - i = k + 1 := ⟨p9.1.toNat - i - 1, by omega⟩
    rw [hki] at hdt
    repeat' (first | (simp -implicitDefEqProofs only [ze, zd, simprocAttr, h35, h34, h0, h2, hd, hO]))
    refine W_dec (dline_ok (hD.le (by omega)) hb hl) (fun e s n hxa hn hk => ?_) (fun pa v sa na hxa hna hka hDa hv => ?_)
    · simp -implicitDefEqProofs only [ze, zd, simprocAttr]
      refine ⟨?_, by kernel_rfl, ?_⟩
      · simp [recsOk2, ordB, pairOk, bigF, δF, rF, disj, List.range, List.range.loop]
      · have e0 : dEntry bs a = .error e := by simp only [dEntry, bindD, hx1, hx2, hx3, hx4, hx5, hx6, hx7, hx8, hx9, hdt, dLines, hxa]
        rw [e0]
        exact ⟨_, _, rfl, by omega, kk.trans hk (by omega)⟩
    · obtain ⟨vt2, hf, htr, rfl⟩ := hv
      have hOa := (hka nx (by omega) (by omega)).trans hO
      have kka := kk.trans hka (by omega)
      have f2 : ∀ j, (nx = na + j) = False := fun j => eq_false (by omega)
      have f5 : ∀ j, (nx = nx' + j) = False := fun j => eq_false (by omega)
      rcases hf with ⟨hfb, rfl⟩ | ⟨hfb, r2, hr28, rfl⟩
      · have htg : pa.1.tags = [] := by simpa using hfb
        have hel : encL pa.1 = .agg [.str pa.1.acc, .str pa.1.cur, .i64 pa.1.amt, .i64 pa.1.base, .str pa.1.par, .str pa.1.pty, .list 0 [] 1] := by
          unfold encL; rw [htr, htg]; rfl
        rcases hg with ⟨hb0, rfl⟩ | ⟨hb1, r, hr0, hr8, hrn, rfl, hst⟩
        · have hacc0 : acc = [] := by simpa using hb0
          subst hacc0
          have hi0 : i = 0 := hacc.symm
          subst hi0
          repeat' (first | (simp -implicitDefEqProofs only [ze, zd, simprocAttr, hOa, f2, f5, h35, h34, h0, h2, wnx_tb, wnx_tbn]) | (with_reducible refine W_itn_cases ?_ ?_; omega))
          refine qd_2 ?_ ?_
          · simp [recsOk2, ordB, pairOk, bigF, δF, rF, disj, List.range, List.range.loop, seqSt, upds_nil]
            exact ⟨.inr (hOa.trans hO.symm), ⟨.inr (by omega), by decide⟩, ⟨.inr (by omega), by decide⟩, by decide, by decide, .inr (by omega), .inr (by omega)⟩
          · repeat' (first | (simp -implicitDefEqProofs only [ze, zd, simprocAttr, h35, h34, h0, h2, f2, f5]) | (with_reducible refine wgd_cases ?_ ?_ <;> intro hb) | (with_reducible refine wcond_cases ?_ ?_ <;> intro hb) | (with_reducible refine qd_i (by kernel_rfl) ?_) | (with_reducible refine W_itn_cases ?_ ?_; omega))
            refine ⟨p9.1.toNat - 1, by omega, 1, [pa.1], pa.2, _, rfl, by omega, rfl, ?_, up64 (by omega), by omega, ((kka.upd (by omega) _).upd (by omega) _).upd (Nat.le_refl _) _, rfl, dec_set (dec_set (dec_set hDa (by omega) (Nat.le_refl _) _) (by omega) (Nat.le_refl _) _) hne' (by omega) _, .inr ⟨by simp, nx' + 48, by omega, by omega, by omega, by rw [List.map_cons, hel]; rfl, ?_⟩⟩
            · rw [hdt, show p9.1.toNat - 1 = k by omega]; simp only [dLines, bindD, hxa, List.nil_append]
            · rw [upd_at, if_neg (by omega), upd_at, if_pos rfl]; rfl
        · have hstb := (hka r (by omega) (by omega)).trans hst
          have g1 : (r = 0) = False := eq_false (by omega)
          have g2 : (r = 1) = False := eq_false (by omega)
          have g3 : ∀ j, (r = nx' + j) = False := fun j => eq_false (by omega)
          have g5 : (nx = r) = False := eq_false (by omega)
          repeat' (first | (simp -implicitDefEqProofs only [ze, zd, simprocAttr, hOa, hstb, f2, f5, g1, g2, g3, g5, h35, h34, h0, h2, List.length_map, wnx_tb, wnx_tbn]) | (with_reducible refine W_itn_cases ?_ ?_; omega))
          refine qd_2 ?_ ?_
          · simp [recsOk2, ordB, pairOk, bigF, δF, rF, disj, List.range, List.range.loop, seqSt, upds_nil]
            exact ⟨.inr (hOa.trans hO.symm), ⟨.inr (by omega), by decide⟩, ⟨.inr (by omega), by decide, .inr (by omega)⟩, by decide, by decide, .inr (by omega), .inr (by omega)⟩
          · repeat' (first | (simp -implicitDefEqProofs only [ze, zd, simprocAttr, h35, h34, h0, h2, f2, f5, g5]) | (with_reducible refine wgd_cases ?_ ?_ <;> intro hb) | (with_reducible refine wcond_cases ?_ ?_ <;> intro hb) | (with_reducible refine qd_i (by kernel_rfl) ?_) | (with_reducible refine W_itn_cases ?_ ?_; omega))
            refine ⟨p9.1.toNat - (i + 1), by omega, i + 1, acc ++ [pa.1], pa.2, _, rfl, by omega, by simp [hacc], ?_, up64 (by omega), by omega, ((kka.upd (by omega) _).upd (by omega) _).upd (Nat.le_refl _) _, rfl, dec_set (dec_set (dec_set hDa (by omega) (Nat.le_refl _) _) (by omega) (Nat.le_refl _) _) hne' (by omega) _, .inr ⟨by simp, r, by omega, by omega, by omega, by rw [List.map_append, List.map_cons, hel]; rfl, ?_⟩⟩
            · rw [hdt, show p9.1.toNat - (i + 1) = k by omega]; simp only [dLines, bindD, hxa]
            · rw [upd_at, if_neg (by omega), upd_at, if_pos rfl]; simp
      · have htg : pa.1.tags ≠ [] := by intro h; exact hfb (by rw [h]; rfl)
        have g7 : (r2 = 1) = False := eq_false (by omega)
        have hel : encL pa.1 = .agg [.str pa.1.acc, .str pa.1.cur, .i64 pa.1.amt, .i64 pa.1.base, .str pa.1.par, .str pa.1.pty, .list 97 (pa.1.tags.map encT) 0] := by
          have : pa.1.tr = false := by rw [htr]; simpa using htg
          unfold encL; rw [this]; rfl
        rcases hg with ⟨hb0, rfl⟩ | ⟨hb1, r, hr0, hr8, hrn, rfl, hst⟩
        · have hacc0 : acc = [] := by simpa using hb0
          subst hacc0
          have hi0 : i = 0 := hacc.symm
          subst hi0
          repeat' (first | (simp -implicitDefEqProofs only [ze, zd, simprocAttr, hOa, f2, f5, h35, h34, h0, h2, wnx_tb, wnx_tbn, g7]) | (with_reducible refine W_itn_cases ?_ ?_; omega))
          refine qd_2 ?_ ?_
          · simp [recsOk2, ordB, pairOk, bigF, δF, rF, disj, List.range, List.range.loop, seqSt, upds_nil]
            exact ⟨.inr (hOa.trans hO.symm), ⟨.inr (by omega), by decide⟩, ⟨.inr (by omega), by decide⟩, by decide, by decide, .inr (by omega), .inr (by omega)⟩
          · repeat' (first | (simp -implicitDefEqProofs only [ze, zd, simprocAttr, h35, h34, h0, h2, f2, f5]) | (with_reducible refine wgd_cases ?_ ?_ <;> intro hb) | (with_reducible refine wcond_cases ?_ ?_ <;> intro hb) | (with_reducible refine qd_i (by kernel_rfl) ?_) | (with_reducible refine W_itn_cases ?_ ?_; omega))
            refine ⟨p9.1.toNat - 1, by omega, 1, [pa.1], pa.2, _, rfl, by omega, rfl, ?_, up64 (by omega), by omega, ((kka.upd (by omega) _).upd (by omega) _).upd (Nat.le_refl _) _, rfl, dec_set (dec_set (dec_set hDa (by omega) (Nat.le_refl _) _) (by omega) (Nat.le_refl _) _) hne' (by omega) _, .inr ⟨by simp, nx' + 48, by omega, by omega, by omega, by rw [List.map_cons, hel]; rfl, ?_⟩⟩
            · rw [hdt, show p9.1.toNat - 1 = k by omega]; simp only [dLines, bindD, hxa, List.nil_append]
            · rw [upd_at, if_neg (by omega), upd_at, if_pos rfl]; rfl
        · have hstb := (hka r (by omega) (by omega)).trans hst
          have g1 : (r = 0) = False := eq_false (by omega)
          have g2 : (r = 1) = False := eq_false (by omega)
          have g3 : ∀ j, (r = nx' + j) = False := fun j => eq_false (by omega)
          have g5 : (nx = r) = False := eq_false (by omega)
          repeat' (first | (simp -implicitDefEqProofs only [ze, zd, simprocAttr, hOa, hstb, f2, f5, g1, g2, g3, g5, h35, h34, h0, h2, List.length_map, wnx_tb, wnx_tbn, g7]) | (with_reducible refine W_itn_cases ?_ ?_; omega))
          refine qd_2 ?_ ?_
          · simp [recsOk2, ordB, pairOk, bigF, δF, rF, disj, List.range, List.range.loop, seqSt, upds_nil]
            exact ⟨.inr (hOa.trans hO.symm), ⟨.inr (by omega), by decide⟩, ⟨.inr (by omega), by decide, .inr (by omega)⟩, by decide, by decide, .inr (by omega), .inr (by omega)⟩
          · repeat' (first | (simp -implicitDefEqProofs only [ze, zd, simprocAttr, h35, h34, h0, h2, f2, f5, g5]) | (with_reducible refine wgd_cases ?_ ?_ <;> intro hb) | (with_reducible refine wcond_cases ?_ ?_ <;> intro hb) | (with_reducible refine qd_i (by kernel_rfl) ?_) | (with_reducible refine W_itn_cases ?_ ?_; omega))
            refine ⟨p9.1.toNat - (i + 1), by omega, i + 1, acc ++ [pa.1], pa.2, _, rfl, by omega, by simp [hacc], ?_, up64 (by omega), by omega, ((kka.upd (by omega) _).upd (by omega) _).upd (Nat.le_refl _) _, rfl, dec_set (dec_set (dec_set hDa (by omega) (Nat.le_refl _) _) (by omega) (Nat.le_refl _) _) hne' (by omega) _, .inr ⟨by simp, r, by omega, by omega, by omega, by rw [List.map_append, List.map_cons, hel]; rfl, ?_⟩⟩
            · rw [hdt, show p9.1.toNat - (i + 1) = k by omega]; simp only [dLines, bindD, hxa]
            · rw [upd_at, if_neg (by omega), upd_at, if_pos rfl]; simp
  · have hd : decide ((i : Int) < p9.1) = false := decide_eq_false (by omega)
    have hin : i = p9.1.toNat := by omega
    rw [hin, Nat.sub_self] at hdt
    have e0 : dEntry bs a = .ok (⟨p1.1, p2.1, p3.1, p4.1, p5.1, p6.1, p7.1, p8.1, acc, acc.isEmpty⟩, ai) := by simp only [dEntry, bindD, hx1, hx2, hx3, hx4, hx5, hx6, hx7, hx8, hx9, hdt, dLines]
    rcases hg with ⟨hb0, rfl⟩ | ⟨hb1, r, hr0, hr8, hrn, rfl, hst⟩
    · repeat' (first | (simp -implicitDefEqProofs only [ze, zd, simprocAttr, h35, h34, h0, h2, hd, k83_t0, hO]) | (with_reducible refine wgd_cases ?_ ?_ <;> intro hb) | (with_reducible refine wcond_cases ?_ ?_ <;> intro hb) | (with_reducible refine qd_i (by kernel_rfl) ?_) | (with_reducible refine W_itn_cases ?_ ?_; omega))
      rw [e0]
      exact ⟨_, _, _, rfl, by omega, kk.upd (Nat.le_refl _) _, dec_set hD hne' (by omega) _, _, .inl ⟨hb0, rfl⟩, rfl, rfl⟩
    · repeat' (first | (simp -implicitDefEqProofs only [ze, zd, simprocAttr, h35, h34, h0, h2, hd, k83_t0, hO]) | (with_reducible refine wgd_cases ?_ ?_ <;> intro hb) | (with_reducible refine wcond_cases ?_ ?_ <;> intro hb) | (with_reducible refine qd_i (by kernel_rfl) ?_) | (with_reducible refine W_itn_cases ?_ ?_; omega))
      rw [e0]
      exact ⟨_, _, _, rfl, by omega, kk.upd (Nat.le_refl _) _, dec_set hD hne' (by omega) _, _, .inr ⟨hb1, r, hr8, rfl⟩, rfl, rfl⟩
end Go.Proofs.YtkbheoganajhaaaDoor.Vm
set_option maxRecDepth 10000
set_option linter.unusedVariables false
set_option linter.unusedSimpArgs false
namespace Go.Proofs.YtkbheoganajhaaaDoor.Vm
open Go Go.Proofs
theorem fin_i64 {y : Int} (h0 : 0 ≤ y) (h1 : y < 18446744073709551616) : i64r (Co.fin y) := by unfold Co.fin i64r; split <;> omega
theorem tS_i64 : ∀ (s : List Int) (i : Nat) (x : Int), bOK s → 0 ≤ x → x < 128 ^ i → i64r (Co.tS s i x).1
  | [], i, x, _, _, _ => by unfold Co.tS; split <;> (unfold i64r; simp)
  | b :: s, i, x, hs, h0, h1 => by
    unfold Co.tS
    split
    · rename_i hi
      split
      · unfold i64r; simp
      · rename_i hbad
        have hbad : Co.badS i b = false := by simpa using hbad
        have hb := hs b (by simp)
        obtain ⟨s1, s2, s3⟩ := Co.step_bound i x b hi h0 h1 hb.1 hb.2 (Co.bad_no hbad).1
        split
        · exact fin_i64 (by omega) s2
        · exact tS_i64 s (i + 1) _ (fun c hc => hs c (by simp [hc])) (by omega) s3
    · unfold i64r; simp
theorem bindD_inv {α β : Type} {x : Except Int (α × Nat)} {f : α → Nat → Except Int (β × Nat)} {r : β × Nat} (h : bindD x f = .ok r) : ∃ p, x = .ok p ∧ f p.1 p.2 = .ok r := by
  cases x with
  | error e => cases h
  | ok p => exact ⟨p, rfl, h⟩
theorem dInt_i64 {bs : List Int} (hb : bOK bs) {a : Nat} {p : Int × Nat} (h : dInt bs a = .ok p) : i64r p.1 := by
  unfold dInt at h
  split at h
  · obtain rfl := Except.ok.inj h
    exact tS_i64 _ 0 0 (hb.drop a) (by omega) (by decide)
  · cases h
theorem dText_plain {bs : List Int} {a : Nat} {p : ByteArray × Nat} (h : dText bs a = .ok p) : plainS p.1 = true := by
  unfold dText at h
  split at h
  · rename_i h0
    obtain rfl := Except.ok.inj h
    unfold tT at h0 ⊢
    simp only at h0 ⊢
    repeat' (split at h0)
    all_goals first
      | (exfalso; simp at h0; done)
      | (exfalso; exact absurd h0 (by assumption))
      | skip
    rename_i h1 h2 h3 h4
    rw [if_neg h1, if_neg h2, if_neg h3, if_neg h4]
    simpa using h4
  · cases h
theorem dText_small {bs : List Int} {a : Nat} {p : ByteArray × Nat} (h : dText bs a = .ok p) : small p.1 := by
  have := plain_size (dText_plain h)
  unfold small; omega
theorem dTags_small {bs : List Int} : ∀ (n : Nat) (acc : List Tag) (a : Nat) {r : List Tag × Nat}, dTags bs n acc a = .ok r → (∀ t ∈ acc, small t.n ∧ small t.v) → (∀ t ∈ r.1, small t.n ∧ small t.v) ∧ r.1.length = acc.length + n
  | 0, acc, a, r, h, ha => by obtain rfl := Except.ok.inj h; exact ⟨ha, rfl⟩
  | n + 1, acc, a, r, h, ha => by
    obtain ⟨p1, h1, h⟩ := bindD_inv h
    obtain ⟨p2, h2, h⟩ := bindD_inv h
    obtain ⟨k1, k2⟩ := dTags_small n _ _ h (fun t ht => by
      rcases List.mem_append.1 ht with ht | ht
      · exact ha t ht
      · simp only [List.mem_singleton] at ht; subst ht; exact ⟨dText_small h1, dText_small h2⟩)
    exact ⟨k1, by rw [k2, List.length_append]; simp; omega⟩
theorem dCount_le {bs : List Int} {most : Int} {a : Nat} {p : Int × Nat} (h : dCount most bs a = .ok p) : 0 ≤ p.1 ∧ p.1 ≤ most := by
  unfold dCount at h
  split at h
  · cases h
  · split at h
    · cases h
    · obtain rfl := Except.ok.inj h; omega
theorem dLine_good {bs : List Int} (hb : bOK bs) {a : Nat} {r : Line × Nat} (h : dLine bs a = .ok r) : smallL r.1 ∧ i64r r.1.amt ∧ i64r r.1.base := by
  obtain ⟨p1, h1, h⟩ := bindD_inv h
  obtain ⟨p2, h2, h⟩ := bindD_inv h
  obtain ⟨p3, h3, h⟩ := bindD_inv h
  obtain ⟨p4, h4, h⟩ := bindD_inv h
  obtain ⟨p5, h5, h⟩ := bindD_inv h
  obtain ⟨p6, h6, h⟩ := bindD_inv h
  obtain ⟨p7, h7, h⟩ := bindD_inv h
  obtain ⟨p8, h8, h⟩ := bindD_inv h
  obtain rfl := Except.ok.inj h
  obtain ⟨k1, k2⟩ := dTags_small _ _ _ h8 (by simp)
  have := dCount_le h7
  exact ⟨⟨dText_small h1, dText_small h2, dText_small h5, dText_small h6, k1, by simp at k2; simp only; omega, fun h => by simpa using h⟩, dInt_i64 hb h3, dInt_i64 hb h4⟩
theorem dLines_good {bs : List Int} (hb : bOK bs) : ∀ (n : Nat) (acc : List Line) (a : Nat) {r : List Line × Nat}, dLines bs n acc a = .ok r → (∀ l ∈ acc, smallL l ∧ i64r l.amt ∧ i64r l.base) → (∀ l ∈ r.1, smallL l ∧ i64r l.amt ∧ i64r l.base) ∧ r.1.length = acc.length + n
  | 0, acc, a, r, h, ha => by obtain rfl := Except.ok.inj h; exact ⟨ha, rfl⟩
  | n + 1, acc, a, r, h, ha => by
    obtain ⟨p1, h1, h⟩ := bindD_inv h
    obtain ⟨k1, k2⟩ := dLines_good hb n _ _ h (fun t ht => by
      rcases List.mem_append.1 ht with ht | ht
      · exact ha t ht
      · simp only [List.mem_singleton] at ht; subst ht; exact dLine_good hb h1)
    exact ⟨k1, by rw [k2, List.length_append]; simp; omega⟩
theorem dEntry_good {bs : List Int} (hb : bOK bs) {a : Nat} {r : Entry × Nat} (h : dEntry bs a = .ok r) : smallE r.1 ∧ rangeE r.1 := by
  obtain ⟨p1, h1, h⟩ := bindD_inv h
  obtain ⟨p2, h2, h⟩ := bindD_inv h
  obtain ⟨p3, h3, h⟩ := bindD_inv h
  obtain ⟨p4, h4, h⟩ := bindD_inv h
  obtain ⟨p5, h5, h⟩ := bindD_inv h
  obtain ⟨p6, h6, h⟩ := bindD_inv h
  obtain ⟨p7, h7, h⟩ := bindD_inv h
  obtain ⟨p8, h8, h⟩ := bindD_inv h
  obtain ⟨p9, h9, h⟩ := bindD_inv h
  obtain ⟨p10, h10, h⟩ := bindD_inv h
  obtain rfl := Except.ok.inj h
  obtain ⟨k1, k2⟩ := dLines_good hb _ _ _ h10 (by simp)
  have := dCount_le h9
  exact ⟨⟨dText_small h2, dText_small h6, dText_small h7, fun l hl => (k1 l hl).1, by simp at k2; simp only; omega, fun h => by simpa using h⟩,
    ⟨dInt_i64 hb h1, dInt_i64 hb h3, dInt_i64 hb h4, dInt_i64 hb h5, dInt_i64 hb h8, fun l hl => (k1 l hl).2⟩⟩
def zeroE : Entry := ⟨0, ByteArray.mk #[], 0, 0, 0, ByteArray.mk #[], ByteArray.mk #[], 0, [], true⟩
def takeS (bs : List Int) : Entry × Int × Int := match dEntry bs 0 with
  | .error e => (zeroE, 0, e)
  | .ok p => if (checkS p.1).2 = 0 then (p.1, p.2, 0) else (zeroE, 0, (checkS p.1).2)
theorem tasrt_y (v : V) : tasrt Tryd.prog 125 (.ifc 125 v) = some (.tup [v, .bool true]) := by kernel_rfl
theorem tasrt_n : tasrt Tryd.prog 125 (.sc .nilIface) = some (.tup [.agg [.i64 0], .bool false]) := by kernel_rfl
section
variable {P : Program} {E : Env} {kd : KD} {kc : KC} {C : HR → Prop} {tm tm0 : Nat → V} {st : St} {nx : Nat} {cs : List V} {rs : List KR} {y : Y} {acc : List Rec}
theorem defQ_n : defQ P E kd kc C .norm ⟨tm, st, nx⟩ = wc P E kd.y2 (defQ2 P E kc (kd.caps.map (av tm)) kd.rs C) ⟨upd tm kd.d (.fn (.func kd.g) [] (kd.caps.map (av tm))), st, nx + 16⟩ := rfl
theorem defQ2_r : defQ2 P E kc cs rs C .ret ⟨tm, st, nx⟩ = closW P E kc cs rs C ⟨tm, st, nx⟩ (.sc .nilIface) := rfl
theorem defQ2_n : defQ2 P E kc cs rs C .norm ⟨tm, st, nx⟩ = closW P E kc cs rs C ⟨tm, st, nx⟩ (.sc .nilIface) := rfl
theorem defQ2_p (t : TypeId) (v : V) : defQ2 P E kc cs rs C (.pan (.ifc t v)) ⟨tm, st, nx⟩ = closW P E kc cs rs C ⟨tm, st, nx⟩ (.ifc t v) := by simp [defQ2, isIfc]
theorem closW_e (rv : V) : closW P E kc cs rs C ⟨tm, st, nx⟩ rv = W (tasrt P kc.to rv) fun tv => wops P E false (closQ P E kc.y tm rs C) (fun _ _ _ _ _ => False) (nx + 16) kc.ops (upd (upd (argT cs) kc.t0 rv) kc.t1 tv) st (nx + 8 * kc.m) [] := rfl
theorem closQ_e : closQ P E y tm0 rs C tm st nx acc = wc P E y (closE tm0 rs C) ⟨tm, st, nx⟩ := rfl
theorem closE_n : closE tm0 rs C .norm ⟨tm, st, nx⟩ = W (kres ⟨tm0, st, nx⟩ rs) fun v => C (.ret v st nx) := rfl
theorem closE_r : closE tm0 rs C .ret ⟨tm, st, nx⟩ = W (kres ⟨tm0, st, nx⟩ rs) fun v => C (.ret v st nx) := rfl
end
theorem take_ok (bs : List Int) (hb : bOK bs) (hl : bs.length < 4611686018427387904) (r : Nat) : L.pl 61 [.list 5 (bv bs) r] = some (.ret (.tup [encE (takeS bs).1, .i64 (takeS bs).2.1, .i64 (takeS bs).2.2])) := by
  refine W_of (plD_w k61_eq k82_eq ?_)
  simp only [k61]
  repeat' (first | (simp -implicitDefEqProofs only [ze, zd, simprocAttr, defQ_n, k61, ne_eq, not_true_eq_false, gt_iff_lt]))
  have hz : encE zeroE = .agg [.i64 0, .str (ByteArray.mk #[]), .i64 0, .i64 0, .i64 0, .str (ByteArray.mk #[]), .str (ByteArray.mk #[]), .i64 0, .list 0 [] 1] := rfl
  refine W_dec (dentry_ok (a := 0) ⟨by omega, by omega, by rw [upd_at, if_pos rfl]; rfl⟩ hb hl) (fun e s n hx hn hk => ?_) (fun p v s n hx hn hk hD hv => ?_)
  · have x8 := (hk 8 (by omega) (by omega)).trans (by simp [upd_at]; rfl)
    have x16 := (hk 16 (by omega) (by omega)).trans (by simp [upd_at]; rfl)
    have x24 := (hk 24 (by omega) (by omega)).trans (by simp [upd_at]; rfl)
    have f1 : ∀ j, (8 = n + j) = False := fun j => eq_false (by omega)
    have f2 : ∀ j, (16 = n + j) = False := fun j => eq_false (by omega)
    have f3 : ∀ j, (24 = n + j) = False := fun j => eq_false (by omega)
    have f4 : ∀ j, (n + j = 8) = False := fun j => eq_false (by omega)
    have f5 : ∀ j, (n + j = 16) = False := fun j => eq_false (by omega)
    have f6 : ∀ j, (n + j = 24) = False := fun j => eq_false (by omega)
    repeat' (first | (simp -implicitDefEqProofs only [ze, zd, simprocAttr, x8, x16, x24, f1, f2, f3, f4, f5, f6, defQ2_p, defQ2_n, defQ2_r, errV, closW_e, k82, tasrt_y, tasrt_n, closQ_e, closE_n, closE_r, ne_eq, not_true_eq_false, gt_iff_lt]) | (with_reducible refine W_itn_cases ?_ ?_; omega))
    refine qd_i ?_ ?_
    · simp [recsOk, ordB, Rec.free, Rec.wr, disj, List.range, List.range.loop, f1, f2, f3, f4, f5, f6]; try decide
    · repeat' (first | (simp -implicitDefEqProofs only [ze, zd, simprocAttr, x8, x16, x24, f1, f2, f3, f4, f5, f6, defQ2_p, defQ2_n, defQ2_r, errV, closW_e, k82, tasrt_y, tasrt_n, closQ_e, closE_n, closE_r, ne_eq, not_true_eq_false, gt_iff_lt]) | (with_reducible refine wgd_cases ?_ ?_ <;> intro hb) | (with_reducible refine wcond_cases ?_ ?_ <;> intro hb) | (with_reducible refine qd_i (by kernel_rfl) ?_) | (with_reducible refine W_itn_cases ?_ ?_; omega))
      simp only [takeS, hx, hz]
  · obtain ⟨vt, hf, hlr, rfl⟩ := hv
    have x8 := (hk 8 (by omega) (by omega)).trans (by simp [upd_at]; rfl)
    have x16 := (hk 16 (by omega) (by omega)).trans (by simp [upd_at]; rfl)
    have x24 := (hk 24 (by omega) (by omega)).trans (by simp [upd_at]; rfl)
    have hgd := dEntry_good hb hx
    have hck := check_ok p.1 hgd.1 hgd.2.amts
    rcases hf with ⟨hf, rfl⟩ | ⟨hf, r2, hr2, rfl⟩
    · have h1 : p.1.lines = [] := by simpa using hf
      have v4 : encE p.1 = .agg [.i64 p.1.no, .str p.1.ent, .i64 p.1.book, .i64 p.1.val, .i64 p.1.kind, .str p.1.ref, .str p.1.who, .i64 p.1.rev, .list 0 [] 1] := by unfold encE; rw [hlr, h1]; rfl
      rw [v4] at hck
      by_cases hc : (checkS p.1).2 = 0
      · rw [hc] at hck
        repeat' (first | (simp -implicitDefEqProofs only [ze, zd, simprocAttr, x8, x16, x24, hck]) | (with_reducible refine W_itn_cases ?_ ?_; omega))
        refine W_hp (dend_ok (a := p.2) (dec_set (dec_set (hD.le (by omega)) (by omega) (Nat.le_refl _) _) (by omega) (Nat.le_refl _) _) hl 0 (by have := hD.2.1; omega)) ?_
        rintro _ ⟨s1, n1, rfl, hn1, hd1, hk1⟩
        have y8 := (hk1 8 (by omega) (by omega)).trans (by rw [upd_at, if_neg (by omega), upd_at, if_pos rfl])
        have y16 := (hk1 16 (by omega) (by omega)).trans (Eq.trans (by rw [upd_at, if_neg (by omega), upd_at, if_neg (by omega)]) x16)
        have y24 := (hk1 24 (by omega) (by omega)).trans (by rw [upd_at, if_pos rfl])
        have yd := hd1.2.2
        rw [Nat.add_zero] at yd
        have f1 : ∀ j, (8 = n1 + j) = False := fun j => eq_false (by omega)
        have f2 : ∀ j, (16 = n1 + j) = False := fun j => eq_false (by omega)
        have f3 : ∀ j, (24 = n1 + j) = False := fun j => eq_false (by omega)
        have f4 : ∀ j, (64 = n1 + j) = False := fun j => eq_false (by omega)
        repeat' (first | (simp -implicitDefEqProofs only [ze, zd, simprocAttr, y8, y16, y24, yd, f1, f2, f3, f4, defQ2_p, defQ2_n, defQ2_r, errV, closW_e, k82, tasrt_y, tasrt_n, closQ_e, closE_n, closE_r, ne_eq, not_true_eq_false, gt_iff_lt]) | (with_reducible refine wgd_cases ?_ ?_ <;> intro hb) | (with_reducible refine wcond_cases ?_ ?_ <;> intro hb) | (with_reducible refine qd_i (by kernel_rfl) ?_) | (with_reducible refine W_itn_cases ?_ ?_; omega))
        simp only [takeS, hx, hc, if_true, v4]
      · have hcd : decide ((checkS p.1).2 = 0) = false := decide_eq_false hc
        repeat' (first | (simp -implicitDefEqProofs only [ze, zd, simprocAttr, x8, x16, x24, hck]) | (with_reducible refine W_itn_cases ?_ ?_; omega))
        refine W_hp (dend_bad 0 _ hc) ?_
        rintro _ ⟨s1, n1, rfl, hn1, hk1⟩
        have y8 := (hk1 8 (by omega) (by omega)).trans (by rw [upd_at, if_neg (by omega), upd_at, if_pos rfl])
        have y16 := (hk1 16 (by omega) (by omega)).trans (Eq.trans (by rw [upd_at, if_neg (by omega), upd_at, if_neg (by omega)]) x16)
        have y24 := (hk1 24 (by omega) (by omega)).trans (by rw [upd_at, if_pos rfl])
        have f1 : ∀ j, (8 = n1 + j) = False := fun j => eq_false (by omega)
        have f2 : ∀ j, (16 = n1 + j) = False := fun j => eq_false (by omega)
        have f3 : ∀ j, (24 = n1 + j) = False := fun j => eq_false (by omega)
        have f4 : ∀ j, (n1 + j = 8) = False := fun j => eq_false (by omega)
        have f5 : ∀ j, (n1 + j = 16) = False := fun j => eq_false (by omega)
        have f6 : ∀ j, (n1 + j = 24) = False := fun j => eq_false (by omega)
        repeat' (first | (simp -implicitDefEqProofs only [ze, zd, simprocAttr, y8, y16, y24, f1, f2, f3, f4, f5, f6, defQ2_p, defQ2_n, defQ2_r, errV, closW_e, k82, tasrt_y, tasrt_n, closQ_e, closE_n, closE_r, ne_eq, not_true_eq_false, gt_iff_lt]) | (with_reducible refine W_itn_cases ?_ ?_; omega))
        refine qd_i ?_ ?_
        · simp [recsOk, ordB, Rec.free, Rec.wr, disj, List.range, List.range.loop, f1, f2, f3, f4, f5, f6]; try decide
        · repeat' (first | (simp -implicitDefEqProofs only [ze, zd, simprocAttr, y8, y16, y24, f1, f2, f3, f4, f5, f6, defQ2_p, defQ2_n, defQ2_r, errV, closW_e, k82, tasrt_y, tasrt_n, closQ_e, closE_n, closE_r, ne_eq, not_true_eq_false, gt_iff_lt]) | (with_reducible refine wgd_cases ?_ ?_ <;> intro hb) | (with_reducible refine wcond_cases ?_ ?_ <;> intro hb) | (with_reducible refine qd_i (by kernel_rfl) ?_) | (with_reducible refine W_itn_cases ?_ ?_; omega))
          simp only [takeS, hx, hc, if_false, hz]
    · have h1 : p.1.lines ≠ [] := by intro h; exact hf (by rw [h]; rfl)
      have h2 : p.1.lr = false := by rw [hlr]; simpa using h1
      have v4 : encE p.1 = .agg [.i64 p.1.no, .str p.1.ent, .i64 p.1.book, .i64 p.1.val, .i64 p.1.kind, .str p.1.ref, .str p.1.who, .i64 p.1.rev, .list 61 (p.1.lines.map encL) 0] := by unfold encE; rw [h2]; rfl
      have g7 : (r2 = 1) = False := eq_false (by omega)
      rw [v4] at hck
      by_cases hc : (checkS p.1).2 = 0
      · rw [hc] at hck
        repeat' (first | (simp -implicitDefEqProofs only [ze, zd, simprocAttr, x8, x16, x24, hck, g7]) | (with_reducible refine W_itn_cases ?_ ?_; omega))
        refine W_hp (dend_ok (a := p.2) (dec_set (dec_set (hD.le (by omega)) (by omega) (Nat.le_refl _) _) (by omega) (Nat.le_refl _) _) hl 0 (by have := hD.2.1; omega)) ?_
        rintro _ ⟨s1, n1, rfl, hn1, hd1, hk1⟩
        have y8 := (hk1 8 (by omega) (by omega)).trans (by rw [upd_at, if_neg (by omega), upd_at, if_pos rfl])
        have y16 := (hk1 16 (by omega) (by omega)).trans (Eq.trans (by rw [upd_at, if_neg (by omega), upd_at, if_neg (by omega)]) x16)
        have y24 := (hk1 24 (by omega) (by omega)).trans (by rw [upd_at, if_pos rfl])
        have yd := hd1.2.2
        rw [Nat.add_zero] at yd
        have f1 : ∀ j, (8 = n1 + j) = False := fun j => eq_false (by omega)
        have f2 : ∀ j, (16 = n1 + j) = False := fun j => eq_false (by omega)
        have f3 : ∀ j, (24 = n1 + j) = False := fun j => eq_false (by omega)
        have f4 : ∀ j, (64 = n1 + j) = False := fun j => eq_false (by omega)
        repeat' (first | (simp -implicitDefEqProofs only [ze, zd, simprocAttr, y8, y16, y24, yd, f1, f2, f3, f4, defQ2_p, defQ2_n, defQ2_r, errV, closW_e, k82, tasrt_y, tasrt_n, closQ_e, closE_n, closE_r, ne_eq, not_true_eq_false, gt_iff_lt, g7]) | (with_reducible refine wgd_cases ?_ ?_ <;> intro hb) | (with_reducible refine wcond_cases ?_ ?_ <;> intro hb) | (with_reducible refine qd_i (by kernel_rfl) ?_) | (with_reducible refine W_itn_cases ?_ ?_; omega))
        simp only [takeS, hx, hc, if_true, v4]
      · have hcd : decide ((checkS p.1).2 = 0) = false := decide_eq_false hc
        repeat' (first | (simp -implicitDefEqProofs only [ze, zd, simprocAttr, x8, x16, x24, hck, g7]) | (with_reducible refine W_itn_cases ?_ ?_; omega))
        refine W_hp (dend_bad 0 _ hc) ?_
        rintro _ ⟨s1, n1, rfl, hn1, hk1⟩
        have y8 := (hk1 8 (by omega) (by omega)).trans (by rw [upd_at, if_neg (by omega), upd_at, if_pos rfl])
        have y16 := (hk1 16 (by omega) (by omega)).trans (Eq.trans (by rw [upd_at, if_neg (by omega), upd_at, if_neg (by omega)]) x16)
        have y24 := (hk1 24 (by omega) (by omega)).trans (by rw [upd_at, if_pos rfl])
        have f1 : ∀ j, (8 = n1 + j) = False := fun j => eq_false (by omega)
        have f2 : ∀ j, (16 = n1 + j) = False := fun j => eq_false (by omega)
        have f3 : ∀ j, (24 = n1 + j) = False := fun j => eq_false (by omega)
        have f4 : ∀ j, (n1 + j = 8) = False := fun j => eq_false (by omega)
        have f5 : ∀ j, (n1 + j = 16) = False := fun j => eq_false (by omega)
        have f6 : ∀ j, (n1 + j = 24) = False := fun j => eq_false (by omega)
        repeat' (first | (simp -implicitDefEqProofs only [ze, zd, simprocAttr, y8, y16, y24, f1, f2, f3, f4, f5, f6, defQ2_p, defQ2_n, defQ2_r, errV, closW_e, k82, tasrt_y, tasrt_n, closQ_e, closE_n, closE_r, ne_eq, not_true_eq_false, gt_iff_lt]) | (with_reducible refine W_itn_cases ?_ ?_; omega))
        refine qd_i ?_ ?_
        · simp [recsOk, ordB, Rec.free, Rec.wr, disj, List.range, List.range.loop, f1, f2, f3, f4, f5, f6]; try decide
        · repeat' (first | (simp -implicitDefEqProofs only [ze, zd, simprocAttr, y8, y16, y24, f1, f2, f3, f4, f5, f6, defQ2_p, defQ2_n, defQ2_r, errV, closW_e, k82, tasrt_y, tasrt_n, closQ_e, closE_n, closE_r, ne_eq, not_true_eq_false, gt_iff_lt]) | (with_reducible refine wgd_cases ?_ ?_ <;> intro hb) | (with_reducible refine wcond_cases ?_ ?_ <;> intro hb) | (with_reducible refine qd_i (by kernel_rfl) ?_) | (with_reducible refine W_itn_cases ?_ ?_; omega))
          simp only [takeS, hx, hc, if_false, hz]
end Go.Proofs.YtkbheoganajhaaaDoor.Vm
set_option maxRecDepth 10000
set_option linter.unusedVariables false
set_option linter.unusedSimpArgs false
namespace Go.Proofs.YtkbheoganajhaaaDoor.Vm
open Go Go.Proofs
structure Reads {α : Type} (D : List Int → Nat → Except Int (α × Nat)) (w : List Int) (v : α) : Prop where
  full : ∀ bs a m, bs.drop a = w ++ m → D bs a = .ok (v, a + w.length)
  cut : ∀ bs a k, k < w.length → bs.drop a = w.take k → D bs a = .error 6
theorem Reads.pure {α : Type} (v : α) : Reads (fun _ a => .ok (v, a)) [] v := ⟨fun bs a m _ => rfl, fun bs a k h => by simp at h⟩
theorem Reads.bind {α β : Type} {D1 : List Int → Nat → Except Int (α × Nat)} {D2 : α → List Int → Nat → Except Int (β × Nat)} {w1 w2 : List Int} {v1 : α} {v2 : β} (h1 : Reads D1 w1 v1) (h2 : Reads (D2 v1) w2 v2) : Reads (fun bs a => bindD (D1 bs a) fun x a => D2 x bs a) (w1 ++ w2) v2 := by
  refine ⟨fun bs a m h => ?_, fun bs a k hk h => ?_⟩
  · rw [List.append_assoc] at h
    have e1 := h1.full bs a _ h
    have h3 : bs.drop (a + w1.length) = w2 ++ m := by rw [← List.drop_drop, h, List.drop_left]
    simp only [e1, bindD, h2.full bs _ m h3, List.length_append]
    rw [Nat.add_assoc]
  · rw [List.length_append] at hk
    rcases Nat.lt_or_ge k w1.length with hlt | hge
    · have h3 : bs.drop a = w1.take k := by rw [h, List.take_append_of_le_length (by omega)]
      simp only [h1.cut bs a k hlt h3, bindD]
    · have h3 : bs.drop a = w1 ++ w2.take (k - w1.length) := by rw [h, List.take_append, List.take_of_length_le hge]
      have e1 := h1.full bs a _ h3
      have h4 : bs.drop (a + w1.length) = w2.take (k - w1.length) := by rw [← List.drop_drop, h3, List.drop_left]
      simp only [e1, bindD, h2.cut bs _ (k - w1.length) (by omega) h4]
theorem tS_cut : ∀ (f : Nat) (y : Int) (i : Nat) (x : Int) (k : Nat), y < 128 ^ (f + 1) → i + f ≤ 9 → 0 ≤ x → 0 ≤ y → x + y * 128 ^ i < 18446744073709551616 → k < (Co.vL (f + 1) y).length → Co.tS ((Co.vL (f + 1) y).take k) i x = (0, 0, 6) := by
  intro f
  induction f with
  | zero =>
    intro y i x k h1 hi hx hy hm hk
    have h1 : y < 128 := h1
    rw [Co.vL, if_neg (by omega)] at hk
    simp at hk
    subst hk
    rw [List.take_zero, Co.tS, if_pos (by omega)]
  | succ f ih =>
    intro y i x k h1 hi hx hy hm hk
    cases k with
    | zero => rw [List.take_zero, Co.tS, if_pos (by omega)]
    | succ k =>
      by_cases hy2 : y ≥ 128
      · rw [Co.vL, if_pos hy2] at hk ⊢
        have hbad : Co.badS i (y % 128 + 128) = false := by
          simp only [Co.badS, Bool.or_eq_false_iff, Bool.and_eq_false_iff, decide_eq_false_iff_not]; omega
        have hp : (0 : Int) < 128 ^ i := Int.pow_pos (by decide)
        have hq : 0 ≤ y % 128 * 128 ^ i := Int.mul_nonneg (by omega) (by omega)
        have e : x + y % 128 * 128 ^ i + y / 128 * 128 ^ (i + 1) = x + y * 128 ^ i := by
          have : y * 128 ^ i = (y % 128 + 128 * (y / 128)) * 128 ^ i := by rw [Int.emod_add_mul_ediv]
          rw [this, Int.pow_succ, Int.add_mul]
          have : y / 128 * (128 ^ i * 128) = 128 * (y / 128) * 128 ^ i := by
            rw [Int.mul_comm (128 ^ i) 128, ← Int.mul_assoc, Int.mul_comm (y / 128) 128]
          omega
        simp only [List.take_succ_cons, Co.tS, hbad, Bool.false_eq_true, if_false, if_neg (show ¬ y % 128 + 128 < 128 by omega), if_pos (show i < 10 by omega), show (y % 128 + 128) % 128 = y % 128 by omega]
        exact ih (y / 128) (i + 1) _ k (Co.div_lt_pow h1) (by omega) (by omega) (by omega) (by rw [e]; exact hm) (by simpa using hk)
      · rw [Co.vL, if_neg hy2] at hk
        simp at hk
theorem tS_putS_cut (n : Int) (hn : i64r n) (k : Nat) (hk : k < (Co.putS n).length) : Co.tS ((Co.putS n).take k) 0 0 = (0, 0, 6) := by
  have hz := Co.zz_range n hn.1 hn.2
  refine tS_cut 9 (Co.zz n) 0 0 k ?_ (by omega) (by omega) hz.1 (by rw [Int.pow_zero]; omega) hk
  have : (128 : Int) ^ (9 + 1) = 1180591620717411303424 := by decide
  omega
theorem reads_int (n : Int) (hn : i64r n) : Reads dInt (Co.putS n) n := by
  refine ⟨fun bs a m h => ?_, fun bs a k hk h => ?_⟩
  · unfold dInt
    rw [h, Co.t_put n hn.1 hn.2]
    simp
  · unfold dInt
    rw [h, tS_putS_cut n hn k hk]
    simp
theorem reads_count (most n : Int) (h0 : 0 ≤ n) (h1 : n ≤ most) (hn : i64r n) : Reads (dCount most) (Co.putS n) n := by
  refine ⟨fun bs a m h => ?_, fun bs a k hk h => ?_⟩
  · unfold dCount
    rw [(reads_int n hn).full bs a m h]
    simp only
    rw [if_neg (by omega)]
  · unfold dCount
    rw [(reads_int n hn).cut bs a k hk h]
theorem reads_text (s : ByteArray) (hs : plainS s = true) : Reads dText (ptB s) s := by
  have hz := plain_size hs
  have hn : i64r (s.size : Int) := ⟨by omega, by omega⟩
  have hbl := bytesOf_len s
  refine ⟨fun bs a m h => ?_, fun bs a k hk h => ?_⟩
  · have e : Co.tS (bs.drop a) 0 0 = ((s.size : Int), ((Co.putS s.size).length : Int), 0) := by rw [h, ptB, List.append_assoc, Co.t_put _ hn.1 hn.2]
    have ht : tT (bs.drop a) = (s, ((ptB s).length : Int), 0) := by
      unfold tT
      rw [e]
      simp only
      have h1 : (((bs.drop a).drop (Co.putS (s.size : Int)).length).take s.size) = Co.bytesOf s := by
        rw [h, ptB, List.append_assoc, List.drop_left, List.take_append_of_le_length (by omega), List.take_of_length_le (by omega)]
      have hl : (bs.drop a).length = (ptB s).length + m.length := by rw [h, List.length_append]
      have hp : (ptB s).length = (Co.putS (s.size : Int)).length + s.size := by rw [ptB, List.length_append, hbl]
      rw [if_neg (by simp), if_neg (by omega), if_neg (by omega)]
      simp only [Int.toNat_natCast, h1, strB_of, hs]
      simp only [Bool.true_eq_false, if_false]
      rw [hp]
      simp
    unfold dText
    rw [ht]
    simp
  · have hw : ptB s = Co.putS s.size ++ Co.bytesOf s := rfl
    have hp : (ptB s).length = (Co.putS (s.size : Int)).length + s.size := by rw [ptB, List.length_append, hbl]
    have ht : tT (bs.drop a) = (ByteArray.mk #[], 0, 6) := by
      rcases Nat.lt_or_ge k (Co.putS (s.size : Int)).length with hlt | hge
      · have e : Co.tS (bs.drop a) 0 0 = (0, 0, 6) := by
          rw [h, hw, List.take_append_of_le_length (by omega)]
          exact tS_putS_cut _ hn k hlt
        unfold tT
        rw [e]
        simp
      · have e : Co.tS (bs.drop a) 0 0 = ((s.size : Int), ((Co.putS s.size).length : Int), 0) := by
          rw [h, hw, List.take_append, List.take_of_length_le hge, Co.t_put _ hn.1 hn.2]
        have hl : (bs.drop a).length = k := by rw [h, List.length_take]; omega
        unfold tT
        rw [e]
        simp only
        rw [if_neg (by simp), if_neg (by omega), if_pos (by omega)]
    unfold dText
    rw [ht]
    simp
theorem reads_tags : ∀ (l : List Tag) (acc : List Tag), (∀ t ∈ l, plainS t.n = true ∧ plainS t.v = true) → Reads (fun bs => dTags bs l.length acc) (tagsB l) (acc ++ l)
  | [], acc, _ => by rw [List.append_nil]; exact Reads.pure acc
  | t :: l, acc, h => by
    have ht := h t (by simp)
    have hr := reads_tags l (acc ++ [t]) fun x hx => h x (by simp [hx])
    have := (reads_text t.n ht.1).bind (D2 := fun x bs a => bindD (dText bs a) fun y a => dTags bs l.length (acc ++ [⟨x, y⟩]) a) ((reads_text t.v ht.2).bind (D2 := fun y bs a => dTags bs l.length (acc ++ [⟨t.n, y⟩]) a) hr)
    have e : tagsB (t :: l) = ptB t.n ++ (ptB t.v ++ tagsB l) := by simp [tagsB]
    rw [e, show acc ++ t :: l = acc ++ [t] ++ l by simp]
    exact this
def fixL (l : Line) : Line := { l with tr := l.tags.isEmpty }
def fixE (e : Entry) : Entry := { e with lines := e.lines.map fixL, lr := e.lines.isEmpty }
theorem reads_line (l : Line) (h : plainL l) (h6 : l.tags.length ≤ 6) : Reads dLine (lineB l) (fixL l) := by
  have e : lineB l = ptB l.acc ++ (ptB l.cur ++ (Co.putS l.amt ++ (Co.putS l.base ++ (ptB l.par ++ (ptB l.pty ++ (Co.putS l.tags.length ++ (tagsB l.tags ++ []))))))) := by simp [lineB]
  rw [e]
  refine (reads_text l.acc h.acc).bind (β := Line) (D2 := fun acc bs a => bindD (dText bs a) fun cur a => bindD (dInt bs a) fun amt a => bindD (dInt bs a) fun base a => bindD (dText bs a) fun par a => bindD (dText bs a) fun pty a => bindD (dCount 6 bs a) fun n a => bindD (dTags bs n.toNat [] a) fun tags a => .ok (⟨acc, cur, amt, base, par, pty, tags, tags.isEmpty⟩, a)) ?_
  refine (reads_text l.cur h.cur).bind (β := Line) (D2 := fun cur bs a => bindD (dInt bs a) fun amt a => bindD (dInt bs a) fun base a => bindD (dText bs a) fun par a => bindD (dText bs a) fun pty a => bindD (dCount 6 bs a) fun n a => bindD (dTags bs n.toNat [] a) fun tags a => .ok (⟨l.acc, cur, amt, base, par, pty, tags, tags.isEmpty⟩, a)) ?_
  refine (reads_int l.amt h.amt).bind (β := Line) (D2 := fun amt bs a => bindD (dInt bs a) fun base a => bindD (dText bs a) fun par a => bindD (dText bs a) fun pty a => bindD (dCount 6 bs a) fun n a => bindD (dTags bs n.toNat [] a) fun tags a => .ok (⟨l.acc, l.cur, amt, base, par, pty, tags, tags.isEmpty⟩, a)) ?_
  refine (reads_int l.base h.base).bind (β := Line) (D2 := fun base bs a => bindD (dText bs a) fun par a => bindD (dText bs a) fun pty a => bindD (dCount 6 bs a) fun n a => bindD (dTags bs n.toNat [] a) fun tags a => .ok (⟨l.acc, l.cur, l.amt, base, par, pty, tags, tags.isEmpty⟩, a)) ?_
  refine (reads_text l.par h.par).bind (β := Line) (D2 := fun par bs a => bindD (dText bs a) fun pty a => bindD (dCount 6 bs a) fun n a => bindD (dTags bs n.toNat [] a) fun tags a => .ok (⟨l.acc, l.cur, l.amt, l.base, par, pty, tags, tags.isEmpty⟩, a)) ?_
  refine (reads_text l.pty h.pty).bind (β := Line) (D2 := fun pty bs a => bindD (dCount 6 bs a) fun n a => bindD (dTags bs n.toNat [] a) fun tags a => .ok (⟨l.acc, l.cur, l.amt, l.base, l.par, pty, tags, tags.isEmpty⟩, a)) ?_
  refine (reads_count 6 l.tags.length (by omega) (by omega) ⟨by omega, by omega⟩).bind (β := Line) (D2 := fun n bs a => bindD (dTags bs n.toNat [] a) fun tags a => .ok (⟨l.acc, l.cur, l.amt, l.base, l.par, l.pty, tags, tags.isEmpty⟩, a)) ?_
  have ht := reads_tags l.tags [] h.tags
  rw [List.nil_append] at ht
  refine Reads.bind (β := Line) (D1 := fun bs a => dTags bs ((l.tags.length : Int).toNat) [] a) (D2 := fun tags bs a => .ok (⟨l.acc, l.cur, l.amt, l.base, l.par, l.pty, tags, tags.isEmpty⟩, a)) (v1 := l.tags) ?_ (Reads.pure _)
  rw [Int.toNat_natCast]; exact ht
theorem reads_lines : ∀ (l : List Line) (acc : List Line), (∀ t ∈ l, plainL t ∧ t.tags.length ≤ 6) → Reads (fun bs => dLines bs l.length acc) (linesB l) (acc ++ l.map fixL)
  | [], acc, _ => by rw [List.map_nil, List.append_nil]; exact Reads.pure acc
  | t :: l, acc, h => by
    have ht := h t (by simp)
    have hr := reads_lines l (acc ++ [fixL t]) fun x hx => h x (by simp [hx])
    have := (reads_line t ht.1 ht.2).bind (D2 := fun x bs a => dLines bs l.length (acc ++ [x]) a) hr
    have e : linesB (t :: l) = lineB t ++ linesB l := by simp [linesB]
    rw [e, show acc ++ (t :: l).map fixL = acc ++ [fixL t] ++ l.map fixL by simp]
    exact this
theorem reads_entry (e : Entry) (h : plainE e) (h6 : ∀ t ∈ e.lines, t.tags.length ≤ 6) : Reads dEntry (entryB e) (fixE e) := by
  have hlen := h.len
  have e0 : entryB e = Co.putS e.no ++ (ptB e.ent ++ (Co.putS e.book ++ (Co.putS e.val ++ (Co.putS e.kind ++ (ptB e.ref ++ (ptB e.who ++ (Co.putS e.rev ++ (Co.putS e.lines.length ++ (linesB e.lines ++ []))))))))) := by simp [entryB, headB]
  rw [e0]
  refine (reads_int e.no h.no).bind (β := Entry) (D2 := fun no bs a => bindD (dText bs a) fun ent a => bindD (dInt bs a) fun book a => bindD (dInt bs a) fun val a => bindD (dInt bs a) fun kind a => bindD (dText bs a) fun ref a => bindD (dText bs a) fun who a => bindD (dInt bs a) fun rev a => bindD (dCount 100 bs a) fun n a => bindD (dLines bs n.toNat [] a) fun lines a => .ok (⟨no, ent, book, val, kind, ref, who, rev, lines, lines.isEmpty⟩, a)) ?_
  refine (reads_text e.ent h.ent).bind (β := Entry) (D2 := fun ent bs a => bindD (dInt bs a) fun book a => bindD (dInt bs a) fun val a => bindD (dInt bs a) fun kind a => bindD (dText bs a) fun ref a => bindD (dText bs a) fun who a => bindD (dInt bs a) fun rev a => bindD (dCount 100 bs a) fun n a => bindD (dLines bs n.toNat [] a) fun lines a => .ok (⟨e.no, ent, book, val, kind, ref, who, rev, lines, lines.isEmpty⟩, a)) ?_
  refine (reads_int e.book h.book).bind (β := Entry) (D2 := fun book bs a => bindD (dInt bs a) fun val a => bindD (dInt bs a) fun kind a => bindD (dText bs a) fun ref a => bindD (dText bs a) fun who a => bindD (dInt bs a) fun rev a => bindD (dCount 100 bs a) fun n a => bindD (dLines bs n.toNat [] a) fun lines a => .ok (⟨e.no, e.ent, book, val, kind, ref, who, rev, lines, lines.isEmpty⟩, a)) ?_
  refine (reads_int e.val h.val).bind (β := Entry) (D2 := fun val bs a => bindD (dInt bs a) fun kind a => bindD (dText bs a) fun ref a => bindD (dText bs a) fun who a => bindD (dInt bs a) fun rev a => bindD (dCount 100 bs a) fun n a => bindD (dLines bs n.toNat [] a) fun lines a => .ok (⟨e.no, e.ent, e.book, val, kind, ref, who, rev, lines, lines.isEmpty⟩, a)) ?_
  refine (reads_int e.kind h.kind).bind (β := Entry) (D2 := fun kind bs a => bindD (dText bs a) fun ref a => bindD (dText bs a) fun who a => bindD (dInt bs a) fun rev a => bindD (dCount 100 bs a) fun n a => bindD (dLines bs n.toNat [] a) fun lines a => .ok (⟨e.no, e.ent, e.book, e.val, kind, ref, who, rev, lines, lines.isEmpty⟩, a)) ?_
  refine (reads_text e.ref h.ref).bind (β := Entry) (D2 := fun ref bs a => bindD (dText bs a) fun who a => bindD (dInt bs a) fun rev a => bindD (dCount 100 bs a) fun n a => bindD (dLines bs n.toNat [] a) fun lines a => .ok (⟨e.no, e.ent, e.book, e.val, e.kind, ref, who, rev, lines, lines.isEmpty⟩, a)) ?_
  refine (reads_text e.who h.who).bind (β := Entry) (D2 := fun who bs a => bindD (dInt bs a) fun rev a => bindD (dCount 100 bs a) fun n a => bindD (dLines bs n.toNat [] a) fun lines a => .ok (⟨e.no, e.ent, e.book, e.val, e.kind, e.ref, who, rev, lines, lines.isEmpty⟩, a)) ?_
  refine (reads_int e.rev h.rev).bind (β := Entry) (D2 := fun rev bs a => bindD (dCount 100 bs a) fun n a => bindD (dLines bs n.toNat [] a) fun lines a => .ok (⟨e.no, e.ent, e.book, e.val, e.kind, e.ref, e.who, rev, lines, lines.isEmpty⟩, a)) ?_
  refine (reads_count 100 e.lines.length (by omega) (by omega) ⟨by omega, by omega⟩).bind (β := Entry) (D2 := fun n bs a => bindD (dLines bs n.toNat [] a) fun lines a => .ok (⟨e.no, e.ent, e.book, e.val, e.kind, e.ref, e.who, e.rev, lines, lines.isEmpty⟩, a)) ?_
  have ht := reads_lines e.lines [] fun t ht => ⟨h.lines t ht, h6 t ht⟩
  rw [List.nil_append] at ht
  have e1 : fixE e = ⟨e.no, e.ent, e.book, e.val, e.kind, e.ref, e.who, e.rev, e.lines.map fixL, (e.lines.map fixL).isEmpty⟩ := by
    unfold fixE; congr 1; cases e.lines <;> rfl
  rw [e1]
  refine Reads.bind (β := Entry) (D1 := fun bs a => dLines bs ((e.lines.length : Int).toNat) [] a) (D2 := fun lines bs a => .ok (⟨e.no, e.ent, e.book, e.val, e.kind, e.ref, e.who, e.rev, lines, lines.isEmpty⟩, a)) (v1 := e.lines.map fixL) ?_ (Reads.pure _)
  rw [Int.toNat_natCast]; exact ht
theorem fix_k (e : Entry) : (fixE e).k = e.k := by
  unfold fixE Entry.k
  simp only [List.map_map]
  congr 1
theorem lineS_fix (l : Line) : lineS (fixL l) = lineS l := rfl
theorem firstS_fix : ∀ (l : List Line) (k : Nat), firstS (l.map fixL) k = firstS l k
  | [], _ => rfl
  | x :: l, k => by simp only [List.map_cons, firstS, lineS_fix, firstS_fix l (k + 1)]
theorem lineS_six {l : Line} (h : lineS l = 0) : l.tags.length ≤ 6 := by
  unfold lineS at h
  split at h
  · cases h
  split at h
  · cases h
  split at h
  · cases h
  split at h
  · cases h
  split at h
  · cases h
  rename_i h5
  simp only [Bool.not_eq_false, rightS, Bool.and_eq_true, decide_eq_true_eq] at h5
  exact h5.1
theorem check_first {e : Entry} (h : (checkS e).2 = 0) : firstS e.lines 0 = none := by
  unfold checkS at h
  split at h
  · split at h
    · rename_i i er hf
      exfalso
      have : ∀ (l : List Line) (k : Nat), firstS l k = some (i, er) → ¬ er = 0 := by
        intro l
        induction l with
        | nil => intro k h; cases h
        | cons y r ih =>
          intro k h
          unfold firstS at h
          split at h
          · exact ih _ h
          · rename_i hy; simp only [Option.some.injEq, Prod.mk.injEq] at h; rw [← h.2]; exact hy
      exact this _ _ hf h
    · assumption
  · rename_i h0; exact absurd h h0
theorem check_six {e : Entry} (h : (checkS e).2 = 0) : ∀ t ∈ e.lines, t.tags.length ≤ 6 := fun t ht => lineS_six (first_all _ _ (check_first h) t ht)
theorem selA_fix (l : List Line) (k : ByteArray) : selA (l.map fixL) k = selA l k := by
  unfold selA
  rw [List.filter_map, List.map_map]
  rfl
theorem selB_fix (l : List Line) (k : ByteArray) : selB (l.map fixL) k = selB l k := by
  unfold selB
  rw [List.filter_map, List.map_map]
  rfl
theorem balS_fix (l : List Line) : balS (l.map fixL) = balS l := by
  unfold balS okAt
  simp only [selA_fix, selB_fix]
  rw [List.all_map]
  rfl
theorem headS_fix (e : Entry) : headS (fixE e) = headS e := by
  unfold headS fixE
  simp only [List.length_map]
theorem check_fix (e : Entry) : checkS (fixE e) = checkS e := by
  unfold checkS
  rw [headS_fix]
  have h1 : (fixE e).lines = e.lines.map fixL := rfl
  rw [h1, firstS_fix, balS_fix]
theorem take_full (e : Entry) (h : plainE e) (hc : (checkS e).2 = 0) (m : List Int) : takeS (entryB e ++ m) = (fixE e, ((entryB e).length : Int), 0) := by
  have := (reads_entry e h (check_six hc)).full (entryB e ++ m) 0 m rfl
  unfold takeS
  rw [this]
  simp only [check_fix, hc, if_true]
  simp
end Go.Proofs.YtkbheoganajhaaaDoor.Vm
set_option linter.unusedVariables false
set_option linter.unusedSimpArgs false
namespace Go.Proofs.YtkbheoganajhaaaDoor.Vm
open Go.ChangeShapes Go.WideShapes Go.ChangeAt Go.RowKit Go.Proofs
section
variable {H : Type} {enc : TypeId × Value → H}
end
theorem wf_b {b : Int} (h0 : (Lit.int .u8 b).wf = true) : 0 ≤ b ∧ b < 256 := by
  have h1 : IntKind.u8.min = 0 := rfl
  have h2 : IntKind.u8.max = 255 := rfl
  simp only [Lit.wf, Bool.and_eq_true, decide_eq_true_eq] at h0
  omega
end Go.Proofs.YtkbheoganajhaaaDoor.Vm
set_option linter.unusedVariables false
namespace Go.Proofs.YtkbheoganajhaaaDoor.Vm
open Go.RowKit
def cunr (P : Program) (E : Env) (b : Y) (Q : Ex → Fr → Prop) (e : Ex) (fr : Fr) : Prop := e.cs (wc P E (.loop b) Q fr) (Q e fr)
theorem cunr_n {P : Program} {E : Env} {Q : Ex → Fr → Prop} {fr : Fr} (b : Y) : cunr P E b Q .norm fr = wc P E (.loop b) Q fr := rfl
theorem cunr_x {P : Program} {E : Env} {Q : Ex → Fr → Prop} {fr : Fr} (b : Y) (id : Nat) : cunr P E b Q (.exit id) fr = Q (.exit id) fr := rfl
theorem cunr_r {P : Program} {E : Env} {Q : Ex → Fr → Prop} {fr : Fr} (b : Y) : cunr P E b Q .ret fr = Q .ret fr := rfl
theorem cunr_p {P : Program} {E : Env} {Q : Ex → Fr → Prop} {fr : Fr} (b : Y) (v : V) : cunr P E b Q (.pan v) fr = Q (.pan v) fr := rfl
theorem loop_u {P : Program} {E : Env} {Q : Ex → Fr → Prop} {fr : Fr} {b b' : Y} (hb : b = b') (h : wc P E b' (cunr P E b Q) fr) : wc P E (.loop b) Q fr := by
  subst hb
  obtain ⟨e, fr', h1, h2⟩ := wc_ok h
  show WX (loopL (zcode P E b) fr) Q
  rw [loopL_eq, h1]
  cases e with
  | norm => exact h2
  | «exit» j => exact ⟨_, _, rfl, h2⟩
  | ret => exact ⟨_, _, rfl, h2⟩
  | pan v => exact ⟨_, _, rfl, h2⟩
end Go.Proofs.YtkbheoganajhaaaDoor.Vm
set_option maxRecDepth 10000
set_option linter.unusedVariables false
set_option linter.unusedSimpArgs false
namespace Go.Proofs.YtkbheoganajhaaaDoor.Vm
open Go Go.Proofs
def sumB (s : Int) : List Int := [s / 72057594037927936 % 256, s / 281474976710656 % 256, s / 1099511627776 % 256, s / 4294967296 % 256, s / 16777216 % 256, s / 65536 % 256, s / 256 % 256, s % 256]
theorem u8_mod (n : Int) : IntKind.u8.wrap n = n % 256 := by rw [IntKind.wrap_u8]
theorem mn (n : Nat) (h : n ≤ 64) : Nat.min n IntKind.u64.bits = n := Nat.min_eq_left h
theorem fd (s : Int) (n : Nat) : s.fdiv (2 ^ n) = s / 2 ^ n := by
  have h : (2 : Int) ^ n = ((2 ^ n : Nat) : Int) := by rw [Int.natCast_pow]; rfl
  rw [h]; exact Int.fdiv_eq_ediv_of_nonneg _ (Int.natCast_nonneg _)
theorem fdp (s n : Int) (h : 0 ≤ n) : s.fdiv n = s / n := Int.fdiv_eq_ediv_of_nonneg s h
theorem cbytes_ok (s : Int) (h0 : 0 ≤ s) (h1 : s < 18446744073709551616) : L.pl 53 [.sc (.int .u64 s)] = some (.ret (.list 5 (bv (sumB s)) 0)) := by
  refine W_of (pl_r k53_eq ?_)
  simp only [k53]
  repeat' (first | (simp -implicitDefEqProofs only [ze, zd, zr, simprocAttr, LR_pl, LR_hp, LR_hm, cunr_n, cunr_x, cunr_r, cunr_p, List.any_cons, List.any_nil, List.flatten_cons, List.flatten_nil, List.replicate_succ, List.replicate_zero, Bool.or_false, Bool.false_or, List.flatMap_cons, List.flatMap_nil]) | (with_reducible refine wgd_cases ?_ ?_ <;> intro hb) | (with_reducible refine wcond_cases ?_ ?_ <;> intro hb) | (with_reducible refine qd_i (by kernel_rfl) ?_) | (with_reducible refine W_itn_cases ?_ ?_; omega))
  refine loop_u k53_l0.eq_1 ?_
  repeat' (first | (simp -implicitDefEqProofs only [ze, zd, zr, simprocAttr, LR_pl, LR_hp, LR_hm, cunr_n, cunr_x, cunr_r, cunr_p, List.any_cons, List.any_nil, List.flatten_cons, List.flatten_nil, List.replicate_succ, List.replicate_zero, Bool.or_false, Bool.false_or, List.flatMap_cons, List.flatMap_nil, wrap_i64, Int.reduceMul, Int.reduceSub, Int.reduceAdd, mn, fd, fdp, k53_t0, List.take_succ_cons, List.take_zero, List.drop_succ_cons, List.drop_zero, List.cons_append, List.nil_append, List.length_cons, List.length_nil]) | (with_reducible refine wgd_cases ?_ ?_ <;> intro hb) | (with_reducible refine wcond_cases ?_ ?_ <;> intro hb) | (with_reducible refine qd_i (by kernel_rfl) ?_) | (with_reducible refine W_itn_cases ?_ ?_; omega))
  refine loop_u k53_l0.eq_1 ?_
  repeat' (first | (simp -implicitDefEqProofs only [ze, zd, zr, simprocAttr, LR_pl, LR_hp, LR_hm, cunr_n, cunr_x, cunr_r, cunr_p, List.any_cons, List.any_nil, List.flatten_cons, List.flatten_nil, List.replicate_succ, List.replicate_zero, Bool.or_false, Bool.false_or, List.flatMap_cons, List.flatMap_nil, wrap_i64, Int.reduceMul, Int.reduceSub, Int.reduceAdd, mn, fd, fdp, k53_t0, List.take_succ_cons, List.take_zero, List.drop_succ_cons, List.drop_zero, List.cons_append, List.nil_append, List.length_cons, List.length_nil]) | (with_reducible refine wgd_cases ?_ ?_ <;> intro hb) | (with_reducible refine wcond_cases ?_ ?_ <;> intro hb) | (with_reducible refine qd_i (by kernel_rfl) ?_) | (with_reducible refine W_itn_cases ?_ ?_; omega))
  refine loop_u k53_l0.eq_1 ?_
  repeat' (first | (simp -implicitDefEqProofs only [ze, zd, zr, simprocAttr, LR_pl, LR_hp, LR_hm, cunr_n, cunr_x, cunr_r, cunr_p, List.any_cons, List.any_nil, List.flatten_cons, List.flatten_nil, List.replicate_succ, List.replicate_zero, Bool.or_false, Bool.false_or, List.flatMap_cons, List.flatMap_nil, wrap_i64, Int.reduceMul, Int.reduceSub, Int.reduceAdd, mn, fd, fdp, k53_t0, List.take_succ_cons, List.take_zero, List.drop_succ_cons, List.drop_zero, List.cons_append, List.nil_append, List.length_cons, List.length_nil]) | (with_reducible refine wgd_cases ?_ ?_ <;> intro hb) | (with_reducible refine wcond_cases ?_ ?_ <;> intro hb) | (with_reducible refine qd_i (by kernel_rfl) ?_) | (with_reducible refine W_itn_cases ?_ ?_; omega))
  refine loop_u k53_l0.eq_1 ?_
  repeat' (first | (simp -implicitDefEqProofs only [ze, zd, zr, simprocAttr, LR_pl, LR_hp, LR_hm, cunr_n, cunr_x, cunr_r, cunr_p, List.any_cons, List.any_nil, List.flatten_cons, List.flatten_nil, List.replicate_succ, List.replicate_zero, Bool.or_false, Bool.false_or, List.flatMap_cons, List.flatMap_nil, wrap_i64, Int.reduceMul, Int.reduceSub, Int.reduceAdd, mn, fd, fdp, k53_t0, List.take_succ_cons, List.take_zero, List.drop_succ_cons, List.drop_zero, List.cons_append, List.nil_append, List.length_cons, List.length_nil]) | (with_reducible refine wgd_cases ?_ ?_ <;> intro hb) | (with_reducible refine wcond_cases ?_ ?_ <;> intro hb) | (with_reducible refine qd_i (by kernel_rfl) ?_) | (with_reducible refine W_itn_cases ?_ ?_; omega))
  refine loop_u k53_l0.eq_1 ?_
  repeat' (first | (simp -implicitDefEqProofs only [ze, zd, zr, simprocAttr, LR_pl, LR_hp, LR_hm, cunr_n, cunr_x, cunr_r, cunr_p, List.any_cons, List.any_nil, List.flatten_cons, List.flatten_nil, List.replicate_succ, List.replicate_zero, Bool.or_false, Bool.false_or, List.flatMap_cons, List.flatMap_nil, wrap_i64, Int.reduceMul, Int.reduceSub, Int.reduceAdd, mn, fd, fdp, k53_t0, List.take_succ_cons, List.take_zero, List.drop_succ_cons, List.drop_zero, List.cons_append, List.nil_append, List.length_cons, List.length_nil]) | (with_reducible refine wgd_cases ?_ ?_ <;> intro hb) | (with_reducible refine wcond_cases ?_ ?_ <;> intro hb) | (with_reducible refine qd_i (by kernel_rfl) ?_) | (with_reducible refine W_itn_cases ?_ ?_; omega))
  refine loop_u k53_l0.eq_1 ?_
  repeat' (first | (simp -implicitDefEqProofs only [ze, zd, zr, simprocAttr, LR_pl, LR_hp, LR_hm, cunr_n, cunr_x, cunr_r, cunr_p, List.any_cons, List.any_nil, List.flatten_cons, List.flatten_nil, List.replicate_succ, List.replicate_zero, Bool.or_false, Bool.false_or, List.flatMap_cons, List.flatMap_nil, wrap_i64, Int.reduceMul, Int.reduceSub, Int.reduceAdd, mn, fd, fdp, k53_t0, List.take_succ_cons, List.take_zero, List.drop_succ_cons, List.drop_zero, List.cons_append, List.nil_append, List.length_cons, List.length_nil]) | (with_reducible refine wgd_cases ?_ ?_ <;> intro hb) | (with_reducible refine wcond_cases ?_ ?_ <;> intro hb) | (with_reducible refine qd_i (by kernel_rfl) ?_) | (with_reducible refine W_itn_cases ?_ ?_; omega))
  refine loop_u k53_l0.eq_1 ?_
  repeat' (first | (simp -implicitDefEqProofs only [ze, zd, zr, simprocAttr, LR_pl, LR_hp, LR_hm, cunr_n, cunr_x, cunr_r, cunr_p, List.any_cons, List.any_nil, List.flatten_cons, List.flatten_nil, List.replicate_succ, List.replicate_zero, Bool.or_false, Bool.false_or, List.flatMap_cons, List.flatMap_nil, wrap_i64, Int.reduceMul, Int.reduceSub, Int.reduceAdd, mn, fd, fdp, k53_t0, List.take_succ_cons, List.take_zero, List.drop_succ_cons, List.drop_zero, List.cons_append, List.nil_append, List.length_cons, List.length_nil]) | (with_reducible refine wgd_cases ?_ ?_ <;> intro hb) | (with_reducible refine wcond_cases ?_ ?_ <;> intro hb) | (with_reducible refine qd_i (by kernel_rfl) ?_) | (with_reducible refine W_itn_cases ?_ ?_; omega))
  refine loop_u k53_l0.eq_1 ?_
  repeat' (first | (simp -implicitDefEqProofs only [ze, zd, zr, simprocAttr, LR_pl, LR_hp, LR_hm, cunr_n, cunr_x, cunr_r, cunr_p, List.any_cons, List.any_nil, List.flatten_cons, List.flatten_nil, List.replicate_succ, List.replicate_zero, Bool.or_false, Bool.false_or, List.flatMap_cons, List.flatMap_nil, wrap_i64, Int.reduceMul, Int.reduceSub, Int.reduceAdd, mn, fd, fdp, k53_t0, List.take_succ_cons, List.take_zero, List.drop_succ_cons, List.drop_zero, List.cons_append, List.nil_append, List.length_cons, List.length_nil]) | (with_reducible refine wgd_cases ?_ ?_ <;> intro hb) | (with_reducible refine wcond_cases ?_ ?_ <;> intro hb) | (with_reducible refine qd_i (by kernel_rfl) ?_) | (with_reducible refine W_itn_cases ?_ ?_; omega))
  refine loop_u k53_l0.eq_1 ?_
  repeat' (first | (simp -implicitDefEqProofs only [ze, zd, zr, simprocAttr, LR_pl, LR_hp, LR_hm, cunr_n, cunr_x, cunr_r, cunr_p, List.any_cons, List.any_nil, List.flatten_cons, List.flatten_nil, List.replicate_succ, List.replicate_zero, Bool.or_false, Bool.false_or, List.flatMap_cons, List.flatMap_nil, wrap_i64, Int.reduceMul, Int.reduceSub, Int.reduceAdd, mn, fd, fdp, k53_t0, List.take_succ_cons, List.take_zero, List.drop_succ_cons, List.drop_zero, List.cons_append, List.nil_append, List.length_cons, List.length_nil]) | (with_reducible refine wgd_cases ?_ ?_ <;> intro hb) | (with_reducible refine wcond_cases ?_ ?_ <;> intro hb) | (with_reducible refine qd_i (by kernel_rfl) ?_) | (with_reducible refine W_itn_cases ?_ ?_; omega))
  simp [sumB, bv, u8_mod]
end Go.Proofs.YtkbheoganajhaaaDoor.Vm
set_option maxRecDepth 10000
set_option linter.unusedVariables false
set_option linter.unusedSimpArgs false
namespace Go.Proofs.YtkbheoganajhaaaDoor.Vm
open Go Go.Proofs
def u64r (s : Int) : Prop := 0 ≤ s ∧ s < 18446744073709551616
theorem u64w (n : Int) : u64r (IntKind.u64.wrap n) := by rw [IntKind.wrap_u64]; unfold u64r; omega
def growI (h b : Int) : Int := IntKind.u64.wrap (Go.bits .xor .u64 h b * 1099511628211)
def mixI (s : Int) (bs : List Int) : Int := bs.foldl growI s
theorem growI_r (h b : Int) : u64r (growI h b) := u64w _
theorem mixI_r : ∀ (bs : List Int) {s : Int}, u64r s → u64r (mixI s bs)
  | [], _, h => h
  | b :: bs, s, _ => mixI_r bs (growI_r s b)
def four (n : Int) : List Int := [n / 16777216 % 256, n / 65536 % 256, n / 256 % 256, n % 256]
def nextI (s : Int) (bs : List Int) : Int := mixI (mixI s bs) (four ((bs.length : Int) % 4294967296))
theorem nextI_r (s : Int) (bs : List Int) (h : u64r s) : u64r (nextI s bs) := mixI_r _ (mixI_r _ h)
theorem u32_mod (n : Int) : IntKind.u32.wrap n = n % 4294967296 := by rw [IntKind.wrap_u32]
theorem mix_ok (bs : List Int) (hb : bOK bs) (hl : bs.length < 4611686018427387904) (r : Nat) (s : Int) : L.pl 78 [.sc (.int .u64 s), .list 5 (bv bs) r] = some (.ret (.sc (.int .u64 (mixI s bs)))) := by
  refine W_of (pl_w k78_eq ?_)
  simp only [k78]
  repeat' (first | (simp -implicitDefEqProofs only [ze, zd, simprocAttr, bv_len]) | (with_reducible refine wgd_cases ?_ ?_ <;> intro hb) | (with_reducible refine wcond_cases ?_ ?_ <;> intro hb) | (with_reducible refine qd_i (by kernel_rfl) ?_) | (with_reducible refine W_itn_cases ?_ ?_; omega))
  refine loop_w (fun n tm st nx => ∃ (i : Nat) (x : Int), n = bs.length - i ∧ i ≤ bs.length ∧ tm 9 = .i64 i ∧ tm 8 = .i64 bs.length ∧ tm 7 = .list 5 (bv bs) r ∧ tm 0 = .sc (.int .u64 x) ∧ mixI s bs = mixI x (bs.drop i)) bs.length ⟨0, s, by omega, by omega, ?_, ?_, ?_, ?_, rfl⟩ ?_
  · simp -implicitDefEqProofs only [ze, zd, simprocAttr]; try rfl
  · simp -implicitDefEqProofs only [ze, zd, simprocAttr]
  · simp -implicitDefEqProofs only [ze, zd, simprocAttr]
  · simp -implicitDefEqProofs only [ze, zd, simprocAttr]
  rintro n tm st nx ⟨i, x, hn, hi, h9, h8, h7, h0, hm⟩
  simp only [k78_l0, k78_t0]
  by_cases hlt : i < bs.length
  · have hd : decide ((i : Int) < (bs.length : Int)) = true := decide_eq_true (by omega)
    obtain ⟨b, hb1⟩ := get_lt (l := bs) (i := i) (by omega)
    obtain ⟨hb2, hb3⟩ := hb b (List.mem_of_getElem? hb1)
    have e : bs.drop i = b :: bs.drop (i + 1) := by rw [List.drop_eq_getElem_cons (by omega)]; rw [List.getElem?_eq_getElem (by omega)] at hb1; rw [Option.some.inj hb1]
    have hup : IntKind.i64.wrap ((i : Int) + 1) = ((i + 1 : Nat) : Int) := wrap_i64 (by omega) (by omega)
    have hw : IntKind.u64.wrap b = b := Co.u64_small hb2 (by omega)
    rw [e] at hm
    repeat' (first | (simp -implicitDefEqProofs only [ze, zd, simprocAttr, h9, h8, h7, h0, hd, bv_get, hb1, hup, hw]) | (with_reducible refine wgd_cases ?_ ?_ <;> intro hb) | (with_reducible refine wcond_cases ?_ ?_ <;> intro hb) | (with_reducible refine qd_i (by kernel_rfl) ?_) | (with_reducible refine W_itn_cases ?_ ?_; omega))
    exact ⟨bs.length - (i + 1), by omega, i + 1, growI x b, rfl, by omega, rfl, rfl, hm⟩
  · have hd : decide ((i : Int) < (bs.length : Int)) = false := decide_eq_false (by omega)
    have hin : i = bs.length := by omega
    rw [hin, List.drop_length] at hm
    repeat' (first | (simp -implicitDefEqProofs only [ze, zd, simprocAttr, h9, h8, h7, h0, hd]) | (with_reducible refine wgd_cases ?_ ?_ <;> intro hb) | (with_reducible refine wcond_cases ?_ ?_ <;> intro hb) | (with_reducible refine qd_i (by kernel_rfl) ?_) | (with_reducible refine W_itn_cases ?_ ?_; omega))
    rw [hm]; rfl
theorem f24 (x : Int) : x.fdiv 16777216 = x / 16777216 := Int.fdiv_eq_ediv_of_nonneg x (by decide)
theorem f16 (x : Int) : x.fdiv 65536 = x / 65536 := Int.fdiv_eq_ediv_of_nonneg x (by decide)
theorem f8 (x : Int) : x.fdiv 256 = x / 256 := Int.fdiv_eq_ediv_of_nonneg x (by decide)
theorem four_ok (n : Int) : bOK (four n) := by
  intro b hb
  simp only [four, List.mem_cons, List.not_mem_nil, or_false] at hb
  omega
theorem cnext_ok (bs : List Int) (hb : bOK bs) (hl : bs.length < 4611686018427387904) (r : Nat) (s : Int) : L.pl 51 [.sc (.int .u64 s), .list 5 (bv bs) r] = some (.ret (.sc (.int .u64 (nextI s bs)))) := by
  refine W_of (pl_w k51_eq ?_)
  simp only [k51]
  have hm := mix_ok bs hb hl 0 s
  have hm1 := mix_ok bs hb hl 1 s
  have hm2 := mix_ok (four ((bs.length : Int) % 4294967296)) (four_ok _) (by simp [four]) 0 (mixI s bs)
  have hr : (if r = 1 then 1 else 0) = 0 ∨ (if r = 1 then 1 else 0) = 1 := by split <;> simp
  have e : bv (four ((bs.length : Int) % 4294967296)) = [V.sc (.int .u8 ((bs.length : Int) % 4294967296 / 16777216 % 256)), V.sc (.int .u8 ((bs.length : Int) % 4294967296 / 65536 % 256)), V.sc (.int .u8 ((bs.length : Int) % 4294967296 / 256 % 256)), V.sc (.int .u8 ((bs.length : Int) % 4294967296 % 256))] := rfl
  rw [e] at hm2
  have p24 : (2 : Int) ^ 24 = 16777216 := rfl
  have p16 : (2 : Int) ^ 16 = 65536 := rfl
  have p8 : (2 : Int) ^ 8 = 256 := rfl
  have n24 : Nat.min 24 IntKind.u32.bits = 24 := rfl
  have n16 : Nat.min 16 IntKind.u32.bits = 16 := rfl
  have n8 : Nat.min 8 IntKind.u32.bits = 8 := rfl
  rcases hr with hr | hr
  · repeat' (first | (simp -implicitDefEqProofs only [ze, zd, simprocAttr, hr, hm, hm2, bv_len, u32_mod, u8_mod, f24, f16, f8, p24, p16, p8, n24, n16, n8]) | (with_reducible refine wgd_cases ?_ ?_ <;> intro hb) | (with_reducible refine wcond_cases ?_ ?_ <;> intro hb) | (with_reducible refine qd_i (by kernel_rfl) ?_) | (with_reducible refine W_itn_cases ?_ ?_; omega))
    rfl
  · repeat' (first | (simp -implicitDefEqProofs only [ze, zd, simprocAttr, hr, hm1, hm2, bv_len, u32_mod, u8_mod, f24, f16, f8, p24, p16, p8, n24, n16, n8]) | (with_reducible refine wgd_cases ?_ ?_ <;> intro hb) | (with_reducible refine wcond_cases ?_ ?_ <;> intro hb) | (with_reducible refine qd_i (by kernel_rfl) ?_) | (with_reducible refine W_itn_cases ?_ ?_; omega))
    rfl
end Go.Proofs.YtkbheoganajhaaaDoor.Vm
set_option maxRecDepth 10000
set_option linter.unusedVariables false
set_option linter.unusedSimpArgs false
namespace Go.Proofs.YtkbheoganajhaaaDoor.Vm
open Go Go.Proofs
theorem n32_24 : Nat.min 24 IntKind.u32.bits = 24 := rfl
theorem n32_16 : Nat.min 16 IntKind.u32.bits = 16 := rfl
theorem n32_8 : Nat.min 8 IntKind.u32.bits = 8 := rfl
theorem p24 : (2 : Int) ^ 24 = 16777216 := rfl
theorem p16 : (2 : Int) ^ 16 = 65536 := rfl
theorem p8 : (2 : Int) ^ 8 = 256 := rfl
theorem snum_ok (n : Int) : L.pl 52 [.sc (.int .u32 n)] = some (.ret (.list 5 (bv (four n)) (8 + 5))) := by
  refine W_of (pl_w k52_eq ?_)
  simp only [k52]
  repeat' (first | (simp -implicitDefEqProofs only [ze, zd, simprocAttr, u8_mod, f24, f16, f8, p24, p16, p8, n32_24, n32_16, n32_8]) | (with_reducible refine wgd_cases ?_ ?_ <;> intro hb) | (with_reducible refine wcond_cases ?_ ?_ <;> intro hb) | (with_reducible refine qd_i (by kernel_rfl) ?_) | (with_reducible refine W_itn_cases ?_ ?_; omega))
  rfl
def inv (n : Int) : Int := 4294967295 - n
def frameB (bs : List Int) (s : Int) : List Int := four bs.length ++ four (inv bs.length) ++ bs ++ sumB s
theorem four_len (n : Int) : (four n).length = 4 := rfl
theorem sumB_len (s : Int) : (sumB s).length = 8 := rfl
theorem frameB_len (bs : List Int) (s : Int) : (frameB bs s).length = bs.length + 16 := by simp [frameB, four_len, sumB_len]; omega
end Go.Proofs.YtkbheoganajhaaaDoor.Vm
set_option maxRecDepth 10000
set_option linter.unusedVariables false
set_option linter.unusedSimpArgs false
namespace Go.Proofs.YtkbheoganajhaaaDoor.Vm
open Go Go.Proofs
def LogW (st : St) (nx id : Nat) (out : List Int) (s : Int) (w : V) : Prop := id < nx ∧ ∃ v, st id = some (.cells [v, .sc (.int .u64 s), w]) ∧ Grow st nx 5 (bv out) v
def KeepO (st st' : St) (nx id : Nat) : Prop := ∀ i, i < nx → i ≠ id → (∀ n e, st i ≠ some (.tok n e)) → st' i = st i
def tokOf : V → Nat
  | .list _ _ r => r
  | _ => 0
def toksAt (st : St) (id : Nat) : List Nat := match st id with
  | some (.cells [v, _, w]) => [tokOf v, tokOf w]
  | _ => []
def KQ (st st' : St) (nx id : Nat) : Prop := (∀ k, k < nx → k ≠ id → k ∉ toksAt st id → st' k = st k) ∧ ∀ k ∈ toksAt st' id, k ∈ toksAt st id ∨ nx ≤ k
def KeepR (st st' : St) (nx e : Nat) : Prop := ∀ i n e', i < nx → e' ≠ e → st i = some (.tok n e') → st' i = some (.tok n e')
theorem un_xor32 (P : Program) (n : Int) : reck P (Op.unary .xor (.int .u32 n)) = some (.int .u32 (Go.bits .xor .u32 4294967295 n)) := rfl
theorem xinv (n : Int) (hn : 0 ≤ n ∧ n < 4294967296) : Go.bits .xor .u32 4294967295 n = inv n := by
  obtain ⟨a, rfl⟩ := Int.eq_ofNat_of_zero_le hn.1
  rw [Co.xor_comm_]
  show IntKind.u32.wrap ((BitVec.ofInt 32 (a : Int) ^^^ BitVec.ofInt 32 4294967295).toNat : Int) = _
  have h1 : BitVec.ofInt 32 4294967295 = BitVec.allOnes 32 := by decide
  have h2 : (BitVec.ofInt 32 (a : Int)).toNat = a := by rw [BitVec.toNat_ofInt]; omega
  rw [h1, BitVec.xor_allOnes, BitVec.toNat_not, h2, IntKind.wrap_u32]
  unfold inv; omega
theorem nxj (n j : Nat) : (n = n + j) = (j = 0) := propext (by omega)
theorem write_ok {st : St} {nx id : Nat} {out : List Int} {s : Int} {w : V} (he : LogW st nx id out s w) (bs : List Int) (hb : bOK bs) (hs : u64r s) (hl : out.length ≤ 100000000000) (hl2 : bs.length ≤ 1000000000) (r : Nat) :
    W (L.hp 29 [.ptr id 0, .list 5 (bv bs) r] st nx) fun r => ∃ st' nx', r = .ret (.tup []) st' nx' ∧ nx ≤ nx' ∧ LogW st' nx' id (out ++ frameB bs (nextI s bs)) (nextI s bs) w ∧ KeepO st st' nx id ∧ KeepR st st' nx 5 ∧ KQ st st' nx id := by
  refine hp_w k29_eq ?_
  simp only [k29]
  obtain ⟨hid, v, hv, hg⟩ := he
  have hn : (0 : Int) ≤ (bs.length : Int) ∧ (bs.length : Int) < 4294967296 := ⟨by omega, by omega⟩
  have hw : (bs.length : Int) % 4294967296 = bs.length := Int.emod_eq_of_lt hn.1 hn.2
  have hx := xinv _ hn
  have hk := cnext_ok bs hb (by omega) (if r = 1 then 1 else 0) s
  have hr' := nextI_r s bs hs
  have hz := cbytes_ok (nextI s bs) hr'.1 hr'.2
  have hne : ∀ j, (id = nx + j) = False := fun j => eq_false (by omega)
  have hne' : ∀ j, (nx + j = id) = False := fun j => eq_false (by omega)
  rcases hg with ⟨hb0, rfl⟩ | ⟨q, hr8, hrn, rfl, hst⟩
  · have hout : out = [] := by simpa [bv] using hb0
    subst hout
    repeat' (first | (simp -implicitDefEqProofs only [ze, zd, simprocAttr, hv, hk, hw, u32_mod, hx, un_xor32, snum_ok, hz, hne, hne', nxj, bv_len, four_len, sumB_len, List.length_append]) | (with_reducible refine W_itn_cases ?_ ?_; omega))
    refine qd_i ?_ ?_
    · simp [recsOk, ordB, Rec.free, Rec.wr, disj, List.range, List.range.loop, hne, hne']; try decide
    repeat' (first | (simp -implicitDefEqProofs only [ze, zd, simprocAttr, hv, hk, hw, u32_mod, hx, un_xor32, snum_ok, hz, hne, hne', nxj, bv_len, four_len, sumB_len, List.length_append]) | (with_reducible refine W_itn_cases ?_ ?_; omega))
    refine qd_i ?_ ?_
    · simp [recsOk, ordB, Rec.free, Rec.wr, disj, List.range, List.range.loop, hne, hne']; try decide
    simp -implicitDefEqProofs only [ze, zd, simprocAttr, hv, hk, hw, u32_mod, hx, un_xor32, snum_ok, hz, hne, hne', nxj, bv_len, four_len, sumB_len, List.length_append]
    refine ⟨_, _, rfl, by omega, ⟨by omega, _, by rw [upd_at, if_pos rfl], .inr ⟨nx + 168, by omega, by omega, by simp [frameB, bv_app], ?_⟩⟩, fun i h1 h2 h3 => ?_, fun i n e' h1 h2 h3 => ?_, fun k h1 h2 h3 => ?_, fun k hk => ?_⟩
    · simp [upd_at, hne', bv_len, frameB, four_len, sumB_len]; omega
    · have a1 : ∀ j, (i = nx + j) = False := fun j => eq_false (by omega)
      simp [upd_at, h2, a1]
    · have a1 : ∀ j, (i = nx + j) = False := fun j => eq_false (by omega)
      have a2 : (i = id) = False := eq_false fun e => by subst e; rw [hv] at h3; cases h3
      simp [upd_at, a2, a1, h3]
    · have a1 : ∀ j, (k = nx + j) = False := fun j => eq_false (by omega)
      simp [upd_at, h2, a1]
    · simp only [toksAt, upd_at, if_true, tokOf, List.mem_cons, List.not_mem_nil, or_false] at hk
      simp only [toksAt, hv, tokOf, List.mem_cons, List.not_mem_nil, or_false]
      omega
  · have hr0 : (q = 0) = False := eq_false (by omega)
    have hr1 : (q = 1) = False := eq_false (by omega)
    have hrx : ∀ j, (q = nx + j) = False := fun j => eq_false (by omega)
    have hrx' : ∀ j, (nx + j = q) = False := fun j => eq_false (by omega)
    have hri : ¬ q = id := fun e => by subst e; rw [hv] at hst; cases hst
    have hri' : (q = id) = False := eq_false hri
    have hir : (id = q) = False := eq_false fun e => hri e.symm
    repeat' (first | (simp -implicitDefEqProofs only [ze, zd, simprocAttr, hv, hk, hw, u32_mod, hx, un_xor32, snum_ok, hz, hne, hne', nxj, bv_len, four_len, sumB_len, List.length_append, hr0, hr1, hrx, hrx', hri', hir, hst]) | (with_reducible refine W_itn_cases ?_ ?_; omega))
    refine qd_i ?_ ?_
    · simp [recsOk, ordB, Rec.free, Rec.wr, disj, List.range, List.range.loop, hne, hne', hrx, hrx', hri', hir]; try decide
    repeat' (first | (simp -implicitDefEqProofs only [ze, zd, simprocAttr, hv, hk, hw, u32_mod, hx, un_xor32, snum_ok, hz, hne, hne', nxj, bv_len, four_len, sumB_len, List.length_append, hr0, hr1, hrx, hrx', hri', hir, hst]) | (with_reducible refine W_itn_cases ?_ ?_; omega))
    refine qd_i ?_ ?_
    · simp [recsOk, ordB, Rec.free, Rec.wr, disj, List.range, List.range.loop, hne, hne', hrx, hrx', hri', hir]; try decide
    simp -implicitDefEqProofs only [ze, zd, simprocAttr, hv, hk, hw, u32_mod, hx, un_xor32, snum_ok, hz, hne, hne', nxj, bv_len, four_len, sumB_len, List.length_append, hr0, hr1, hrx, hrx', hri', hir, hst]
    refine ⟨_, _, rfl, by omega, ⟨by omega, _, by rw [upd_at, if_pos rfl], .inr ⟨q, hr8, by omega, by simp [frameB, bv_app], ?_⟩⟩, fun i h1 h2 h3 => ?_, fun i n e' h1 h2 h3 => ?_, fun k h1 h2 h3 => ?_, fun k hk => ?_⟩
    · simp [upd_at, hri', bv_len, frameB, four_len, sumB_len]; omega
    · have a1 : ∀ j, (i = nx + j) = False := fun j => eq_false (by omega)
      have a2 : (i = q) = False := eq_false fun e => by subst e; exact h3 _ _ hst
      simp [upd_at, h2, a1, a2]
    · have a1 : ∀ j, (i = nx + j) = False := fun j => eq_false (by omega)
      have a2 : (i = id) = False := eq_false fun e => by subst e; rw [hv] at h3; cases h3
      have a3 : (i = q) = False := eq_false fun e => by subst e; rw [h3] at hst; cases hst; exact h2 rfl
      simp [upd_at, a2, a1, a3, h3]
    · have a1 : ∀ j, (k = nx + j) = False := fun j => eq_false (by omega)
      simp only [toksAt, hv, tokOf, List.mem_cons, List.not_mem_nil, or_false, not_or] at h3
      simp [upd_at, h2, a1, h3.1]
    · simp only [toksAt, upd_at, if_true, tokOf, List.mem_cons, List.not_mem_nil, or_false] at hk
      simp only [toksAt, hv, tokOf, List.mem_cons, List.not_mem_nil, or_false]
      omega
end Go.Proofs.YtkbheoganajhaaaDoor.Vm
set_option maxRecDepth 10000
set_option linter.unusedVariables false
set_option linter.unusedSimpArgs false
namespace Go.Proofs.YtkbheoganajhaaaDoor.Vm
open Go Go.Proofs
theorem encL_get (ls : List Line) (i : Nat) : (ls.map encL)[i]? = (ls[i]?).map encL := by simp
def copL (l : Line) : Line := { l with tr := false }
def copE (e : Entry) : Entry := { e with lines := e.lines.map copL, lr := e.lines.isEmpty }
theorem cop_k (e : Entry) : (copE e).k = e.k := by
  unfold copE Entry.k
  simp only [List.map_map]
  congr 1
theorem te_t (e : Nat) : te true e = 0 := rfl
theorem nr_f : nr false = 0 := rfl
theorem nr_t : nr true = 1 := rfl
theorem take_get {α : Type} {l : List α} {i : Nat} {x : α} (h : l[i]? = some x) : l.take (i + 1) = l.take i ++ [x] := by rw [List.take_add_one, h]; rfl
theorem copied_ok (e : Entry) (hn' : nilE e) (hl : e.lines.length < 1000000) (ht : ∀ l ∈ e.lines, l.tags.length < 1000000) : L.pl 30 [encE e] = some (.ret (encE (copE e))) := by
  refine W_of (pl_w k30_eq ?_)
  simp only [k30, encE]
  repeat' (first | (simp -implicitDefEqProofs only [ze, zd, simprocAttr, List.length_map]) | (with_reducible refine wgd_cases ?_ ?_ <;> intro hb) | (with_reducible refine wcond_cases ?_ ?_ <;> intro hb) | (with_reducible refine qd_i (by kernel_rfl) ?_) | (with_reducible refine W_itn_cases ?_ ?_; omega))
  refine loop_w (fun n tm st nx => ∃ (i : Nat) (v : V), n = e.lines.length - i ∧ i ≤ e.lines.length ∧ 32 ≤ nx ∧ tm 11 = .i64 i ∧ tm 10 = .i64 e.lines.length ∧ tm 9 = .list (te e.lr 61) (e.lines.map encL) (nr e.lr) ∧ tm 1 = .ptr 8 0 ∧ tm 2 = .ptr 16 0 ∧ st 8 = some (.cells [.i64 e.no, .str e.ent, .i64 e.book, .i64 e.val, .i64 e.kind, .str e.ref, .str e.who, .i64 e.rev, v]) ∧ st 16 = some (.cells [.i64 0, .str (ByteArray.mk #[]), .i64 0, .i64 0, .i64 0, .str (ByteArray.mk #[]), .str (ByteArray.mk #[]), .i64 0, .list 0 [] 1]) ∧ Grow st nx 61 ((e.lines.take i).map fun l => encL (copL l)) v ∧ (i = 0 → v = .list 0 [] 1)) e.lines.length ⟨0, .list 0 [] 1, by omega, by omega, by omega, ?_, ?_, ?_, ?_, ?_, ?_, ?_, .inl ⟨rfl, rfl⟩, fun _ => rfl⟩ ?_
  · simp -implicitDefEqProofs only [ze, zd, simprocAttr]; try rfl
  · simp -implicitDefEqProofs only [ze, zd, simprocAttr]
  · simp -implicitDefEqProofs only [ze, zd, simprocAttr]
  · simp -implicitDefEqProofs only [ze, zd, simprocAttr]
  · simp -implicitDefEqProofs only [ze, zd, simprocAttr]
  · simp -implicitDefEqProofs only [ze, zd, simprocAttr]
  · simp -implicitDefEqProofs only [ze, zd, simprocAttr]
  rintro n tm st nx ⟨i, v, hn, hi, hnx, h11, h10, h9, h1, h2, h8, h16, hg, hz⟩
  simp only [k30_l0, k30_t0]
  have g8 : ∀ j, (8 = nx + j) = False := fun j => eq_false (by omega)
  have g16 : ∀ j, (16 = nx + j) = False := fun j => eq_false (by omega)
  have g8' : ∀ j, (nx + j = 8) = False := fun j => eq_false (by omega)
  have g16' : ∀ j, (nx + j = 16) = False := fun j => eq_false (by omega)
  by_cases hlt : i < e.lines.length
  · have hd : decide ((i : Int) < (e.lines.length : Int)) = true := decide_eq_true (by omega)
    obtain ⟨l, hl1⟩ := get_lt (l := e.lines) (i := i) hlt
    have hlm := List.mem_of_getElem? hl1
    have htl := ht l hlm
    have hlr : e.lr = false := by
      cases h : e.lr
      · rfl
      · have := hn'.1 h; rw [this] at hlt; simp at hlt
    rw [hlr] at h9
    have hup : IntKind.i64.wrap ((i : Int) + 1) = ((i + 1 : Nat) : Int) := wrap_i64 (by omega) (by omega)
    have hty : (te l.tr 97 = 97 ∨ (List.map encT l.tags).isEmpty = true) = True := eq_true (by
      cases h : l.tr
      · exact .inl rfl
      · right; rw [hn'.2 l hlm h]; rfl)
    have hel : encL l = .agg [.str l.acc, .str l.cur, .i64 l.amt, .i64 l.base, .str l.par, .str l.pty, .list (te l.tr 97) (l.tags.map encT) (nr l.tr)] := rfl
    have htk : (List.take i e.lines).length = i := by rw [List.length_take]; omega
    have hmap : (e.lines.take (i + 1)).map (fun l => encL (copL l)) = (e.lines.take i).map (fun l => encL (copL l)) ++ [encL (copL l)] := by rw [take_get hl1, List.map_append]; rfl
    rcases hg with ⟨hb0, rfl⟩ | ⟨q, hr8, hrn, rfl, hst⟩
    · repeat' (first | (simp -implicitDefEqProofs only [ze, zd, simprocAttr, h11, h10, h9, h1, h2, h8, h16, hd, te_f, encL_get, hl1, hel, g8, g16, g8', g16', nxj, List.length_map, hup, hty]) | (with_reducible refine wgd_cases ?_ ?_ <;> intro hb) | (with_reducible refine wcond_cases ?_ ?_ <;> intro hb) | (with_reducible refine qd_i (by kernel_rfl) ?_) | (with_reducible refine W_itn_cases ?_ ?_; omega))
      exact ⟨e.lines.length - (i + 1), by omega, i + 1, _, rfl, by omega, rfl, by rw [hlr]; rfl, rfl, .inr ⟨nx + 112, by omega, by omega, by rw [hmap, hb0]; rfl, by rw [hmap, hb0]; simp [upd_at]⟩, fun h => by omega⟩
    · have hr0 : (q = 0) = False := eq_false (by omega)
      have hr1 : (q = 1) = False := eq_false (by omega)
      have hrx : ∀ j, (q = nx + j) = False := fun j => eq_false (by omega)
      have hrx' : ∀ j, (nx + j = q) = False := fun j => eq_false (by omega)
      have hq8 : (q = 8) = False := eq_false fun h => by subst h; rw [h8] at hst; cases hst
      have hq8' : (8 = q) = False := eq_false fun h => by subst h; rw [h8] at hst; cases hst
      have hq16 : (q = 16) = False := eq_false fun h => by subst h; rw [h16] at hst; cases hst
      have hq16' : (16 = q) = False := eq_false fun h => by subst h; rw [h16] at hst; cases hst
      repeat' (first | (simp -implicitDefEqProofs only [ze, zd, simprocAttr, h11, h10, h9, h1, h2, h8, h16, hd, te_f, encL_get, hl1, hel, g8, g16, g8', g16', nxj, List.length_map, hup, hty, htk, hr0, hr1, hrx, hrx', hq8, hq8', hq16, hq16', hst]) | (with_reducible refine wgd_cases ?_ ?_ <;> intro hb) | (with_reducible refine wcond_cases ?_ ?_ <;> intro hb) | (with_reducible refine qd_i (by kernel_rfl) ?_) | (with_reducible refine W_itn_cases ?_ ?_; omega))
      exact ⟨e.lines.length - (i + 1), by omega, i + 1, _, rfl, by omega, rfl, by rw [hlr]; rfl, rfl, .inr ⟨q, by omega, by omega, by rw [hmap]; rfl, by rw [hmap]; simp [upd_at, htk, hq8, hrx]; omega⟩, fun h => by omega⟩
  · have hd : decide ((i : Int) < (e.lines.length : Int)) = false := decide_eq_false (by omega)
    have hin : i = e.lines.length := by omega
    rw [hin, List.take_length] at hg
    rcases hg with ⟨hb0, rfl⟩ | ⟨q, hr8, hrn, rfl, hst⟩
    · have hnil : e.lines = [] := by simpa using hb0
      repeat' (first | (simp -implicitDefEqProofs only [ze, zd, simprocAttr, h11, h10, h9, h1, h2, h8, h16, hd, g8, g16, g8', g16']) | (with_reducible refine wgd_cases ?_ ?_ <;> intro hb) | (with_reducible refine wcond_cases ?_ ?_ <;> intro hb) | (with_reducible refine qd_i (by kernel_rfl) ?_) | (with_reducible refine W_itn_cases ?_ ?_; omega))
      simp [copE, hnil, te_t, nr_t]
    · have hr9 : (q < 8) = False := eq_false (by omega)
      have hr0 : (q = 0) = False := eq_false (by omega)
      have hr1 : (q = 1) = False := eq_false (by omega)
      repeat' (first | (simp -implicitDefEqProofs only [ze, zd, simprocAttr, h11, h10, h9, h1, h2, h8, h16, hd, g8, g16, g8', g16', hr0, hr1, hr9, hst]) | (with_reducible refine wgd_cases ?_ ?_ <;> intro hb) | (with_reducible refine wcond_cases ?_ ?_ <;> intro hb) | (with_reducible refine qd_i (by kernel_rfl) ?_) | (with_reducible refine W_itn_cases ?_ ?_; omega))
      have hne : e.lines.isEmpty = false := by
        cases h : e.lines with
        | nil => have := hz (by rw [hin, h]; rfl); cases this
        | cons x xs => rfl
      simp only [copE, hne, te_f, nr_f, List.map_map]
      rfl
end Go.Proofs.YtkbheoganajhaaaDoor.Vm
set_option maxRecDepth 10000
set_option linter.unusedVariables false
set_option linter.unusedSimpArgs false
namespace Go.Proofs.YtkbheoganajhaaaDoor.Vm
open Go Go.Proofs
def start : Int := 14695981039346656037
theorem start_r : u64r start := ⟨by decide, by decide⟩
def sumE : Int → List Entry → Int
  | s, [] => s
  | s, x :: xs => sumE (nextI s (entryB x)) xs
def framesB : Int → List Entry → List Int
  | _, [] => []
  | s, x :: xs => frameB (entryB x) (nextI s (entryB x)) ++ framesB (nextI s (entryB x)) xs
theorem sumE_snoc : ∀ (xs : List Entry) (s : Int) (x : Entry), sumE s (xs ++ [x]) = nextI (sumE s xs) (entryB x)
  | [], _, _ => rfl
  | y :: ys, s, x => sumE_snoc ys (nextI s (entryB y)) x
theorem framesB_snoc : ∀ (xs : List Entry) (s : Int) (x : Entry), framesB s (xs ++ [x]) = framesB s xs ++ frameB (entryB x) (nextI (sumE s xs) (entryB x))
  | [], s, x => (List.append_nil (frameB (entryB x) (nextI s (entryB x)))).trans (List.nil_append _).symm
  | y :: ys, s, x => by
    show frameB (entryB y) (nextI s (entryB y)) ++ framesB (nextI s (entryB y)) (ys ++ [x]) = frameB (entryB y) (nextI s (entryB y)) ++ framesB (nextI s (entryB y)) ys ++ frameB (entryB x) (nextI (sumE (nextI s (entryB y)) ys) (entryB x))
    rw [framesB_snoc ys, List.append_assoc]
theorem sumE_r : ∀ (xs : List Entry) {s : Int}, u64r s → u64r (sumE s xs)
  | [], _, h => h
  | x :: xs, s, h => sumE_r xs (nextI_r s _ h)
structure goodE (e : Entry) : Prop where
  sm : smallE e
  rg : rangeE e
  ck : (checkS e).2 = 0
theorem goodE.plain {e : Entry} (h : goodE e) : plainE e := check_plain h.ck h.rg h.sm.nils
theorem entryB_short {x : Entry} (hp : plainE x) : (entryB x).length < 200000000 := by
  have h2 := headB_len x hp
  have h3 := linesB_len x.lines x.lines.length fun t ht => hp.lines t (List.mem_of_mem_take ht)
  have h4 := hp.len
  rw [List.take_length] at h3
  rw [entryB, List.length_append]; omega
theorem enc_get (es : List Entry) (i : Nat) : (es.map encE)[i]? = (es[i]?).map encE := by simp
theorem sames_true (a b : List Entry) (hk : a.map Entry.k = b.map Entry.k) (ha : ∀ e ∈ a, e.lines.length < 1000000 ∧ (∀ l ∈ e.lines, l.tags.length < 1000000) ∧ nilE e) (hb : ∀ e ∈ b, nilE e) (hl : a.length < 1000000) (t1 t2 r1 r2 : Nat) (h1 : a = [] ∨ t1 = 31) (h2 : b = [] ∨ t2 = 31) : L.pl 18 [.list t1 (a.map encE) r1, .list t2 (b.map encE) r2] = some (.ret (.bool true)) := by
  refine W_of (pl_w k18_eq ?_)
  simp only [k18]
  have hlen : b.length = a.length := by have := congrArg List.length hk; simpa using this.symm
  have hd : decide ((a.length : Int) = (a.length : Int)) = true := decide_eq_true rfl
  repeat' (first | (simp -implicitDefEqProofs only [ze, zd, simprocAttr, List.length_map, hlen, hd]) | (with_reducible refine wgd_cases ?_ ?_ <;> intro hb) | (with_reducible refine wcond_cases ?_ ?_ <;> intro hb) | (with_reducible refine qd_i (by kernel_rfl) ?_) | (with_reducible refine W_itn_cases ?_ ?_; omega))
  refine loop_w (fun n tm st nx => ∃ (i : Nat), n = a.length - i ∧ i ≤ a.length ∧ tm 5 = .i64 i ∧ tm 0 = .list t1 (a.map encE) r1 ∧ tm 1 = .list t2 (b.map encE) r2) a.length ⟨0, by omega, by omega, ?_, ?_, ?_⟩ ?_
  · simp -implicitDefEqProofs only [ze, zd, simprocAttr]; try rfl
  · simp -implicitDefEqProofs only [ze, zd, simprocAttr]; try rfl
  · simp -implicitDefEqProofs only [ze, zd, simprocAttr]; try rfl
  rintro n tm st nx ⟨i, hn, hi, h5, h0, h1'⟩
  simp only [k18_l0, k18_t0]
  by_cases hlt : i < a.length
  · obtain rfl : t1 = 31 := by
      rcases h1 with rfl | h
      · simp at hlt
      · exact h
    obtain rfl : t2 = 31 := by
      rcases h2 with rfl | h
      · simp at hlen; omega
      · exact h
    have hd2 : decide ((i : Int) < (a.length : Int)) = true := decide_eq_true (by omega)
    obtain ⟨x, hx1⟩ := get_lt (l := a) (i := i) hlt
    obtain ⟨y, hy1⟩ := get_lt (l := b) (i := i) (by omega)
    have hkk : x.k = y.k := by
      have := congrArg (fun l => l[i]?) hk
      simp only [List.getElem?_map, hx1, hy1, Option.map_some] at this
      exact Option.some.inj this
    obtain ⟨q1, q2, q3⟩ := ha x (List.mem_of_getElem? hx1)
    have hS := same_ok x y (by omega) (fun l hl => by have := q2 l hl; omega) q3 (hb y (List.mem_of_getElem? hy1))
    rw [hkk, decide_eq_true rfl] at hS
    have hup : IntKind.i64.wrap ((i : Int) + 1) = ((i + 1 : Nat) : Int) := wrap_i64 (by omega) (by omega)
    simp only [encE] at hS
    repeat' (first | (simp -implicitDefEqProofs only [ze, zd, simprocAttr, h5, h0, h1', hd2, enc_get, hx1, hy1, encE, hS, hup, List.length_map, nr_pur]) | (with_reducible refine wgd_cases ?_ ?_ <;> intro hb) | (with_reducible refine wcond_cases ?_ ?_ <;> intro hb) | (with_reducible refine qd_i (by kernel_rfl) ?_) | (with_reducible refine W_itn_cases ?_ ?_; omega))
    exact ⟨a.length - (i + 1), by omega, i + 1, rfl, by omega, rfl⟩
  · have hd2 : decide ((i : Int) < (a.length : Int)) = false := decide_eq_false (by omega)
    repeat' (first | (simp -implicitDefEqProofs only [ze, zd, simprocAttr, h5, h0, h1', hd2, List.length_map]) | (with_reducible refine wgd_cases ?_ ?_ <;> intro hb) | (with_reducible refine wcond_cases ?_ ?_ <;> intro hb) | (with_reducible refine qd_i (by kernel_rfl) ?_) | (with_reducible refine W_itn_cases ?_ ?_; omega))
end Go.Proofs.YtkbheoganajhaaaDoor.Vm
set_option maxRecDepth 10000
set_option linter.unusedVariables false
set_option linter.unusedSimpArgs false
namespace Go.Proofs.YtkbheoganajhaaaDoor.Vm
open Go Go.Proofs
def LG (st : St) (nx id : Nat) (out : List Int) (s : Int) (es : List Entry) : Prop := ∃ w, LogW st nx id out s w ∧ Grow st nx 31 (es.map encE) w
def appC (n : Nat) (x : Entry) : Int := if (checkS x).2 = 0 then (if x.no = (n : Int) + 1 then 0 else 17) else (checkS x).2
theorem growU {st : St} {nx nx' e j : Nat} {xs : List V} {v : V} (h : Grow st nx e xs v) (hj : nx ≤ j) (hn : nx ≤ nx') (o : Option Ob) : Grow (upd st j o) nx' e xs v := by
  rcases h with h | ⟨r, h1, h2, h3, h4⟩
  · exact .inl h
  · exact .inr ⟨r, h1, by omega, h3, by rw [upd_at, if_neg (by omega)]; exact h4⟩
theorem growLe {st : St} {nx nx' e : Nat} {xs : List V} {v : V} (h : Grow st nx e xs v) (hn : nx ≤ nx') : Grow st nx' e xs v := by
  rcases h with h | ⟨r, h1, h2, h3, h4⟩
  · exact .inl h
  · exact .inr ⟨r, h1, by omega, h3, h4⟩
theorem lgU {st : St} {nx nx' id j : Nat} {out : List Int} {s : Int} {es : List Entry} (h : LG st nx id out s es) (hj : nx ≤ j) (hn : nx ≤ nx') (o : Option Ob) : LG (upd st j o) nx' id out s es := by
  obtain ⟨w, ⟨h1, v, h2, h3⟩, h4⟩ := h
  exact ⟨w, ⟨by omega, v, by rw [upd_at, if_neg (by omega)]; exact h2, growU h3 hj hn o⟩, growU h4 hj hn o⟩
theorem lgLe {st : St} {nx nx' id : Nat} {out : List Int} {s : Int} {es : List Entry} (h : LG st nx id out s es) (hn : nx ≤ nx') : LG st nx' id out s es := by
  obtain ⟨w, ⟨h1, v, h2, h3⟩, h4⟩ := h
  exact ⟨w, ⟨by omega, v, h2, growLe h3 hn⟩, growLe h4 hn⟩
theorem keepU {st : St} {nx id j : Nat} (hj : nx ≤ j) (o : Option Ob) : KeepO st (upd st j o) nx id := fun i h1 h2 h3 => by rw [upd_at, if_neg (by omega)]
theorem keepRefl (st : St) (nx id : Nat) : KeepO st st nx id := fun i h1 h2 h3 => rfl
theorem keepTrans {st st' st'' : St} {nx nx' id : Nat} (h : KeepO st st' nx id) (k : KeepO st' st'' nx' id) (hn : nx ≤ nx') : KeepO st st'' nx id := fun i h1 h2 h3 => by
  have e := h i h1 h2 h3
  rw [← e]
  exact k i (by omega) h2 (fun n e' => by rw [e]; exact h3 n e')
theorem growN {st : St} {nx e j : Nat} {xs : List V} {v : V} (h : Grow st nx e xs v) (hj : ∀ n, st j ≠ some (.tok n e)) (o : Option Ob) : Grow (upd st j o) nx e xs v := by
  rcases h with h | ⟨r, h1, h2, h3, h4⟩
  · exact .inl h
  · exact .inr ⟨r, h1, h2, h3, by rw [upd_at, if_neg (fun e => hj _ (e ▸ h4))]; exact h4⟩
theorem kqU {st : St} {nx id j : Nat} (hid : id < nx) (hj : nx ≤ j) (o : Option Ob) : KQ st (upd st j o) nx id := by
  refine ⟨fun k h1 h2 h3 => by rw [upd_at, if_neg (by omega)], fun k hk => ?_⟩
  have e : toksAt (upd st j o) id = toksAt st id := by unfold toksAt; rw [upd_at, if_neg (by omega)]
  rw [e] at hk; exact .inl hk
theorem kqTrans {st st' st'' : St} {nx nx' id : Nat} (h : KQ st st' nx id) (k : KQ st' st'' nx' id) (hn : nx ≤ nx') : KQ st st'' nx id := by
  refine ⟨fun i h1 h2 h3 => ?_, fun i hi => ?_⟩
  · rw [k.1 i (by omega) h2 (fun hm => (h.2 i hm).elim h3 (by omega)), h.1 i h1 h2 h3]
  · rcases k.2 i hi with q | q
    · exact h.2 i q
    · exact .inr (by omega)
theorem append_ok {st : St} {nx id : Nat} {out : List Int} {s : Int} {es : List Entry} (h : LG st nx id out s es) (x : Entry) (hx : smallE x) (rx : rangeE x) (hs : u64r s) (hl : out.length ≤ 100000000000) (he : es.length ≤ 1000000) :
    W (L.hp 12 [.ptr id 0, encE x] st nx) fun r => ∃ st' nx', r = .ret (.i64 (appC es.length x)) st' nx' ∧ nx ≤ nx' ∧ KeepO st st' nx id ∧ KQ st st' nx id ∧
      ((appC es.length x = 0 ∧ LG st' nx' id (out ++ frameB (entryB x) (nextI s (entryB x))) (nextI s (entryB x)) (es ++ [copE x])) ∨ (¬ appC es.length x = 0 ∧ LG st' nx' id out s es)) := by
  refine hp_w k12_eq ?_
  simp only [k12]
  obtain ⟨w, ⟨hid, v, hv, hg⟩, hw⟩ := h
  have hc := check_ok x hx rx.amts
  have hne : ∀ j, (id = nx + j) = False := fun j => eq_false (by omega)
  have hne' : ∀ j, (nx + j = id) = False := fun j => eq_false (by omega)
  have hn1 : (id = nx) = False := eq_false (by omega)
  have hn2 : (nx = id) = False := eq_false (by omega)
  by_cases h1 : (checkS x).2 = 0
  · have hpx := check_plain h1 rx hx.nils
    rw [h1] at hc
    have hP := put_ok x hpx _ hc
    have hcp := copied_ok x hx.nils (by have := hpx.len; omega) (fun l hl => by have := (hpx.lines l hl).len; omega)
    simp only [encE] at hc hP hcp ⊢
    have hw8 : IntKind.i64.wrap ((es.length : Int) + 1) = (es.length : Int) + 1 := wrap_i64 (by omega) (by omega)
    have hwl : w = .list 0 [] 1 ∧ es = [] ∨ ∃ r, w = .list 31 (es.map encE) r := by
      rcases hw with ⟨a, b⟩ | ⟨r, _, _, a, _⟩
      · exact .inl ⟨b, by simpa using a⟩
      · exact .inr ⟨r, a⟩
    obtain ⟨we, wr, rfl⟩ : ∃ we wr, w = .list we (es.map encE) wr := by
      rcases hwl with ⟨rfl, rfl⟩ | ⟨r, rfl⟩
      · exact ⟨0, 1, rfl⟩
      · exact ⟨_, r, rfl⟩
    by_cases h2 : x.no = (es.length : Int) + 1
    · have hd2 : decide (x.no = (es.length : Int) + 1) = true := decide_eq_true h2
      repeat' (first | (simp -implicitDefEqProofs only [ze, zd, simprocAttr, hc, hP, hv, hd2, hw8, hne, hne', hn1, hn2, nxj, nr_pur, List.length_map]) | (with_reducible refine W_itn_cases ?_ ?_; omega))
      refine qd_i ?_ ?_
      · simp [recsOk, ordB, Rec.free, Rec.wr, disj, List.range, List.range.loop, hne, hne', hn1, hn2]; try decide
      repeat' (first | (simp -implicitDefEqProofs only [ze, zd, simprocAttr, hc, hP, hv, hd2, hw8, hne, hne', hn1, hn2, nxj, nr_pur, List.length_map, enc_get]) | (with_reducible refine W_itn_cases ?_ ?_; omega))
      refine W_hp (write_ok (s := s) (w := .list we (es.map encE) wr) (out := out) ⟨by omega, v, by simp [upd_at, hne, hn1, hv], growU (growU hg (by omega) (Nat.le_refl _) _) (by omega) (by omega) _⟩ (entryB x) (entryB_inR hpx) hs hl (by have := entryB_short hpx; omega) _) ?_
      rintro _ ⟨st1, nx1, rfl, hnx1, ⟨_, v1, hv1, hg1⟩, hKO, hKR, hKQ⟩
      have hbx : st1 nx = some (.cells [V.i64 x.no, V.str x.ent, V.i64 x.book, V.i64 x.val, V.i64 x.kind, V.str x.ref, V.str x.who, V.i64 x.rev, V.list (te x.lr 61) (List.map encL x.lines) (nr x.lr)]) := (hKO nx (by omega) (by omega) (by intro n e h; simp [upd_at, nxj] at h)).trans (by simp [upd_at, nxj])
      have hK : KeepO st st1 nx id := keepTrans (nx' := nx) (keepTrans (nx' := nx) (keepU (Nat.le_refl _) _) (keepU (by omega) _) (Nat.le_refl _)) (fun i i1 i2 i3 => hKO i (by omega) i2 i3) (Nat.le_refl _)
      have hQ : KQ st st1 nx id := kqTrans (nx' := nx) (kqTrans (nx' := nx) (kqU hid (Nat.le_refl _) _) (kqU hid (by omega) _) (Nat.le_refl _)) (kqTrans (nx' := nx + 288) ⟨fun _ _ _ _ => rfl, fun _ q => .inl q⟩ hKQ (by omega)) (Nat.le_refl _)
      have k1 : ∀ j, (id = nx1 + j) = False := fun j => eq_false (by omega)
      have k2 : ∀ j, (nx1 + j = id) = False := fun j => eq_false (by omega)
      have k3 : ∀ j, (nx = nx1 + j) = False := fun j => eq_false (by omega)
      have k4 : ∀ j, (nx1 + j = nx) = False := fun j => eq_false (by omega)
      have hap : appC es.length x = 0 := by unfold appC; rw [if_pos h1, if_pos h2]
      rcases hw with ⟨hb0, hwn⟩ | ⟨q, hr8, hrn, hwq, hst⟩
      · obtain ⟨rfl, e0, rfl⟩ : we = 0 ∧ es.map encE = [] ∧ wr = 1 := by injection hwn with a b c; exact ⟨a, b, c⟩
        rw [e0] at hv1
        repeat' (first | (simp -implicitDefEqProofs only [ze, zd, simprocAttr, hv1, hbx, hcp, hne, hne', hn1, hn2, nxj, nr_pur, List.length_map, k1, k2, k3, k4]) | (with_reducible refine W_itn_cases ?_ ?_; omega))
        refine qd_i ?_ ?_
        · simp [recsOk, ordB, Rec.free, Rec.wr, disj, List.range, List.range.loop, hn1, hn2, k1, k2, k3, k4]; try decide
        simp -implicitDefEqProofs only [ze, zd, simprocAttr, hv1, hbx, hcp, hne, hne', hn1, hn2, nxj, nr_pur, List.length_map, k1, k2, k3, k4]
        refine ⟨_, _, congrArg (fun z => HR.ret (V.i64 z) _ _) hap.symm, by omega, fun i i1 i2 i3 => by rw [upd_at, if_neg i2, upd_at, if_neg (by omega), upd_at, if_neg (by omega)]; exact hK i i1 i2 i3, kqTrans (nx' := nx1) hQ ⟨fun k i1 i2 i3 => by rw [upd_at, if_neg i2, upd_at, if_neg (by omega), upd_at, if_neg (by omega)], fun k hk => by
          simp only [toksAt, upd_at, if_true, tokOf, List.mem_cons, List.not_mem_nil, or_false] at hk
          simp only [toksAt, hv1, tokOf, List.mem_cons, List.not_mem_nil, or_false]
          omega⟩ (by omega), .inl ⟨hap, _, ⟨by omega, _, by rw [upd_at, if_pos rfl], growN (growU (growU hg1 (by omega) (Nat.le_refl _) _) (by omega) (by omega) _) (by intro n; rw [upd_at, if_neg (by omega), upd_at, if_neg (by omega), hv1]; intro h; cases h) _⟩, .inr ⟨nx1 + 64, by omega, by omega, by rw [List.map_append, e0]; rfl, by rw [upd_at, if_neg (by omega), upd_at, if_pos rfl, List.map_append, e0]; rfl⟩⟩⟩
      · obtain ⟨rfl, rfl⟩ : we = 31 ∧ wr = q := by injection hwq with a b c; exact ⟨a, c⟩
        have q1 : st1 wr = some (.tok (es.map encE).length 31) := hKR wr _ _ (by omega) (by decide) (by rw [upd_at, if_neg (by omega), upd_at, if_neg (by omega)]; exact hst)
        have hr0 : (wr = 0) = False := eq_false (by omega)
        have hr1 : (wr = 1) = False := eq_false (by omega)
        have hrx : ∀ j, (wr = nx1 + j) = False := fun j => eq_false (by omega)
        have hrx' : ∀ j, (nx1 + j = wr) = False := fun j => eq_false (by omega)
        have hri : (wr = id) = False := eq_false fun e => by subst e; rw [hv] at hst; cases hst
        have hir : (id = wr) = False := eq_false fun e => by subst e; rw [hv] at hst; cases hst
        have hrn1 : (wr = nx) = False := eq_false (by omega)
        have hrn2 : (nx = wr) = False := eq_false (by omega)
        repeat' (first | (simp -implicitDefEqProofs only [ze, zd, simprocAttr, hv1, hbx, hcp, hne, hne', hn1, hn2, nxj, nr_pur, List.length_map, k1, k2, k3, k4, hr0, hr1, hrx, hrx', hri, hir, hrn1, hrn2, q1]) | (with_reducible refine W_itn_cases ?_ ?_; omega))
        refine qd_i ?_ ?_
        · simp [recsOk, ordB, Rec.free, Rec.wr, disj, List.range, List.range.loop, hn1, hn2, k1, k2, k3, k4, hrx, hrx', hri, hir, hrn1, hrn2]; try decide
        simp -implicitDefEqProofs only [ze, zd, simprocAttr, hv1, hbx, hcp, hne, hne', hn1, hn2, nxj, nr_pur, List.length_map, k1, k2, k3, k4, hr0, hr1, hrx, hrx', hri, hir, hrn1, hrn2, q1]
        have hwr1 : ¬ wr = nx1 + 56 := by omega
        have hwi : ¬ id = wr := fun e => by rw [hir] at e; exact e
        refine ⟨_, _, congrArg (fun z => HR.ret (V.i64 z) _ _) hap.symm, by omega, fun i i1 i2 i3 => ?_, kqTrans (nx' := nx1) hQ ⟨fun k i1 i2 i3 => by
            simp only [toksAt, hv1, tokOf, List.mem_cons, List.not_mem_nil, or_false, not_or] at i3
            rw [upd_at, if_neg i2, upd_at, if_neg i3.2, upd_at, if_neg (by omega)], fun k hk => by
          simp only [toksAt, upd_at, if_true, tokOf, List.mem_cons, List.not_mem_nil, or_false] at hk
          simp only [toksAt, hv1, tokOf, List.mem_cons, List.not_mem_nil, or_false]
          omega⟩ (by omega), .inl ⟨hap, _, ⟨by omega, _, by rw [upd_at, if_pos rfl], growN (growN (growU hg1 (by omega) (by omega) _) (by intro n; rw [upd_at, if_neg hwr1, q1]; intro h; cases h) _) (by intro n; rw [upd_at, if_neg hwi, upd_at, if_neg (by omega), hv1]; intro h; cases h) _⟩, .inr ⟨wr, hr8, by omega, by rw [List.map_append]; rfl, by rw [upd_at, if_neg (fun e => hwi e.symm), upd_at, if_pos rfl, List.map_append, List.length_append, List.length_map]; rfl⟩⟩⟩
        have hiw : ¬ i = wr := fun e => by subst e; exact i3 _ _ hst
        have e := hK i i1 i2 i3
        rw [upd_at, if_neg i2, upd_at, if_neg hiw, upd_at, if_neg (by omega)]
        exact e
    · have hd2 : decide (x.no = (es.length : Int) + 1) = false := decide_eq_false h2
      repeat' (first | (simp -implicitDefEqProofs only [ze, zd, simprocAttr, hc, hP, hv, hd2, hw8, hne, hne', hn1, hn2, nxj, nr_pur, List.length_map]) | (with_reducible refine W_itn_cases ?_ ?_; omega))
      refine qd_i ?_ ?_
      · simp [recsOk, ordB, Rec.free, Rec.wr, disj, List.range, List.range.loop, hne, hne', hn1, hn2]; try decide
      simp -implicitDefEqProofs only [ze, zd, simprocAttr, hc, hP, hv, hd2, hw8, hne, hne', hn1, hn2, nxj, nr_pur, List.length_map]
      have hap : appC es.length x = 17 := by unfold appC; rw [if_pos h1, if_neg h2]
      exact ⟨_, _, by rw [hap], by omega, keepU (by omega) _, kqU hid (by omega) _, .inr ⟨by rw [hap]; decide, lgU ⟨_, ⟨hid, v, hv, hg⟩, hw⟩ (by omega) (by omega) _⟩⟩
  · have hd : decide ((checkS x).2 = 0) = false := decide_eq_false h1
    simp only [encE] at hc ⊢
    repeat' (first | (simp -implicitDefEqProofs only [ze, zd, simprocAttr, hc, hd, hne, hne', nr_pur]) | (with_reducible refine wgd_cases ?_ ?_ <;> intro hb) | (with_reducible refine wcond_cases ?_ ?_ <;> intro hb) | (with_reducible refine qd_i (by kernel_rfl) ?_) | (with_reducible refine W_itn_cases ?_ ?_; omega))
    have hap : appC es.length x = (checkS x).2 := by unfold appC; rw [if_neg h1]
    exact ⟨_, _, by rw [hap], by omega, keepU (by omega) _, kqU hid (by omega) _, .inr ⟨by rw [hap]; exact h1, lgU ⟨w, ⟨hid, v, hv, hg⟩, hw⟩ (by omega) (by omega) _⟩⟩
end Go.Proofs.YtkbheoganajhaaaDoor.Vm
set_option maxRecDepth 10000
set_option linter.unusedVariables false
set_option linter.unusedSimpArgs false
namespace Go.Proofs.YtkbheoganajhaaaDoor.Vm
open Go Go.Proofs
theorem lent_ok {st : St} {nx id : Nat} {out : List Int} {s : Int} {es : List Entry} (h : LG st nx id out s es) (hl : es.length ≤ 1000000) (he : ∀ e ∈ es, nilE e ∧ e.lines.length < 1000000 ∧ ∀ l ∈ e.lines, l.tags.length < 1000000) : W (L.hp 19 [.ptr id 0] st nx) fun r => ∃ st' nx' t q, r = .ret (.list t (es.map fun e => encE (copE e)) q) st' nx' ∧ nx ≤ nx' ∧ (es = [] ∨ t = 31) ∧ ∀ i, i < nx → st' i = st i := by
  refine hp_w k19_eq ?_
  simp only [k19]
  obtain ⟨w, ⟨hid, v, hv, hg⟩, hw⟩ := h
  obtain ⟨we, wr, rfl, hwe⟩ : ∃ we wr, w = .list we (es.map encE) wr ∧ (es = [] ∨ we = 31) := by
    rcases hw with ⟨a, b⟩ | ⟨r, _, _, a, _⟩
    · have : es = [] := by simpa using a
      subst this
      exact ⟨0, 1, b, .inl rfl⟩
    · exact ⟨_, r, a, .inr rfl⟩
  have hdec : ((.ptr id 0 : V) = .ptr id 0) := rfl
  repeat' (first | (simp -implicitDefEqProofs only [ze, zd, simprocAttr, hv, List.length_map]) | (with_reducible refine wgd_cases ?_ ?_ <;> intro hb) | (with_reducible refine wcond_cases ?_ ?_ <;> intro hb) | (with_reducible refine qd_i (by kernel_rfl) ?_) | (with_reducible refine W_itn_cases ?_ ?_; omega))
  refine loop_w (fun n tm st1 nx1 => ∃ (i : Nat) (v : V), n = es.length - i ∧ i ≤ es.length ∧ nx ≤ nx1 ∧ tm 12 = .i64 i ∧ tm 11 = .i64 es.length ∧ tm 10 = .list we (es.map encE) wr ∧ tm 2 = v ∧ (∀ j, j < nx → st1 j = st j) ∧ Grow st1 nx1 31 ((es.take i).map fun e => encE (copE e)) v ∧ (∀ r e xs, v = .list e xs r → r = 1 ∨ nx ≤ r)) es.length ⟨0, .list 0 [] 1, by omega, by omega, by omega, ?_, ?_, ?_, ?_, fun j _ => rfl, .inl ⟨rfl, rfl⟩, fun r e xs h => by injection h; omega⟩ ?_
  · simp -implicitDefEqProofs only [ze, zd, simprocAttr]; try rfl
  · simp -implicitDefEqProofs only [ze, zd, simprocAttr]; try rfl
  · simp -implicitDefEqProofs only [ze, zd, simprocAttr]; try rfl
  · simp -implicitDefEqProofs only [ze, zd, simprocAttr]; try rfl
  rintro n tm st1 nx1 ⟨i, v1, hn, hi, hnx, h12, h11, h10, h2, hk, hg1, hr⟩
  simp only [k19_l0, k19_t0]
  by_cases hlt : i < es.length
  · obtain rfl : we = 31 := by
      rcases hwe with rfl | h
      · simp at hlt
      · exact h
    have hd : decide ((i : Int) < (es.length : Int)) = true := decide_eq_true (by omega)
    obtain ⟨x, hx1⟩ := get_lt (l := es) (i := i) hlt
    obtain ⟨e1, e2, e3⟩ := he x (List.mem_of_getElem? hx1)
    have hcp := copied_ok x e1 e2 e3
    have hup : IntKind.i64.wrap ((i : Int) + 1) = ((i + 1 : Nat) : Int) := wrap_i64 (by omega) (by omega)
    have hel : encE x = .agg [.i64 x.no, .str x.ent, .i64 x.book, .i64 x.val, .i64 x.kind, .str x.ref, .str x.who, .i64 x.rev, .list (te x.lr 61) (x.lines.map encL) (nr x.lr)] := rfl
    rw [hel] at hcp
    have hmap : (es.take (i + 1)).map (fun e => encE (copE e)) = (es.take i).map (fun e => encE (copE e)) ++ [encE (copE x)] := by rw [take_get hx1, List.map_append]; rfl
    have htk : (List.take i es).length = i := by rw [List.length_take]; omega
    have hel2 : encE (copE x) = .agg [.i64 (copE x).no, .str (copE x).ent, .i64 (copE x).book, .i64 (copE x).val, .i64 (copE x).kind, .str (copE x).ref, .str (copE x).who, .i64 (copE x).rev, .list (te (copE x).lr 61) ((copE x).lines.map encL) (nr (copE x).lr)] := rfl
    rcases hg1 with ⟨hb0, rfl⟩ | ⟨q, hr8, hrn, rfl, hst⟩
    · repeat' (first | (simp -implicitDefEqProofs only [ze, zd, simprocAttr, h12, h11, h10, h2, hd, enc_get, hx1, hel, hcp, hel2, nxj, nr_pur, List.length_map, hup]) | (with_reducible refine wgd_cases ?_ ?_ <;> intro hb) | (with_reducible refine wcond_cases ?_ ?_ <;> intro hb) | (with_reducible refine qd_i (by kernel_rfl) ?_) | (with_reducible refine W_itn_cases ?_ ?_; omega))
      exact ⟨es.length - (i + 1), by omega, i + 1, _, rfl, by omega, by omega, rfl, rfl, fun j hj => by rw [if_neg (by omega), if_neg (by omega), if_neg (by omega), if_neg (by omega)]; exact hk j hj, .inr ⟨nx1 + 72, by omega, by omega, by rw [hmap, hb0]; rfl, by rw [hmap, hb0, upd_at, if_pos rfl]; rfl⟩, fun r e xs h => by injection h; omega⟩
    · have hr0 : (q = 0) = False := eq_false (by omega)
      have hr1 : (q = 1) = False := eq_false (by omega)
      have hrx : ∀ j, (q = nx1 + j) = False := fun j => eq_false (by omega)
      have hrx' : ∀ j, (nx1 + j = q) = False := fun j => eq_false (by omega)
      repeat' (first | (simp -implicitDefEqProofs only [ze, zd, simprocAttr, h12, h11, h10, h2, hd, enc_get, hx1, hel, hcp, hel2, nxj, nr_pur, List.length_map, htk, hup, hr0, hr1, hrx, hrx', hst]) | (with_reducible refine wgd_cases ?_ ?_ <;> intro hb) | (with_reducible refine wcond_cases ?_ ?_ <;> intro hb) | (with_reducible refine qd_i (by kernel_rfl) ?_) | (with_reducible refine W_itn_cases ?_ ?_; omega))
      have hqn : nx ≤ q := by rcases hr q _ _ rfl with h | h <;> omega
      exact ⟨es.length - (i + 1), by omega, i + 1, _, rfl, by omega, by omega, rfl, rfl, fun j hj => by rw [if_neg (by omega), if_neg (by omega), if_neg (by omega), if_neg (by omega)]; exact hk j hj, .inr ⟨q, by omega, by omega, by rw [hmap]; rfl, by rw [hmap, upd_at, if_pos rfl, List.length_append, List.length_map, htk]; rfl⟩, fun r e xs h => by injection h; omega⟩
  · have hd : decide ((i : Int) < (es.length : Int)) = false := decide_eq_false (by omega)
    have hin : i = es.length := by omega
    rw [hin, List.take_length] at hg1
    rcases hg1 with ⟨hb0, rfl⟩ | ⟨q, hr8, hrn, rfl, hst⟩
    · have hnil : es = [] := by simpa using hb0
      repeat' (first | (simp -implicitDefEqProofs only [ze, zd, simprocAttr, h12, h11, h10, h2, hd]) | (with_reducible refine wgd_cases ?_ ?_ <;> intro hb) | (with_reducible refine wcond_cases ?_ ?_ <;> intro hb) | (with_reducible refine qd_i (by kernel_rfl) ?_) | (with_reducible refine W_itn_cases ?_ ?_; omega))
      exact ⟨_, _, 0, 1, by rw [hnil]; rfl, by omega, .inl hnil, hk⟩
    · repeat' (first | (simp -implicitDefEqProofs only [ze, zd, simprocAttr, h12, h11, h10, h2, hd]) | (with_reducible refine wgd_cases ?_ ?_ <;> intro hb) | (with_reducible refine wcond_cases ?_ ?_ <;> intro hb) | (with_reducible refine qd_i (by kernel_rfl) ?_) | (with_reducible refine W_itn_cases ?_ ?_; omega))
      exact ⟨_, _, _, q, rfl, by omega, .inr rfl, hk⟩
end Go.Proofs.YtkbheoganajhaaaDoor.Vm
set_option maxRecDepth 10000
set_option linter.unusedVariables false
set_option linter.unusedSimpArgs false
namespace Go.Proofs.YtkbheoganajhaaaDoor.Vm
open Go Go.Proofs
theorem lgN {st : St} {nx nx' id j : Nat} {out : List Int} {s : Int} {es : List Entry} (h : LG st nx id out s es) (hj : j ∉ toksAt st id) (hi : j ≠ id) (hn : nx ≤ nx') (o : Option Ob) : LG (upd st j o) nx' id out s es := by
  obtain ⟨w, ⟨h1, v, h2, h3⟩, h4⟩ := h
  simp only [toksAt, h2, List.mem_cons, List.not_mem_nil, or_false, not_or] at hj
  refine ⟨w, ⟨by omega, v, by rw [upd_at, if_neg (fun e => hi e.symm)]; exact h2, ?_⟩, ?_⟩
  · rcases h3 with h | ⟨r, a, b, c, d⟩
    · exact .inl h
    · exact .inr ⟨r, a, by omega, c, by rw [upd_at, if_neg (fun e => hj.1 (by rw [c]; exact e.symm))]; exact d⟩
  · rcases h4 with h | ⟨r, a, b, c, d⟩
    · exact .inl h
    · exact .inr ⟨r, a, by omega, c, by rw [upd_at, if_neg (fun e => hj.2 (by rw [c]; exact e.symm))]; exact d⟩
theorem toks_upd {st : St} {id j : Nat} (o : Option Ob) (h : id ≠ j) : toksAt (upd st j o) id = toksAt st id := by unfold toksAt; rw [upd_at, if_neg h]
theorem cop_nil (e : Entry) : nilE (copE e) := by
  refine ⟨fun h => ?_, fun l hl => ?_⟩
  · have : e.lines = [] := by
      have h : e.lines.isEmpty = true := h
      simpa using h
    show e.lines.map copL = []
    rw [this]; rfl
  · obtain ⟨l0, _, rfl⟩ := List.mem_map.1 hl
    intro h; cases h
theorem lgTok {st : St} {nx id : Nat} {out : List Int} {s : Int} {es : List Entry} (h : LG st nx id out s es) {k : Nat} (hk : k ∈ toksAt st id) : k < nx ∨ k = 1 := by
  obtain ⟨w, ⟨h1, v, h2, h3⟩, h4⟩ := h
  simp only [toksAt, h2, List.mem_cons, List.not_mem_nil, or_false] at hk
  rcases hk with hk | hk
  · rcases h3 with ⟨_, a⟩ | ⟨r, _, b, c, _⟩
    · rw [a] at hk; exact .inr hk
    · rw [c] at hk; exact .inl (by rw [hk]; exact b)
  · rcases h4 with ⟨_, a⟩ | ⟨r, _, b, c, _⟩
    · rw [a] at hk; exact .inr hk
    · rw [c] at hk; exact .inl (by rw [hk]; exact b)
end Go.Proofs.YtkbheoganajhaaaDoor.Vm
set_option maxRecDepth 10000
set_option linter.unusedVariables false
set_option linter.unusedSimpArgs false
namespace Go.Proofs.YtkbheoganajhaaaDoor.Vm
open Go Go.Proofs
theorem or_u32 (x y : Nat) (hx : x < 4294967296) (hy : y < 4294967296) : Go.bits .or .u32 (x : Int) (y : Int) = ((x ||| y : Nat) : Int) := by
  show IntKind.u32.wrap ((BitVec.ofInt 32 (x : Int) ||| BitVec.ofInt 32 (y : Int)).toNat : Int) = _
  have h1 : (BitVec.ofInt 32 (x : Int)).toNat = x := by rw [BitVec.toNat_ofInt]; omega
  have h2 : (BitVec.ofInt 32 (y : Int)).toNat = y := by rw [BitVec.toNat_ofInt]; omega
  have h3 : x ||| y < 2 ^ 32 := Nat.or_lt_two_pow hx hy
  rw [BitVec.toNat_or, h1, h2, IntKind.wrap_u32]
  omega
theorem or_add (a b k : Nat) (h : b < 2 ^ k) : a * 2 ^ k ||| b = a * 2 ^ k + b := by
  rw [← Nat.shiftLeft_eq, Nat.shiftLeft_add_eq_or_of_lt h]
theorem or_24 (a b : Nat) (h : b < 16777216) : a * 16777216 ||| b = a * 16777216 + b := or_add a b 24 h
theorem or_16 (a b : Nat) (h : b < 65536) : a * 65536 ||| b = a * 65536 + b := or_add a b 16 h
theorem or_8 (a b : Nat) (h : b < 256) : a * 256 ||| b = a * 256 + b := or_add a b 8 h
def readI (a b c d : Int) : Int := a * 16777216 + b * 65536 + c * 256 + d
theorem or_read (a b c d : Int) (ha : 0 ≤ a ∧ a < 256) (hb : 0 ≤ b ∧ b < 256) (hc : 0 ≤ c ∧ c < 256) (hd : 0 ≤ d ∧ d < 256) :
    Go.bits .or .u32 (Go.bits .or .u32 (Go.bits .or .u32 (a * 16777216) (b * 65536)) (c * 256)) d = readI a b c d := by
  obtain ⟨a, rfl⟩ := Int.eq_ofNat_of_zero_le ha.1
  obtain ⟨b, rfl⟩ := Int.eq_ofNat_of_zero_le hb.1
  obtain ⟨c, rfl⟩ := Int.eq_ofNat_of_zero_le hc.1
  obtain ⟨d, rfl⟩ := Int.eq_ofNat_of_zero_le hd.1
  have ha' : a < 256 := by omega
  have hb' : b < 256 := by omega
  have hc' : c < 256 := by omega
  have hd' : d < 256 := by omega
  clear ha hb hc hd
  have s1 : Go.bits .or .u32 ((a : Int) * 16777216) ((b : Int) * 65536) = (((a * 256 + b) * 65536 : Nat) : Int) := by
    have := or_u32 (a * 16777216) (b * 65536) (by omega) (by omega)
    rw [or_24 a (b * 65536) (by omega)] at this
    rw [show ((a : Int) * 16777216) = ((a * 16777216 : Nat) : Int) by omega, show ((b : Int) * 65536) = ((b * 65536 : Nat) : Int) by omega, this]
    omega
  have s2 : Go.bits .or .u32 (((a * 256 + b) * 65536 : Nat) : Int) ((c : Int) * 256) = (((a * 65536 + b * 256 + c) * 256 : Nat) : Int) := by
    have := or_u32 ((a * 256 + b) * 65536) (c * 256) (by omega) (by omega)
    rw [or_16 (a * 256 + b) (c * 256) (by omega)] at this
    rw [show ((c : Int) * 256) = ((c * 256 : Nat) : Int) by omega, this]
    omega
  have s3 : Go.bits .or .u32 (((a * 65536 + b * 256 + c) * 256 : Nat) : Int) (d : Int) = readI a b c d := by
    have := or_u32 ((a * 65536 + b * 256 + c) * 256) d (by omega) (by omega)
    rw [or_8 (a * 65536 + b * 256 + c) d hd'] at this
    rw [this]
    unfold readI; omega
  rw [s1, s2, s3]
def rdB : List Int → Int
  | a :: b :: c :: d :: _ => readI a b c d
  | _ => 0
theorem readI_r {a b c d : Int} (ha : 0 ≤ a ∧ a < 256) (hb : 0 ≤ b ∧ b < 256) (hc : 0 ≤ c ∧ c < 256) (hd : 0 ≤ d ∧ d < 256) : 0 ≤ readI a b c d ∧ readI a b c d < 4294967296 := by unfold readI; omega
theorem read_ok (l : List Int) (hb : bOK l) (h4 : 4 ≤ l.length) (r : Nat) : L.pl 81 [.list 5 (bv l) r] = some (.ret (.sc (.int .u32 (rdB l)))) := by
  obtain ⟨a, b, c, d, m, rfl⟩ : ∃ a b c d m, l = a :: b :: c :: d :: m := by
    match l, h4 with
    | a :: b :: c :: d :: m, _ => exact ⟨a, b, c, d, m, rfl⟩
  have ha := hb a (by simp)
  have hb' := hb b (by simp)
  have hc := hb c (by simp)
  have hd := hb d (by simp)
  refine W_of (pl_w k81_eq ?_)
  simp only [k81]
  have hbv : bv (a :: b :: c :: d :: m) = .sc (.int .u8 a) :: .sc (.int .u8 b) :: .sc (.int .u8 c) :: .sc (.int .u8 d) :: bv m := rfl
  have hor := or_read a b c d ha hb' hc hd
  have w1 : IntKind.u32.wrap a = a := by rw [IntKind.wrap_u32]; omega
  have w2 : IntKind.u32.wrap b = b := by rw [IntKind.wrap_u32]; omega
  have w3 : IntKind.u32.wrap c = c := by rw [IntKind.wrap_u32]; omega
  have w4 : IntKind.u32.wrap d = d := by rw [IntKind.wrap_u32]; omega
  have v1 : IntKind.u32.wrap (a * 16777216) = a * 16777216 := by rw [IntKind.wrap_u32]; omega
  have v2 : IntKind.u32.wrap (b * 65536) = b * 65536 := by rw [IntKind.wrap_u32]; omega
  have v3 : IntKind.u32.wrap (c * 256) = c * 256 := by rw [IntKind.wrap_u32]; omega
  rw [hbv]
  repeat' (first | (simp -implicitDefEqProofs only [ze, zd, simprocAttr, w1, w2, w3, w4, p24, p16, p8, n32_24, n32_16, n32_8, v1, v2, v3, hor]) | (with_reducible refine wgd_cases ?_ ?_ <;> intro hb) | (with_reducible refine wcond_cases ?_ ?_ <;> intro hb) | (with_reducible refine qd_i (by kernel_rfl) ?_) | (with_reducible refine W_itn_cases ?_ ?_; omega))
  rfl
theorem rdB_r (l : List Int) (hb : bOK l) (h4 : 4 ≤ l.length) : 0 ≤ rdB l ∧ rdB l < 4294967296 := by
  match l, h4 with
  | a :: b :: c :: d :: m, _ => exact readI_r (hb a (by simp)) (hb b (by simp)) (hb c (by simp)) (hb d (by simp))
def frameS (bs : List Int) : List Int × List Int × Int :=
  if bs.length < 8 then ([], [], 6)
  else if rdB (bs.drop 4) = inv (rdB bs) then
    (if (bs.length : Int) - 8 < rdB bs + 8 then ([], [], 6) else ((bs.drop 8).take (rdB bs).toNat, ((bs.drop 8).drop (rdB bs).toNat).take 8, 0))
  else ([], [], 5)
theorem bOK_drop {l : List Int} (h : bOK l) (n : Nat) : bOK (l.drop n) := fun b hb => h b (List.mem_of_mem_drop hb)
theorem bOK_take {l : List Int} (h : bOK l) (n : Nat) : bOK (l.take n) := fun b hb => h b (List.mem_of_mem_take hb)
theorem frame_short (bs : List Int) (h : bs.length < 8) (r : Nat) : L.pl 60 [.list 5 (bv bs) r] = some (.ret (.tup [.list 0 [] 1, .list 0 [] 1, .i64 6])) := by
  refine W_of (pl_w k60_eq ?_)
  simp only [k60]
  have hd : decide ((bs.length : Int) < 8) = true := decide_eq_true (by omega)
  repeat' (first | (simp -implicitDefEqProofs only [ze, zd, simprocAttr, bv_len, hd]) | (with_reducible refine wgd_cases ?_ ?_ <;> intro hb) | (with_reducible refine wcond_cases ?_ ?_ <;> intro hb) | (with_reducible refine qd_i (by kernel_rfl) ?_) | (with_reducible refine W_itn_cases ?_ ?_; omega))
theorem frame_long (bs : List Int) (hb : bOK bs) (h : ¬ bs.length < 8) (hl : bs.length < 1000000000) (r : Nat) : W (L.pl 60 [.list 5 (bv bs) r]) fun q => ∃ t1 t2 r1 r2, q = .ret (.tup [.list t1 (bv (frameS bs).1) r1, .list t2 (bv (frameS bs).2.1) r2, .i64 (frameS bs).2.2]) ∧ ((frameS bs).2.2 = 0 → t1 = 5 ∧ t2 = 5) ∧ r1 < 8 ∧ r2 < 8 := by
  refine pl_w k60_eq ?_
  simp only [k60]
  have hd : decide ((bs.length : Int) < 8) = false := decide_eq_false (by omega)
  have hr := read_ok bs hb (by omega) (if r = 1 then 1 else 0)
  have hb4 := bOK_drop hb 4
  have hr4 := read_ok (bs.drop 4) hb4 (by rw [List.length_drop]; omega) 0
  have hr4' := read_ok (bs.drop 4) hb4 (by rw [List.length_drop]; omega) (if r = 1 then 1 else 0)
  have hn := rdB_r bs hb (by omega)
  have hx := xinv _ hn
  by_cases h1 : rdB (bs.drop 4) = inv (rdB bs)
  · have d1 : decide (rdB (bs.drop 4) = inv (rdB bs)) = true := decide_eq_true h1
    have u1 : IntKind.u64.wrap ((bs.length - 8 : Nat) : Int) = ((bs.length - 8 : Nat) : Int) := by rw [IntKind.wrap_u64]; omega
    have u2 : IntKind.u64.wrap (rdB bs) = rdB bs := by rw [IntKind.wrap_u64]; omega
    have u3 : IntKind.u64.wrap (rdB bs + 8) = rdB bs + 8 := by rw [IntKind.wrap_u64]; omega
    by_cases h2 : (bs.length : Int) - 8 < rdB bs + 8
    · have d2 : decide (((bs.length - 8 : Nat) : Int) < rdB bs + 8) = true := decide_eq_true (by omega)
      repeat' (first | (simp -implicitDefEqProofs only [ze, zd, simprocAttr, bv_len, hd, hr, hr4, hr4', un_xor32, hx, d1, d2, u1, u2, u3, bv_dp, bv_tk, List.take_length, List.length_drop]) | (with_reducible refine wgd_cases ?_ ?_ <;> intro hb) | (with_reducible refine wcond_cases ?_ ?_ <;> intro hb) | (with_reducible refine qd_i (by kernel_rfl) ?_) | (with_reducible refine W_itn_cases ?_ ?_; omega))
      have hf : frameS bs = ([], [], 6) := by unfold frameS; rw [if_neg h, if_pos h1, if_pos h2]
      exact ⟨0, 0, 1, 1, by rw [hf]; rfl, (fun h => by rw [hf] at h; cases h), by decide, by decide⟩
    · have d2 : decide (((bs.length - 8 : Nat) : Int) < rdB bs + 8) = false := decide_eq_false (by omega)
      have v1 : IntKind.u32.wrap (rdB bs + 8) = rdB bs + 8 := by rw [IntKind.wrap_u32]; omega
      have hu : Tryd.prog.underlying 38 = some (.slice 5) := by kernel_rfl
      have hz : (usz Tryd.prog 5).isSome = true := by kernel_rfl
      repeat' (first | (simp -implicitDefEqProofs only [ze, zd, simprocAttr, xop0, ev, xslice, pint, hu, hz, imp_self, and_true, bv_len, hd, hr, hr4, hr4', un_xor32, hx, d1, d2, u1, u2, u3, v1, bv_dp, bv_tk, List.take_length, List.length_drop]) | (with_reducible refine wgd_cases ?_ ?_ <;> intro hb) | (with_reducible refine wcond_cases ?_ ?_ <;> intro hb) | (with_reducible refine qd_i (by kernel_rfl) ?_) | (with_reducible refine W_itn_cases ?_ ?_; omega))
      have hf : frameS bs = ((bs.drop 8).take (rdB bs).toNat, ((bs.drop 8).drop (rdB bs).toNat).take 8, 0) := by unfold frameS; rw [if_neg h, if_pos h1, if_neg h2]
      have hdt : List.drop (rdB bs).toNat (List.take (rdB bs + 8).toNat (List.drop 8 bs)) = ((bs.drop 8).drop (rdB bs).toNat).take 8 := by
        rw [List.drop_take, show (rdB bs + 8).toNat - (rdB bs).toNat = 8 by omega]
      exact ⟨_, _, 0, 0, by rw [hf, hdt], (fun _ => ⟨rfl, rfl⟩), by decide, by decide⟩
  · have d1 : decide (rdB (bs.drop 4) = inv (rdB bs)) = false := decide_eq_false h1
    have hf : frameS bs = ([], [], 5) := by unfold frameS; rw [if_neg h, if_neg h1]
    repeat' (first | (simp -implicitDefEqProofs only [ze, zd, simprocAttr, bv_len, hd, hr, hr4, hr4', un_xor32, hx, d1, bv_dp, bv_tk, List.take_length, List.length_drop]) | (with_reducible refine wgd_cases ?_ ?_ <;> intro hb) | (with_reducible refine wcond_cases ?_ ?_ <;> intro hb) | (with_reducible refine qd_i (by kernel_rfl) ?_) | (with_reducible refine W_itn_cases ?_ ?_; omega))
    exact ⟨0, 0, 1, 1, by rw [hf]; rfl, (fun h => by rw [hf] at h; cases h), by decide, by decide⟩
end Go.Proofs.YtkbheoganajhaaaDoor.Vm
set_option maxRecDepth 10000
set_option linter.unusedVariables false
set_option linter.unusedSimpArgs false
namespace Go.Proofs.YtkbheoganajhaaaDoor.Vm
open Go Go.Proofs
def stepS (s : Int) (n : Nat) (bs : List Int) : Int × Int :=
  if (frameS bs).2.2 = 0 then
    if sumB (nextI s (frameS bs).1) = (frameS bs).2.1 then
      if (takeS (frameS bs).1).2.2 = 0 ∧ (takeS (frameS bs).1).2.1 = ((frameS bs).1.length : Int) then
        if (takeS (frameS bs).1).1.no = (n : Int) + 1 then (((frameS bs).1.length : Int) + 16, 0) else (0, 17)
      else (0, 5)
    else (0, 23)
  else (0, (frameS bs).2.2)
theorem frameS_b (bs : List Int) (hb : bOK bs) : bOK (frameS bs).1 ∧ bOK (frameS bs).2.1 := by
  have h0 : bOK [] := fun b hb => by cases hb
  unfold frameS
  split
  · exact ⟨h0, h0⟩
  · split
    · split
      · exact ⟨h0, h0⟩
      · exact ⟨bOK_take (bOK_drop hb 8) _, bOK_take (bOK_drop (bOK_drop hb 8) _) _⟩
    · exact ⟨h0, h0⟩
theorem sumB_inR (s : Int) (h : u64r s) : inR (sumB s) := by
  intro b hb
  unfold u64r at h
  simp only [sumB, List.mem_cons, List.not_mem_nil, or_false] at hb
  omega
theorem step1_ok {st : St} {nx id : Nat} {out : List Int} {s : Int} {es : List Entry} (h : LG st nx id out s es) (bs : List Int) (hb : bOK bs) (hs : u64r s) (hl : out.length ≤ 100000000000) (hlb : bs.length < 1000000000) (he : es.length ≤ 100000000) (r : Nat) :
    W (L.hp 35 [.ptr id 0, .list 5 (bv bs) r] st nx) fun q => ∃ st' nx', q = .ret (.tup [.i64 (stepS s es.length bs).1, .i64 (stepS s es.length bs).2]) st' nx' ∧ nx ≤ nx' ∧ KeepO st st' nx id ∧ KQ st st' nx id ∧
      (((stepS s es.length bs).2 = 0 ∧ LG st' nx' id (out ++ frameB (frameS bs).1 (nextI s (frameS bs).1)) (nextI s (frameS bs).1) (es ++ [(takeS (frameS bs).1).1])) ∨ (¬ (stepS s es.length bs).2 = 0 ∧ LG st' nx' id out s es)) := by
  refine hp_w k35_eq ?_
  simp only [k35]
  by_cases h8 : bs.length < 8
  · have hf := frame_short bs h8 (if r = 1 then 1 else 0)
    have hfs : frameS bs = ([], [], 6) := by unfold frameS; rw [if_pos h8]
    have hst : stepS s es.length bs = (0, 6) := by unfold stepS; rw [hfs]; rfl
    have hz : decide ((6 : Int) = 0) = false := rfl
    repeat' (first | (simp -implicitDefEqProofs only [ze, zd, simprocAttr, hf, hz]) | (with_reducible refine wgd_cases ?_ ?_ <;> intro hb) | (with_reducible refine wcond_cases ?_ ?_ <;> intro hb) | (with_reducible refine qd_i (by kernel_rfl) ?_) | (with_reducible refine W_itn_cases ?_ ?_; omega))
    exact ⟨_, _, by rw [hst], by omega, keepRefl _ _ _, ⟨fun _ _ _ _ => rfl, fun _ q => .inl q⟩, .inr ⟨by rw [hst]; decide, lgLe h (by omega)⟩⟩
  · obtain ⟨_, hq, t1, t2, r1, r2, rfl, ht, hr1, hr2⟩ := frame_long bs hb h8 hlb (if r = 1 then 1 else 0)
    obtain ⟨p, sm, e, hfs⟩ : ∃ p sm e, frameS bs = (p, sm, e) := ⟨_, _, _, rfl⟩
    simp only [hfs] at hq ht ⊢
    have k1 : (8 ≤ r1) = False := eq_false (by omega)
    have k2 : (8 ≤ r2) = False := eq_false (by omega)
    by_cases he0 : e = 0
    · obtain ⟨rfl, rfl⟩ := ht he0
      subst he0
      obtain ⟨w, ⟨hid, v, hv, hg⟩, hw⟩ := h
      have hp1 : p = [] ∨ p = (bs.drop 8).take (rdB bs).toNat := by
        unfold frameS at hfs
        split at hfs
        · left; injection hfs with a _; exact a.symm
        · split at hfs
          · split at hfs
            · left; injection hfs with a _; exact a.symm
            · right; injection hfs with a _; exact a.symm
          · left; injection hfs with a _; exact a.symm
      have hpb : bOK p := by
        rcases hp1 with h | h
        · rw [h]; intro b hb; cases hb
        · rw [h]; exact bOK_take (bOK_drop hb 8) _
      have hpl : p.length < 1000000000 := by
        rcases hp1 with h | h
        · rw [h]; decide
        · rw [h, List.length_take, List.length_drop]; omega
      have hN := cnext_ok p hpb (by omega) (if r1 = 1 then 1 else 0) s
      have hr' := nextI_r s p hs
      have hB := cbytes_ok (nextI s p) hr'.1 hr'.2
      have hz : decide ((0 : Int) = 0) = true := rfl
      have hne : ∀ j, (id = nx + j) = False := fun j => eq_false (by omega)
      have hne' : ∀ j, (nx + j = id) = False := fun j => eq_false (by omega)
      repeat' (first | (simp -implicitDefEqProofs only [ze, zd, simprocAttr, hq, hz, hv, hN, hB, bytesOfV_bv, hne, hne', nxj, bv_len, k1, k2]) | (with_reducible refine W_itn_cases ?_ ?_; omega))
      refine qd_i (by kernel_rfl) ?_
      obtain ⟨x, used, e2, hT⟩ : ∃ x used e2, takeS p = (x, used, e2) := ⟨_, _, _, rfl⟩
      have hT' := take_ok p hpb (by omega) (if r1 = 1 then 1 else 0)
      simp only [hT, encE] at hT'
      have hsmb : bOK sm := by
        have := (frameS_b bs hb).2
        rw [hfs] at this; exact this
      by_cases hsm : sumB (nextI s p) = sm
      · subst hsm
        have hds : decide (({ data := (List.map (fun n => UInt8.ofNat n.toNat) (sumB (nextI s p))).toArray } : ByteArray) = { data := (List.map (fun n => UInt8.ofNat n.toNat) (sumB (nextI s p))).toArray }) = true := decide_eq_true rfl
        by_cases h5 : e2 = 0 ∧ used = (p.length : Int)
        · obtain ⟨rfl, rfl⟩ := h5
          have hdu : decide ((p.length : Int) = (p.length : Int)) = true := decide_eq_true rfl
          have hw8 : IntKind.i64.wrap ((es.length : Int) + 1) = (es.length : Int) + 1 := wrap_i64 (by omega) (by omega)
          have hwl : w = .list 0 [] 1 ∧ es = [] ∨ ∃ r, w = .list 31 (es.map encE) r := by
            rcases hw with ⟨a, b⟩ | ⟨r, _, _, a, _⟩
            · exact .inl ⟨b, by simpa using a⟩
            · exact .inr ⟨r, a⟩
          obtain ⟨we, wr, rfl⟩ : ∃ we wr, w = .list we (es.map encE) wr := by
            rcases hwl with ⟨rfl, rfl⟩ | ⟨r, rfl⟩
            · exact ⟨0, 1, rfl⟩
            · exact ⟨_, r, rfl⟩
          have hn1 : (id = nx) = False := eq_false (by omega)
          have hn2 : (nx = id) = False := eq_false (by omega)
          by_cases h2 : x.no = (es.length : Int) + 1
          · have hd2 : decide (x.no = (es.length : Int) + 1) = true := decide_eq_true h2
            repeat' (first | (simp -implicitDefEqProofs only [ze, zd, simprocAttr, hT', hq, hz, hv, hN, hB, hds, hdu, hd2, hw8, bytesOfV_bv, hne, hne', nxj, bv_len, k1, k2, nr_pur, hn1, hn2, List.length_map]) | (with_reducible refine W_itn_cases ?_ ?_; omega))
            refine qd_i ?_ ?_
            · simp [recsOk, ordB, Rec.free, Rec.wr, disj, List.range, List.range.loop, hne, hne', hn1, hn2]; try decide
            repeat' (first | (simp -implicitDefEqProofs only [ze, zd, simprocAttr, hT', hq, hz, hv, hN, hB, hds, hdu, hd2, hw8, bytesOfV_bv, hne, hne', nxj, bv_len, k1, k2, nr_pur, hn1, hn2, List.length_map]) | (with_reducible refine W_itn_cases ?_ ?_; omega))
            refine W_hp (write_ok (s := s) (w := .list we (es.map encE) wr) (out := out) ⟨by omega, v, by simp [upd_at, hne, hn1, hv], growU (growU hg (by omega) (Nat.le_refl _) _) (by omega) (by omega) _⟩ p hpb hs hl (by omega) _) ?_
            rintro _ ⟨st1, nx1, rfl, hnx1, ⟨_, v1, hv1, hg1⟩, hKO, hKR, hKQ⟩
            have hbx : st1 (nx + 248) = some (.cells [V.i64 x.no, V.str x.ent, V.i64 x.book, V.i64 x.val, V.i64 x.kind, V.str x.ref, V.str x.who, V.i64 x.rev, V.list (te x.lr 61) (List.map encL x.lines) (nr x.lr)]) := (hKO (nx + 248) (by omega) (by omega) (by intro n e h; simp [upd_at] at h)).trans (by simp [upd_at])
            have hK : KeepO st st1 nx id := keepTrans (nx' := nx) (keepTrans (nx' := nx) (keepU (by omega) _) (keepU (by omega) _) (Nat.le_refl _)) (fun i i1 i2 i3 => hKO i (by omega) i2 i3) (Nat.le_refl _)
            have hQ : KQ st st1 nx id := kqTrans (nx' := nx) (kqTrans (nx' := nx) (kqU hid (by omega) _) (kqU hid (by omega) _) (Nat.le_refl _)) (kqTrans (nx' := nx + 456) ⟨fun _ _ _ _ => rfl, fun _ q => .inl q⟩ hKQ (by omega)) (Nat.le_refl _)
            have q1 : ∀ j, (id = nx1 + j) = False := fun j => eq_false (by omega)
            have q2 : ∀ j, (nx1 + j = id) = False := fun j => eq_false (by omega)
            have q3 : ∀ j, (nx + 248 = nx1 + j) = False := fun j => eq_false (by omega)
            have q4 : ∀ j, (nx1 + j = nx + 248) = False := fun j => eq_false (by omega)
            have q5 : (id = nx + 248) = False := eq_false (by omega)
            have q6 : (nx + 248 = id) = False := eq_false (by omega)
            have hw9 : IntKind.i64.wrap (8 + (p.length : Int)) = 8 + (p.length : Int) := wrap_i64 (by omega) (by omega)
            have hw10 : IntKind.i64.wrap (8 + (p.length : Int) + 8) = (p.length : Int) + 16 := by rw [wrap_i64 (by omega) (by omega)]; omega
            have hst : stepS s es.length bs = ((p.length : Int) + 16, 0) := by unfold stepS; rw [hfs, hT]; exact (if_pos rfl).trans ((if_pos rfl).trans ((if_pos ⟨rfl, rfl⟩).trans (if_pos h2)))
            have hTx : (takeS p).1 = x := by rw [hT]
            rcases hw with ⟨hb0, hwn⟩ | ⟨q, hr8, hrn, hwq, hstq⟩
            · obtain ⟨rfl, e0, rfl⟩ : we = 0 ∧ es.map encE = [] ∧ wr = 1 := by injection hwn with a b c; exact ⟨a, b, c⟩
              rw [e0] at hv1
              repeat' (first | (simp -implicitDefEqProofs only [ze, zd, simprocAttr, hv1, hbx, hne, hne', hn1, hn2, nxj, nr_pur, List.length_map, q1, q2, q3, q4, q5, q6, bv_len, hw9, hw10]) | (with_reducible refine W_itn_cases ?_ ?_; omega))
              refine qd_i ?_ ?_
              · simp [recsOk, ordB, Rec.free, Rec.wr, disj, List.range, List.range.loop, hn1, hn2, q1, q2, q3, q4, q5, q6]; try decide
              repeat' (first | (simp -implicitDefEqProofs only [ze, zd, simprocAttr, hv1, hbx, hne, hne', hn1, hn2, nxj, nr_pur, List.length_map, q1, q2, q3, q4, q5, q6, bv_len, hw9, hw10]) | (with_reducible refine wgd_cases ?_ ?_ <;> intro hb) | (with_reducible refine wcond_cases ?_ ?_ <;> intro hb) | (with_reducible refine qd_i (by kernel_rfl) ?_) | (with_reducible refine W_itn_cases ?_ ?_; omega))
              refine ⟨_, _, by rw [hst], by omega, fun i i1 i2 i3 => by rw [upd_at, if_neg i2, upd_at, if_neg (by omega), upd_at, if_neg (by omega)]; exact hK i i1 i2 i3, kqTrans (nx' := nx1) hQ ⟨fun k i1 i2 i3 => by rw [upd_at, if_neg i2, upd_at, if_neg (by omega), upd_at, if_neg (by omega)], fun k hk => by
                simp only [toksAt, upd_at, if_true, tokOf, List.mem_cons, List.not_mem_nil, or_false] at hk
                simp only [toksAt, hv1, tokOf, List.mem_cons, List.not_mem_nil, or_false]
                omega⟩ (by omega), .inl ⟨by rw [hst], _, ⟨by omega, _, by rw [upd_at, if_pos rfl], growN (growU (growU hg1 (by omega) (Nat.le_refl _) _) (by omega) (by omega) _) (by intro n; rw [upd_at, if_neg (by omega), upd_at, if_neg (by omega), hv1]; intro h; cases h) _⟩, .inr ⟨nx1 + 56, by omega, by omega, by rw [List.map_append, e0, hTx]; rfl, by rw [upd_at, if_neg (by omega), upd_at, if_pos rfl, List.map_append, e0]; rfl⟩⟩⟩
            · obtain ⟨rfl, rfl⟩ : we = 31 ∧ wr = q := by injection hwq with a b c; exact ⟨a, c⟩
              have qq1 : st1 wr = some (.tok (es.map encE).length 31) := hKR wr _ _ (by omega) (by decide) (by rw [upd_at, if_neg (by omega), upd_at, if_neg (by omega)]; exact hstq)
              have hr0 : (wr = 0) = False := eq_false (by omega)
              have hr1 : (wr = 1) = False := eq_false (by omega)
              have hrx : ∀ j, (wr = nx1 + j) = False := fun j => eq_false (by omega)
              have hrx' : ∀ j, (nx1 + j = wr) = False := fun j => eq_false (by omega)
              have hri : (wr = id) = False := eq_false fun e => by subst e; rw [hv] at hstq; cases hstq
              have hir : (id = wr) = False := eq_false fun e => by subst e; rw [hv] at hstq; cases hstq
              have hrn1 : (wr = nx + 248) = False := eq_false (by omega)
              have hrn2 : (nx + 248 = wr) = False := eq_false (by omega)
              repeat' (first | (simp -implicitDefEqProofs only [ze, zd, simprocAttr, hv1, hbx, hne, hne', hn1, hn2, nxj, nr_pur, List.length_map, q1, q2, q3, q4, q5, q6, hr0, hr1, hrx, hrx', hri, hir, hrn1, hrn2, qq1, bv_len, hw9, hw10]) | (with_reducible refine W_itn_cases ?_ ?_; omega))
              refine qd_i ?_ ?_
              · simp [recsOk, ordB, Rec.free, Rec.wr, disj, List.range, List.range.loop, hn1, hn2, q1, q2, q3, q4, q5, q6, hrx, hrx', hri, hir, hrn1, hrn2]; try decide
              repeat' (first | (simp -implicitDefEqProofs only [ze, zd, simprocAttr, hv1, hbx, hne, hne', hn1, hn2, nxj, nr_pur, List.length_map, q1, q2, q3, q4, q5, q6, hr0, hr1, hrx, hrx', hri, hir, hrn1, hrn2, qq1, bv_len, hw9, hw10]) | (with_reducible refine wgd_cases ?_ ?_ <;> intro hb) | (with_reducible refine wcond_cases ?_ ?_ <;> intro hb) | (with_reducible refine qd_i (by kernel_rfl) ?_) | (with_reducible refine W_itn_cases ?_ ?_; omega))
              have hwr1 : ¬ wr = nx1 + 56 := by omega
              have hwi : ¬ id = wr := fun e => by rw [hir] at e; exact e
              refine ⟨_, _, by rw [hst], by omega, fun i i1 i2 i3 => ?_, kqTrans (nx' := nx1) hQ ⟨fun k i1 i2 i3 => by
                  simp only [toksAt, hv1, tokOf, List.mem_cons, List.not_mem_nil, or_false, not_or] at i3
                  rw [upd_at, if_neg i2, upd_at, if_neg i3.2, upd_at, if_neg (by omega)], fun k hk => by
                simp only [toksAt, upd_at, if_true, tokOf, List.mem_cons, List.not_mem_nil, or_false] at hk
                simp only [toksAt, hv1, tokOf, List.mem_cons, List.not_mem_nil, or_false]
                omega⟩ (by omega), .inl ⟨by rw [hst], _, ⟨by omega, _, by rw [upd_at, if_pos rfl], growN (growN (growU hg1 (by omega) (by omega) _) (by intro n; rw [upd_at, if_neg (by omega), qq1]; intro h; cases h) _) (by intro n; rw [upd_at, if_neg hwi, upd_at, if_neg (by omega), hv1]; intro h; cases h) _⟩, .inr ⟨wr, hr8, by omega, by rw [List.map_append, hTx]; rfl, by rw [upd_at, if_neg (fun e => hwi e.symm), upd_at, if_pos rfl, List.map_append, List.length_append, List.length_map]; rfl⟩⟩⟩
              have hiw : ¬ i = wr := fun e => by subst e; exact i3 _ _ hstq
              have e := hK i i1 i2 i3
              rw [upd_at, if_neg i2, upd_at, if_neg hiw, upd_at, if_neg (by omega)]
              exact e
          · have hd2 : decide (x.no = (es.length : Int) + 1) = false := decide_eq_false h2
            repeat' (first | (simp -implicitDefEqProofs only [ze, zd, simprocAttr, hT', hq, hz, hv, hN, hB, hds, hdu, hd2, hw8, bytesOfV_bv, hne, hne', nxj, bv_len, k1, k2, nr_pur, hn1, hn2, List.length_map]) | (with_reducible refine W_itn_cases ?_ ?_; omega))
            refine qd_i ?_ ?_
            · simp [recsOk, ordB, Rec.free, Rec.wr, disj, List.range, List.range.loop, hne, hne', hn1, hn2]; try decide
            repeat' (first | (simp -implicitDefEqProofs only [ze, zd, simprocAttr, hT', hq, hz, hv, hN, hB, hds, hdu, hd2, hw8, bytesOfV_bv, hne, hne', nxj, bv_len, k1, k2, nr_pur, hn1, hn2, List.length_map]) | (with_reducible refine wgd_cases ?_ ?_ <;> intro hb) | (with_reducible refine wcond_cases ?_ ?_ <;> intro hb) | (with_reducible refine qd_i (by kernel_rfl) ?_) | (with_reducible refine W_itn_cases ?_ ?_; omega))
            have hst : stepS s es.length bs = (0, 17) := by unfold stepS; rw [hfs, hT]; exact (if_pos rfl).trans ((if_pos rfl).trans ((if_pos ⟨rfl, rfl⟩).trans (if_neg h2)))
            exact ⟨_, _, by rw [hst], by omega, keepTrans (nx' := nx) (keepU (by omega) _) (keepU (by omega) _) (Nat.le_refl _), kqTrans (nx' := nx) (kqU hid (by omega) _) (kqU hid (by omega) _) (Nat.le_refl _), .inr ⟨by rw [hst]; decide, lgU (lgU ⟨_, ⟨hid, v, hv, hg⟩, hw⟩ (by omega) (Nat.le_refl _) _) (by omega) (by omega) _⟩⟩
        · have hst : stepS s es.length bs = (0, 5) := by unfold stepS; rw [hfs, hT]; exact (if_pos rfl).trans ((if_pos rfl).trans (if_neg h5))
          by_cases h6 : e2 = 0
          · have hd6 : decide (e2 = 0) = true := decide_eq_true h6
            have hd7 : decide (used = (p.length : Int)) = false := decide_eq_false fun h => h5 ⟨h6, h⟩
            repeat' (first | (simp -implicitDefEqProofs only [ze, zd, simprocAttr, hd6, hd7, hT', hq, hz, hv, hN, hB, hds, bytesOfV_bv, hne, hne', nxj, bv_len, k1, k2, nr_pur]) | (with_reducible refine wgd_cases ?_ ?_ <;> intro hb) | (with_reducible refine wcond_cases ?_ ?_ <;> intro hb) | (with_reducible refine qd_i (by kernel_rfl) ?_) | (with_reducible refine W_itn_cases ?_ ?_; omega))
            exact ⟨_, _, by rw [hst], by omega, keepTrans (nx' := nx) (keepU (by omega) _) (keepU (by omega) _) (Nat.le_refl _), kqTrans (nx' := nx) (kqU hid (by omega) _) (kqU hid (by omega) _) (Nat.le_refl _), .inr ⟨by rw [hst]; decide, lgU (lgU ⟨_, ⟨hid, v, hv, hg⟩, hw⟩ (by omega) (Nat.le_refl _) _) (by omega) (by omega) _⟩⟩
          · have hd6 : decide (e2 = 0) = false := decide_eq_false h6
            repeat' (first | (simp -implicitDefEqProofs only [ze, zd, simprocAttr, hd6, hT', hq, hz, hv, hN, hB, hds, bytesOfV_bv, hne, hne', nxj, bv_len, k1, k2, nr_pur]) | (with_reducible refine wgd_cases ?_ ?_ <;> intro hb) | (with_reducible refine wcond_cases ?_ ?_ <;> intro hb) | (with_reducible refine qd_i (by kernel_rfl) ?_) | (with_reducible refine W_itn_cases ?_ ?_; omega))
            exact ⟨_, _, by rw [hst], by omega, keepTrans (nx' := nx) (keepU (by omega) _) (keepU (by omega) _) (Nat.le_refl _), kqTrans (nx' := nx) (kqU hid (by omega) _) (kqU hid (by omega) _) (Nat.le_refl _), .inr ⟨by rw [hst]; decide, lgU (lgU ⟨_, ⟨hid, v, hv, hg⟩, hw⟩ (by omega) (Nat.le_refl _) _) (by omega) (by omega) _⟩⟩
      · have hds : decide (({ data := (List.map (fun n => UInt8.ofNat n.toNat) (sumB (nextI s p))).toArray } : ByteArray) = { data := (List.map (fun n => UInt8.ofNat n.toNat) sm).toArray }) = false := decide_eq_false fun h => hsm (sB_inj (sumB_inR _ hr') hsmb h)
        have hst : stepS s es.length bs = (0, 23) := by unfold stepS; rw [hfs]; exact (if_pos rfl).trans (if_neg hsm)
        repeat' (first | (simp -implicitDefEqProofs only [ze, zd, simprocAttr, hT', hq, hz, hv, hN, hB, hds, bytesOfV_bv, hne, hne', nxj, bv_len, k1, k2, nr_pur]) | (with_reducible refine wgd_cases ?_ ?_ <;> intro hb) | (with_reducible refine wcond_cases ?_ ?_ <;> intro hb) | (with_reducible refine qd_i (by kernel_rfl) ?_) | (with_reducible refine W_itn_cases ?_ ?_; omega))
        exact ⟨_, _, by rw [hst], by omega, keepRefl _ _ _, ⟨fun _ _ _ _ => rfl, fun _ q => .inl q⟩, .inr ⟨by rw [hst]; decide, lgLe ⟨w, ⟨hid, v, hv, hg⟩, hw⟩ (by omega)⟩⟩
    · have hz : decide (e = 0) = false := decide_eq_false he0
      have hst : stepS s es.length bs = (0, e) := by unfold stepS; rw [hfs]; exact if_neg he0
      repeat' (first | (simp -implicitDefEqProofs only [ze, zd, simprocAttr, hq, hz, k1, k2]) | (with_reducible refine wgd_cases ?_ ?_ <;> intro hb) | (with_reducible refine wcond_cases ?_ ?_ <;> intro hb) | (with_reducible refine qd_i (by kernel_rfl) ?_) | (with_reducible refine W_itn_cases ?_ ?_; omega))
      exact ⟨_, _, by rw [hst], by omega, keepRefl _ _ _, ⟨fun _ _ _ _ => rfl, fun _ q => .inl q⟩, .inr ⟨by rw [hst]; exact he0, lgLe h (by omega)⟩⟩
end Go.Proofs.YtkbheoganajhaaaDoor.Vm
set_option maxRecDepth 10000
set_option linter.unusedVariables false
set_option linter.unusedSimpArgs false
namespace Go.Proofs.YtkbheoganajhaaaDoor.Vm
open Go Go.Proofs
def openS : Nat → Int → Nat → List Int → List Entry × Int × Nat × Int
  | 0, s, _, _ => ([], s, 0, 0)
  | f + 1, s, n, bs =>
    if bs.length = 0 then ([], s, 0, 0)
    else if (stepS s n bs).2 = 0 then
      ((takeS (frameS bs).1).1 :: (openS f (nextI s (frameS bs).1) (n + 1) (bs.drop ((frameS bs).1.length + 16))).1,
       (openS f (nextI s (frameS bs).1) (n + 1) (bs.drop ((frameS bs).1.length + 16))).2.1,
       (frameS bs).1.length + 16 + (openS f (nextI s (frameS bs).1) (n + 1) (bs.drop ((frameS bs).1.length + 16))).2.2.1,
       (openS f (nextI s (frameS bs).1) (n + 1) (bs.drop ((frameS bs).1.length + 16))).2.2.2)
    else ([], s, 0, (stepS s n bs).2)
theorem four_read (a b c d : Int) (ha : 0 ≤ a ∧ a < 256) (hb : 0 ≤ b ∧ b < 256) (hc : 0 ≤ c ∧ c < 256) (hd : 0 ≤ d ∧ d < 256) : four (readI a b c d) = [a, b, c, d] := by
  unfold four readI
  have e1 : (a * 16777216 + b * 65536 + c * 256 + d) / 16777216 % 256 = a := by omega
  have e2 : (a * 16777216 + b * 65536 + c * 256 + d) / 65536 % 256 = b := by omega
  have e3 : (a * 16777216 + b * 65536 + c * 256 + d) / 256 % 256 = c := by omega
  have e4 : (a * 16777216 + b * 65536 + c * 256 + d) % 256 = d := by omega
  rw [e1, e2, e3, e4]
theorem four_rdB (l : List Int) (hb : bOK l) (h4 : 4 ≤ l.length) : four (rdB l) = l.take 4 := by
  match l, h4 with
  | a :: b :: c :: d :: m, _ => exact four_read a b c d (hb a (by simp)) (hb b (by simp)) (hb c (by simp)) (hb d (by simp))
theorem frame_bytes {bs p sm : List Int} (hb : bOK bs) (h : frameS bs = (p, sm, 0)) : p.length + 16 ≤ bs.length ∧ bs.take (p.length + 16) = four p.length ++ four (inv p.length) ++ p ++ sm := by
  unfold frameS at h
  split at h
  · cases h
  rename_i h8
  split at h
  · rename_i hinv
    split at h
    · cases h
    rename_i hlen
    injection h with h1 h2
    injection h2 with h2 _
    have hr := rdB_r bs hb (by omega)
    have hpl : p.length = (rdB bs).toNat := by rw [← h1, List.length_take, List.length_drop]; omega
    have hpi : (p.length : Int) = rdB bs := by omega
    refine ⟨by omega, ?_⟩
    rw [hpi, ← hinv, four_rdB bs hb (by omega), four_rdB (bs.drop 4) (bOK_drop hb 4) (by rw [List.length_drop]; omega), ← h1, ← h2]
    rw [show (List.take (rdB bs).toNat (List.drop 8 bs)).length = (rdB bs).toNat by rw [h1]; exact hpl]
    have e1 : bs.take 4 ++ (bs.drop 4).take 4 = bs.take 8 := by rw [← List.take_add]
    rw [e1]
    have e2 : bs.take 8 ++ (bs.drop 8).take (rdB bs).toNat = bs.take (8 + (rdB bs).toNat) := by rw [← List.take_add]
    rw [e2, List.drop_drop]
    rw [← List.take_add]
    congr 1
    omega
  · cases h
theorem step_ok {s : Int} {n : Nat} {bs : List Int} (h : (stepS s n bs).2 = 0) : (frameS bs).2.2 = 0 ∧ sumB (nextI s (frameS bs).1) = (frameS bs).2.1 ∧ (takeS (frameS bs).1).2.2 = 0 ∧ (takeS (frameS bs).1).2.1 = ((frameS bs).1.length : Int) ∧ (takeS (frameS bs).1).1.no = (n : Int) + 1 ∧ (stepS s n bs).1 = ((frameS bs).1.length : Int) + 16 := by
  unfold stepS at h ⊢
  split at h
  · rename_i h1
    split at h
    · rename_i h2
      split at h
      · rename_i h3
        split at h
        · rename_i h4
          exact ⟨h1, h2, h3.1, h3.2, h4, by rw [if_pos h1, if_pos h2, if_pos h3, if_pos h4]⟩
        · cases h
      · cases h
    · cases h
  · rename_i h1; exact absurd h h1
theorem step_bytes {s : Int} {n : Nat} {bs : List Int} (hb : bOK bs) (h : (stepS s n bs).2 = 0) : (frameS bs).1.length + 16 ≤ bs.length ∧ bs.take ((frameS bs).1.length + 16) = frameB (frameS bs).1 (nextI s (frameS bs).1) := by
  obtain ⟨h1, h2, _⟩ := step_ok h
  have e : frameS bs = ((frameS bs).1, (frameS bs).2.1, 0) := by rw [← h1]
  obtain ⟨g1, g2⟩ := frame_bytes hb e
  exact ⟨g1, by rw [g2, ← h2]; rfl⟩
theorem new_ok2 (st : St) (nx : Nat) : W (L.hp 10 [] st nx) fun r => ∃ st' nx' id, r = .ret (.ptr id 0) st' nx' ∧ nx ≤ nx' ∧ nx ≤ id ∧ LG st' nx' id [] start [] ∧ (∀ i, i < nx → st' i = st i) ∧ ∀ k, k ∈ toksAt st' id → k = 1 := by
  refine hp_w k10_eq ?_
  simp only [k10]
  repeat' (first | (simp -implicitDefEqProofs only [ze, zd, simprocAttr, ne_eq, not_true_eq_false, gt_iff_lt]) | (with_reducible refine wgd_cases ?_ ?_ <;> intro hb) | (with_reducible refine wcond_cases ?_ ?_ <;> intro hb) | (with_reducible refine qd_i (by kernel_rfl) ?_) | (with_reducible refine W_itn_cases ?_ ?_; omega))
  refine ⟨_, _, _, rfl, by omega, ?_, ⟨.list 0 [] 1, ⟨?_, .list 0 [] 1, by rw [upd_at, if_pos rfl]; rfl, .inl ⟨rfl, rfl⟩⟩, .inl ⟨rfl, rfl⟩⟩, fun i hi => by rw [upd_at, if_neg (by omega)], fun k hk => ?_⟩
  · omega
  · omega
  · simp only [toksAt, upd_at, if_true, tokOf, List.mem_cons, List.not_mem_nil, or_false] at hk
    omega
def openPost (bs : List Int) (st : St) (nx : Nat) (q : HR) : Prop := ∃ st' nx' id, q = .ret (.tup [.ptr id 0, .i64 (openS bs.length start 0 bs).2.2.1, .i64 (openS bs.length start 0 bs).2.2.2]) st' nx' ∧ nx ≤ nx' ∧ nx ≤ id ∧
      LG st' nx' id (bs.take (openS bs.length start 0 bs).2.2.1) (openS bs.length start 0 bs).2.1 (openS bs.length start 0 bs).1 ∧ (∀ i, 8 ≤ i → i < nx → st' i = st i) ∧ (∀ k, k ∈ toksAt st' id → k = 1 ∨ nx ≤ k)
theorem open_wc (bs : List Int) (hb : bOK bs) (hl : bs.length < 1000000000) (st : St) (nx : Nat) (h8 : 8 ≤ nx) (r : Nat) :
    wc Tryd.prog L k21.b (RQ k21.rs (openPost bs st nx)) ⟨argT [.list 5 (bv bs) r], st, nx⟩ := by
  unfold openPost
  simp only [k21]
  repeat' (first | (simp -implicitDefEqProofs only [ze, zd, simprocAttr]) | (with_reducible refine wgd_cases ?_ ?_ <;> intro hb) | (with_reducible refine wcond_cases ?_ ?_ <;> intro hb) | (with_reducible refine qd_i (by kernel_rfl) ?_) | (with_reducible refine W_itn_cases ?_ ?_; omega))
  refine W_hp (new_ok2 _ _) ?_
  rintro _ ⟨st1, nx1, id, rfl, hn1, hi1, hLG, hk1, h1n⟩
  repeat' (first | (simp -implicitDefEqProofs only [ze, zd, simprocAttr]) | (with_reducible refine wgd_cases ?_ ?_ <;> intro hb) | (with_reducible refine wcond_cases ?_ ?_ <;> intro hb) | (with_reducible refine qd_i (by kernel_rfl) ?_) | (with_reducible refine W_itn_cases ?_ ?_; omega))
  refine loop_w (fun n tm st' nx' => ∃ (u f : Nat) (s : Int) (es : List Entry), n = bs.length - u ∧ u ≤ bs.length ∧ nx ≤ nx' ∧ tm 2 = .ptr id 0 ∧ tm 3 = .i64 u ∧ tm 0 = .list 5 (bv bs) r ∧ LG st' nx' id (bs.take u) s es ∧ u64r s ∧ es.length * 16 ≤ u ∧ (∀ i, 8 ≤ i → i < nx → st' i = st i) ∧ (∀ k, k ∈ toksAt st' id → k = 1 ∨ nx ≤ k) ∧ bs.length - u ≤ f ∧
    openS bs.length start 0 bs = (es ++ (openS f s es.length (bs.drop u)).1, (openS f s es.length (bs.drop u)).2.1, u + (openS f s es.length (bs.drop u)).2.2.1, (openS f s es.length (bs.drop u)).2.2.2)) bs.length ⟨0, bs.length, start, [], by omega, by omega, by omega, ?_, ?_, ?_, lgLe hLG (by omega), start_r, by simp, fun i _ hi => hk1 i (by omega), fun k hk => .inl (h1n k hk), by omega, by simp⟩ ?_
  · simp -implicitDefEqProofs only [ze, zd, simprocAttr]; try rfl
  · simp -implicitDefEqProofs only [ze, zd, simprocAttr]; try rfl
  · simp -implicitDefEqProofs only [ze, zd, simprocAttr]; try rfl
  rintro n tm st2 nx2 ⟨u, f, s, es, hn, hu, hnx, h2, h3, h0, hG, hs, hel, hk, htk, hf, ho⟩
  simp only [k21_l0, k21_t0]
  by_cases hlt : u < bs.length
  · have hd : decide ((u : Int) < (bs.length : Int)) = true := decide_eq_true (by omega)
    obtain ⟨f, rfl⟩ : ∃ f', f = f' + 1 := ⟨f - 1, by omega⟩
    have hdl : (bs.drop u).length = bs.length - u := List.length_drop ..
    have hol : (bs.take u).length ≤ 100000000000 := by rw [List.length_take]; omega
    have hne0 : ¬ (bs.drop u).length = 0 := by omega
    repeat' (first | (simp -implicitDefEqProofs only [ze, zd, simprocAttr, h2, h3, h0, hd, bv_len, bv_tk, bv_dp, List.take_length]) | (with_reducible refine W_itn_cases ?_ ?_; omega))
    refine W_hp (step1_ok (lgLe hG (by omega)) (bs.drop u) (bOK_drop hb u) hs hol (by omega) (by omega) _) ?_
    rintro _ ⟨st3, nx3, rfl, hn3, hKO, hKQ, hor⟩
    have hkeep : ∀ i, 8 ≤ i → i < nx → st3 i = st i := fun i i1 i2 => by
      rw [hKQ.1 i (by omega) (by omega) (fun hm => (htk i hm).elim (by omega) (by omega)), hk i i1 i2]
    have htok : ∀ k, k ∈ toksAt st3 id → k = 1 ∨ nx ≤ k := fun k hk => by
      rcases hKQ.2 k hk with h | h
      · exact htk k h
      · exact .inr (by omega)
    by_cases h5 : (stepS s es.length (bs.drop u)).2 = 0
    · obtain ⟨g1, g2, g3, g4, g5, g6⟩ := step_ok h5
      obtain ⟨b1, b2⟩ := step_bytes (bOK_drop hb u) h5
      have hG3 : LG st3 nx3 id (bs.take (u + ((frameS (bs.drop u)).1.length + 16))) (nextI s (frameS (bs.drop u)).1) (es ++ [(takeS (frameS (bs.drop u)).1).1]) := by
        rcases hor with ⟨_, h⟩ | ⟨h, _⟩
        · rw [← b2, ← List.take_add] at h; exact h
        · exact absurd h5 h
      have hz : decide ((0 : Int) = 0) = true := rfl
      have hw : IntKind.i64.wrap ((u : Int) + (((frameS (bs.drop u)).1.length : Int) + 16)) = ((u + ((frameS (bs.drop u)).1.length + 16) : Nat) : Int) := by rw [wrap_i64 (by omega) (by omega)]; omega
      rw [g6, h5]
      repeat' (first | (simp -implicitDefEqProofs only [ze, zd, simprocAttr, h2, h3, h0, hz, hw]) | (with_reducible refine wgd_cases ?_ ?_ <;> intro hb) | (with_reducible refine wcond_cases ?_ ?_ <;> intro hb) | (with_reducible refine qd_i (by kernel_rfl) ?_) | (with_reducible refine W_itn_cases ?_ ?_; omega))
      refine ⟨bs.length - (u + ((frameS (bs.drop u)).1.length + 16)), by omega, u + ((frameS (bs.drop u)).1.length + 16), f, nextI s (frameS (bs.drop u)).1, es ++ [(takeS (frameS (bs.drop u)).1).1], rfl, by omega, by omega, rfl, lgLe hG3 (by omega), nextI_r _ _ hs, by rw [List.length_append, List.length_singleton]; omega, hkeep, htok, by omega, ?_⟩
      rw [ho]
      simp only [openS, if_neg hne0, if_pos h5, List.drop_drop, List.length_append, List.length_singleton, List.append_assoc, List.singleton_append, Nat.add_assoc]
    · have hz : decide ((stepS s es.length (bs.drop u)).2 = 0) = false := decide_eq_false h5
      have hG3 : LG st3 nx3 id (bs.take u) s es := by
        rcases hor with ⟨h, _⟩ | ⟨_, h⟩
        · exact absurd h h5
        · exact h
      repeat' (first | (simp -implicitDefEqProofs only [ze, zd, simprocAttr, h2, h3, h0, hz]) | (with_reducible refine wgd_cases ?_ ?_ <;> intro hb) | (with_reducible refine wcond_cases ?_ ?_ <;> intro hb) | (with_reducible refine qd_i (by kernel_rfl) ?_) | (with_reducible refine W_itn_cases ?_ ?_; omega))
      have ho2 : openS bs.length start 0 bs = (es, s, u, (stepS s es.length (bs.drop u)).2) := by
        rw [ho]
        simp only [openS, if_neg hne0, if_neg h5, List.append_nil, Nat.add_zero]
      rw [ho2]
      exact ⟨_, _, id, rfl, by omega, by omega, lgLe hG3 (by omega), hkeep, htok⟩
  · have hd : decide ((u : Int) < (bs.length : Int)) = false := decide_eq_false (by omega)
    have hu0 : (bs.drop u).length = 0 := by rw [List.length_drop]; omega
    have ho2 : openS bs.length start 0 bs = (es, s, u, 0) := by
      rw [ho]
      cases f with
      | zero => simp only [openS, List.append_nil, Nat.add_zero]
      | succ f => simp only [openS, if_pos hu0, List.append_nil, Nat.add_zero]
    repeat' (first | (simp -implicitDefEqProofs only [ze, zd, simprocAttr, h2, h3, h0, hd, bv_len]) | (with_reducible refine wgd_cases ?_ ?_ <;> intro hb) | (with_reducible refine wcond_cases ?_ ?_ <;> intro hb) | (with_reducible refine qd_i (by kernel_rfl) ?_) | (with_reducible refine W_itn_cases ?_ ?_; omega))
    rw [ho2]
    exact ⟨_, _, id, rfl, by omega, by omega, lgLe hG (by omega), hk, htk⟩
theorem bv_pur : ∀ l : List Int, (bv l).mapM V.pur1? = some (bv l)
  | [] => rfl
  | x :: l => by
    have e : bv (x :: l) = .sc (.int .u8 x) :: bv l := rfl
    rw [e, List.mapM_cons, bv_pur l]; rfl
theorem bv_chunk : ∀ l : List Int, chunk false 1 l.length (bv l) = bv l
  | [] => rfl
  | x :: l => by
    have e : bv (x :: l) = .sc (.int .u8 x) :: bv l := rfl
    rw [e]
    show _ :: chunk false 1 l.length (bv l) = _
    rw [bv_chunk l]; rfl
theorem open_sl (bs : List Int) (hb : bOK bs) (hl : bs.length < 1000000000) (st : St) (nx : Nat) (h8 : 8 ≤ nx) (id : Nat) (hr : st id = some (.row 5 1 bs.length (bv bs))) :
    W (L.hp 21 [.sl 5 false 1 id 0 bs.length] st nx) (openPost bs (upd st id (some (.frz (bv bs)))) nx) := by
  refine hp_z k21_eq ?_
  have hc := bv_chunk bs
  have hf : frzH st [.sl 5 false 1 id 0 bs.length] = some ([.list 5 (bv bs) 0], [(id, some (.frz (bv bs)))]) := by
    simp only [frzH, slish, slish1, if_true, frzV, frz1, hr, bv_pur, Option.map_some, Option.bind_some, Nat.zero_add, Nat.mul_one, bv_len, Nat.le_refl, Nat.zero_mul, List.drop_zero, hc, List.append_nil]
  rw [hf]
  refine ⟨_, rfl, ?_⟩
  exact open_wc bs hb hl _ nx h8 0
end Go.Proofs.YtkbheoganajhaaaDoor.Vm
