/- Proved here: how a table of columns is kept. Conditions: none. -/
import Derived.Test.YtkbheoganajhaaaDoorVs12
set_option maxRecDepth 10000
set_option linter.unusedVariables false
set_option linter.unusedSimpArgs false
namespace Go.Proofs.YtkbheoganajhaaaDoor.Vm
open Go Go.Proofs
def names (cs : List Col) : List Nat := cs.flatMap fun c => [c.id, c.ra, c.rb]
def ents (cs : List Col) : List (V × V) := cs.map fun c => (V.str c.key, V.ptr c.id 0)
structure Cols (st : St) (nx mid : Nat) (cs : List Col) : Prop where
  tab : st mid = some (.map (ents cs))
  lt : mid < nx
  ok : ∀ c ∈ cs, ColOk st nx c
  nd : (names cs).Nodup
  keys : (cs.map (·.key)).Nodup
theorem ColOk.same {st st' : St} {nx nx' : Nat} {c : Col} (h : ColOk st nx c) (hn : nx ≤ nx') (h1 : st' c.id = st c.id) (h2 : st' c.ra = st c.ra) (h3 : st' c.rb = st c.rb) : ColOk st' nx' c :=
  ⟨by rw [h1]; exact h.cell, by rw [h2]; exact h.a, by rw [h3]; exact h.b, h.ab, by have := h.id_lt; omega, by have := h.a_lt; omega, by have := h.b_lt; omega, h.a8, h.b8⟩
theorem names_lt {st : St} {nx mid : Nat} {cs : List Col} (h : Cols st nx mid cs) : ∀ i ∈ names cs, i < nx := by
  intro i hi
  simp only [names, List.mem_flatMap, List.mem_cons, List.not_mem_nil, or_false] at hi
  obtain ⟨c, hc, h1⟩ := hi
  have := h.ok c hc
  rcases h1 with rfl | rfl | rfl
  · exact this.id_lt
  · exact this.a_lt
  · exact this.b_lt
theorem mid_not {st : St} {nx mid : Nat} {cs : List Col} (h : Cols st nx mid cs) : mid ∉ names cs := by
  intro hi
  simp only [names, List.mem_flatMap, List.mem_cons, List.not_mem_nil, or_false] at hi
  obtain ⟨c, hc, h1⟩ := hi
  have h2 := h.ok c hc
  have h3 := h.tab
  rcases h1 with rfl | rfl | rfl
  · rw [h2.cell] at h3; cases h3
  · rw [h2.a] at h3; cases h3
  · rw [h2.b] at h3; cases h3
/-- One column has taken a line more. -/
theorem Cols.old {st st' : St} {nx nx' mid : Nat} {pre post : List Col} {c c' : Col} (h : Cols st nx mid (pre ++ c :: post)) (hn : nx ≤ nx') (hc : ColOk st' nx' c') (e1 : c'.key = c.key) (e2 : c'.id = c.id) (e3 : c'.ra = c.ra) (e4 : c'.rb = c.rb)
    (hk : ∀ i, i < nx → i ≠ c.id → i ≠ c.ra → i ≠ c.rb → st' i = st i) : Cols st' nx' mid (pre ++ c' :: post) := by
  have hnd := h.nd
  have hmid := mid_not h
  have hcn : ∀ d, d ∈ pre ++ post → ∀ i ∈ [d.id, d.ra, d.rb], i ≠ c.id ∧ i ≠ c.ra ∧ i ≠ c.rb := by
    intro d hd i hi
    have hi' : i ∈ names (pre ++ post) := by simp only [names, List.mem_flatMap]; exact ⟨d, hd, hi⟩
    have hp : (names (pre ++ c :: post)).Perm ([c.id, c.ra, c.rb] ++ names (pre ++ post)) := by
      have : names (pre ++ c :: post) = names pre ++ ([c.id, c.ra, c.rb] ++ names post) := by simp [names]
      rw [this]
      have e : names (pre ++ post) = names pre ++ names post := by simp [names]
      rw [e]
      exact List.perm_append_comm_assoc _ _ _
    have hnd2 := hp.nodup_iff.mp hnd
    rw [List.nodup_append] at hnd2
    have := hnd2.2.2
    exact ⟨fun e => this c.id (by simp) i hi' e.symm, fun e => this c.ra (by simp) i hi' e.symm, fun e => this c.rb (by simp) i hi' e.symm⟩
  refine ⟨?_, by have := h.lt; omega, ?_, ?_, ?_⟩
  · have hm : mid ≠ c.id ∧ mid ≠ c.ra ∧ mid ≠ c.rb := by
      have : names (pre ++ c :: post) = names pre ++ ([c.id, c.ra, c.rb] ++ names post) := by simp [names]
      rw [this] at hmid
      simp only [List.mem_append, List.mem_cons, List.not_mem_nil, or_false, not_or] at hmid
      exact ⟨hmid.2.1.1, hmid.2.1.2.1, hmid.2.1.2.2⟩
    rw [hk mid h.lt hm.1 hm.2.1 hm.2.2, h.tab]
    simp [ents, e1, e2]
  · intro d hd
    rcases List.mem_append.mp hd with hd | hd
    · have hd2 := h.ok d (List.mem_append.mpr (.inl hd))
      have hx := hcn d (List.mem_append.mpr (.inl hd))
      exact hd2.same hn (hk _ hd2.id_lt (hx _ (by simp)).1 (hx _ (by simp)).2.1 (hx _ (by simp)).2.2) (hk _ hd2.a_lt (hx _ (by simp)).1 (hx _ (by simp)).2.1 (hx _ (by simp)).2.2) (hk _ hd2.b_lt (hx _ (by simp)).1 (hx _ (by simp)).2.1 (hx _ (by simp)).2.2)
    · rcases List.mem_cons.mp hd with rfl | hd
      · exact hc
      · have hd2 := h.ok d (List.mem_append.mpr (.inr (List.mem_cons_of_mem _ hd)))
        have hx := hcn d (List.mem_append.mpr (.inr hd))
        exact hd2.same hn (hk _ hd2.id_lt (hx _ (by simp)).1 (hx _ (by simp)).2.1 (hx _ (by simp)).2.2) (hk _ hd2.a_lt (hx _ (by simp)).1 (hx _ (by simp)).2.1 (hx _ (by simp)).2.2) (hk _ hd2.b_lt (hx _ (by simp)).1 (hx _ (by simp)).2.1 (hx _ (by simp)).2.2)
  · have : names (pre ++ c' :: post) = names (pre ++ c :: post) := by simp [names, e2, e3, e4]
    rw [this]; exact hnd
  · have := h.keys
    simpa [e1] using this
/-- A column more. -/
theorem Cols.more {st st' : St} {nx nx' mid : Nat} {cs : List Col} {c : Col} (h : Cols st nx mid cs) (hn : nx ≤ nx') (hc : ColOk st' nx' c) (h1 : nx ≤ c.id) (h2 : nx ≤ c.ra) (h3 : nx ≤ c.rb) (hid : c.id ≠ c.ra ∧ c.id ≠ c.rb) (hkey : ∀ d ∈ cs, d.key ≠ c.key)
    (hm : st' mid = some (.map (ents (cs ++ [c])))) (hk : ∀ i ∈ names cs, st' i = st i) : Cols st' nx' mid (cs ++ [c]) := by
  have hlt := names_lt h
  have hmid := mid_not h
  refine ⟨hm, by have := h.lt; omega, ?_, ?_, ?_⟩
  · intro d hd
    rcases List.mem_append.mp hd with hd | hd
    · have hd2 := h.ok d hd
      have hne : ∀ i ∈ [d.id, d.ra, d.rb], i ∈ names cs := fun i hi => by simp only [names, List.mem_flatMap]; exact ⟨d, hd, hi⟩
      exact hd2.same hn (hk _ (hne _ (by simp))) (hk _ (hne _ (by simp))) (hk _ (hne _ (by simp)))
    · have : d = c := by simpa using hd
      subst this; exact hc
  · have e : names (cs ++ [c]) = names cs ++ [c.id, c.ra, c.rb] := by simp [names]
    rw [e, List.nodup_append]
    refine ⟨h.nd, by simp [hid.1, hid.2, hc.ab], ?_⟩
    intro a ha b hb
    have := hlt a ha
    simp only [List.mem_cons, List.not_mem_nil, or_false] at hb
    rcases hb with rfl | rfl | rfl <;> omega
  · rw [List.map_append, List.nodup_append]
    refine ⟨h.keys, by simp, ?_⟩
    intro a ha b hb
    simp only [List.mem_map] at ha
    obtain ⟨d, hd, rfl⟩ := ha
    simp only [List.map_cons, List.map_nil, List.mem_singleton] at hb
    subst hb
    exact hkey d hd
/-- Looking a key up. -/
theorem find_no : ∀ (cs : List Col) (k : ByteArray) (j : Nat), (∀ d ∈ cs, d.key ≠ k) → mfind (.string k) (ents cs) j = some none
  | [], _, _, _ => rfl
  | c :: cs, k, j, h => by
    have h1 : ¬ c.key = k := h c (by simp)
    have h2 : ¬ k = c.key := fun e => h1 e.symm
    have hk : keyEq (.string k) (.string c.key) = some false := by simp only [keyEq]; rw [ba_beq, decide_eq_false h2]
    have e : ents (c :: cs) = (V.sc (.string c.key), V.ptr c.id 0) :: ents cs := rfl
    rw [e, mfind, hk]
    exact find_no cs k (j + 1) fun d hd => h d (List.mem_cons_of_mem _ hd)
theorem find_yes : ∀ (pre : List Col) (c : Col) (post : List Col) (j : Nat), (∀ d ∈ pre, d.key ≠ c.key) → mfind (.string c.key) (ents (pre ++ c :: post)) j = some (some (j + pre.length, V.ptr c.id 0))
  | [], c, post, j, _ => by
    have hk : keyEq (.string c.key) (.string c.key) = some true := by simp only [keyEq]; rw [ba_beq]; simp
    have e : ents ([] ++ c :: post) = (V.sc (.string c.key), V.ptr c.id 0) :: ents post := rfl
    rw [e, mfind, hk]; rfl
  | d :: pre, c, post, j, h => by
    have h1 : ¬ d.key = c.key := h d (by simp)
    have h2 : ¬ c.key = d.key := fun e => h1 e.symm
    have hk : keyEq (.string c.key) (.string d.key) = some false := by simp only [keyEq]; rw [ba_beq, decide_eq_false h2]
    have e : ents (d :: pre ++ c :: post) = (V.sc (.string d.key), V.ptr d.id 0) :: ents (pre ++ c :: post) := rfl
    rw [e, mfind, hk]
    show mfind _ _ _ = _
    rw [find_yes pre c post (j + 1) fun x hx => h x (List.mem_cons_of_mem _ hx)]
    simp only [List.length_cons, Option.some.injEq, Prod.mk.injEq, and_true]
    omega
end Go.Proofs.YtkbheoganajhaaaDoor.Vm
