/- Proved here: a plain law: the encodings of entries are unambiguous, whatever follows. Conditions: none. -/
import Derived.Test.YtkbheoganajhaaaDoorVs10
set_option linter.unusedVariables false
set_option linter.unusedSimpArgs false
namespace Go.Proofs.YtkbheoganajhaaaDoor.Vm
open Go Go.Proofs
theorem putS_inj {a b : Int} {m m' : List Int} (ha : i64r a) (hb : i64r b) (h : Co.putS a ++ m = Co.putS b ++ m') : a = b ∧ m = m' := by
  have h1 := Co.t_put a ha.1 ha.2 m
  have h2 := Co.t_put b hb.1 hb.2 m'
  rw [h] at h1
  rw [h1] at h2
  have h3 : a = b := congrArg Prod.fst h2
  subst h3
  exact ⟨rfl, List.append_cancel_left h⟩
theorem bytesOf_inj {s t : ByteArray} (h : Co.bytesOf s = Co.bytesOf t) : s = t := by
  have h1 := Co.bytes_str s
  rw [h, Co.bytes_str] at h1
  exact h1.symm
theorem ptB_inj {s t : ByteArray} {m m' : List Int} (hs : plainS s = true) (ht : plainS t = true) (h : ptB s ++ m = ptB t ++ m') : s = t ∧ m = m' := by
  have a1 := plain_size hs
  have a2 := plain_size ht
  unfold ptB at h
  rw [List.append_assoc, List.append_assoc] at h
  obtain ⟨h1, h2⟩ := putS_inj ⟨by omega, by omega⟩ ⟨by omega, by omega⟩ h
  have h3 : (Co.bytesOf s).length = (Co.bytesOf t).length := by rw [bytesOf_len, bytesOf_len]; omega
  obtain ⟨h4, h5⟩ := List.append_inj h2 h3
  exact ⟨bytesOf_inj h4, h5⟩
theorem tagsB_inj : ∀ {l l' : List Tag} {m m' : List Int}, l.length = l'.length → (∀ t ∈ l, plainS t.n = true ∧ plainS t.v = true) → (∀ t ∈ l', plainS t.n = true ∧ plainS t.v = true) → tagsB l ++ m = tagsB l' ++ m' → l = l' ∧ m = m'
  | [], [], m, m', _, _, _, h => ⟨rfl, by simpa [tagsB] using h⟩
  | [], _ :: _, _, _, hl, _, _, _ => by simp at hl
  | _ :: _, [], _, _, hl, _, _, _ => by simp at hl
  | t :: l, t' :: l', m, m', hl, h1, h2, h => by
    have e1 : tagsB (t :: l) ++ m = ptB t.n ++ (ptB t.v ++ (tagsB l ++ m)) := by simp [tagsB]
    have e2 : tagsB (t' :: l') ++ m' = ptB t'.n ++ (ptB t'.v ++ (tagsB l' ++ m')) := by simp [tagsB]
    rw [e1, e2] at h
    have p1 := h1 t (by simp)
    have p2 := h2 t' (by simp)
    obtain ⟨g1, h⟩ := ptB_inj p1.1 p2.1 h
    obtain ⟨g2, h⟩ := ptB_inj p1.2 p2.2 h
    obtain ⟨g3, h⟩ := tagsB_inj (by simpa using hl) (fun x hx => h1 x (by simp [hx])) (fun x hx => h2 x (by simp [hx])) h
    exact ⟨by rw [tag_ext.mpr ⟨g1, g2⟩, g3], h⟩
theorem lineB_inj {l l' : Line} {m m' : List Int} (hp : plainL l) (hq : plainL l') (h : lineB l ++ m = lineB l' ++ m') : l.k = l'.k ∧ m = m' := by
  have n1 := hp.len
  have n2 := hq.len
  simp only [lineB, List.append_assoc] at h
  obtain ⟨g1, h⟩ := ptB_inj hp.acc hq.acc h
  obtain ⟨g2, h⟩ := ptB_inj hp.cur hq.cur h
  obtain ⟨g3, h⟩ := putS_inj hp.amt hq.amt h
  obtain ⟨g4, h⟩ := putS_inj hp.base hq.base h
  obtain ⟨g5, h⟩ := ptB_inj hp.par hq.par h
  obtain ⟨g6, h⟩ := ptB_inj hp.pty hq.pty h
  obtain ⟨g7, h⟩ := putS_inj ⟨by omega, by omega⟩ ⟨by omega, by omega⟩ h
  obtain ⟨g8, h⟩ := tagsB_inj (by omega) hp.tags hq.tags h
  exact ⟨lk_ext.mpr ⟨g1, g2, g3, g4, g5, g6, g8⟩, h⟩
theorem linesB_inj : ∀ {l l' : List Line} {m m' : List Int}, l.length = l'.length → (∀ t ∈ l, plainL t) → (∀ t ∈ l', plainL t) → linesB l ++ m = linesB l' ++ m' → l.map Line.k = l'.map Line.k ∧ m = m'
  | [], [], m, m', _, _, _, h => ⟨rfl, by simpa [linesB] using h⟩
  | [], _ :: _, _, _, hl, _, _, _ => by simp at hl
  | _ :: _, [], _, _, hl, _, _, _ => by simp at hl
  | t :: l, t' :: l', m, m', hl, h1, h2, h => by
    have e1 : linesB (t :: l) ++ m = lineB t ++ (linesB l ++ m) := by simp [linesB]
    have e2 : linesB (t' :: l') ++ m' = lineB t' ++ (linesB l' ++ m') := by simp [linesB]
    rw [e1, e2] at h
    obtain ⟨g1, h⟩ := lineB_inj (h1 t (by simp)) (h2 t' (by simp)) h
    obtain ⟨g3, h⟩ := linesB_inj (by simpa using hl) (fun x hx => h1 x (by simp [hx])) (fun x hx => h2 x (by simp [hx])) h
    exact ⟨by rw [List.map_cons, List.map_cons, g1, g3], h⟩
theorem entryB_inj {e f : Entry} {m m' : List Int} (hp : plainE e) (hq : plainE f) (h : entryB e ++ m = entryB f ++ m') : e.k = f.k ∧ m = m' := by
  have n1 := hp.len
  have n2 := hq.len
  simp only [entryB, headB, List.append_assoc] at h
  obtain ⟨g1, h⟩ := putS_inj hp.no hq.no h
  obtain ⟨g2, h⟩ := ptB_inj hp.ent hq.ent h
  obtain ⟨g3, h⟩ := putS_inj hp.book hq.book h
  obtain ⟨g4, h⟩ := putS_inj hp.val hq.val h
  obtain ⟨g5, h⟩ := putS_inj hp.kind hq.kind h
  obtain ⟨g6, h⟩ := ptB_inj hp.ref hq.ref h
  obtain ⟨g7, h⟩ := ptB_inj hp.who hq.who h
  obtain ⟨g8, h⟩ := putS_inj hp.rev hq.rev h
  obtain ⟨g9, h⟩ := putS_inj ⟨by omega, by omega⟩ ⟨by omega, by omega⟩ h
  obtain ⟨g10, h⟩ := linesB_inj (by omega) hp.lines hq.lines h
  exact ⟨ek_ext.mpr ⟨g1, g2, g3, g4, g5, g6, g7, g8, g10⟩, h⟩
/-- Two entries that are equal but for the marks have one encoding. -/
theorem lineB_k (l : Line) : lineB l.k = lineB l := rfl
theorem entryB_k {e f : Entry} (h : e.k = f.k) : entryB e = entryB f := by
  have h2 := ek_ext.mp h
  obtain ⟨g1, g2, g3, g4, g5, g6, g7, g8, g9⟩ := h2
  have hl : linesB e.lines = linesB f.lines := by
    have : ∀ l : List Line, linesB l = (l.map Line.k).flatMap lineB := fun l => by
      simp only [linesB, List.flatMap_map]; rfl
    rw [this, this, g9]
  have hn : e.lines.length = f.lines.length := by have := congrArg List.length g9; simpa using this
  simp only [entryB, headB, g1, g2, g3, g4, g5, g6, g7, g8, hl, hn]
theorem take_pre {a b : List Int} (h : a.take (min a.length b.length) = b.take (min a.length b.length)) : ∃ m m', a ++ m = b ++ m' := by
  rcases Nat.le_total a.length b.length with hl | hl
  · rw [Nat.min_eq_left hl, List.take_length] at h
    exact ⟨b.drop a.length, [], by rw [List.append_nil]; have := List.take_append_drop a.length b; rw [← h] at this; exact this⟩
  · rw [Nat.min_eq_right hl, List.take_length] at h
    exact ⟨[], a.drop b.length, by rw [List.append_nil]; have := List.take_append_drop b.length a; rw [h] at this; exact this.symm⟩
/-- The first bytes of two encodings, as many as the shorter has, differ if the entries do. -/
theorem entryB_take {e f : Entry} (hp : plainE e) (hq : plainE f) (h : (entryB e).take (min (entryB e).length (entryB f).length) = (entryB f).take (min (entryB e).length (entryB f).length)) : e.k = f.k := by
  obtain ⟨m, m', h⟩ := take_pre h
  exact (entryB_inj hp hq h).1
end Go.Proofs.YtkbheoganajhaaaDoor.Vm
