/- Proved here: what the opening of an argument says, as a value of the machine. Conditions: none. -/
import Derived.Test.YtkbheoganajhaaaDoorVm22
import Derived.WalkKit
import Derived.ProofKit
import Derived.OpenShut
import Derived.ShutString
import Derived.ChangeOld
import Derived.SizedLaws
import Derived.LaidMore
import Derived.Stop.Joined
import Derived.SevenTiedAt
import Derived.Deep.Slices
set_option linter.unusedVariables false
set_option linter.unusedSimpArgs false
namespace Go.Proofs.YtkbheoganajhaaaDoor.Vm
open Go.ChangeShapes Go.WideShapes Go.ChangeAt Go.RowKit
/-- The cells of a world. -/
def pw (w : World) : Pr := fun b o => w.cell? ⟨b, o, none⟩
theorem holds_pw {w : World} {a : Addr} {u : Value} (h : w.cell? a = some u) : Holds (pw w) a u := by
  have hs := World.cell?_spot h
  refine ⟨hs, ?_⟩
  obtain ⟨b, o, s⟩ := a
  simp only at hs; subst hs; exact h
/-- Every opening of the type t is a y, told by en. -/
def OpV {H : Type} (enc : TypeId × Value → H) (P : Program) {α : Type} (t : TypeId) (en : α → V) (g : α → Prop) : Prop :=
  ∀ {w : World} {base : Nat} {spare : Nat → Bool} {held : Bool} {fuel : Nat} {cs : List Value} {x : DataW H × List MemPlace}, DataW.trod enc P w base spare held fuel t cs = some x → (∀ n ∈ x.1.weights P t, n ≤ reachBytes) → ∃ y : α, RepPs P (pw w) (en y).cells cs ∧ ones (en y).cells = true ∧ g y
section
variable {H : Type} {enc : TypeId × Value → H} {P : Program} {t e : TypeId}
theorem opV_int {k : IntKind} (ht : P.underlying t = some (.int k)) : OpV enc P t (fun n => V.sc (.int k n)) (fun n => (Lit.int k n).wf = true) := by
  intro w base spare held fuel cs x h _
  obtain ⟨n, rfl, _, hw⟩ := DataW.trod_int ht h
  exact ⟨n, .cons (.sc _) .nil, rfl, hw⟩
theorem opV_string (ht : P.underlying t = some .string) : OpV enc P t (fun s => V.sc (.string s)) (fun s => s.size ≤ reachBytes) := by
  intro w base spare held fuel cs x h hR
  obtain ⟨s, rfl, hx, _⟩ := DataW.trod_string ht h
  exact ⟨s, .cons (.sc _) .nil, rfl, by have := hR s.data.toList.length (by rw [hx]; simp [DataW.weights]); rwa [Array.length_toList] at this⟩
theorem weightsAll_mem {l : List (DataW H)} {d : DataW H} {n : Nat} (hd : d ∈ l) (hn : n ∈ d.weights P e) : n ∈ DataW.weightsAll P e l := by
  induction l with
  | nil => cases hd
  | cons a r ih =>
    simp only [DataW.weightsAll, List.mem_append]
    rcases List.mem_cons.1 hd with rfl | h
    · exact .inl hn
    · exact .inr (ih h)
theorem RepPs.app {p : Pr} {xs ys : List V} {us vs : List Value} (h : RepPs P p xs us) (k : RepPs P p ys vs) : RepPs P p (xs ++ ys) (us ++ vs) := .of (h.all2.append k.all2)
theorem opV_slice {α : Type} {en : α → V} {g : α → Prop} (ht : P.underlying t = some (.slice e)) (h : OpV enc P e en g) {s : Nat} (hs : P.cellsOf e = s) (hu : usz P e = some s) (hsz : ∀ y, (en y).cells.length = s) (hby : 1 ≤ P.bytesOf e) : OpV enc P t (fun (l : List α) => V.list e (l.map en) 0) (fun (l : List α) => l.length ≤ reachBytes ∧ ∀ x ∈ l, g x) := by
  intro w base spare held fuel cs x hx hR
  rcases Deep.open_slice ht hx with ⟨rfl, _⟩ | ⟨a, len, cap, m, n, D, Pl, rfl, _, hl, hc, hm, rfl, hi⟩
  · refine ⟨[], .cons (.list rfl (Nat.le_refl _) (.inl rfl) (fun _ _ x hx => by cases hx) rfl (fun h => absurd rfl h) .nil) .nil, rfl, by simp, by simp⟩
  · have hml : len ≤ m := by rw [hm]; split <;> omega
    have hRe : ∀ i, i < len → ∀ n ∈ (D i).weights P e, n ≤ reachBytes := fun i hlt n hn => hR n (by
      simp only [DataW.weights, ht, List.mem_cons, List.mem_append]
      exact .inr (.inl (weightsAll_mem (List.mem_map.2 ⟨i, List.mem_range.2 hlt, rfl⟩) hn)))
    have main : ∀ k, k ≤ len → ∃ (l : List α) (vs : List Value), l.length = k ∧ RepPs P (pw w) ((l.map en).flatMap V.cells) vs ∧ ones ((l.map en).flatMap V.cells) = true ∧ (∀ x ∈ l, g x) ∧ vs.length = k * s ∧ LiesAt (pw w) a vs := by
      intro k
      induction k with
      | zero => intro _; exact ⟨[], [], rfl, .nil, rfl, by simp, by simp, fun j u hj => by simp at hj⟩
      | succ k ih =>
        intro hk
        obtain ⟨l, vs, h1, h2, h3, h4, h5, h6⟩ := ih (by omega)
        obtain ⟨cs', hcs, ht'⟩ := hi k (by omega)
        obtain ⟨y, hy1, hy2, hy3⟩ := h ht' (hRe k (by omega))
        obtain ⟨_, hcl, hat⟩ := World.cells?_some hcs
        refine ⟨l ++ [y], vs ++ cs', by simp [h1], ?_, ?_, ?_, ?_, ?_⟩
        · rw [List.map_append, List.flatMap_append]
          exact h2.app (by simpa using hy1)
        · rw [List.map_append, List.flatMap_append, ones_append, h3]
          simpa using hy2
        · intro z hz
          rcases List.mem_append.mp hz with hz | hz
          · exact h4 z hz
          · have : z = y := by simpa using hz
            subst this; exact hy3
        · rw [List.length_append, h5, hcl, hs, Nat.succ_mul]
        · intro j u hj
          rcases Nat.lt_or_ge j vs.length with hlt | hge
          · rw [List.getElem?_append_left hlt] at hj; exact h6 j u hj
          · rw [List.getElem?_append_right hge] at hj
            have hjl : j - vs.length < P.cellsOf e := by
              have := (List.getElem?_eq_some_iff.mp hj).1
              omega
            have h7 := hat (j - vs.length) hjl
            rw [hj] at h7
            have e1 : (a.add (k * P.cellsOf e)).add (j - vs.length) = a.add j := by
              rw [Deep.add_add]; congr 1; rw [hs]; omega
            rw [e1] at h7
            exact holds_pw h7
    obtain ⟨l, vs, h1, h2, h3, h4, h5, h6⟩ := main len (Nat.le_refl _)
    have hlen : len ≤ reachBytes := by
      have h8 := hR ((((List.range len).map D).length + ((List.range (m - len)).map fun j => D (len + j)).length) * P.bytesOf e) (by simp only [DataW.weights, ht, List.mem_cons, true_or])
      simp only [List.length_map, List.length_range] at h8
      have h9 : len * 1 ≤ (len + (m - len)) * P.bytesOf e := Nat.mul_le_mul (by omega) hby
      omega
    refine ⟨l, .cons (.list (by simp [h1]) hl (.inl rfl) ?_ h3 (fun _ => ⟨a, rfl, h6⟩) h2) .nil, rfl, by omega, h4⟩
    intro s' hs' x hx
    rw [hu] at hs'; obtain rfl := Option.some.inj hs'
    obtain ⟨y, _, rfl⟩ := List.mem_map.mp hx
    exact hsz y
theorem opV_fields {w : World} {base : Nat} {spare : Nat → Bool} {held : Bool} {fuel : Nat} {cs : List Value} {x : DataW H × List MemPlace} {fs : Array Field} (ht : P.underlying t = some (.struct fs)) (h : DataW.trod enc P w base spare held fuel t cs = some x) (hR : ∀ n ∈ x.1.weights P t, n ≤ reachBytes) :
    ∃ n, cs.length = P.cellsOf t ∧ ∀ (i : Nat) (f : Field), fs[i]? = some f → ∃ y, DataW.trod enc P w base spare held n f.type ((cs.drop f.offset).take (P.cellsOf f.type)) = some y ∧ ∀ n ∈ y.1.weights P f.type, n ≤ reachBytes := by
  obtain ⟨xs, n, _, hx0, hl, hx, hf⟩ := DataW.trod_struct ht h
  refine ⟨n, hl, fun i f hi => ?_⟩
  have hil : i < xs.length := by rw [hx]; exact (Array.getElem?_eq_some_iff.1 hi).1
  refine ⟨xs[i], (hf i f hi).trans (List.getElem?_eq_getElem hil), fun n hn => hR n ?_⟩
  rw [hx0]
  simp only [DataW.weights, ht]
  exact DataW.weights_mem_each (ts := fs.toList.map (·.type)) (ds := xs.map (·.1)) (t := f.type) (d := xs[i].1) (j := i) (by rw [List.getElem?_map, Array.getElem?_toList, hi]; rfl) (by rw [List.getElem?_map, List.getElem?_eq_getElem hil]; rfl) n hn
/-- One field's cells, then the rest. -/
theorem RepPs.step {p : Pr} {cs : List Value} {o n m : Nat} {xs ys : List V} (ha : RepPs P p xs ((cs.drop o).take n)) (hm : m = o + n) (hb : RepPs P p ys (cs.drop m)) : RepPs P p (xs ++ ys) (cs.drop o) := by
  have := ha.app (P := P) hb
  rw [hm, ← List.drop_drop, List.take_append_drop] at this
  exact this
end
end Go.Proofs.YtkbheoganajhaaaDoor.Vm
