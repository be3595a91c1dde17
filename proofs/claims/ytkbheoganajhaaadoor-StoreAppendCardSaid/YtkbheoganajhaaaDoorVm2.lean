/- Proved here: what the machine over pure data holds, a world of the model holds (the relation, and how it is kept). Conditions: none. -/
import Derived.Test.YtkbheoganajhaaaDoorVm1
set_option linter.unusedVariables false
set_option linter.unusedSimpArgs false
namespace Go.Proofs.YtkbheoganajhaaaDoor.Vm
open Go.RowKit

inductive All2 {α β : Type} (R : α → β → Prop) : List α → List β → Prop
  | nil : All2 R [] []
  | cons {x : α} {y : β} {xs : List α} {ys : List β} : R x y → All2 R xs ys → All2 R (x :: xs) (y :: ys)
namespace All2
variable {α β : Type} {R S : α → β → Prop} {xs : List α} {ys : List β}
theorem length (h : All2 R xs ys) : xs.length = ys.length := by
  induction h with
  | nil => rfl
  | cons _ _ ih => simp [ih]
theorem mono (h : All2 R xs ys) (hs : ∀ x y, R x y → S x y) : All2 S xs ys := by
  induction h with
  | nil => exact .nil
  | cons h _ ih => exact .cons (hs _ _ h) ih
theorem get (h : All2 R xs ys) : ∀ {i : Nat} {x : α}, xs[i]? = some x → ∃ y, ys[i]? = some y ∧ R x y := by
  induction h with
  | nil => intro i x hx; simp at hx
  | cons h _ ih =>
    intro i x hx
    cases i with
    | zero => simp at hx; subst hx; exact ⟨_, rfl, h⟩
    | succ i => simpa using ih (by simpa using hx)
theorem get' (h : All2 R xs ys) : ∀ {i : Nat} {y : β}, ys[i]? = some y → ∃ x, xs[i]? = some x ∧ R x y := by
  induction h with
  | nil => intro i x hx; simp at hx
  | cons h _ ih =>
    intro i x hx
    cases i with
    | zero => simp at hx; subst hx; exact ⟨_, rfl, h⟩
    | succ i => simpa using ih (by simpa using hx)
theorem append {xs' : List α} {ys' : List β} (h : All2 R xs ys) (h' : All2 R xs' ys') : All2 R (xs ++ xs') (ys ++ ys') := by
  induction h with
  | nil => exact h'
  | cons h _ ih => exact .cons h ih
theorem take (h : All2 R xs ys) : ∀ n, All2 R (xs.take n) (ys.take n) := by
  induction h with
  | nil => intro n; simpa using .nil
  | cons h _ ih =>
    intro n
    cases n with
    | zero => exact .nil
    | succ n => exact .cons h (ih n)
theorem drop (h : All2 R xs ys) : ∀ n, All2 R (xs.drop n) (ys.drop n) := by
  induction h with
  | nil => intro n; simpa using .nil
  | cons h t ih =>
    intro n
    cases n with
    | zero => exact .cons h t
    | succ n => exact ih n
theorem split {xs' : List α} (h : All2 R (xs ++ xs') ys) : ∃ ys1 ys2, ys = ys1 ++ ys2 ∧ All2 R xs ys1 ∧ All2 R xs' ys2 := by
  refine ⟨ys.take xs.length, ys.drop xs.length, (List.take_append_drop _ _).symm, ?_, ?_⟩
  · have := h.take xs.length; simpa using this
  · have := h.drop xs.length; simpa using this
theorem of_get (hl : xs.length = ys.length) (h : ∀ (i : Nat) (x : α) (y : β), xs[i]? = some x → ys[i]? = some y → R x y) : All2 R xs ys := by
  induction xs generalizing ys with
  | nil => cases ys with | nil => exact .nil | cons => simp at hl
  | cons x xs ih =>
    cases ys with
    | nil => simp at hl
    | cons y ys => exact .cons (h 0 x y rfl rfl) (ih (by simpa using hl) fun i a b ha hb => h (i + 1) a b (by simpa using ha) (by simpa using hb))
theorem set (h : All2 R xs ys) {x : α} {y : β} (hr : R x y) : ∀ i, All2 R (xs.set i x) (ys.set i y) := by
  induction h with
  | nil => intro i; simpa using .nil
  | cons h t ih =>
    intro i
    cases i with
    | zero => exact .cons hr t
    | succ i => exact .cons h (ih i)
theorem map {γ δ : Type} {f : γ → α} {g : δ → β} {as : List γ} {bs : List δ} (h : All2 (fun a b => R (f a) (g b)) as bs) : All2 R (as.map f) (bs.map g) := by
  induction h with
  | nil => exact .nil
  | cons h _ ih => exact .cons h ih
end All2

abbrev Pr := Nat → Nat → Option Value
def Holds (p : Pr) (a : Addr) (u : Value) : Prop := a.spot = none ∧ p a.block a.off = some u
def LiesAt (p : Pr) (a : Addr) (vs : List Value) : Prop := ∀ j u, vs[j]? = some u → Holds p (a.add j) u

mutual
inductive RepP (P : Program) (p : Pr) : V → Value → Prop
  | sc (v : Value) : RepP P p (.sc v) v
  | agg {cs : List V} {vs : List Value} : ones cs = true → RepPs P p cs vs → RepP P p (.agg cs) (.agg vs.toArray)
  | list {e : TypeId} {xs : List V} {r : Nat} {A : Option Addr} {n c : Nat} {vs : List Value} : xs.length = n → n ≤ c → (r = 0 ∨ (r = 1 ∧ A = none ∧ n = 0 ∧ c = 0)) → (∀ s, usz P e = some s → ∀ x ∈ xs, x.cells.length = s) →
      ones (xs.flatMap V.cells) = true → (vs ≠ [] → ∃ ad, A = some ad ∧ LiesAt p ad vs) → RepPs P p (xs.flatMap V.cells) vs → RepP P p (.list e xs r) (.slice A n c)
  | cp {cs : List V} {vs : List Value} {ad : Addr} : ones cs = true → LiesAt p ad vs → RepPs P p cs vs → RepP P p (.cp cs) (.pointer (some ad))
  | fn (f : Fn) : RepP P p (.fn f [] []) (.func f #[] #[])
inductive RepPs (P : Program) (p : Pr) : List V → List Value → Prop
  | nil : RepPs P p [] []
  | cons {x : V} {v : Value} {xs : List V} {vs : List Value} : RepP P p x v → RepPs P p xs vs → RepPs P p (x :: xs) (v :: vs)
end

section
variable {P : Program} {p p' : Pr}
theorem RepPs.all2 {xs : List V} {vs : List Value} (h : RepPs P p xs vs) : All2 (RepP P p) xs vs := by
  induction xs generalizing vs with
  | nil => cases h; exact .nil
  | cons x xs ih => cases h with | cons h t => exact .cons h (ih t)
theorem RepPs.of {xs : List V} {vs : List Value} (h : All2 (RepP P p) xs vs) : RepPs P p xs vs := by
  induction h with
  | nil => exact .nil
  | cons h _ ih => exact .cons h ih
theorem LiesAt.mono (hp : ∀ b o v, p b o = some v → p' b o = some v) {a : Addr} {vs : List Value} (h : LiesAt p a vs) : LiesAt p' a vs := fun j u hj => ⟨(h j u hj).1, hp _ _ _ (h j u hj).2⟩
theorem RepP.mono (hp : ∀ b o v, p b o = some v → p' b o = some v) {x : V} {v : Value} (h : RepP P p x v) : RepP P p' x v :=
  RepP.rec (motive_1 := fun x v _ => RepP P p' x v) (motive_2 := fun xs vs _ => RepPs P p' xs vs)
    (fun v => .sc v) (fun h1 _ ih => .agg h1 ih) (fun h1 h2 h3 h4 h5 h6 _ ih => .list h1 h2 h3 h4 h5 (fun hv => by obtain ⟨ad, h, k⟩ := h6 hv; exact ⟨ad, h, k.mono hp⟩) ih)
    (fun h1 h2 _ ih => .cp h1 (h2.mono hp) ih) (fun f => .fn f) .nil (fun _ _ h1 h2 => .cons h1 h2) h
theorem RepPs.mono (hp : ∀ b o v, p b o = some v → p' b o = some v) {xs : List V} {vs : List Value} (h : RepPs P p xs vs) : RepPs P p' xs vs := .of (h.all2.mono fun _ _ => RepP.mono hp)
theorem RepP.one {x : V} {v : Value} (h : RepP P p x v) (h1 : x.one = true) : v.oneCell' = true := by
  cases h <;> first | exact h1 | rfl | (simp [V.one] at h1)
theorem ones_get {cs : List V} (h : ones cs = true) {i : Nat} {c : V} (hc : cs[i]? = some c) : c.one = true := List.all_eq_true.1 h c (List.mem_of_getElem? hc)
theorem ones_append {cs ds : List V} : ones (cs ++ ds) = (ones cs && ones ds) := by simp [ones, List.all_append]
theorem ones_take {cs : List V} (h : ones cs = true) (n : Nat) : ones (cs.take n) = true := List.all_eq_true.2 fun c hc => List.all_eq_true.1 h c (List.mem_of_mem_take hc)
theorem ones_drop {cs : List V} (h : ones cs = true) (n : Nat) : ones (cs.drop n) = true := List.all_eq_true.2 fun c hc => List.all_eq_true.1 h c (List.mem_of_mem_drop hc)
end

/-- What is known beside the data: base: the blocks from here on are the call's own; pr: cells that never turn again; bx: where an object lies; tl: where a row with a right lies now. -/
structure Gh where
  base : Nat
  w0 : World × List Deferred
  pr : Pr
  bx : Nat → Option Nat
  tl : Nat → Option Value
def vlen : Value → Nat
  | .slice _ n _ => n
  | _ => 0
structure Gh.le (G G' : Gh) : Prop where
  base : G'.base = G.base
  w0 : G'.w0 = G.w0
  pr : ∀ b o v, G.pr b o = some v → G'.pr b o = some v
  bx : ∀ i b, G.bx i = some b → G'.bx i = some b
  tl : ∀ t v, G.tl t = some v → ∃ v', G'.tl t = some v' ∧ vlen v ≤ vlen v' ∧ (vlen v = vlen v' → v' = v) ∧ (G.bx t ≠ none → v' = v)
  low : ∀ b o, b < G.base → G'.pr b o = G.pr b o
theorem Gh.le.refl (G : Gh) : G.le G := ⟨rfl, rfl, fun _ _ _ h => h, fun _ _ h => h, fun _ v h => ⟨v, h, Nat.le_refl _, fun _ => rfl, fun _ => rfl⟩, fun _ _ _ => rfl⟩
theorem Gh.le.trans {G G' G'' : Gh} (h : G.le G') (k : G'.le G'') : G.le G'' :=
  ⟨k.base.trans h.base, k.w0.trans h.w0, fun b o v q => k.pr b o v (h.pr b o v q), fun i b q => k.bx i b (h.bx i b q), fun t v q => by
    obtain ⟨v', h1, h2, h3, h4⟩ := h.tl t v q
    obtain ⟨v'', k1, k2, k3, k4⟩ := k.tl t v' h1
    exact ⟨v'', k1, Nat.le_trans h2 k2, fun e => by
      have e1 : vlen v = vlen v' := by omega
      have e2 : vlen v' = vlen v'' := by omega
      rw [k3 e2, h3 e1], fun hb => by
      have h5 := h4 hb
      have h6 : G'.bx t ≠ none := by
        cases hc : G.bx t with
        | none => exact absurd hc hb
        | some b => rw [h.bx t b hc]; simp
      rw [k4 h6, h5]⟩, fun b o hb => (k.low b o (by rw [h.base]; exact hb)).trans (h.low b o hb)⟩

mutual
inductive Rep (P : Program) (G : Gh) : V → Value → Prop
  | pure {x : V} {v : Value} : RepP P G.pr x v → Rep P G x v
  | tok {e : TypeId} {xs : List V} {t : Nat} {A : Option Addr} {n c : Nat} {v0 : Value} : 8 ≤ t → RepP P G.pr (.list e xs 0) (.slice A n c) → G.tl t = some v0 → n ≤ vlen v0 → (n = vlen v0 → v0 = .slice A n c) → Rep P G (.list e xs t) (.slice A n c)
  | ptr {id off b : Nat} : G.bx id = some b → Rep P G (.ptr id off) (.pointer (some ⟨b, off, none⟩))
  | map {id b : Nat} : G.bx id = some b → Rep P G (.map id) (.map (some b))
  | agg {cs : List V} {vs : List Value} : ones cs = true → Reps P G cs vs → Rep P G (.agg cs) (.agg vs.toArray)
  | tup {cs : List V} {vs : List Value} : Reps P G cs vs → Rep P G (.tup cs) (.tuple vs.toArray)
  | fn {f : Fn} {a b : List V} {us ws : List Value} : Reps P G a us → Reps P G b ws → Rep P G (.fn f a b) (.func f us.toArray ws.toArray)
  | ifc {t : TypeId} {x : V} {v : Value} : Rep P G x v → Rep P G (.ifc t x) (.iface t v)
  | sl {e s id off n b N C c : Nat} {g : Bool} {A : Option Addr} : G.bx id = some b → G.tl id = some (.slice (some ⟨b, 0, none⟩) N C) → usz P e = some s → uagg P e = some g → 0 < s → off + n ≤ N → n ≤ c → (0 < n → A = some ⟨b, off * s, none⟩) →
      (off = 0 → n = N → A = some ⟨b, 0, none⟩ ∧ c = C) → (g = false → s = 1) → Rep P G (.sl e g s id off n) (.slice A n c)
  | emp {e : TypeId} {A : Option Addr} : Rep P G (.emp e) (.slice A 0 0)
inductive Reps (P : Program) (G : Gh) : List V → List Value → Prop
  | nil : Reps P G [] []
  | cons {x : V} {v : Value} {xs : List V} {vs : List Value} : Rep P G x v → Reps P G xs vs → Reps P G (x :: xs) (v :: vs)
end
section
variable {P : Program} {G G' : Gh}
theorem Reps.all2 {xs : List V} {vs : List Value} (h : Reps P G xs vs) : All2 (Rep P G) xs vs := by
  induction xs generalizing vs with
  | nil => cases h; exact .nil
  | cons x xs ih => cases h with | cons h t => exact .cons h (ih t)
theorem Reps.of {xs : List V} {vs : List Value} (h : All2 (Rep P G) xs vs) : Reps P G xs vs := by
  induction h with
  | nil => exact .nil
  | cons h _ ih => exact .cons h ih
theorem Rep.mono (hg : G.le G') {x : V} {v : Value} (h : Rep P G x v) : Rep P G' x v :=
  Rep.rec (motive_1 := fun x v _ => Rep P G' x v) (motive_2 := fun xs vs _ => Reps P G' xs vs)
    (fun h => .pure (h.mono hg.pr))
    (fun h1 h2 h3 h4 h5 => by
      obtain ⟨v', k1, k2, k3, _⟩ := hg.tl _ _ h3
      exact .tok h1 (h2.mono hg.pr) k1 (Nat.le_trans h4 k2) fun e => by rw [k3 (by omega)]; exact h5 (by omega))
    (fun h => .ptr (hg.bx _ _ h)) (fun h => .map (hg.bx _ _ h)) (fun h1 _ ih => .agg h1 ih) (fun _ ih => .tup ih) (fun _ _ h1 h2 => .fn h1 h2) (fun _ ih => .ifc ih)
    (fun h1 h2 h3 h4 h5 h6 h7 h8 h9 h10 => by
      obtain ⟨v', k1, _, _, k2⟩ := hg.tl _ _ h2
      rw [k2 (by rw [h1]; simp)] at k1
      exact .sl (hg.bx _ _ h1) k1 h3 h4 h5 h6 h7 h8 h9 h10) .emp .nil (fun _ _ h1 h2 => .cons h1 h2) h
theorem Rep.one {x : V} {v : Value} (h : Rep P G x v) (h1 : x.one = true) : v.oneCell' = true := by
  cases h <;> first | exact RepP.one ‹_› h1 | rfl | (simp [V.one] at h1)
/-- What leads to no memory that may turn. -/
theorem RepPs.reps {xs : List V} {vs : List Value} (h : RepPs P G.pr xs vs) : All2 (Rep P G) xs vs := h.all2.mono fun _ _ => .pure
theorem rep_pur1 {x y : V} {v : Value} (h : Rep P G x v) (hy : x.pur1? = some y) : RepP P G.pr y v := by
  cases h with
  | pure h =>
    cases h with
    | sc v => simp [V.pur1?] at hy; subst hy; exact .sc v
    | agg => simp [V.pur1?] at hy
    | list h1 h2 h3 h4 h5 h6 h7 =>
      simp [V.pur1?] at hy; subst hy
      refine .list h1 h2 ?_ h4 h5 h6 h7
      rcases h3 with rfl | ⟨rfl, h⟩
      · exact .inl rfl
      · exact .inr ⟨rfl, h⟩
    | cp h1 h2 h3 => simp [V.pur1?] at hy; subst hy; exact .cp h1 h2 h3
    | fn f => simp [V.pur1?] at hy; subst hy; exact .fn f
  | tok h1 h2 =>
    simp only [V.pur1?, Option.some.injEq] at hy
    rw [if_neg (by omega)] at hy
    subst hy; exact h2
  | ptr => simp [V.pur1?] at hy
  | map => simp [V.pur1?] at hy
  | agg => simp [V.pur1?] at hy
  | tup => simp [V.pur1?] at hy
  | fn ha hb =>
    rename_i f a b us ws
    cases a with
    | cons => simp [V.pur1?] at hy
    | nil => cases b with
      | cons => simp [V.pur1?] at hy
      | nil => simp [V.pur1?] at hy; subst hy; cases ha; cases hb; exact .fn f
  | ifc => simp [V.pur1?] at hy
  | sl => simp [V.pur1?] at hy
  | emp => simp [V.pur1?] at hy
theorem mapM_some {α β : Type} {f : α → Option β} : ∀ {l : List α} {r : List β}, l.mapM f = some r → All2 (fun a b => f a = some b) l r
  | [], r, h => by simp at h; subst h; exact .nil
  | a :: l, r, h => by
    rw [List.mapM_cons] at h
    simp only [Option.bind_eq_bind, Option.bind_eq_some_iff] at h
    obtain ⟨b, hb, bs, hbs, h⟩ := h
    simp at h
    subst h
    exact .cons hb (mapM_some hbs)
theorem All2.trans2 {α β γ : Type} {R : α → β → Prop} {S : α → γ → Prop} {T : β → γ → Prop} (ht : ∀ a b c, R a b → S a c → T b c) {as : List α} {bs : List β} {cs : List γ} (h : All2 R as bs) (k : All2 S as cs) : All2 T bs cs := by
  induction h generalizing cs with
  | nil => cases k; exact .nil
  | cons h _ ih => cases k with | cons k1 k2 => exact .cons (ht _ _ _ h k1) (ih k2)
theorem pur1_one {x y : V} (h : x.pur1? = some y) : y.one = true ∨ ∃ v, y = .sc v ∧ x = .sc v := by
  cases x <;> simp [V.pur1?] at h
  · subst h; exact .inr ⟨_, rfl, rfl⟩
  · subst h; exact .inl rfl
  · subst h; exact .inl rfl
  · rename_i f a b
    cases a <;> cases b <;> simp [V.pur1?] at h
    subst h; exact .inl rfl
theorem pur1_ones {xs ys : List V} (h : xs.mapM V.pur1? = some ys) (h1 : ones xs = true) : ones ys = true := by
  refine List.all_eq_true.2 fun y hy => ?_
  obtain ⟨i, hi⟩ := List.getElem?_of_mem hy
  obtain ⟨x, hx, hxy⟩ := (mapM_some h).get' hi
  rcases pur1_one hxy with h | ⟨v, rfl, rfl⟩
  · exact h
  · exact ones_get h1 hx
theorem rep_pur {x y : V} {v : Value} (h : Rep P G x v) (hy : x.pur? = some y) : RepP P G.pr y v := by
  unfold V.pur? at hy
  split at hy
  · rename_i cs
    rw [Option.map_eq_some_iff] at hy
    obtain ⟨ds, hds, rfl⟩ := hy
    cases h with
    | pure h => cases h with
      | agg h1 h2 => exact .agg (pur1_ones hds h1) (.of (All2.trans2 (S := RepP P G.pr) (T := RepP P G.pr) (fun a b c ha hb => rep_pur1 (P := P) (G := G) (.pure hb) ha) (mapM_some hds) h2.all2))
    | agg h1 h2 => exact .agg (pur1_ones hds h1) (.of (All2.trans2 (S := Rep P G) (T := RepP P G.pr) (fun a b c ha hb => rep_pur1 (P := P) (G := G) hb ha) (mapM_some hds) h2.all2))
  · exact rep_pur1 h hy
end

/-! ### The world holds what the state says -/
section
variable (P : Program)
def ObOK (G : Gh) (w : World) (i : Nat) : Ob → Prop
  | .cells cs => ∃ b arr T, G.bx i = some b ∧ G.base ≤ b ∧ w.heap[b]? = some (.cells arr T (0, 0)) ∧ ones cs = true ∧ All2 (Rep P G) cs arr.toList
  | .map es => ∃ b arr clk, G.bx i = some b ∧ G.base ≤ b ∧ w.heap[b]? = some (.map arr clk) ∧ All2 (fun e m => Rep P G e.1 m.key ∧ Rep P G e.2 m.val) es arr.toList
  | .iter s pos => ∃ b, G.bx i = some b ∧ G.base ≤ b ∧ w.heap[b]? = some (.stringIter s pos)
  | .tok n e => ∃ v s vs, G.tl i = some v ∧ usz P e = some s ∧ w.ownsRow G.base e s v n vs ∧ G.bx i = none
  | .row e s n cs => ∃ v vs b, G.tl i = some v ∧ v.ownBlock = some b ∧ G.bx i = some b ∧ usz P e = some s ∧ 0 < s ∧ w.ownsRow G.base e s v n vs ∧ ones cs = true ∧ All2 (Rep P G) cs vs
  | .frz ds => ∃ b vs, G.bx i = some b ∧ ones ds = true ∧ All2 (RepP P G.pr) ds vs ∧ ∀ j u, vs[j]? = some u → G.pr b j = some u
def blk (G : Gh) (st : St) (i : Nat) : Option Nat :=
  match st i with
  | some (.tok ..) => (G.tl i).bind Value.ownBlock
  | some (.frz _) => none
  | some _ => G.bx i
  | none => none
structure Inv (G : Gh) (st : St) (w : World) : Prop where
  below : Below G.base G.w0.1 w
  size : G.base ≤ w.heap.size
  prot : ∀ b o v, G.pr b o = some v → w.cell? ⟨b, o, none⟩ = some v
  objs : ∀ i ob, st i = some ob → ObOK P G w i ob
  apart : ∀ i j b, blk G st i = some b → blk G st j = some b → i = j
  free : ∀ i b, blk G st i = some b → ∀ o v, G.pr b o = some v → ∃ n e s, st i = some (.tok n e) ∧ usz P e = some s ∧ o < n * s
end
section
variable {P : Program} {G G' : Gh} {st st' : St} {w w' : World}
theorem All2.rep_mono (hg : G.le G') {xs : List V} {vs : List Value} (h : All2 (Rep P G) xs vs) : All2 (Rep P G') xs vs := h.mono fun _ _ => Rep.mono hg
/-- An object of a block that stays is what it was. -/
theorem ObOK.kept {i : Nat} {ob : Ob} (h : ObOK P G w i ob) (hg : G.le G') (htl : G'.tl i = G.tl i) (hbx : G'.bx i = G.bx i) (hb : ∀ b, (match ob with | .tok .. => (G.tl i).bind Value.ownBlock | .frz _ => none | _ => G.bx i) = some b → w'.heap[b]? = w.heap[b]?) : ObOK P G' w' i ob := by
  cases ob with
  | cells cs =>
    obtain ⟨b, arr, T, h1, h2, h3, h4, h5⟩ := h
    exact ⟨b, arr, T, hg.bx _ _ h1, by rw [hg.base]; exact h2, (hb b h1).trans h3, h4, h5.rep_mono hg⟩
  | map es =>
    obtain ⟨b, arr, T, h1, h2, h3, h4⟩ := h
    exact ⟨b, arr, T, hg.bx _ _ h1, by rw [hg.base]; exact h2, (hb b h1).trans h3, h4.mono fun _ _ q => ⟨q.1.mono hg, q.2.mono hg⟩⟩
  | iter s pos =>
    obtain ⟨b, h1, h2, h3⟩ := h
    exact ⟨b, hg.bx _ _ h1, by rw [hg.base]; exact h2, (hb b h1).trans h3⟩
  | tok n e =>
    obtain ⟨v, s, vs, h1, h2, ⟨h3, h4⟩, h5⟩ := h
    refine ⟨v, s, vs, htl.trans h1, h2, ⟨h3, ?_⟩, hbx.trans h5⟩
    rcases h4 with h4 | ⟨g, cap, cur, hv, hb1, hh, hr⟩
    · exact .inl h4
    · refine .inr ⟨g, cap, cur, hv, by rw [hg.base]; exact hb1, ?_, hr⟩
      rw [hb g (by simp [h1, hv, Value.ownBlock])]
      exact hh
  | row e s n cs =>
    obtain ⟨v, vs, b, h1, h2, h3, h4, h5, ⟨h6, h7⟩, h8, h9⟩ := h
    refine ⟨v, vs, b, htl.trans h1, h2, hbx.trans h3, h4, h5, ⟨h6, ?_⟩, h8, h9.rep_mono hg⟩
    rcases h7 with h7 | ⟨g, cap, cur, hv, hb1, hh, hr⟩
    · exact .inl h7
    · refine .inr ⟨g, cap, cur, hv, by rw [hg.base]; exact hb1, ?_, hr⟩
      have : g = b := by rw [hv] at h2; simpa [Value.ownBlock] using h2
      rw [hb g (by rw [this]; exact h3)]
      exact hh
  | frz ds =>
    obtain ⟨b, vs, h1, h2, h3, h4⟩ := h
    exact ⟨b, vs, hg.bx _ _ h1, h2, h3.mono fun _ _ => RepP.mono hg.pr, fun j u hj => hg.pr _ _ _ (h4 j u hj)⟩
/-- One object turns, or is new, or no more; cells may become such that never turn. -/
theorem Inv.go (h : Inv P G st w) (hg : G.le G') (hbel : Below G.base w w') (hprot : ∀ b o v, G'.pr b o = some v → w'.cell? ⟨b, o, none⟩ = some v) (i : Nat)
    (hst : ∀ j, j ≠ i → st' j = st j) (hbx : ∀ j, j ≠ i → G'.bx j = G.bx j) (htl : ∀ j, j ≠ i → G'.tl j = G.tl j)
    (hblk : ∀ j b, j ≠ i → blk G st j = some b → w'.heap[b]? = w.heap[b]?)
    (hob : ∀ ob, st' i = some ob → ObOK P G' w' i ob)
    (hap : ∀ j b, j ≠ i → blk G st j = some b → blk G' st' i ≠ some b)
    (hfi : ∀ b, blk G' st' i = some b → ∀ o v, G'.pr b o = some v → ∃ n e s, st' i = some (.tok n e) ∧ usz P e = some s ∧ o < n * s)
    (hfr : ∀ j b, j ≠ i → blk G st j = some b → ∀ o v, G'.pr b o = some v → G.pr b o = some v) : Inv P G' st' w' := by
  have hbl : ∀ j, j ≠ i → blk G' st' j = blk G st j := fun j hj => by unfold blk; rw [hst j hj, hbx j hj, htl j hj]
  refine ⟨by rw [hg.base, hg.w0]; exact h.below.trans hbel, by rw [hg.base]; exact Nat.le_trans h.size hbel.size, hprot, fun j ob hj => ?_, fun a c b ha hc => ?_, fun j b hj o v hv => ?_⟩
  · by_cases hji : j = i
    · subst hji; exact hob ob hj
    · rw [hst j hji] at hj
      refine (h.objs j ob hj).kept hg (htl j hji) (hbx j hji) fun b hb => hblk j b hji ?_
      unfold blk; rw [hj]
      cases ob <;> exact hb
  · by_cases ha' : a = i
    · subst ha'
      by_cases hc' : c = a
      · exact hc'.symm
      · rw [hbl c hc'] at hc; exact absurd ha (hap c b hc' hc)
    · by_cases hc' : c = i
      · subst hc'
        rw [hbl a ha'] at ha; exact absurd hc (hap a b ha' ha)
      · rw [hbl a ha'] at ha; rw [hbl c hc'] at hc
        exact h.apart a c b ha hc
  · by_cases hji : j = i
    · subst hji; exact hfi b hj o v hv
    · rw [hbl j hji] at hj
      rw [hst j hji]
      exact h.free j b hj o v (hfr j b hji hj o v hv)
theorem Inv.blk_lt (h : Inv P G st w) {i b : Nat} (hb : blk G st i = some b) : b < w.heap.size ∧ G.base ≤ b := by
  unfold blk at hb
  cases hs : st i with
  | none => rw [hs] at hb; simp at hb
  | some ob =>
    rw [hs] at hb
    have ho := h.objs i ob hs
    cases ob with
    | cells cs => obtain ⟨b', arr, T, h1, h2, h3, _⟩ := ho; simp [h1] at hb; subst hb; exact ⟨(Array.getElem?_eq_some_iff.1 h3).1, h2⟩
    | map cs => obtain ⟨b', arr, T, h1, h2, h3, _⟩ := ho; simp [h1] at hb; subst hb; exact ⟨(Array.getElem?_eq_some_iff.1 h3).1, h2⟩
    | iter s p => obtain ⟨b', h1, h2, h3⟩ := ho; simp [h1] at hb; subst hb; exact ⟨(Array.getElem?_eq_some_iff.1 h3).1, h2⟩
    | tok n e =>
      obtain ⟨v, s, vs, h1, h2, h3, _⟩ := ho
      simp [h1] at hb
      have := h3.lt b hb
      exact ⟨this.2, this.1⟩
    | row e s n cs =>
      obtain ⟨v, vs, b', h1, h2, h3, h4, h5, h6, _⟩ := ho
      simp [h3] at hb
      subst hb
      have := h6.lt b' h2
      exact ⟨this.2, this.1⟩
    | frz ds => simp at hb
theorem Inv.pr_lt (h : Inv P G st w) {b o : Nat} {v : Value} (hv : G.pr b o = some v) : b < w.heap.size := World.block_lt_of_cell? w _ (h.prot b o v hv)
theorem cell_same {w w' : World} {b o : Nat} (h : w'.heap[b]? = w.heap[b]?) : w'.cell? ⟨b, o, none⟩ = w.cell? ⟨b, o, none⟩ := World.cell?_of_block (a := ⟨b, o, none⟩) h
/-- Orders drawn, and whatever else lies outside the heap. -/
theorem Inv.heap (h : Inv P G st w) (hh : w'.heap = w.heap) (ho : w'.os = w.os) (ht : w'.tape = w.tape) (hp : w'.output = w.output) : Inv P G st w' := by
  refine ⟨h.below.trans ⟨ho, ht, hp, by rw [hh]; exact Nat.le_refl _, fun k _ => by rw [hh]⟩, by rw [hh]; exact h.size, fun b o v hv => ?_, fun i ob hi => ?_, h.apart, h.free⟩
  · exact (cell_same (w := w) (w' := w') (by rw [hh])).trans (h.prot b o v hv)
  · exact (h.objs i ob hi).kept (.refl G) rfl rfl fun b _ => by rw [hh]
theorem Inv.drew (h : Inv P G st w) (n : Nat) : Inv P G st { w with drawn := w.drawn + n } := h.heap rfl rfl rfl rfl
/-- A block that bears a new object. -/
theorem Inv.new (h : Inv P G st w) (o : Obj) (i : Nat) (ob : Ob) (hi : G.bx i = none) (hs : st i = none) (hnt : (∀ n e, ob ≠ .tok n e) ∧ ∀ ds, ob ≠ .frz ds)
    (hob : ObOK P { G with bx := upd G.bx i (some w.heap.size) } (w.alloc o) i ob) :
    G.le { G with bx := upd G.bx i (some w.heap.size) } ∧ Inv P { G with bx := upd G.bx i (some w.heap.size) } (upd st i (some ob)) (w.alloc o) := by
  have hle : G.le { G with bx := upd G.bx i (some w.heap.size) } := ⟨rfl, rfl, fun _ _ _ q => q, fun j b q => by
    simp only [upd]; split
    · rename_i e; subst e; rw [hi] at q; cases q
    · exact q, fun _ v q => ⟨v, q, Nat.le_refl _, fun _ => rfl, fun _ => rfl⟩, fun _ _ _ => rfl⟩
  have hblk : ∀ b, blk { G with bx := upd G.bx i (some w.heap.size) } (upd st i (some ob)) i = some b → b = w.heap.size := fun b hb => by
    unfold blk at hb
    simp only [upd, if_true] at hb
    cases ob with
    | tok n e => exact absurd rfl (hnt.1 n e)
    | frz ds => exact absurd rfl (hnt.2 ds)
    | _ => simpa using hb.symm
  refine ⟨hle, h.go hle ((Below.refl _ _).alloc h.size o) (fun b o' v hv => ?_) i (fun j hj => by simp [upd, hj]) (fun j hj => by simp [upd, hj]) (fun j _ => rfl) (fun j b _ hb => Below.heap_alloc w o b (h.blk_lt hb).1)
    (fun ob' hob' => by simp [upd] at hob'; subst hob'; exact hob) (fun j b _ hb hb' => ?_) (fun b hb o' v hv => ?_) (fun _ _ _ _ _ _ hv => hv)⟩
  · rw [cell_same (Below.heap_alloc w o b (h.pr_lt hv))]; exact h.prot b o' v hv
  · have := hblk b hb'
    have := (h.blk_lt hb).1
    omega
  · have := hblk b hb
    have := h.pr_lt (b := b) (o := o') (v := v) hv
    omega
/-- An object turns in its block. -/
theorem Inv.set (h : Inv P G st w) (i : Nat) (ob ob' : Ob) (b : Nat) (hs : st i = some ob) (hb : G.bx i = some b) (hnt : (∀ n e, ob ≠ .tok n e) ∧ ∀ ds, ob ≠ .frz ds) (hnt' : (∀ n e, ob' ≠ .tok n e) ∧ ∀ ds, ob' ≠ .frz ds)
    (hbase : G.base ≤ b) (hh : ∀ k, k ≠ b → w'.heap[k]? = w.heap[k]?) (hsz : w.heap.size = w'.heap.size) (ho : w'.os = w.os) (ht : w'.tape = w.tape) (hp : w'.output = w.output)
    (hob : ObOK P G w' i ob') : Inv P G (upd st i (some ob')) w' := by
  have hbi : blk G st i = some b := by
    unfold blk; rw [hs]
    cases ob with
    | tok n e => exact absurd rfl (hnt.1 n e)
    | frz ds => exact absurd rfl (hnt.2 ds)
    | _ => exact hb
  have hbi' : blk G (upd st i (some ob')) i = some b := by
    unfold blk; simp only [upd, if_true]
    cases ob' with
    | tok n e => exact absurd rfl (hnt'.1 n e)
    | frz ds => exact absurd rfl (hnt'.2 ds)
    | _ => exact hb
  have hnp : ∀ o v, G.pr b o = some v → False := fun o v hv => by
    obtain ⟨n, e, s, h1, _⟩ := h.free i b hbi o v hv
    rw [hs] at h1
    exact hnt.1 n e (Option.some.inj h1)
  refine h.go (.refl G) ⟨ho, ht, hp, by omega, fun k hk => hh k (by omega)⟩ (fun c o v hv => ?_) i (fun j hj => by simp [upd, hj]) (fun _ _ => rfl) (fun _ _ => rfl) (fun j c hj hc => hh c fun e => hj (by subst e; exact h.apart j i c hc hbi))
    (fun ob2 h2 => by simp [upd] at h2; subst h2; exact hob) (fun j c hj hc hc' => hj ?_) (fun c hc o v hv => ?_) (fun _ _ _ _ _ _ hv => hv)
  · have hcb : c ≠ b := fun e => by subst e; exact hnp o v hv
    rw [cell_same (hh c hcb)]; exact h.prot c o v hv
  · rw [hbi'] at hc'; obtain rfl := Option.some.inj hc'; exact h.apart j i b hc hbi
  · rw [hbi'] at hc; obtain rfl := Option.some.inj hc; exact (hnp o v hv).elim
end
end Go.Proofs.YtkbheoganajhaaaDoor.Vm
