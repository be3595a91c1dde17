/- Proved here: every operation of the machine over pure data is met by the model's operation, calls among them. Conditions: none. -/
import Derived.Test.YtojbkakdhfmjmaaDoorVm10
set_option linter.unusedVariables false
set_option linter.unusedSimpArgs false
namespace Go.Proofs.YtojbkakdhfmjmaaDoor.Vm
open Go.RowKit
section
variable (P : Program)
structure ProgOK : Prop where
  ng : P.funcs.all (fun fn => fn.name != "runtime.NumGoroutine") = true
  mix : P.follows .mixedOrders = true
def Ext (p p' : Pr) (w w' : World) : Prop := (∀ b o v, p b o = some v → p' b o = some v) ∧ (∀ b o v, p' b o = some v → w'.cell? ⟨b, o, none⟩ = some v) ∧ (∀ b o, b < w.heap.size → p' b o = p b o)
def isOwn : V → Bool
  | .list _ _ r => decide (8 ≤ r)
  | _ => false
/-- One result, its right told by its mark. -/
def Ret1 (B : Nat) (p : Pr) (w : World) (y : V) (v : Value) : Prop :=
  (isOwn y = false ∧ RepP P p y v) ∨
  ∃ e xs s vs, y = .list e xs (8 + e) ∧ usz P e = some s ∧ w.ownsRow B e s v xs.length vs ∧ All2 (RepP P p) (xs.flatMap V.cells) vs ∧ (∀ x ∈ xs, x.cells.length = s) ∧ ones (xs.flatMap V.cells) = true ∧
    (∀ b, v.ownBlock = some b → ∀ o, o < xs.length * s → p b o = vs[o]?) ∧ (∀ b, v.ownBlock = some b → ∀ o u, p b o = some u → o < xs.length * s)
def RetOK (B : Nat) (p : Pr) (w : World) (y : V) (v : Value) : Prop :=
  match y with
  | .tup ys => ∃ us, v = .tuple us.toArray ∧ ys.length ≤ 8 ∧ All2 (Ret1 P B p w) ys us ∧
      ∀ (i j : Nat) yi yj ui uj b, i ≠ j → ys[i]? = some yi → ys[j]? = some yj → us[i]? = some ui → us[j]? = some uj → isOwn yi = true → isOwn yj = true → Value.ownBlock ui = some b → Value.ownBlock uj = some b → False
  | y => Ret1 P B p w y v
def PlPost (p : Pr) (w : World) : CR → Ending → World → Prop
  | .ret y, e, w' => ∃ v p', e = .returned v ∧ Below w.heap.size w w' ∧ Ext p p' w w' ∧ RetOK P w.heap.size p' w' y v
  | .pan y, e, w' => ∃ t y0 u p', y = .ifc t y0 ∧ e = .panicked [{ v := .iface t u, recovered := false }] ∧ Below w.heap.size w w' ∧ Ext p p' w w' ∧ RepP P p' y0 u
def HpPost (G : Gh) (nx : Nat) : HR → Ending → World → Prop
  | .ret y st' nx', e, w' => ∃ G' v, e = .returned v ∧ G.le G' ∧ Same G G' (fun k => nx ≤ k ∧ k < nx') ∧ nx ≤ nx' ∧ Inv P G' st' w' ∧ Rep P G' y v
  | .pan y st' nx', e, w' => ∃ G' v, e = .panicked [{ v, recovered := false }] ∧ G.le G' ∧ Same G G' (fun k => nx ≤ k ∧ k < nx') ∧ nx ≤ nx' ∧ Inv P G' st' w' ∧ Rep P G' y v
structure EnvOK (E : Env) : Prop where
  pl : ∀ f as r, nobody P f = false → E.pl f as = some r → ∀ p vs w, GlOK P E.gl p → (∀ b o v, p b o = some v → w.cell? ⟨b, o, none⟩ = some v) → All2 (RepP P p) as vs → Calls P f vs.toArray w (PlPost P p w r)
  hp : ∀ f as st nx r, nobody P f = false → E.hp f as st nx = some r → ∀ G vs w, GlOK P E.gl G.pr → Inv P G st w → All2 (Rep P G) as vs → 8 ≤ nx → Fresh G (fun k => nx ≤ k) → Calls P f vs.toArray w (HpPost P G nx r)
end
section
variable {P : Program} {G G' : Gh} {st : St} {w w' : World} {a : Act} {tm : Nat → V} {N i0 nx' : Nat} {o : Oper} {K : Act → World → Prop} {Q : Exit → Act → World → Prop} {E : Env}
theorem op_builtin (hgl : GlOK P E.gl G.pr) (hinv : Inv P G st w) (ht : TmR P G N tm a) (hfr : Fresh G (R8 i0)) (h8 : 8 ≤ i0) {c : Call} {b : Builtin} {args : List V} {r : R} (ho : o.op = .call c) (hc : c.callee = .builtin b)
    (hargs : c.args.toList.mapM (ev E tm) = some args) (hx : xbuiltin P st i0 b c.argTypes o.type args = some r) (hK : Good P G st i0 nx' a o K Q r) : o.wp P a w K Q := by
  have hA := evs_sound hgl ht hargs
  have hA2 := args_arr (a := a) (c := c) rfl
  unfold xbuiltin at hx
  split at hx
  · rename_i x y
    split at hx
    · rename_i t t' hts
      split at hx
      · rename_i hty
        exact op_append hgl hinv ht hfr h8 ho hc hts hA rfl hty hx hK
      · cases hx
    · cases hx
  · rename_i e xs rr
    split at hx
    · rename_i t hts
      split at hx
      · rename_i el hu
        obtain rfl := Option.some.inj hx
        generalize hg : c.args.toList.map a.eval = us at hA hA2
        cases hA with
        | cons h1 h2 =>
          cases h2
          obtain ⟨A, cc, rfl, _⟩ := h1.list_inv
          refine good_same hinv hK (v := .int .i64 xs.length) ?_ (.pure (.sc _))
          refine run_builtin (f := Builtin.len_ c.argTypes o.type (c.args.map a.eval)) ho hc (fun k => rfl) ?_
          rw [arr_of_list hts, hA2]
          simp [Builtin.len_, run_underlying hu, goInt]
      · cases hx
    · cases hx
  · rename_i id
    split at hx
    · rename_i t hts
      split at hx
      · rename_i kt et hu
        split at hx
        · rename_i es hs
          obtain rfl := Option.some.inj hx
          generalize hg : c.args.toList.map a.eval = us at hA hA2
          cases hA with
          | cons h1 h2 =>
            cases h2
            obtain ⟨bb, rfl, hb⟩ := h1.map_inv
            obtain ⟨b', arr, clk, g1, g2, g3, g4⟩ := hinv.objs id _ hs
            rw [hb] at g1
            obtain rfl := Option.some.inj g1
            have hl := g4.length
            refine good_same hinv hK (v := .int .i64 es.length) ?_ (.pure (.sc _))
            refine run_builtin (f := Builtin.len_ c.argTypes o.type (c.args.map a.eval)) ho hc (fun k => rfl) ?_
            rw [arr_of_list hts, hA2]
            simp at hl
            simp [Builtin.len_, run_underlying hu, goInt, getObj, Sem.run, g3, hl]
        · cases hx
      · cases hx
    · cases hx
  · rename_i v
    rw [Option.map_eq_some_iff] at hx
    obtain ⟨z, hz, rfl⟩ := hx
    generalize hg : c.args.toList.map a.eval = us at hA hA2
    cases hA with
    | cons h1 h2 =>
      cases h2
      have := h1.sc_inv
      subst this
      refine good_same hinv hK (v := z) ?_ (.pure (.sc _))
      refine run_builtin (f := Builtin.len_ c.argTypes o.type (c.args.map a.eval)) ho hc (fun k => rfl) ?_
      rw [hA2]
      exact reck_run _ hz w
  · rename_i l
    rw [Option.bind_eq_some_iff] at hx
    obtain ⟨vs, hvs, hx⟩ := hx
    rw [Option.map_eq_some_iff] at hx
    obtain ⟨z, hz, rfl⟩ := hx
    have := vals_eq hA hvs
    refine good_same hinv hK (v := z) ?_ (.pure (.sc _))
    refine run_builtin (f := Builtin.min_ c.argTypes o.type (c.args.map a.eval)) ho hc (fun k => rfl) ?_
    rw [hA2, this]
    exact reck_run _ hz w
  · rename_i l
    rw [Option.bind_eq_some_iff] at hx
    obtain ⟨vs, hvs, hx⟩ := hx
    rw [Option.map_eq_some_iff] at hx
    obtain ⟨z, hz, rfl⟩ := hx
    have := vals_eq hA hvs
    refine good_same hinv hK (v := z) ?_ (.pure (.sc _))
    refine run_builtin (f := Builtin.max_ c.argTypes o.type (c.args.map a.eval)) ho hc (fun k => rfl) ?_
    rw [hA2, this]
    exact reck_run _ hz w
  · cases hx
/-- Behind a call on pure data: the world has grown. -/
theorem Inv.grow (h : Inv P G st w) {p' : Pr} (hb : Below w.heap.size w w') (he : Ext G.pr p' w w') : G.le { G with pr := p' } ∧ Inv P { G with pr := p' } st w' := by
  have hle : G.le { G with pr := p' } := ⟨rfl, rfl, he.1, fun _ _ q => q, fun t v q => ⟨v, q, Nat.le_refl _, fun _ => rfl⟩, fun b o hb => he.2.2 b o (by have := h.size; omega)⟩
  refine ⟨hle, h.below.trans (hb.mono h.size), Nat.le_trans h.size hb.size, he.2.1, fun i ob hi => ?_, fun i j b hi hj => h.apart i j b hi hj, fun i b hi o v hv => ?_⟩
  · refine (h.objs i ob hi).kept hle rfl fun b hbb => hb.block b ?_
    refine (h.blk_lt (i := i) ?_).1
    unfold blk; rw [hi]; cases ob <;> exact hbb
  · have hi' : blk G st i = some b := hi
    have hv' : p' b o = some v := hv
    rw [he.2.2 b o (h.blk_lt hi').1] at hv'
    exact h.free i b hi' o v hv'
/-- A right is given a name. -/
theorem Inv.name (h : Inv P G st w) (i : Nat) {v : Value} {n e s : Nat} {vs : List Value} (h1 : st i = none) (h2 : G.tl i = none) (hs : usz P e = some s) (hown : w.ownsRow G.base e s v n vs)
    (hap : ∀ j b, blk G st j = some b → v.ownBlock ≠ some b) (hfree : ∀ b, v.ownBlock = some b → ∀ o u, G.pr b o = some u → o < n * s) :
    G.le { G with tl := upd G.tl i (some v) } ∧ Inv P { G with tl := upd G.tl i (some v) } (upd st i (some (.tok n e))) w := by
  have hle : G.le { G with tl := upd G.tl i (some v) } := ⟨rfl, rfl, fun _ _ _ q => q, fun _ _ q => q, fun t u q => by
    simp only [upd]; split
    · rename_i e1; subst e1; rw [h2] at q; cases q
    · exact ⟨u, q, Nat.le_refl _, fun _ => rfl⟩, fun _ _ _ => rfl⟩
  have hb : ∀ b, blk { G with tl := upd G.tl i (some v) } (upd st i (some (.tok n e))) i = some b → v.ownBlock = some b := fun b hb => by
    unfold blk at hb; simpa [upd] using hb
  refine ⟨hle, h.go hle (Below.refl _ _) h.prot i (fun j hj => by simp [upd, hj]) (fun _ _ => rfl) (fun j hj => by simp [upd, hj]) (fun _ _ _ _ => rfl) (fun ob hob => ?_) (fun j b _ hb1 hb2 => hap j b hb1 (hb b hb2)) (fun b hb1 o u hu => ?_) (fun _ _ _ _ _ _ q => q)⟩
  · simp [upd] at hob; subst hob
    exact ⟨v, s, vs, by simp [upd], hs, hown⟩
  · exact ⟨n, e, s, by simp [upd], hs, hfree b (hb b hb1) o u hu⟩
end
end Go.Proofs.YtojbkakdhfmjmaaDoor.Vm
