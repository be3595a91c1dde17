/- Proved here: what one operation of the machine over pure data does, the model's operation does. Conditions: none. -/
import Derived.Test.YtojbkakdhfmjmaaDoorVm3
set_option linter.unusedVariables false
set_option linter.unusedSimpArgs false
namespace Go.Proofs.YtojbkakdhfmjmaaDoor.Vm
open Go.RowKit
section
variable (P : Program)
def GlOK (gl : Nat → Option V) (p : Pr) : Prop := ∀ g x, gl g = some x → RepP P p x (.pointer (some ⟨g, 0, none⟩))
structure TmR (G : Gh) (N : Nat) (tm : Nat → V) (a : Act) : Prop where
  sz : a.tmps.size = N
  df : a.defers = []
  rep : ∀ t, Rep P G (tm t) (a.tmps.getD t undef)
end
/-- Outside S nothing has a name that had none. -/
def Same (G G' : Gh) (S : Nat → Prop) : Prop := ∀ k, ¬ S k → (G.bx k = none → G'.bx k = none) ∧ (G.tl k = none → G'.tl k = none)
def R8 (i0 : Nat) (k : Nat) : Prop := i0 ≤ k ∧ k < i0 + 8
def Fresh (G : Gh) (S : Nat → Prop) : Prop := ∀ k, S k → G.bx k = none ∧ G.tl k = none
section
variable {P : Program} {G G' : Gh} {st : St} {w w' : World} {a : Act} {tm : Nat → V} {N i0 : Nat} {o : Oper} {K : Act → World → Prop} {Q : Exit → Act → World → Prop} {E : Env}
theorem Same.refl (G : Gh) (S : Nat → Prop) : Same G G S := fun _ _ => ⟨id, id⟩
theorem Same.trans {G'' : Gh} {S : Nat → Prop} (h : Same G G' S) (k : Same G' G'' S) : Same G G'' S := fun i hi => ⟨fun q => (k i hi).1 ((h i hi).1 q), fun q => (k i hi).2 ((h i hi).2 q)⟩
theorem Same.mono {S S' : Nat → Prop} (h : Same G G' S) (hs : ∀ k, S k → S' k) : Same G G' S' := fun i hi => h i fun q => hi (hs i q)
theorem TmR.mono (h : TmR P G N tm a) (hg : G.le G') : TmR P G' N tm a := ⟨h.sz, h.df, fun t => (h.rep t).mono hg⟩
theorem rep_of1 (p : Pr) (v : Value) : RepP P p (V.of1 v) v := by
  unfold V.of1
  split
  · exact .list (vs := []) rfl (Nat.le_refl _) (.inr ⟨rfl, rfl, rfl, rfl⟩) (by simp) (by simp [ones]) (by simp) .nil
  · exact .sc _
theorem rep_ofV (p : Pr) (v : Value) (h : ones (V.ofV v).cells = true) : RepP P p (V.ofV v) v := by
  unfold V.ofV at h ⊢
  split
  · rename_i cs
    have hc : cs = cs.toList.toArray := by simp
    rw [hc]
    simp only [V.cells] at h
    refine .agg (by simpa using h) (.of ?_)
    rw [show cs.toList.toArray.toList = cs.toList by simp]
    generalize cs.toList = l
    induction l with
    | nil => exact .nil
    | cons x l ih => exact .cons (rep_of1 p x) ih
  · exact rep_of1 p _
theorem ev_sound (hgl : GlOK P E.gl G.pr) (ht : TmR P G N tm a) {x : Operand} {v : V} (h : ev E tm x = some v) : Rep P G v (a.eval x) := by
  cases x with
  | tmp t => simp only [ev, Option.some.injEq] at h; subst h; exact ht.rep t
  | const u =>
    simp only [ev] at h
    split at h
    · rename_i h1; obtain rfl := Option.some.inj h; exact .pure (rep_ofV _ _ h1)
    · cases h
  | global g => exact .pure (hgl g v h)
  | func f => simp only [ev, Option.some.injEq] at h; subst h; exact .pure (.fn _)
theorem evs_sound (hgl : GlOK P E.gl G.pr) (ht : TmR P G N tm a) : ∀ {l : List Operand} {vs : List V}, l.mapM (ev E tm) = some vs → All2 (Rep P G) vs (l.map a.eval) := fun {l vs} h => by
  have h2 := mapM_some h
  clear h
  induction h2 with
  | nil => exact .nil
  | cons h _ ih => exact .cons (ev_sound hgl ht h) ih
theorem TmR.put (h : TmR P G N tm a) {dst : Option Tmp} (hd : dstOk N dst = true) {x : V} {v : Value} (hr : Rep P G x v) : TmR P G N (putT tm dst x) (a.put dst v) := by
  cases dst with
  | none => exact h
  | some d =>
    have hd' : d < a.tmps.size := by rw [h.sz]; simpa [dstOk] using hd
    refine ⟨by simp [Act.put, h.sz], h.df, fun t => ?_⟩
    simp only [putT, upd, Act.put]
    by_cases ht : t = d
    · subst ht
      rw [if_pos rfl]
      simpa [Array.getD, hd'] using hr
    · rw [if_neg ht]
      have := h.rep t
      simp only [Array.getD_eq_getD_getElem?] at this ⊢
      rw [Array.getElem?_setIfInBounds_ne (fun e => ht e.symm)]
      exact this
theorem wp_val {v : Value} (hr : (execOp a.eval o).run P w = .ok (.value v) w') (h : K (a.put o.dst v) w') : o.wp P a w K Q := by
  unfold Oper.wp; rw [hr]; exact h
theorem wp_skip0 (hr : (execOp a.eval o).run P w = .ok .skip w') (h : K (a.put o.dst undef) w') : o.wp P a w K Q := by
  unfold Oper.wp; rw [hr]; exact h
theorem run_info {t : TypeId} {i : TypeInfo} (h : P.info? t = some i) (w : World) : (typeInfo t).run P w = .ok i w := by simp [typeInfo, h]
theorem usz_info {t : TypeId} {s : Nat} (h : usz P t = some s) : ∃ i, P.info? t = some i ∧ i.size = s := by
  unfold usz at h; rw [Option.map_eq_some_iff] at h; exact h
theorem run_size {t : TypeId} {s : Nat} (h : usz P t = some s) (w : World) : (sizeOf t).run P w = .ok s w := by
  obtain ⟨i, hi, rfl⟩ := usz_info h; simp [sizeOf, typeInfo, hi]
theorem run_isAgg {t : TypeId} {b : Bool} (h : uagg P t = some b) (w : World) : (isAgg t).run P w = .ok b w := by
  unfold uagg at h
  split at h
  · rename_i fs hu; cases h; simp [isAgg, run_underlying hu]
  · rename_i n e hu; cases h; simp [isAgg, run_underlying hu]
  · rename_i d h1 h2 hu; cases h
    simp only [isAgg, Sem.run_bind, run_underlying hu, Result.andThen_ok]
    cases d <;> first | rfl | (exfalso; first | exact h1 _ hu | exact h2 _ _ hu | exact h1 _ rfl | exact h2 _ _ rfl)
  · cases h
theorem run_zero {t : TypeId} {z : Value} (h : uzero P t = some z) (w : World) : (zeroValue t).run P w = .ok z w := by
  unfold uzero at h; rw [Option.bind_eq_some_iff] at h
  obtain ⟨i, hi, hz⟩ := h
  simp [zeroValue, typeInfo, hi, hz]
end

/-- What is owed behind an operation. -/
def Good (P : Program) (G : Gh) (st : St) (i0 nx' : Nat) (a : Act) (o : Oper) (K : Act → World → Prop) (Q : Exit → Act → World → Prop) : R → Prop
  | .val x δ _ => ∀ G' w' v, G.le G' → Same G G' (R8 i0) → Inv P G' (upds δ st) w' → Rep P G' x v → K (a.put o.dst v) w'
  | .pan x => ∀ G' w' v, G.le G' → Same G G' (R8 i0) → Inv P G' st w' → Rep P G' x v → Q (.panic [{ v, recovered := false }]) a w'
  | .big x st1 nx1 => ∀ G' w' v, G.le G' → Same G G' (fun k => nx' ≤ k ∧ k < nx1) → nx' ≤ nx1 → Inv P G' st1 w' → Rep P G' x v → K (a.put o.dst v) w'
  | .bpan x st1 nx1 => ∀ G' w' v, G.le G' → Same G G' (fun k => nx' ≤ k ∧ k < nx1) → nx' ≤ nx1 → Inv P G' st1 w' → Rep P G' x v → Q (.panic [{ v, recovered := false }]) a w'
section
variable {P : Program} {G G' : Gh} {st : St} {w w' : World} {a : Act} {tm : Nat → V} {N i0 nx' : Nat} {o : Oper} {K : Act → World → Prop} {Q : Exit → Act → World → Prop} {E : Env}
theorem good_same {x : V} {v : Value} {rd : List Nat} (hinv : Inv P G st w) (hK : Good P G st i0 nx' a o K Q (.val x [] rd)) (hr : (execOp a.eval o).run P w = .ok (.value v) w) (hv : Rep P G x v) : o.wp P a w K Q :=
  wp_val hr (hK G w v (.refl G) (.refl G _) hinv hv)
theorem cell_blk {b : Nat} {arr : Array Value} {T : TypeId} {fz : Nat × Nat} (h : w.heap[b]? = some (.cells arr T fz)) (off j : Nat) : w.cell? ((⟨b, off, none⟩ : Addr).add j) = arr[off + j]? := by
  have : (⟨b, off, none⟩ : Addr).add j = ⟨b, off + j, none⟩ := by unfold Addr.add; split <;> simp_all
  rw [this]; simp [World.cell?, h]
theorem cell_lies (hinv : Inv P G st w) {ad : Addr} {vs : List Value} (h : LiesAt G.pr ad vs) {j : Nat} {u : Value} (hu : vs[j]? = some u) : w.cell? (ad.add j) = some u := by
  obtain ⟨h1, h2⟩ := h j u hu
  have h3 := hinv.prot _ _ _ h2
  have : ad.add j = ⟨(ad.add j).block, (ad.add j).off, none⟩ := by rw [← h1]
  rw [this]; exact h3
theorem add_zero0 (ad : Addr) : ad.add 0 = ad := by simp [Addr.add]
theorem ld_loadVar {t : TypeId} {cs : List V} {off : Nat} {x : V} (h : ld P t cs off = some x) {vs : List Value} (hcs : All2 (Rep P G) cs vs) (h1 : ones cs = true) {ad : Addr} (hc : ∀ j u, vs[off + j]? = some u → w.cell? (ad.add j) = some u) :
    ∃ v, (loadVar t ad).run P w = .ok v w ∧ Rep P G x v := by
  unfold ld at h
  split at h
  · rename_i s hs ha
    split at h
    · rename_i hle
      obtain rfl := Option.some.inj h
      refine ⟨.agg ((vs.drop off).take s).toArray, ?_, .agg (ones_take (ones_drop h1 _) _) (.of ((hcs.drop off).take s))⟩
      have hl : ((vs.drop off).take s).length = s := by rw [List.length_take, List.length_drop, ← hcs.length]; omega
      have hr := run_loadCells_list (P := P) w ad ((vs.drop off).take s) (fun j u hu => by
        rw [List.getElem?_take] at hu
        split at hu
        · rw [List.getElem?_drop] at hu; exact hc j u hu
        · cases hu)
      rw [hl] at hr
      simp [loadVar, run_isAgg ha, run_size hs, hr]
    · cases h
  · rename_i s hs ha
    obtain ⟨v, hv, hr⟩ := hcs.get h
    refine ⟨v, ?_, hr⟩
    have := hc 0 v (by simpa using hv)
    rw [add_zero0] at this
    simp only [loadVar, Sem.run_bind, run_isAgg ha, Result.andThen_ok]
    simp [run_load, this]
  · cases h
theorem ld_part {t : TypeId} {cs : List V} {off : Nat} {x : V} (h : ld P t cs off = some x) {vs : List Value} (hcs : All2 (Rep P G) cs vs) (h1 : ones cs = true) :
    ∃ v, (part t vs.toArray off).run P w = .ok v w ∧ Rep P G x v := by
  unfold ld at h
  split at h
  · rename_i s hs ha
    split at h
    · rename_i hle
      obtain rfl := Option.some.inj h
      refine ⟨.agg ((vs.drop off).take s).toArray, ?_, .agg (ones_take (ones_drop h1 _) _) (.of ((hcs.drop off).take s))⟩
      simp only [part, Sem.run_bind, run_isAgg ha, Result.andThen_ok, if_true, run_size hs, Sem.run_pure]
      congr 2
      apply Array.ext'
      simp [List.take_drop]
    · cases h
  · rename_i s hs ha
    obtain ⟨v, hv, hr⟩ := hcs.get h
    refine ⟨v, ?_, hr⟩
    simp only [part, Sem.run_bind, run_isAgg ha, Result.andThen_ok, Bool.false_eq_true, if_false, List.getElem?_toArray, hv, Sem.run_pure]
  · cases h
theorem Rep.agg_inv {cs : List V} {v : Value} (h : Rep P G (.agg cs) v) : ∃ vs, v = .agg vs.toArray ∧ ones cs = true ∧ All2 (Rep P G) cs vs := by
  cases h with
  | pure h => cases h with | agg h1 h2 => exact ⟨_, rfl, h1, h2.reps⟩
  | agg h1 h2 => exact ⟨_, rfl, h1, h2.all2⟩
theorem Rep.tup_inv {cs : List V} {v : Value} (h : Rep P G (.tup cs) v) : ∃ vs, v = .tuple vs.toArray ∧ All2 (Rep P G) cs vs := by
  cases h with
  | pure h => cases h
  | tup h => exact ⟨_, rfl, h.all2⟩
theorem Rep.sc_inv {u v : Value} (h : Rep P G (.sc u) v) : v = u := by
  cases h with | pure h => cases h; rfl
theorem Rep.ptr_inv {id off : Nat} {v : Value} (h : Rep P G (.ptr id off) v) : ∃ b, v = .pointer (some ⟨b, off, none⟩) ∧ G.bx id = some b := by
  cases h with
  | pure h => cases h
  | ptr h => exact ⟨_, rfl, h⟩
theorem Rep.map_inv {id : Nat} {v : Value} (h : Rep P G (.map id) v) : ∃ b, v = .map (some b) ∧ G.bx id = some b := by
  cases h with
  | pure h => cases h
  | map h => exact ⟨_, rfl, h⟩
theorem Rep.cp_inv {cs : List V} {v : Value} (h : Rep P G (.cp cs) v) : ∃ ad vs, v = .pointer (some ad) ∧ ones cs = true ∧ LiesAt G.pr ad vs ∧ All2 (RepP P G.pr) cs vs := by
  cases h with | pure h => cases h with | cp h1 h2 h3 => exact ⟨_, _, rfl, h1, h2, h3.all2⟩
theorem Rep.fn_inv {f : Fn} {x y : List V} {v : Value} (h : Rep P G (.fn f x y) v) : ∃ us ws, v = .func f us.toArray ws.toArray ∧ All2 (Rep P G) x us ∧ All2 (Rep P G) y ws := by
  cases h with
  | pure h => cases h; exact ⟨[], [], rfl, .nil, .nil⟩
  | fn h1 h2 => exact ⟨_, _, rfl, h1.all2, h2.all2⟩
theorem Rep.list_inv {e : TypeId} {xs : List V} {r : Nat} {v : Value} (h : Rep P G (.list e xs r) v) : ∃ A c, v = .slice A xs.length c ∧ RepP P G.pr (.list e xs 0) (.slice A xs.length c) ∧ (r = 1 → xs = [] ∧ A = none ∧ c = 0) ∧ (r = 0 ∨ r = 1 ∨ 8 ≤ r ∧ ∃ v0, G.tl r = some v0 ∧ (xs.length = vlen v0 → v0 = .slice A xs.length c)) := by
  cases h with
  | pure h =>
    cases h with
    | list h1 h2 h3 h4 h5 h6 h7 =>
      subst h1
      refine ⟨_, _, rfl, .list rfl h2 (.inl rfl) h4 h5 h6 h7, fun hr => ?_, ?_⟩
      · rcases h3 with h3 | ⟨_, h3, h8, h9⟩
        · omega
        · exact ⟨List.eq_nil_of_length_eq_zero h8, h3, h9⟩
      · rcases h3 with h3 | h3
        · exact .inl h3
        · exact .inr (.inl h3.1)
  | tok h1 h2 h3 h4 h5 =>
    have h6 := h2
    cases h2 with
    | list k1 => subst k1; exact ⟨_, _, rfl, h6, fun e => by omega, .inr (.inr ⟨h1, _, h3, h5⟩)⟩
theorem op_load (hgl : GlOK P E.gl G.pr) (hinv : Inv P G st w) (ht : TmR P G N tm a) {t : TypeId} {x : Operand} {r : R} (ho : o.op = .load t x) (hx : xop P E tm st i0 nx' o = some r) (hK : Good P G st i0 nx' a o K Q r) : o.wp P a w K Q := by
  simp only [xop, ho, Option.bind_eq_some_iff] at hx
  obtain ⟨x0, h0, hx⟩ := hx
  have hr := ev_sound hgl ht h0
  split at hx
  · rename_i id off
    split at hx
    · rename_i cs hs
      rw [Option.map_eq_some_iff] at hx
      obtain ⟨y, hy, rfl⟩ := hx
      obtain ⟨b, hv, hb⟩ := hr.ptr_inv
      obtain ⟨b', arr, T, h1, h2, h3, h4, h5⟩ := hinv.objs id _ hs
      rw [hb] at h1
      obtain rfl := Option.some.inj h1
      obtain ⟨v, hv2, hrep⟩ := ld_loadVar (w := w) hy h5 h4 (ad := ⟨b, off, none⟩) (fun j u hu => by rw [cell_blk h3]; simpa using hu)
      refine good_same hinv hK (v := v) ?_ hrep
      simp [execOp, ho, hv, Instr.loadAt, Instr.sureAddr, hv2]
    · cases hx
  · rename_i cs
    rw [Option.map_eq_some_iff] at hx
    obtain ⟨y, hy, rfl⟩ := hx
    obtain ⟨ad, vs, hv, h1, h2, h3⟩ := hr.cp_inv
    obtain ⟨v, hv2, hrep⟩ := ld_loadVar (G := G) (w := w) hy (h3.mono fun _ _ => .pure) h1 (ad := ad) (fun j u hu => cell_lies hinv h2 (by simpa using hu))
    refine good_same hinv hK (v := v) ?_ hrep
    simp [execOp, ho, hv, Instr.loadAt, Instr.sureAddr, hv2]
  · cases hx
theorem op_move (hgl : GlOK P E.gl G.pr) (hinv : Inv P G st w) (ht : TmR P G N tm a) {x : Operand} {r : R} (ho : o.op = .move x ∨ o.op = .assign x) (hx : xop P E tm st i0 nx' o = some r) (hK : Good P G st i0 nx' a o K Q r) : o.wp P a w K Q := by
  rcases ho with ho | ho <;>
  · simp only [xop, ho, Option.map_eq_some_iff] at hx
    obtain ⟨x0, h0, rfl⟩ := hx
    exact good_same hinv hK (v := a.eval x) (by simp [execOp, ho]) (ev_sound hgl ht h0)
theorem op_pick (hgl : GlOK P E.gl G.pr) (hinv : Inv P G st w) (ht : TmR P G N tm a) {c x y : Operand} {r : R} (ho : o.op = .pick c x y) (hx : xop P E tm st i0 nx' o = some r) (hK : Good P G st i0 nx' a o K Q r) : o.wp P a w K Q := by
  simp only [xop, ho, Option.bind_eq_some_iff] at hx
  obtain ⟨c0, hc, x0, h0, y0, h1, hx⟩ := hx
  split at hx
  · rename_i b
    obtain rfl := Option.some.inj hx
    have hcv := (ev_sound hgl ht hc).sc_inv
    refine good_same hinv hK (v := if b then a.eval x else a.eval y) (by simp [execOp, ho, hcv, asBool]) ?_
    cases b
    · exact ev_sound hgl ht h1
    · exact ev_sound hgl ht h0
  · cases hx
theorem bx_none_st (hinv : Inv P G st w) {i : Nat} (h1 : G.bx i = none) (h2 : G.tl i = none) : st i = none := by
  cases hs : st i with
  | none => rfl
  | some ob =>
    have := hinv.objs i ob hs
    cases ob with
    | cells => obtain ⟨b, _, _, h, _⟩ := this; rw [h1] at h; cases h
    | map => obtain ⟨b, _, _, h, _⟩ := this; rw [h1] at h; cases h
    | iter => obtain ⟨b, h, _⟩ := this; rw [h1] at h; cases h
    | tok => obtain ⟨b, _, _, h, _⟩ := this; rw [h2] at h; cases h
theorem same_bx {i : Nat} (hi : R8 i0 i) (b : Nat) : Same G { G with bx := upd G.bx i (some b) } (R8 i0) := fun k hk => ⟨fun h => by
  have : k ≠ i := fun e => hk (by subst e; exact hi)
  simpa [upd, this] using h, id⟩
theorem r8_self (i0 : Nat) : R8 i0 i0 := ⟨Nat.le_refl _, by omega⟩
/-- A variable that is laid anew. -/
theorem newVar_good (hinv : Inv P G st w) (hfr : Fresh G (R8 i0)) {e : TypeId} {x : V} {v : Value} (hv : Rep P G x v) (h1 : ones x.cells = true) (hK : Good P G st i0 nx' a o K Q (.val (.ptr i0 0) [(i0, some (.cells x.cells))] []))
    (hr : (execOp a.eval o).run P w = .ok (.value (.pointer (some ⟨w.heap.size, 0, none⟩))) (w.alloc (.cells v.cells e))) : o.wp P a w K Q := by
  have hf := hfr i0 (r8_self i0)
  have hle : G.le { G with bx := upd G.bx i0 (some w.heap.size) } := ⟨rfl, rfl, fun _ _ _ q => q, fun j b q => by
    simp only [upd]; split
    · rename_i e; subst e; rw [hf.1] at q; cases q
    · exact q, fun _ v q => ⟨v, q, Nat.le_refl _, fun _ => rfl⟩, fun _ _ _ => rfl⟩
  have hcells : All2 (Rep P G) x.cells v.cells.toList := by
    cases x with
    | agg cs => obtain ⟨vs, rfl, _, h⟩ := hv.agg_inv; simpa [V.cells, Value.cells] using h
    | sc u => have := hv.sc_inv; subst this; have h2 : v.oneCell' = true := by simpa [ones, V.cells, V.one] using h1
              have : v.cells.toList = [v] := by cases v <;> first | rfl | (simp [Value.oneCell'] at h2)
              rw [this]; exact .cons hv .nil
    | tup => simp [ones, V.cells, V.one] at h1
    | _ =>
      have h2 := hv.one rfl
      have : v.cells.toList = [v] := by cases v <;> first | rfl | (simp [Value.oneCell'] at h2)
      rw [this]; exact .cons hv .nil
  obtain ⟨hg, hi⟩ := hinv.new (.cells v.cells e) i0 (.cells x.cells) hf.1 (bx_none_st hinv hf.1 hf.2) (by simp) ⟨w.heap.size, v.cells, e, by simp [upd], hinv.size, heap_alloc_new w _, h1, hcells.rep_mono hle⟩
  exact wp_val hr (hK _ _ _ hg (same_bx (r8_self i0) _) hi (.ptr (by simp [upd])))
theorem op_alloc (hinv : Inv P G st w) (hfr : Fresh G (R8 i0)) {e : TypeId} {r : R} (ho : o.op = .alloc e) (hx : xop P E tm st i0 nx' o = some r) (hK : Good P G st i0 nx' a o K Q r) : o.wp P a w K Q := by
  simp only [xop, ho, Option.bind_eq_some_iff] at hx
  obtain ⟨z, hz, hx⟩ := hx
  split at hx
  · rename_i h1
    obtain rfl := Option.some.inj hx
    refine newVar_good hinv hfr (e := e) (x := V.ofV z) (v := z) (.pure (rep_ofV _ _ h1)) h1 hK ?_
    simp [execOp, ho, Instr.alloc, run_zero hz, newVar, newRow]
  · cases hx
theorem op_box (hgl : GlOK P E.gl G.pr) (hinv : Inv P G st w) (ht : TmR P G N tm a) (hfr : Fresh G (R8 i0)) {e : TypeId} {x : Operand} {r : R} (ho : o.op = .box e x) (hx : xop P E tm st i0 nx' o = some r) (hK : Good P G st i0 nx' a o K Q r) : o.wp P a w K Q := by
  simp only [xop, ho, Option.bind_eq_some_iff] at hx
  obtain ⟨x0, h0, hx⟩ := hx
  split at hx
  · rename_i h1
    obtain rfl := Option.some.inj hx
    refine newVar_good hinv hfr (e := e) (ev_sound hgl ht h0) h1 hK ?_
    simp [execOp, ho, Instr.box, newVar, newRow]
  · cases hx
end
end Go.Proofs.YtojbkakdhfmjmaaDoor.Vm
