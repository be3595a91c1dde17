/- Proved here: what one operation of the machine over pure data does, the model's operation does. Conditions: none. -/
import Derived.Test.YtkbheoganajhaaaDoorVm3
set_option linter.unusedVariables false
set_option linter.unusedSimpArgs false
namespace Go.Proofs.YtkbheoganajhaaaDoor.Vm
open Go.RowKit
section
variable (P : Program)
def GlOK (gl : Nat → Option V) (p : Pr) : Prop := ∀ g x, gl g = some x → RepP P p x (.pointer (some ⟨g, 0, none⟩))
structure TmR (G : Gh) (N : Nat) (tm : Nat → V) (a : Act) : Prop where
  sz : a.tmps.size = N
  df : a.defers = G.w0.2
  rep : ∀ t, Rep P G (tm t) (a.tmps.getD t undef)
end
/-- Outside S nothing has a name that had none. -/
def Same (G G' : Gh) (S : Nat → Prop) : Prop := ∀ k, ¬ S k → (G.bx k = none → G'.bx k = none) ∧ (G.tl k = none → G'.tl k = none)
def R8 (i0 : Nat) (k : Nat) : Prop := i0 ≤ k ∧ k < i0 + 8
def Fresh (G : Gh) (S : Nat → Prop) : Prop := ∀ k, S k → G.bx k = none ∧ G.tl k = none
section
variable {P : Program} {G G' : Gh} {st : St} {w w' : World} {a : Act} {tm : Nat → V} {N i0 : Nat} {o : Oper} {K : Act → World → Prop} {Q : Exit → Act → World → Prop} {E : Env}
theorem Same.refl (G : Gh) (S : Nat → Prop) : Same G G S := fun _ _ => ⟨id, id⟩
theorem Same.trans {G'' : Gh} {S : Nat → Prop} (h : Same G G' S) (k : Same G' G'' S) : Same G G'' S := fun i hi => ⟨fun q => (k i hi).1 ((h i hi).1 q), fun q => (k i hi).2 ((h i hi).2 q)⟩
theorem Same.mono {S S' : Nat → Prop} (h : Same G G' S) (hs : ∀ k, S k → S' k) : Same G G' S' := fun i hi => h i fun q => hi (hs i q)
theorem TmR.mono (h : TmR P G N tm a) (hg : G.le G') : TmR P G' N tm a := ⟨h.sz, by rw [hg.w0]; exact h.df, fun t => (h.rep t).mono hg⟩
theorem rep_of1 (p : Pr) (v : Value) : RepP P p (V.of1 v) v := by
  unfold V.of1
  split
  · exact .list (vs := []) rfl (Nat.le_refl _) (.inr ⟨rfl, rfl, rfl, rfl⟩) (by simp) (by simp [ones]) (by simp) .nil
  · exact .sc _
theorem rep_ofV (p : Pr) (v : Value) (h : ones (V.ofV v).cells = true) : RepP P p (V.ofV v) v := by
  unfold V.ofV at h ⊢
  split
  · rename_i cs
    have hc : cs = cs.toList.toArray := by simp
    rw [hc]
    simp only [V.cells] at h
    refine .agg (by simpa using h) (.of ?_)
    rw [show cs.toList.toArray.toList = cs.toList by simp]
    generalize cs.toList = l
    induction l with
    | nil => exact .nil
    | cons x l ih => exact .cons (rep_of1 p x) ih
  · exact rep_of1 p _
theorem ev_sound (hgl : GlOK P E.gl G.pr) (ht : TmR P G N tm a) {x : Operand} {v : V} (h : ev E tm x = some v) : Rep P G v (a.eval x) := by
  cases x with
  | tmp t => simp only [ev, Option.some.injEq] at h; subst h; exact ht.rep t
  | const u =>
    simp only [ev] at h
    split at h
    · rename_i h1; obtain rfl := Option.some.inj h; exact .pure (rep_ofV _ _ h1)
    · cases h
  | global g => exact .pure (hgl g v h)
  | func f => simp only [ev, Option.some.injEq] at h; subst h; exact .pure (.fn _)
theorem evs_sound (hgl : GlOK P E.gl G.pr) (ht : TmR P G N tm a) : ∀ {l : List Operand} {vs : List V}, l.mapM (ev E tm) = some vs → All2 (Rep P G) vs (l.map a.eval) := fun {l vs} h => by
  have h2 := mapM_some h
  clear h
  induction h2 with
  | nil => exact .nil
  | cons h _ ih => exact .cons (ev_sound hgl ht h) ih
theorem TmR.put (h : TmR P G N tm a) {dst : Option Tmp} (hd : dstOk N dst = true) {x : V} {v : Value} (hr : Rep P G x v) : TmR P G N (putT tm dst x) (a.put dst v) := by
  cases dst with
  | none => exact h
  | some d =>
    have hd' : d < a.tmps.size := by rw [h.sz]; simpa [dstOk] using hd
    refine ⟨by simp [Act.put, h.sz], h.df, fun t => ?_⟩
    simp only [putT, upd, Act.put]
    by_cases ht : t = d
    · subst ht
      rw [if_pos rfl]
      simpa [Array.getD, hd'] using hr
    · rw [if_neg ht]
      have := h.rep t
      simp only [Array.getD_eq_getD_getElem?] at this ⊢
      rw [Array.getElem?_setIfInBounds_ne (fun e => ht e.symm)]
      exact this
theorem wp_val {v : Value} (hr : (execOp a.eval o).run P w = .ok (.value v) w') (h : K (a.put o.dst v) w') : o.wp P a w K Q := by
  unfold Oper.wp; rw [hr]; exact h
theorem wp_skip0 (hr : (execOp a.eval o).run P w = .ok .skip w') (h : K (a.put o.dst undef) w') : o.wp P a w K Q := by
  unfold Oper.wp; rw [hr]; exact h
theorem run_info {t : TypeId} {i : TypeInfo} (h : P.info? t = some i) (w : World) : (typeInfo t).run P w = .ok i w := by simp [typeInfo, h]
theorem usz_info {t : TypeId} {s : Nat} (h : usz P t = some s) : ∃ i, P.info? t = some i ∧ i.size = s := by
  unfold usz at h; rw [Option.map_eq_some_iff] at h; exact h
theorem run_size {t : TypeId} {s : Nat} (h : usz P t = some s) (w : World) : (sizeOf t).run P w = .ok s w := by
  obtain ⟨i, hi, rfl⟩ := usz_info h; simp [sizeOf, typeInfo, hi]
theorem run_isAgg {t : TypeId} {b : Bool} (h : uagg P t = some b) (w : World) : (isAgg t).run P w = .ok b w := by
  unfold uagg at h
  split at h
  · rename_i fs hu; cases h; simp [isAgg, run_underlying hu]
  · rename_i n e hu; cases h; simp [isAgg, run_underlying hu]
  · rename_i d h1 h2 hu; cases h
    simp only [isAgg, Sem.run_bind, run_underlying hu, Result.andThen_ok]
    cases d <;> first | rfl | (exfalso; first | exact h1 _ hu | exact h2 _ _ hu | exact h1 _ rfl | exact h2 _ _ rfl)
  · cases h
theorem run_zero {t : TypeId} {z : Value} (h : uzero P t = some z) (w : World) : (zeroValue t).run P w = .ok z w := by
  unfold uzero at h; rw [Option.bind_eq_some_iff] at h
  obtain ⟨i, hi, hz⟩ := h
  simp [zeroValue, typeInfo, hi, hz]
end

/-- What is owed behind an operation. -/
def Good (P : Program) (G : Gh) (st : St) (i0 nx' : Nat) (a : Act) (o : Oper) (K : Act → World → Prop) (Q : Exit → Act → World → Prop) : R → Prop
  | .val x δ _ => ∀ G' w' v, G.le G' → Same G G' (R8 i0) → Inv P G' (upds δ st) w' → Rep P G' x v → K (a.put o.dst v) w'
  | .pan x => ∀ G' w' v, G.le G' → Same G G' (R8 i0) → Inv P G' st w' → Rep P G' x v → Q (.panic [{ v, recovered := false }]) a w'
  | .big x st1 nx1 => ∀ G' w' v, G.le G' → Same G G' (fun k => nx' ≤ k ∧ k < nx1) → nx' ≤ nx1 → Inv P G' st1 w' → Rep P G' x v → K (a.put o.dst v) w'
  | .bpan x st1 nx1 => ∀ G' w' v, G.le G' → Same G G' (fun k => nx' ≤ k ∧ k < nx1) → nx' ≤ nx1 → Inv P G' st1 w' → Rep P G' x v → Q (.panic [{ v, recovered := false }]) a w'
section
variable {P : Program} {G G' : Gh} {st : St} {w w' : World} {a : Act} {tm : Nat → V} {N i0 nx' : Nat} {o : Oper} {K : Act → World → Prop} {Q : Exit → Act → World → Prop} {E : Env}
theorem good_same {x : V} {v : Value} {rd : List Nat} (hinv : Inv P G st w) (hK : Good P G st i0 nx' a o K Q (.val x [] rd)) (hr : (execOp a.eval o).run P w = .ok (.value v) w) (hv : Rep P G x v) : o.wp P a w K Q :=
  wp_val hr (hK G w v (.refl G) (.refl G _) hinv hv)
theorem cell_blk {b : Nat} {arr : Array Value} {T : TypeId} {fz : Nat × Nat} (h : w.heap[b]? = some (.cells arr T fz)) (off j : Nat) : w.cell? ((⟨b, off, none⟩ : Addr).add j) = arr[off + j]? := by
  have : (⟨b, off, none⟩ : Addr).add j = ⟨b, off + j, none⟩ := by unfold Addr.add; split <;> simp_all
  rw [this]; simp [World.cell?, h]
theorem cell_lies (hinv : Inv P G st w) {ad : Addr} {vs : List Value} (h : LiesAt G.pr ad vs) {j : Nat} {u : Value} (hu : vs[j]? = some u) : w.cell? (ad.add j) = some u := by
  obtain ⟨h1, h2⟩ := h j u hu
  have h3 := hinv.prot _ _ _ h2
  have : ad.add j = ⟨(ad.add j).block, (ad.add j).off, none⟩ := by rw [← h1]
  rw [this]; exact h3
theorem add_zero0 (ad : Addr) : ad.add 0 = ad := by simp [Addr.add]
theorem ld_loadVar {t : TypeId} {cs : List V} {off : Nat} {x : V} (h : ld P t cs off = some x) {vs : List Value} (hcs : All2 (Rep P G) cs vs) (h1 : ones cs = true) {ad : Addr} (hc : ∀ j u, vs[off + j]? = some u → w.cell? (ad.add j) = some u) :
    ∃ v, (loadVar t ad).run P w = .ok v w ∧ Rep P G x v := by
  unfold ld at h
  split at h
  · rename_i s hs ha
    split at h
    · rename_i hle
      obtain rfl := Option.some.inj h
      refine ⟨.agg ((vs.drop off).take s).toArray, ?_, .agg (ones_take (ones_drop h1 _) _) (.of ((hcs.drop off).take s))⟩
      have hl : ((vs.drop off).take s).length = s := by rw [List.length_take, List.length_drop, ← hcs.length]; omega
      have hr := run_loadCells_list (P := P) w ad ((vs.drop off).take s) (fun j u hu => by
        rw [List.getElem?_take] at hu
        split at hu
        · rw [List.getElem?_drop] at hu; exact hc j u hu
        · cases hu)
      rw [hl] at hr
      simp [loadVar, run_isAgg ha, run_size hs, hr]
    · cases h
  · rename_i s hs ha
    obtain ⟨v, hv, hr⟩ := hcs.get h
    refine ⟨v, ?_, hr⟩
    have := hc 0 v (by simpa using hv)
    rw [add_zero0] at this
    simp only [loadVar, Sem.run_bind, run_isAgg ha, Result.andThen_ok]
    simp [run_load, this]
  · cases h
theorem ld_part {t : TypeId} {cs : List V} {off : Nat} {x : V} (h : ld P t cs off = some x) {vs : List Value} (hcs : All2 (Rep P G) cs vs) (h1 : ones cs = true) :
    ∃ v, (part t vs.toArray off).run P w = .ok v w ∧ Rep P G x v := by
  unfold ld at h
  split at h
  · rename_i s hs ha
    split at h
    · rename_i hle
      obtain rfl := Option.some.inj h
      refine ⟨.agg ((vs.drop off).take s).toArray, ?_, .agg (ones_take (ones_drop h1 _) _) (.of ((hcs.drop off).take s))⟩
      simp only [part, Sem.run_bind, run_isAgg ha, Result.andThen_ok, if_true, run_size hs, Sem.run_pure]
      congr 2
      apply Array.ext'
      simp [List.take_drop]
    · cases h
  · rename_i s hs ha
    obtain ⟨v, hv, hr⟩ := hcs.get h
    refine ⟨v, ?_, hr⟩
    simp only [part, Sem.run_bind, run_isAgg ha, Result.andThen_ok, Bool.false_eq_true, if_false, List.getElem?_toArray, hv, Sem.run_pure]
  · cases h
theorem Rep.agg_inv {cs : List V} {v : Value} (h : Rep P G (.agg cs) v) : ∃ vs, v = .agg vs.toArray ∧ ones cs = true ∧ All2 (Rep P G) cs vs := by
  cases h with
  | pure h => cases h with | agg h1 h2 => exact ⟨_, rfl, h1, h2.reps⟩
  | agg h1 h2 => exact ⟨_, rfl, h1, h2.all2⟩
theorem Rep.tup_inv {cs : List V} {v : Value} (h : Rep P G (.tup cs) v) : ∃ vs, v = .tuple vs.toArray ∧ All2 (Rep P G) cs vs := by
  cases h with
  | pure h => cases h
  | tup h => exact ⟨_, rfl, h.all2⟩
theorem Rep.sc_inv {u v : Value} (h : Rep P G (.sc u) v) : v = u := by
  cases h with | pure h => cases h; rfl
theorem Rep.ptr_inv {id off : Nat} {v : Value} (h : Rep P G (.ptr id off) v) : ∃ b, v = .pointer (some ⟨b, off, none⟩) ∧ G.bx id = some b := by
  cases h with
  | pure h => cases h
  | ptr h => exact ⟨_, rfl, h⟩
theorem Rep.map_inv {id : Nat} {v : Value} (h : Rep P G (.map id) v) : ∃ b, v = .map (some b) ∧ G.bx id = some b := by
  cases h with
  | pure h => cases h
  | map h => exact ⟨_, rfl, h⟩
theorem Rep.cp_inv {cs : List V} {v : Value} (h : Rep P G (.cp cs) v) : ∃ ad vs, v = .pointer (some ad) ∧ ones cs = true ∧ LiesAt G.pr ad vs ∧ All2 (RepP P G.pr) cs vs := by
  cases h with | pure h => cases h with | cp h1 h2 h3 => exact ⟨_, _, rfl, h1, h2, h3.all2⟩
theorem Rep.fn_inv {f : Fn} {x y : List V} {v : Value} (h : Rep P G (.fn f x y) v) : ∃ us ws, v = .func f us.toArray ws.toArray ∧ All2 (Rep P G) x us ∧ All2 (Rep P G) y ws := by
  cases h with
  | pure h => cases h; exact ⟨[], [], rfl, .nil, .nil⟩
  | fn h1 h2 => exact ⟨_, _, rfl, h1.all2, h2.all2⟩
theorem Rep.list_inv {e : TypeId} {xs : List V} {r : Nat} {v : Value} (h : Rep P G (.list e xs r) v) : ∃ A c, v = .slice A xs.length c ∧ RepP P G.pr (.list e xs 0) (.slice A xs.length c) ∧ (r = 1 → xs = [] ∧ A = none ∧ c = 0) ∧ (r = 0 ∨ r = 1 ∨ 8 ≤ r ∧ ∃ v0, G.tl r = some v0 ∧ (xs.length = vlen v0 → v0 = .slice A xs.length c)) := by
  cases h with
  | pure h =>
    cases h with
    | list h1 h2 h3 h4 h5 h6 h7 =>
      subst h1
      refine ⟨_, _, rfl, .list rfl h2 (.inl rfl) h4 h5 h6 h7, fun hr => ?_, ?_⟩
      · rcases h3 with h3 | ⟨_, h3, h8, h9⟩
        · omega
        · exact ⟨List.eq_nil_of_length_eq_zero h8, h3, h9⟩
      · rcases h3 with h3 | h3
        · exact .inl h3
        · exact .inr (.inl h3.1)
  | tok h1 h2 h3 h4 h5 =>
    have h6 := h2
    cases h2 with
    | list k1 => subst k1; exact ⟨_, _, rfl, h6, fun e => by omega, .inr (.inr ⟨h1, _, h3, h5⟩)⟩
theorem op_load (hgl : GlOK P E.gl G.pr) (hinv : Inv P G st w) (ht : TmR P G N tm a) {t : TypeId} {x : Operand} {r : R} (ho : o.op = .load t x) (hx : xop0 P E tm st i0 nx' o = some r) (hK : Good P G st i0 nx' a o K Q r) : o.wp P a w K Q := by
  simp only [xop0, ho, Option.bind_eq_some_iff] at hx
  obtain ⟨x0, h0, hx⟩ := hx
  have hr := ev_sound hgl ht h0
  split at hx
  · rename_i id off
    split at hx
    · rename_i cs hs
      rw [Option.map_eq_some_iff] at hx
      obtain ⟨y, hy, rfl⟩ := hx
      obtain ⟨b, hv, hb⟩ := hr.ptr_inv
      obtain ⟨b', arr, T, h1, h2, h3, h4, h5⟩ := hinv.objs id _ hs
      rw [hb] at h1
      obtain rfl := Option.some.inj h1
      obtain ⟨v, hv2, hrep⟩ := ld_loadVar (w := w) hy h5 h4 (ad := ⟨b, off, none⟩) (fun j u hu => by rw [cell_blk h3]; simpa using hu)
      refine good_same hinv hK (v := v) ?_ hrep
      simp [execOp, ho, hv, Instr.loadAt, Instr.sureAddr, hv2]
    · cases hx
  · rename_i cs
    rw [Option.map_eq_some_iff] at hx
    obtain ⟨y, hy, rfl⟩ := hx
    obtain ⟨ad, vs, hv, h1, h2, h3⟩ := hr.cp_inv
    obtain ⟨v, hv2, hrep⟩ := ld_loadVar (G := G) (w := w) hy (h3.mono fun _ _ => .pure) h1 (ad := ad) (fun j u hu => cell_lies hinv h2 (by simpa using hu))
    refine good_same hinv hK (v := v) ?_ hrep
    simp [execOp, ho, hv, Instr.loadAt, Instr.sureAddr, hv2]
  · cases hx
theorem op_move (hgl : GlOK P E.gl G.pr) (hinv : Inv P G st w) (ht : TmR P G N tm a) {x : Operand} {r : R} (ho : o.op = .move x ∨ o.op = .assign x) (hx : xop0 P E tm st i0 nx' o = some r) (hK : Good P G st i0 nx' a o K Q r) : o.wp P a w K Q := by
  rcases ho with ho | ho <;>
  · simp only [xop0, ho, Option.map_eq_some_iff] at hx
    obtain ⟨x0, h0, rfl⟩ := hx
    exact good_same hinv hK (v := a.eval x) (by simp [execOp, ho]) (ev_sound hgl ht h0)
theorem op_pick (hgl : GlOK P E.gl G.pr) (hinv : Inv P G st w) (ht : TmR P G N tm a) {c x y : Operand} {r : R} (ho : o.op = .pick c x y) (hx : xop0 P E tm st i0 nx' o = some r) (hK : Good P G st i0 nx' a o K Q r) : o.wp P a w K Q := by
  simp only [xop0, ho, Option.bind_eq_some_iff] at hx
  obtain ⟨c0, hc, x0, h0, y0, h1, hx⟩ := hx
  split at hx
  · rename_i b
    obtain rfl := Option.some.inj hx
    have hcv := (ev_sound hgl ht hc).sc_inv
    refine good_same hinv hK (v := if b then a.eval x else a.eval y) (by simp [execOp, ho, hcv, asBool]) ?_
    cases b
    · exact ev_sound hgl ht h1
    · exact ev_sound hgl ht h0
  · cases hx
theorem bx_none_st (hinv : Inv P G st w) {i : Nat} (h1 : G.bx i = none) (h2 : G.tl i = none) : st i = none := by
  cases hs : st i with
  | none => rfl
  | some ob =>
    have := hinv.objs i ob hs
    cases ob with
    | cells => obtain ⟨b, _, _, h, _⟩ := this; rw [h1] at h; cases h
    | map => obtain ⟨b, _, _, h, _⟩ := this; rw [h1] at h; cases h
    | iter => obtain ⟨b, h, _⟩ := this; rw [h1] at h; cases h
    | tok => obtain ⟨b, _, _, h, _⟩ := this; rw [h2] at h; cases h
    | row => obtain ⟨v, _, _, h, _⟩ := this; rw [h2] at h; cases h
    | frz => obtain ⟨b, _, h, _⟩ := this; rw [h1] at h; cases h
theorem same_bx {i : Nat} (hi : R8 i0 i) (b : Nat) : Same G { G with bx := upd G.bx i (some b) } (R8 i0) := fun k hk => ⟨fun h => by
  have : k ≠ i := fun e => hk (by subst e; exact hi)
  simpa [upd, this] using h, id⟩
theorem r8_self (i0 : Nat) : R8 i0 i0 := ⟨Nat.le_refl _, by omega⟩
/-- A variable that is laid anew. -/
theorem newVar_good (hinv : Inv P G st w) (hfr : Fresh G (R8 i0)) {e : TypeId} {x : V} {v : Value} (hv : Rep P G x v) (h1 : ones x.cells = true) (hK : Good P G st i0 nx' a o K Q (.val (.ptr i0 0) [(i0, some (.cells x.cells))] []))
    (hr : (execOp a.eval o).run P w = .ok (.value (.pointer (some ⟨w.heap.size, 0, none⟩))) (w.alloc (.cells v.cells e))) : o.wp P a w K Q := by
  have hf := hfr i0 (r8_self i0)
  have hle : G.le { G with bx := upd G.bx i0 (some w.heap.size) } := ⟨rfl, rfl, fun _ _ _ q => q, fun j b q => by
    simp only [upd]; split
    · rename_i e; subst e; rw [hf.1] at q; cases q
    · exact q, fun _ v q => ⟨v, q, Nat.le_refl _, fun _ => rfl, fun _ => rfl⟩, fun _ _ _ => rfl⟩
  have hcells : All2 (Rep P G) x.cells v.cells.toList := by
    cases x with
    | agg cs => obtain ⟨vs, rfl, _, h⟩ := hv.agg_inv; simpa [V.cells, Value.cells] using h
    | sc u => have := hv.sc_inv; subst this; have h2 : v.oneCell' = true := by simpa [ones, V.cells, V.one] using h1
              have : v.cells.toList = [v] := by cases v <;> first | rfl | (simp [Value.oneCell'] at h2)
              rw [this]; exact .cons hv .nil
    | tup => simp [ones, V.cells, V.one] at h1
    | _ =>
      have h2 := hv.one rfl
      have : v.cells.toList = [v] := by cases v <;> first | rfl | (simp [Value.oneCell'] at h2)
      rw [this]; exact .cons hv .nil
  obtain ⟨hg, hi⟩ := hinv.new (.cells v.cells e) i0 (.cells x.cells) hf.1 (bx_none_st hinv hf.1 hf.2) (by simp) ⟨w.heap.size, v.cells, e, by simp [upd], hinv.size, heap_alloc_new w _, h1, hcells.rep_mono hle⟩
  exact wp_val hr (hK _ _ _ hg (same_bx (r8_self i0) _) hi (.ptr (by simp [upd])))
theorem op_alloc (hinv : Inv P G st w) (hfr : Fresh G (R8 i0)) {e : TypeId} {r : R} (ho : o.op = .alloc e) (hx : xop0 P E tm st i0 nx' o = some r) (hK : Good P G st i0 nx' a o K Q r) : o.wp P a w K Q := by
  simp only [xop0, ho, Option.bind_eq_some_iff] at hx
  obtain ⟨z, hz, hx⟩ := hx
  split at hx
  · rename_i h1
    obtain rfl := Option.some.inj hx
    refine newVar_good hinv hfr (e := e) (x := V.ofV z) (v := z) (.pure (rep_ofV _ _ h1)) h1 hK ?_
    simp [execOp, ho, Instr.alloc, run_zero hz, newVar, newRow]
  · cases hx
theorem op_box (hgl : GlOK P E.gl G.pr) (hinv : Inv P G st w) (ht : TmR P G N tm a) (hfr : Fresh G (R8 i0)) {e : TypeId} {x : Operand} {r : R} (ho : o.op = .box e x) (hx : xop0 P E tm st i0 nx' o = some r) (hK : Good P G st i0 nx' a o K Q r) : o.wp P a w K Q := by
  simp only [xop0, ho, Option.bind_eq_some_iff] at hx
  obtain ⟨x0, h0, hx⟩ := hx
  split at hx
  · rename_i h1
    obtain rfl := Option.some.inj hx
    refine newVar_good hinv hfr (e := e) (ev_sound hgl ht h0) h1 hK ?_
    simp [execOp, ho, Instr.box, newVar, newRow]
  · cases hx
end
end Go.Proofs.YtkbheoganajhaaaDoor.Vm
set_option linter.unusedVariables false
set_option linter.unusedSimpArgs false
namespace Go.Proofs.YtkbheoganajhaaaDoor.Vm
open Go.RowKit
section
variable {P : Program} {G G' : Gh} {st : St} {w w' : World} {a : Act} {tm : Nat → V} {N i0 nx' : Nat} {o : Oper} {K : Act → World → Prop} {Q : Exit → Act → World → Prop} {E : Env}
theorem rep_cells {x : V} {v : Value} (hv : Rep P G x v) (h1 : ones x.cells = true) : All2 (Rep P G) x.cells v.cells.toList := by
  cases x with
  | agg cs => obtain ⟨vs, rfl, _, h⟩ := hv.agg_inv; simpa [V.cells, Value.cells] using h
  | sc u => have := hv.sc_inv; subst this; have h2 : v.oneCell' = true := by simpa [ones, V.cells, V.one] using h1
            have : v.cells.toList = [v] := by cases v <;> first | rfl | (simp [Value.oneCell'] at h2)
            rw [this]; exact .cons hv .nil
  | tup => simp [ones, V.cells, V.one] at h1
  | _ =>
    have h2 := hv.one rfl
    have : v.cells.toList = [v] := by cases v <;> first | rfl | (simp [Value.oneCell'] at h2)
    rw [this]; exact .cons hv .nil
theorem repP_cells {p : Pr} {x : V} {v : Value} (hv : RepP P p x v) (h1 : ones x.cells = true) : All2 (RepP P p) x.cells v.cells.toList := by
  cases hv with
  | agg h2 h3 => simpa [V.cells, Value.cells] using h3.all2
  | sc u => have h2 : v.oneCell' = true := by simpa [ones, V.cells, V.one] using h1
            have : v.cells.toList = [v] := by cases v <;> first | rfl | (simp [Value.oneCell'] at h2)
            rw [this]; exact .cons (.sc _) .nil
  | list h2 h3 h4 h5 h6 h7 h8 => exact .cons (.list h2 h3 h4 h5 h6 h7 h8) .nil
  | cp h2 h3 h4 => exact .cons (.cp h2 h3 h4) .nil
  | fn f => exact .cons (.fn f) .nil
theorem ones_vals {xs : List V} {vs : List Value} (h : All2 (Rep P G) xs vs) (h1 : ones xs = true) : ∀ u ∈ vs, u.oneCell' = true := fun u hu => by
  obtain ⟨i, hi⟩ := List.getElem?_of_mem hu
  obtain ⟨x, hx, hr⟩ := h.get' hi
  exact hr.one (ones_get h1 hx)
theorem op_store (hgl : GlOK P E.gl G.pr) (hinv : Inv P G st w) (ht : TmR P G N tm a) {t : TypeId} {x y : Operand} {r : R} (ho : o.op = .store t x y) (hx : xop0 P E tm st i0 nx' o = some r) (hK : Good P G st i0 nx' a o K Q r) : o.wp P a w K Q := by
  simp only [xop0, ho, Option.bind_eq_some_iff] at hx
  obtain ⟨x0, h0, y0, h1, hx⟩ := hx
  split at hx
  · rename_i id off
    split at hx
    · rename_i cs hs
      split at hx
      · rename_i hc
        obtain rfl := Option.some.inj hx
        obtain ⟨hc1, hc2, hc3⟩ := hc
        obtain ⟨b, hv, hb⟩ := (ev_sound hgl ht h0).ptr_inv
        obtain ⟨b', arr, T, g1, g2, g3, g4, g5⟩ := hinv.objs id _ hs
        rw [hb] at g1
        obtain rfl := Option.some.inj g1
        have hy := rep_cells (ev_sound hgl ht h1) hc3
        have hl := hy.length
        have hla := g5.length
        have hst := run_storeCells_at P b off T (a.eval y).cells.toList 0 arr w g3 (by simp at hl hla ⊢; omega) (ones_vals hy hc3)
        simp only [Nat.add_zero, ← hl] at hst
        refine wp_skip0 (w' := w.setRow b (arr.toList.take off ++ (a.eval y).cells.toList ++ arr.toList.drop (off + y0.cells.length)).toArray) ?_ (hK G _ undef (.refl G) (.refl G _) ?_ (.pure (.sc _)))
        · have hsz : ((a.eval y).cells.size) = y0.cells.length := by simpa using hl.symm
          simp [execOp, ho, hv, Instr.storeAt, Instr.sureAddr, storeVar, run_size hc1, hsz, hst]
        · refine hinv.set id _ _ b hs hb (by simp) (by simp) g2 (fun k hk => setRow_other w b k _ hk) (by simp) rfl rfl rfl ⟨b, _, T, hb, g2, setRow_heap w b arr _ T (0, 0) g3, ?_, ?_⟩
          · rw [ones_append, ones_append, ones_take g4, hc3, ones_drop g4]; rfl
          · exact ((g5.take off).append hy).append (g5.drop _)
      · cases hx
    · cases hx
  · cases hx
theorem op_nilCheck (hgl : GlOK P E.gl G.pr) (hinv : Inv P G st w) (ht : TmR P G N tm a) {x : Operand} {r : R} (ho : o.op = .nilCheck x) (hx : xop0 P E tm st i0 nx' o = some r) (hK : Good P G st i0 nx' a o K Q r) : o.wp P a w K Q := by
  simp only [xop0, ho, Option.bind_eq_some_iff] at hx
  obtain ⟨x0, h0, hx⟩ := hx
  have hr := ev_sound hgl ht h0
  split at hx
  · obtain rfl := Option.some.inj hx
    obtain ⟨b, hv, hb⟩ := hr.ptr_inv
    exact good_same hinv hK (v := a.eval x) (by simp [execOp, ho, hv]) hr
  · obtain rfl := Option.some.inj hx
    obtain ⟨ad, vs, hv, _⟩ := hr.cp_inv
    exact good_same hinv hK (v := a.eval x) (by simp [execOp, ho, hv]) hr
  · obtain rfl := Option.some.inj hx
    obtain ⟨us, ws, hv, _⟩ := hr.fn_inv
    exact good_same hinv hK (v := a.eval x) (by simp [execOp, ho, hv]) hr
  · cases hx
theorem rep_val1 {x : V} {u v : Value} (h : Rep P G x v) (hu : x.val1? = some u) : v = u := by
  cases x <;> simp [V.val1?] at hu
  subst hu; exact h.sc_inv
theorem vals_eq {xs : List V} {us vs : List Value} (h : All2 (Rep P G) xs vs) (hu : xs.mapM V.val1? = some us) : vs = us := by
  have h2 := mapM_some hu
  clear hu
  induction h2 generalizing vs with
  | nil => cases h; rfl
  | cons h3 _ ih => cases h with | cons k1 k2 => rw [rep_val1 k1 h3, ih k2]
theorem rep_val {x : V} {u v : Value} (h : Rep P G x v) (hu : x.val? = some u) : v = u := by
  unfold V.val? at hu
  split at hu
  · cases hu; exact h.sc_inv
  · rw [Option.map_eq_some_iff] at hu
    obtain ⟨l, hl, rfl⟩ := hu
    obtain ⟨vs, rfl, _, hv⟩ := h.agg_inv
    rw [vals_eq hv hl]
  · cases hu
theorem run_ptr_nil0 {t el : TypeId} (hu : P.underlying t = some (.pointer el)) (ad : Addr) (w : World) (d : Nat) : (Op.equalIn (d + 1) t (.pointer (some ad)) (.pointer none)).run P w = .ok false w := by
  simp [Op.equalIn, run_underlying hu]
theorem run_ptr_nil {t el : TypeId} (hu : P.underlying t = some (.pointer el)) (ad : Addr) (w : World) : (Op.equal t (.pointer (some ad)) (.pointer none)).run P w = .ok false w := run_ptr_nil0 hu ad w 9999
theorem op_binOp (hgl : GlOK P E.gl G.pr) (hinv : Inv P G st w) (ht : TmR P G N tm a) {b : BinOp} {t yt : TypeId} {x y : Operand} {r : R} (ho : o.op = .binOp b t x y yt) (hx : xop0 P E tm st i0 nx' o = some r) (hK : Good P G st i0 nx' a o K Q r) : o.wp P a w K Q := by
  simp only [xop0, ho, Option.bind_eq_some_iff] at hx
  obtain ⟨x0, h0, y0, h1, hx⟩ := hx
  have hr := ev_sound hgl ht h0
  have hr1 := ev_sound hgl ht h1
  split at hx
  · obtain ⟨bb, hv, hb⟩ := hr.ptr_inv
    have hv1 := hr1.sc_inv
    split at hx
    · rename_i el hu
      obtain rfl := Option.some.inj hx
      exact good_same hinv hK (v := .bool false) (by simp [execOp, ho, hv, hv1, eqGuard, binOp, run_ptr_nil hu]) (.pure (.sc _))
    · rename_i el hu
      obtain rfl := Option.some.inj hx
      exact good_same hinv hK (v := .bool true) (by simp [execOp, ho, hv, hv1, eqGuard, binOp, run_ptr_nil hu]) (.pure (.sc _))
    · cases hx
  · rw [Option.bind_eq_some_iff] at hx
    obtain ⟨u, hu, hx⟩ := hx
    rw [Option.bind_eq_some_iff] at hx
    obtain ⟨v, hv, hx⟩ := hx
    rw [Option.map_eq_some_iff] at hx
    obtain ⟨z, hz, rfl⟩ := hx
    have e1 := rep_val hr hu
    have e2 := rep_val hr1 hv
    have hrun := reck_run _ hz w
    refine good_same hinv hK (v := z) ?_ (.pure (.sc _))
    simp only [execOp, ho, e1, e2]
    rw [Sem.run_bind, hrun]
    rfl
theorem op_unOp (hgl : GlOK P E.gl G.pr) (hinv : Inv P G st w) (ht : TmR P G N tm a) {b : UnOp} {t : TypeId} {x : Operand} {r : R} (ho : o.op = .unOp b t x) (hx : xop0 P E tm st i0 nx' o = some r) (hK : Good P G st i0 nx' a o K Q r) : o.wp P a w K Q := by
  simp only [xop0, ho, Option.bind_eq_some_iff, Option.map_eq_some_iff] at hx
  obtain ⟨x0, h0, u, hu, z, hz, rfl⟩ := hx
  have e1 := rep_val1 (ev_sound hgl ht h0) hu
  have hrun := reck_run _ hz w
  refine good_same hinv hK (v := z) ?_ (.pure (.sc _))
  simp only [execOp, ho, e1]
  rw [Sem.run_bind, hrun]
  rfl
theorem op_makeFunc (hgl : GlOK P E.gl G.pr) (hinv : Inv P G st w) (ht : TmR P G N tm a) {f : Fn} {x y : Array Operand} {r : R} (ho : o.op = .makeFunc f x y) (hx : xop0 P E tm st i0 nx' o = some r) (hK : Good P G st i0 nx' a o K Q r) : o.wp P a w K Q := by
  simp only [xop0, ho, Option.bind_eq_some_iff] at hx
  obtain ⟨x0, h0, y0, h1, hx⟩ := hx
  obtain rfl := Option.some.inj hx
  refine good_same hinv hK (v := .func f (x.map a.eval) (y.map a.eval)) (by simp [execOp, ho, Instr.makeFunc]) ?_
  have e1 := evs_sound hgl ht h0
  have e2 := evs_sound hgl ht h1
  have h3 : x.map a.eval = (x.toList.map a.eval).toArray := by apply Array.ext'; simp
  have h4 : y.map a.eval = (y.toList.map a.eval).toArray := by apply Array.ext'; simp
  rw [h3, h4]
  exact .fn (.of e1) (.of e2)
theorem op_makeMap (hinv : Inv P G st w) (hfr : Fresh G (R8 i0)) {t : TypeId} {r : R} (ho : o.op = .makeMap t none) (hx : xop0 P E tm st i0 nx' o = some r) (hK : Good P G st i0 nx' a o K Q r) : o.wp P a w K Q := by
  simp only [xop0, ho] at hx
  obtain rfl := Option.some.inj hx
  have hf := hfr i0 (r8_self i0)
  obtain ⟨hg, hi⟩ := hinv.new (.map #[] 0) i0 (.map []) hf.1 (bx_none_st hinv hf.1 hf.2) (by simp) ⟨w.heap.size, #[], 0, by simp [upd], hinv.size, heap_alloc_new w _, .nil⟩
  exact wp_val (v := .map (some w.heap.size)) (by simp [execOp, ho, Instr.makeMap]) (hK _ _ _ hg (same_bx (r8_self i0) _) hi (.map (by simp [upd])))
theorem add_add0 (ad : Addr) (i j : Nat) : (ad.add i).add j = ad.add (i + j) := by
  unfold Addr.add
  by_cases hi : i = 0 <;> by_cases hj : j = 0 <;> simp [hi, hj, Nat.add_assoc]
theorem LiesAt.drop {p : Pr} {ad : Addr} {vs : List Value} (h : LiesAt p ad vs) (n : Nat) : LiesAt p (ad.add n) (vs.drop n) := fun j u hu => by
  rw [add_add0]
  exact h _ u (by rwa [List.getElem?_drop] at hu)
theorem LiesAt.take {p : Pr} {ad : Addr} {vs : List Value} (h : LiesAt p ad vs) (n : Nat) : LiesAt p ad (vs.take n) := fun j u hu => by
  rw [List.getElem?_take] at hu
  split at hu
  · exact h _ u hu
  · cases hu
theorem blk_add (b off n : Nat) : (⟨b, off, none⟩ : Addr).add n = ⟨b, off + n, none⟩ := by unfold Addr.add; split <;> simp_all
theorem op_fieldAddr (hgl : GlOK P E.gl G.pr) (hinv : Inv P G st w) (ht : TmR P G N tm a) {t : TypeId} {x : Operand} {f : Nat} {r : R} (ho : o.op = .fieldAddr t x f) (hx : xop0 P E tm st i0 nx' o = some r) (hK : Good P G st i0 nx' a o K Q r) : o.wp P a w K Q := by
  simp only [xop0, ho, Option.bind_eq_some_iff] at hx
  obtain ⟨x0, h0, hx⟩ := hx
  have hr := ev_sound hgl ht h0
  split at hx
  · rename_i fs hfs
    rw [Option.bind_eq_some_iff] at hx
    obtain ⟨fd, hfd, hx⟩ := hx
    split at hx
    · rename_i n hn
      have hpl : ∀ ad : Addr, (fieldPlace ad fd).run P w = .ok (ad.add fd.offset) w := fun ad => by simp [fieldPlace, run_size hn]
      split at hx
      · obtain rfl := Option.some.inj hx
        obtain ⟨b, hv, hb⟩ := hr.ptr_inv
        exact good_same hinv hK (v := .pointer (some _)) (by simp [execOp, ho, hv, Instr.fieldAt, run_underlying hfs, hfd, Instr.sureAddr, hpl, blk_add]) (.ptr hb)
      · split at hx
        · obtain rfl := Option.some.inj hx
          obtain ⟨ad, vs, hv, h1, h2, h3⟩ := hr.cp_inv
          exact good_same hinv hK (v := .pointer (some (ad.add fd.offset))) (by simp [execOp, ho, hv, Instr.fieldAt, run_underlying hfs, hfd, Instr.sureAddr, hpl]) (.pure (.cp (ones_drop h1 _) (h2.drop _) (.of (h3.drop _))))
        · cases hx
      · cases hx
    · cases hx
  · cases hx
theorem op_field (hgl : GlOK P E.gl G.pr) (hinv : Inv P G st w) (ht : TmR P G N tm a) {t : TypeId} {x : Operand} {f : Nat} {r : R} (ho : o.op = .field t x f) (hx : xop0 P E tm st i0 nx' o = some r) (hK : Good P G st i0 nx' a o K Q r) : o.wp P a w K Q := by
  simp only [xop0, ho, Option.bind_eq_some_iff] at hx
  obtain ⟨x0, h0, hx⟩ := hx
  have hr := ev_sound hgl ht h0
  split at hx
  · rename_i cs fs hfs
    rw [Option.bind_eq_some_iff] at hx
    obtain ⟨fd, hfd, hx⟩ := hx
    rw [Option.map_eq_some_iff] at hx
    obtain ⟨y, hy, rfl⟩ := hx
    obtain ⟨vs, hv, h1, h2⟩ := hr.agg_inv
    obtain ⟨u, hu, hrep⟩ := ld_part (w := w) hy h2 h1
    exact good_same hinv hK (v := u) (by simp [execOp, ho, hv, Instr.field, run_underlying hfs, hfd, asAgg, hu]) hrep
  · cases hx
theorem flat_get {s : Nat} : ∀ {xs : List V} {i : Nat} {x : V}, (∀ y ∈ xs, y.cells.length = s) → xs[i]? = some x → ((xs.flatMap V.cells).drop (i * s)).take s = x.cells ∧ i * s + s ≤ (xs.flatMap V.cells).length
  | [], i, x, _, h => by simp at h
  | y :: ys, 0, x, hl, h => by
    simp at h; subst h
    have := hl y (by simp)
    rw [List.flatMap_cons, Nat.zero_mul, List.drop_zero, ← this, List.take_left]
    exact ⟨rfl, by simp⟩
  | y :: ys, i + 1, x, hl, h => by
    obtain ⟨h1, h2⟩ := flat_get (xs := ys) (i := i) (fun z hz => hl z (by simp [hz])) (by simpa using h)
    have := hl y (by simp)
    rw [List.flatMap_cons, Nat.succ_mul, Nat.add_comm (i * s) s, ← this, List.drop_append, List.length_append]
    simp only [Nat.add_sub_cancel_left, Nat.add_comm]
    rw [List.drop_eq_nil_of_le (by omega), List.nil_append, this]
    exact ⟨h1, by omega⟩
theorem op_extract (hgl : GlOK P E.gl G.pr) (hinv : Inv P G st w) (ht : TmR P G N tm a) {x : Operand} {i : Nat} {r : R} (ho : o.op = .extract x i) (hx : xop0 P E tm st i0 nx' o = some r) (hK : Good P G st i0 nx' a o K Q r) : o.wp P a w K Q := by
  simp only [xop0, ho, Option.bind_eq_some_iff] at hx
  obtain ⟨x0, h0, hx⟩ := hx
  split at hx
  · rw [Option.map_eq_some_iff] at hx
    obtain ⟨y, hy, rfl⟩ := hx
    obtain ⟨vs, hv, h2⟩ := (ev_sound hgl ht h0).tup_inv
    obtain ⟨u, hu, hr⟩ := h2.get hy
    exact good_same hinv hK (v := u) (by simp [execOp, ho, hv, Instr.extract, hu]) hr
  · cases hx
theorem op_makeInterface (hgl : GlOK P E.gl G.pr) (hinv : Inv P G st w) (ht : TmR P G N tm a) {t : TypeId} {x : Operand} {r : R} (ho : o.op = .makeInterface t x) (hx : xop0 P E tm st i0 nx' o = some r) (hK : Good P G st i0 nx' a o K Q r) : o.wp P a w K Q := by
  simp only [xop0, ho, Option.bind_eq_some_iff] at hx
  obtain ⟨x0, h0, hx⟩ := hx
  have hr := ev_sound hgl ht h0
  split at hx
  · cases hx
  · cases hx
  · rename_i h1 h2
    obtain rfl := Option.some.inj hx
    refine good_same hinv hK (v := .iface t (a.eval x)) ?_ (.ifc hr)
    cases hu : P.underlying t with
    | none => exact absurd hu h2
    | some d =>
      simp only [execOp, ho, Instr.makeInterface, Sem.run_bind, run_underlying hu, Result.andThen_ok]
      cases d <;> first | rfl | exact absurd hu (h1 _)
theorem Rep.ifc_inv {t : TypeId} {x : V} {v : Value} (h : Rep P G (.ifc t x) v) : ∃ u, v = .iface t u ∧ Rep P G x u := by
  cases h with
  | pure h => cases h
  | ifc h => exact ⟨_, rfl, h⟩
theorem op_panic (hgl : GlOK P E.gl G.pr) (hinv : Inv P G st w) (ht : TmR P G N tm a) {x : Operand} {r : R} (ho : o.op = .panic x) (hx : xop0 P E tm st i0 nx' o = some r) (hK : Good P G st i0 nx' a o K Q r) : o.wp P a w K Q := by
  simp only [xop0, ho, Option.bind_eq_some_iff] at hx
  obtain ⟨x0, h0, hx⟩ := hx
  have hr := ev_sound hgl ht h0
  split at hx
  · obtain rfl := Option.some.inj hx
    obtain ⟨u, hv, _⟩ := hr.ifc_inv
    rename_i t x1 _
    have hk := hK G w _ (.refl G) (.refl G _) hinv hr
    unfold Oper.wp
    rw [hv] at hk
    have : (execOp a.eval o).run P w = .halt (.panic (.iface t u)) w := by simp [execOp, ho, hv, Instr.panic, goPanic, Sem.run]
    rw [this]
    exact hk
  · cases hx
end
end Go.Proofs.YtkbheoganajhaaaDoor.Vm
set_option linter.unusedVariables false
set_option linter.unusedSimpArgs false
namespace Go.Proofs.YtkbheoganajhaaaDoor.Vm
open Go.RowKit
section
variable {P : Program} {G G' : Gh} {st : St} {w w' : World} {a : Act} {tm : Nat → V} {N i0 nx' : Nat} {o : Oper} {K : Act → World → Prop} {Q : Exit → Act → World → Prop} {E : Env}
theorem isU8_u {e : TypeId} (h : isU8 P e = true) : P.underlying e = some (.int .u8) := by
  unfold isU8 at h
  split at h
  · assumption
  · cases h
theorem isStr_u {e : TypeId} (h : isStr P e = true) : P.underlying e = some .string := by
  unfold isStr at h
  split at h
  · assumption
  · cases h
theorem uel_u {t e : TypeId} (h : uel P t = some e) : P.underlying t = some (.slice e) := by
  unfold uel at h
  split at h
  · cases h; assumption
  · cases h
theorem list_parts {p : Pr} {e : TypeId} {xs : List V} {r : Nat} {v : Value} (h : RepP P p (.list e xs r) v) : ∃ A c vs, v = .slice A xs.length c ∧ xs.length ≤ c ∧ (r = 0 ∨ (r = 1 ∧ A = none ∧ xs.length = 0 ∧ c = 0)) ∧ (∀ s, usz P e = some s → ∀ x ∈ xs, x.cells.length = s) ∧
    ones (xs.flatMap V.cells) = true ∧ (vs ≠ [] → ∃ ad, A = some ad ∧ LiesAt p ad vs) ∧ All2 (RepP P p) (xs.flatMap V.cells) vs := by
  cases h with
  | list h1 h2 h3 h4 h5 h6 h7 => subst h1; exact ⟨_, _, _, rfl, h2, h3, h4, h5, h6, h7.all2⟩
theorem flat_len {s : Nat} : ∀ {xs : List V}, (∀ y ∈ xs, y.cells.length = s) → (xs.flatMap V.cells).length = xs.length * s
  | [], _ => by simp
  | y :: ys, h => by rw [List.flatMap_cons, List.length_append, flat_len fun z hz => h z (by simp [hz]), h y (by simp), List.length_cons, Nat.succ_mul]; omega
theorem flat_take {s : Nat} : ∀ {xs : List V} (n : Nat), (∀ y ∈ xs, y.cells.length = s) → (xs.take n).flatMap V.cells = (xs.flatMap V.cells).take (n * s)
  | [], n, _ => by simp
  | y :: ys, 0, h => by simp
  | y :: ys, n + 1, h => by
    have hy := h y (by simp)
    rw [List.take_succ_cons, List.flatMap_cons, List.flatMap_cons, flat_take n fun z hz => h z (by simp [hz]), Nat.succ_mul, Nat.add_comm (n * s) s, ← hy, List.take_append, List.take_of_length_le (l := y.cells) (by omega)]
    simp
theorem flat_drop {s : Nat} : ∀ {xs : List V} (n : Nat), (∀ y ∈ xs, y.cells.length = s) → (xs.drop n).flatMap V.cells = (xs.flatMap V.cells).drop (n * s)
  | [], n, _ => by simp
  | y :: ys, 0, h => by simp
  | y :: ys, n + 1, h => by
    have hy := h y (by simp)
    rw [List.drop_succ_cons, List.flatMap_cons, flat_drop n fun z hz => h z (by simp [hz]), Nat.succ_mul, Nat.add_comm (n * s) s, ← hy, List.drop_append, List.drop_eq_nil_of_le (as := y.cells) (by omega)]
    simp
theorem vint_inv {x : V} {n : Int} (h : vint x = some n) : ∃ k, x = .sc (.int k n) := by
  unfold vint at h
  split at h
  · cases h; exact ⟨_, rfl⟩
  · cases h
theorem op_indexAddr (hgl : GlOK P E.gl G.pr) (hinv : Inv P G st w) (ht : TmR P G N tm a) {t : TypeId} {x y : Operand} {r : R} (ho : o.op = .indexAddr t x y) (hx : xop0 P E tm st i0 nx' o = some r) (hK : Good P G st i0 nx' a o K Q r) : o.wp P a w K Q := by
  simp only [xop0, ho, Option.bind_eq_some_iff] at hx
  obtain ⟨x0, h0, y0, h1, i, hi, hx⟩ := hx
  obtain ⟨k, rfl⟩ := vint_inv hi
  have hv1 := (ev_sound hgl ht h1).sc_inv
  have hr := ev_sound hgl ht h0
  split at hx
  · rename_i e xs _ el hu
    split at hx
    · rename_i hc
      obtain ⟨hc1, rfl⟩ := hc
      rw [Option.bind_eq_some_iff] at hx
      obtain ⟨z, hz, hx⟩ := hx
      rw [Option.bind_eq_some_iff] at hx
      obtain ⟨s, hs, hx⟩ := hx
      split at hx
      · rename_i hsz
        obtain rfl := Option.some.inj hx
        obtain ⟨A, c, hv, hp, _⟩ := hr.list_inv
        obtain ⟨A', c', vs, hv', h2, h3, h4, h5, h6, h7⟩ := list_parts hp
        obtain ⟨rfl, rfl⟩ : A = A' ∧ c = c' := by simpa using hv'
        obtain ⟨hf1, hf2⟩ := flat_get (fun q hq => h4 s hs q hq) hz
        have hlt : i.toNat < xs.length := (List.getElem?_eq_some_iff.1 hz).1
        have hl := h7.length
        obtain ⟨ad, rfl, hlies⟩ := h6 (by intro e; rw [e] at hl; simp only [List.length_nil] at hl; omega)
        have hilt : i < (xs.length : Int) := by omega
        refine good_same hinv hK (v := .pointer (some (ad.add (i.toNat * s)))) ?_ (.pure (.cp ?_ ((hlies.drop (i.toNat * s)).take s) (.of ?_)))
        · simp [execOp, ho, hv, hv1, Instr.indexAt, asIntOf, run_underlying hu, run_size hs, hc1, hilt]
        · rw [← hf1]; exact ones_take (ones_drop h5 _) _
        · rw [← hf1]; exact (h7.drop _).take _
      · cases hx
    · cases hx
  · rename_i cs n el hu
    split at hx
    · rename_i hc
      obtain ⟨hc1, hc2⟩ := hc
      rw [Option.bind_eq_some_iff] at hx
      obtain ⟨s, hs, hx⟩ := hx
      split at hx
      · rename_i hsz
        obtain rfl := Option.some.inj hx
        obtain ⟨ad, vs, hv, h1, h2, h3⟩ := hr.cp_inv
        refine good_same hinv hK (v := .pointer (some (ad.add (i.toNat * s)))) ?_ (.pure (.cp (ones_drop h1 _) (h2.drop _) (.of (h3.drop _))))
        simp [execOp, ho, hv, hv1, Instr.indexAt, asIntOf, run_underlying hu, run_size hs, hc1, hc2, Instr.sureAddr]
      · cases hx
    · cases hx
  · rename_i id off n el hu
    split at hx
    · rename_i hc
      obtain ⟨hc1, hc2⟩ := hc
      rw [Option.bind_eq_some_iff] at hx
      obtain ⟨s, hs, hx⟩ := hx
      split at hx
      · rename_i hsz
        obtain rfl := Option.some.inj hx
        obtain ⟨b, hv, hb⟩ := hr.ptr_inv
        refine good_same hinv hK (v := .pointer (some ⟨b, off + i.toNat * s, none⟩)) ?_ (.ptr hb)
        simp [execOp, ho, hv, hv1, Instr.indexAt, asIntOf, run_underlying hu, run_size hs, hc1, hc2, Instr.sureAddr, blk_add]
      · cases hx
    · cases hx
  · cases hx
theorem op_index (hgl : GlOK P E.gl G.pr) (hinv : Inv P G st w) (ht : TmR P G N tm a) {t : TypeId} {x y : Operand} {r : R} (ho : o.op = .index t x y) (hx : xop0 P E tm st i0 nx' o = some r) (hK : Good P G st i0 nx' a o K Q r) : o.wp P a w K Q := by
  simp only [xop0, ho, Option.bind_eq_some_iff] at hx
  obtain ⟨x0, h0, y0, h1, hx⟩ := hx
  have hr := ev_sound hgl ht h0
  have hr1 := ev_sound hgl ht h1
  split at hx
  · rw [Option.map_eq_some_iff] at hx
    obtain ⟨z, hz, rfl⟩ := hx
    have e1 := hr.sc_inv
    have e2 := hr1.sc_inv
    have hrun := reck_run _ hz w
    refine good_same hinv hK (v := z) ?_ (.pure (.sc _))
    simp only [execOp, ho, e1, e2]
    rw [Sem.run_bind, hrun]
    rfl
  · cases hx
theorem bytesOfV_inv : ∀ {xs : List V} {l : List UInt8}, bytesOfV xs = some l → ∃ ns : List Int, xs = ns.map (fun n => V.sc (.int .u8 n)) ∧ l = ns.map fun n => UInt8.ofNat n.toNat
  | [], l, h => by simp [bytesOfV] at h; subst h; exact ⟨[], rfl, rfl⟩
  | x :: xs, l, h => by
    unfold bytesOfV at h
    split at h
    · rename_i h1; cases h1
    · rename_i n r h1
      obtain ⟨rfl, rfl⟩ : x = .sc (.int .u8 n) ∧ xs = r := by simpa using h1
      rw [Option.map_eq_some_iff] at h
      obtain ⟨l', hl, rfl⟩ := h
      obtain ⟨ns, rfl, rfl⟩ := bytesOfV_inv hl
      exact ⟨n :: ns, rfl, rfl⟩
    · cases h
theorem scs_all2 {p : Pr} {ns : List Int} {vs : List Value} (h : All2 (RepP P p) (ns.map fun n => V.sc (.int .u8 n)) vs) : vs = ns.map (Value.int .u8) := by
  induction ns generalizing vs with
  | nil => cases h; rfl
  | cons n ns ih => cases h with | cons h1 h2 => cases h1; rw [ih h2]; rfl
theorem flat_sc (ns : List Int) : (ns.map fun n => V.sc (.int .u8 n)).flatMap V.cells = ns.map fun n => V.sc (.int .u8 n) := by
  induction ns with
  | nil => rfl
  | cons n ns ih => rw [List.map_cons, List.flatMap_cons, ih]; rfl
/-- New cells that never turn: a block that no name bears. -/
theorem Inv.fixed (h : Inv P G st w) (hg : w.grownBy w' none) (cs : List Value) (hc : ∀ j u, cs[j]? = some u → w'.cell? ⟨w.heap.size, j, none⟩ = some u) :
    G.le { G with pr := fun b o => if b = w.heap.size then cs[o]? else G.pr b o } ∧ Inv P { G with pr := fun b o => if b = w.heap.size then cs[o]? else G.pr b o } st w' := by
  have hle : G.le { G with pr := fun b o => if b = w.heap.size then cs[o]? else G.pr b o } := ⟨rfl, rfl, fun b o v q => by
    have := h.pr_lt q
    show (if _ then _ else _) = _
    rw [if_neg (by omega)]; exact q, fun _ _ q => q, fun t v q => ⟨v, q, Nat.le_refl _, fun _ => rfl, fun _ => rfl⟩, fun b o hb => if_neg (by have := h.size; omega)⟩
  have hb : ∀ b, b < w.heap.size → w'.heap[b]? = w.heap[b]? := fun b hb => hg.block b hb (by simp)
  refine ⟨hle, h.below.trans ⟨hg.os, hg.tape, hg.output, hg.size, fun k hk => hb k (by have := h.size; omega)⟩, Nat.le_trans h.size hg.size, fun b o v hv => ?_, fun i ob hi => ?_, fun i j b hi hj => ?_, fun i b hi o v hv => ?_⟩
  · have hv2 : (if b = w.heap.size then cs[o]? else G.pr b o) = some v := hv
    by_cases e : b = w.heap.size
    · rw [if_pos e] at hv2; rw [e]; exact hc o v hv2
    · rw [if_neg e] at hv2
      rw [cell_same (hb b (h.pr_lt hv2))]; exact h.prot b o v hv2
  · refine (h.objs i ob hi).kept hle rfl rfl fun b hbb => hb b ?_
    refine (h.blk_lt (i := i) ?_).1
    unfold blk; rw [hi]; cases ob <;> exact hbb
  · exact h.apart i j b hi hj
  · have hi' : blk G st i = some b := hi
    have hv : (if b = w.heap.size then cs[o]? else G.pr b o) = some v := hv
    rw [if_neg (by have := (h.blk_lt hi').1; omega)] at hv
    exact h.free i b hi' o v hv
theorem flat_bytes (s : ByteArray) : (bytesV s).flatMap V.cells = bytesV s := by
  unfold bytesV
  induction s.data.toList with
  | nil => rfl
  | cons n ns ih => rw [List.map_cons, List.flatMap_cons, ih]; rfl
theorem bytesV_length (s : ByteArray) : (bytesV s).length = s.size := by simp [bytesV]
theorem bytes_all2 {p : Pr} (l : List UInt8) : All2 (RepP P p) (l.map fun b => V.sc (.int .u8 b.toNat)) (l.map fun b => Value.int .u8 b.toNat) := by
  induction l with
  | nil => exact .nil
  | cons b l ih => exact .cons (.sc _) ih
theorem op_convert (hgl : GlOK P E.gl G.pr) (hinv : Inv P G st w) (ht : TmR P G N tm a) {s d : TypeId} {x : Operand} {r : R} (ho : o.op = .convert s d x) (hx : xop0 P E tm st i0 nx' o = some r) (hK : Good P G st i0 nx' a o K Q r) : o.wp P a w K Q := by
  simp only [xop0, ho, Option.bind_eq_some_iff] at hx
  obtain ⟨x0, h0, hx⟩ := hx
  have hr := ev_sound hgl ht h0
  split at hx
  · rename_i e xs _
    split at hx
    · rename_i e' hs hd
      split at hx
      · rename_i hc
        obtain ⟨hc1, hc2, hc3⟩ := hc
        rw [Option.map_eq_some_iff] at hx
        obtain ⟨l, hl, rfl⟩ := hx
        obtain ⟨A, c, hv, hp, _⟩ := hr.list_inv
        obtain ⟨A', c', vs, hv', h2, h3, h4, h5, h6, h7⟩ := list_parts hp
        obtain ⟨rfl, rfl⟩ : A = A' ∧ c = c' := by simpa using hv'
        obtain ⟨ns, rfl, rfl⟩ := bytesOfV_inv hl
        rw [flat_sc] at h7
        have hvs := scs_all2 h7
        subst hvs
        have hrun : (convert s d (.slice A ns.length c)).run P w = .ok (.string ⟨(ns.map fun n => UInt8.ofNat n.toNat).toArray⟩) w := by
          rw [run_convert_bytes_string w s d e' A ns.length c hs (isU8_u hc1) hd]
          cases A with
          | none =>
            cases ns with
            | nil => simp [Conv.bytesToString]; rfl
            | cons n ns => obtain ⟨ad, h, _⟩ := h6 (by simp); cases h
          | some ad =>
            have hl : (loadCells ad ns.length).run P w = .ok (ns.map (Value.int .u8)).toArray w := by
              have := run_loadCells_list (P := P) w ad (ns.map (Value.int .u8)) (fun j u hu => by
                obtain ⟨ad', h, hlies⟩ := h6 (by intro e; rw [e] at hu; simp at hu)
                obtain rfl := Option.some.inj h
                exact cell_lies hinv hlies hu)
              simpa using this
            rw [run_bytesToString w ad _ _ ns hl, foldl_push_bytes]
            simp [ByteArray.empty, ByteArray.emptyWithCapacity]
            rfl
        refine good_same hinv hK (v := .string _) ?_ (.pure (.sc _))
        simp only [execOp, ho, hv, List.length_map]
        rw [Sem.run_bind, hrun]
        rfl
      · cases hx
    · cases hx
  · rename_i u
    have hv := hr.sc_inv
    split at hx
    · rename_i t ud e hs he
      split at hx
      · rename_i hc
        simp only [Bool.and_eq_true, beq_iff_eq] at hc
        obtain rfl := Option.some.inj hx
        have hrun := Lib.run_convert_string_bytes (P := P) w s d e t hs (uel_u he) (isU8_u hc.1)
        have hcell : ∀ (j : Nat) u, (t.data.toList.map fun b => Value.int .u8 b.toNat)[j]? = some u → (Lib.bytesWorld w e t).cell? ⟨w.heap.size, j, none⟩ = some u := fun j u hu => by
          have hj : j < t.size := by
            have := (List.getElem?_eq_some_iff.1 hu).1
            simpa using this
          rw [Lib.bytesWorld_cell w e t j hj]
          simpa [List.getD_eq_getElem?_getD, List.getElem?_map, hj] using hu
        obtain ⟨hg, hi⟩ := hinv.fixed (w' := Lib.bytesWorld w e t) ⟨rfl, rfl, rfl, by rw [Lib.bytesWorld_size]; omega, fun k hk _ => Lib.bytesWorld_at_old w e t k hk⟩ _ hcell
        refine wp_val (v := .slice (some ⟨w.heap.size, 0, none⟩) t.size (grownCap w t.size 0 e)) ?_ (hK _ _ _ hg (fun k _ => ⟨id, id⟩) hi (.pure (.list (vs := t.data.toList.map fun b => Value.int .u8 b.toNat) (bytesV_length t) (grownCap_ge _ _ _ _) (.inl rfl) ?_ ?_ (fun _ => ⟨_, rfl, fun j u hu => ?_⟩) ?_)))
        · simp only [execOp, ho, hv]
          rw [Sem.run_bind, hrun]
          rfl
        · intro s' hs' x hx
          rw [hc.2] at hs'; obtain rfl := Option.some.inj hs'
          simp only [bytesV, List.mem_map] at hx
          obtain ⟨b, _, rfl⟩ := hx
          rfl
        · rw [flat_bytes]
          refine List.all_eq_true.2 fun x hx => ?_
          simp only [bytesV, List.mem_map] at hx
          obtain ⟨b, _, rfl⟩ := hx
          rfl
        · rw [blk_add]
          exact ⟨rfl, by simpa using hu⟩
        · rw [flat_bytes]
          exact .of (bytes_all2 _)
      · cases hx
    · rw [Option.map_eq_some_iff] at hx
      obtain ⟨z, hz, rfl⟩ := hx
      have hrun := reck_run _ hz w
      refine good_same hinv hK (v := z) ?_ (.pure (.sc _))
      simp only [execOp, ho, hv]
      rw [Sem.run_bind, hrun]
      rfl
  · cases hx
end
end Go.Proofs.YtkbheoganajhaaaDoor.Vm
set_option linter.unusedVariables false
set_option linter.unusedSimpArgs false
namespace Go.Proofs.YtkbheoganajhaaaDoor.Vm
open Go.RowKit
section
variable {P : Program} {G G' : Gh} {st : St} {w w' : World} {a : Act} {tm : Nat → V} {N i0 nx' : Nat} {o : Oper} {K : Act → World → Prop} {Q : Exit → Act → World → Prop} {E : Env}
theorem setIf_other (h : Array Obj) (b k : Nat) (x : Obj) (hk : k ≠ b) : (h.setIfInBounds b x)[k]? = h[k]? := Array.getElem?_setIfInBounds_ne (fun e => hk e.symm)
theorem setIf_same (h : Array Obj) (b : Nat) (x : Obj) (hb : b < h.size) : (h.setIfInBounds b x)[b]? = some x := by simp [hb]
/-- A block that is no row of cells turns. -/
theorem Inv.setObj (h : Inv P G st w) (i : Nat) (ob ob' : Ob) (b : Nat) (x : Obj) (hs : st i = some ob) (hb : G.bx i = some b) (hnt : (∀ n e, ob ≠ .tok n e) ∧ ∀ ds, ob ≠ .frz ds) (hnt' : (∀ n e, ob' ≠ .tok n e) ∧ ∀ ds, ob' ≠ .frz ds) (hbase : G.base ≤ b) (hlt : b < w.heap.size)
    (hob : ∀ w' : World, w'.heap[b]? = some x → ObOK P G w' i ob') : Inv P G (upd st i (some ob')) { w with heap := w.heap.setIfInBounds b x } :=
  h.set (w' := { w with heap := w.heap.setIfInBounds b x }) i ob ob' b hs hb hnt hnt' hbase (fun k hk => setIf_other w.heap b k x hk) (by simp) rfl rfl rfl (hob _ (setIf_same w.heap b x hlt))
theorem op_range (hgl : GlOK P E.gl G.pr) (hinv : Inv P G st w) (ht : TmR P G N tm a) (hfr : Fresh G (R8 i0)) {t : TypeId} {x : Operand} {r : R} (ho : o.op = .range t x) (hx : xop0 P E tm st i0 nx' o = some r) (hK : Good P G st i0 nx' a o K Q r) : o.wp P a w K Q := by
  simp only [xop0, ho, Option.bind_eq_some_iff] at hx
  obtain ⟨x0, h0, hx⟩ := hx
  split at hx
  · rename_i s hu
    obtain rfl := Option.some.inj hx
    have hv := (ev_sound hgl ht h0).sc_inv
    have hf := hfr i0 (r8_self i0)
    obtain ⟨hg, hi⟩ := hinv.new (.stringIter s 0) i0 (.iter s 0) hf.1 (bx_none_st hinv hf.1 hf.2) (by simp) ⟨w.heap.size, by simp [upd], hinv.size, heap_alloc_new w _⟩
    exact wp_val (v := .pointer (some ⟨w.heap.size, 0, none⟩)) (by simp [execOp, ho, hv, Instr.range, run_underlying hu]) (hK _ _ _ hg (same_bx (r8_self i0) _) hi (.ptr (by simp [upd])))
  · cases hx
theorem op_next (hgl : GlOK P E.gl G.pr) (hinv : Inv P G st w) (ht : TmR P G N tm a) {x : Operand} {r : R} (ho : o.op = .next x true) (hx : xop0 P E tm st i0 nx' o = some r) (hK : Good P G st i0 nx' a o K Q r) : o.wp P a w K Q := by
  simp only [xop0, ho, Option.bind_eq_some_iff] at hx
  obtain ⟨x0, h0, hx⟩ := hx
  split at hx
  · rename_i id
    split at hx
    · rename_i s pos hs
      obtain ⟨b, hv, hb⟩ := (ev_sound hgl ht h0).ptr_inv
      obtain ⟨b', g1, g2, g3⟩ := hinv.objs id _ hs
      rw [hb] at g1
      obtain rfl := Option.some.inj g1
      split at hx
      · rename_i hp
        obtain rfl := Option.some.inj hx
        refine wp_val (v := .tuple #[.bool true, .int .i64 pos, .int .i32 (Utf8.decode s pos).1]) (w' := { w with heap := w.heap.setIfInBounds b (.stringIter s (pos + (Utf8.decode s pos).2)) }) ?_ (hK G _ _ (.refl G) (.refl G _) ?_ (.tup (.of (.cons (.pure (.sc _)) (.cons (.pure (.sc _)) (.cons (.pure (.sc _)) .nil))))))
        · simp [execOp, ho, hv, Instr.next, getObj, setObj, Sem.run, g3, hp, goInt]
        · exact hinv.setObj id _ _ b _ hs hb (by simp) (by simp) g2 (Array.getElem?_eq_some_iff.1 g3).1 fun w' hw' => ⟨b, hb, g2, hw'⟩
      · rename_i hp
        obtain rfl := Option.some.inj hx
        refine good_same hinv hK (v := .tuple #[.bool false]) ?_ (.tup (.of (.cons (.pure (.sc _)) .nil)))
        simp [execOp, ho, hv, Instr.next, getObj, Sem.run, g3, hp]
    · cases hx
  · cases hx
theorem keyEq_now {d : TypeDesc} {k k' : Value} {b : Bool} (hd : kindOk (some d) k = true) (h : keyEq k k' = some b) : Instr.sameNow d k k' = some b := by
  cases d <;> cases k <;> simp [kindOk] at hd <;> cases k' <;> simp_all [keyEq, Instr.sameNow]
theorem ba_beq {a b : ByteArray} : (a == b) = decide (a = b) := by
  show ByteArray.beq a b = _
  unfold ByteArray.beq
  rw [Bool.eq_iff_iff]
  cases a; cases b
  simp
theorem keyEq_bits {k k' : Value} (h : keyEq k k' = some true) : Instr.sameBits 10000 k' k = true := by
  cases k <;> cases k' <;> simp_all [keyEq, Instr.sameBits] <;> (rw [ba_beq] at h ⊢; simpa [eq_comm] using h)
theorem find_sound {d : TypeDesc} {k : Value} (hd : kindOk (some d) k = true) : ∀ {es : List (V × V)} {ms : List MapEntry} {i : Nat} {r : Option (Nat × V)}, All2 (fun e m => Rep P G e.1 m.key ∧ Rep P G e.2 m.val) es ms → mfind k es i = some r →
    (r = none ∧ Instr.findNow d k ms i = some none) ∨ ∃ j x m, r = some (i + j, x) ∧ es[j]? = some (es[j]?.getD default) ∧ ms[j]? = some m ∧ Instr.findNow d k ms i = some (some (i + j, m.val)) ∧ Rep P G x m.val ∧ Instr.sameBits 10000 m.key k = true
  | [], _, i, r, h, hf => by cases h; simp [mfind] at hf; subst hf; exact .inl ⟨rfl, rfl⟩
  | (y, x) :: es, _, i, r, h, hf => by
    cases h with
    | cons h1 h2 =>
      rename_i m ms
      unfold mfind at hf
      split at hf
      · rename_i h3; cases h3
      · rename_i k' v es' heq
        obtain ⟨⟨rfl, rfl⟩, rfl⟩ : (y = .sc k' ∧ x = v) ∧ es = es' := by simpa using heq
        have hk := h1.1.sc_inv
        split at hf
        · rename_i he
          obtain rfl := Option.some.inj hf
          refine .inr ⟨0, x, m, rfl, by simp, rfl, ?_, h1.2, ?_⟩
          · simp only [Instr.findNow, hk, keyEq_now hd he, Nat.add_zero]
          · rw [hk]; exact keyEq_bits he
        · rename_i he
          rcases find_sound hd h2 hf with ⟨h4, h5⟩ | ⟨j, x', m', h4, h5, h6, h7, h8, h9⟩
          · refine .inl ⟨h4, ?_⟩
            simp only [Instr.findNow, hk, keyEq_now hd he]; exact h5
          · refine .inr ⟨j + 1, x', m', by rw [h4]; congr 2; omega, by simpa using h5, by simpa using h6, ?_, h8, h9⟩
            simp only [Instr.findNow, hk, keyEq_now hd he]
            rw [h7]; congr 3; omega
        · cases hf
      · cases hf
theorem checkKey_ok {d : TypeDesc} {t : TypeId} {k : Value} (hu : P.underlying t = some d) (hd : kindOk (some d) k = true) (b : Bool) (n : Nat) (w : World) : (Instr.checkKey b (n + 1) t k).run P w = .ok () w := by
  cases d <;> cases k <;> simp [kindOk] at hd <;> simp [Instr.checkKey, run_underlying hu]
theorem findKey_ok {d : TypeDesc} {t : TypeId} {k : Value} {ms : List MapEntry} {r : Option (Nat × Value)} (hu : P.underlying t = some d) (h : Instr.findNow d k ms 0 = some r) (w : World) : (Instr.findKey t k ms).run P w = .ok r w := by
  simp [Instr.findKey, run_underlying hu, h]
theorem kindOk_some {t : TypeId} {k : Value} (h : kindOk (P.underlying t) k = true) : ∃ d, P.underlying t = some d ∧ kindOk (some d) k = true := by
  cases hu : P.underlying t with
  | none => rw [hu] at h; simp [kindOk] at h
  | some d => rw [hu] at h; exact ⟨d, rfl, h⟩
theorem op_lookup (hgl : GlOK P E.gl G.pr) (hinv : Inv P G st w) (ht : TmR P G N tm a) {t : TypeId} {x y : Operand} {ok : Bool} {r : R} (ho : o.op = .lookup t x y ok) (hx : xop0 P E tm st i0 nx' o = some r) (hK : Good P G st i0 nx' a o K Q r) : o.wp P a w K Q := by
  simp only [xop0, ho, Option.bind_eq_some_iff] at hx
  obtain ⟨x0, h0, y0, h1, hx⟩ := hx
  split at hx
  · rename_i id k kt et hu
    split at hx
    · rename_i hk
      obtain ⟨d, hd, hk⟩ := kindOk_some hk
      rw [Option.bind_eq_some_iff] at hx
      obtain ⟨z, hz, hx⟩ := hx
      split at hx
      · rename_i es hs
        rw [Option.bind_eq_some_iff] at hx
        obtain ⟨fr, hf, hx⟩ := hx
        obtain ⟨b, hv, hb⟩ := (ev_sound hgl ht h0).map_inv
        have hv1 := (ev_sound hgl ht h1).sc_inv
        obtain ⟨b', arr, clk, g1, g2, g3, g4⟩ := hinv.objs id _ hs
        rw [hb] at g1
        obtain rfl := Option.some.inj g1
        have hck := checkKey_ok (P := P) hd hk arr.isEmpty 9999 w
        rcases find_sound hk g4 hf with ⟨rfl, h5⟩ | ⟨j, x', m', rfl, _, _, h7, h8, _⟩
        · simp only at hx
          split at hx
          · rename_i hone
            obtain rfl := Option.some.inj hx
            have hrz : Rep P G (V.ofV z) z := .pure (rep_ofV _ _ hone)
            refine good_same hinv hK (v := if ok then .tuple #[z, .bool false] else z) ?_ ?_
            · simp [execOp, ho, hv, hv1, Instr.lookup, run_underlying hu, getObj, Sem.run, g3, hck, findKey_ok hd h5, run_zero hz]
            · cases ok
              · exact hrz
              · exact .tup (.of (.cons hrz (.cons (.pure (.sc _)) .nil)))
          · cases hx
        · simp only at hx
          obtain rfl := Option.some.inj hx
          refine good_same hinv hK (v := if ok then .tuple #[m'.val, .bool true] else m'.val) ?_ ?_
          · simp [execOp, ho, hv, hv1, Instr.lookup, run_underlying hu, getObj, Sem.run, g3, hck, findKey_ok hd h7]
          · cases ok
            · exact h8
            · exact .tup (.of (.cons h8 (.cons (.pure (.sc _)) .nil)))
      · cases hx
    · cases hx
  · cases hx
theorem op_mapUpdate (hgl : GlOK P E.gl G.pr) (hinv : Inv P G st w) (ht : TmR P G N tm a) {t : TypeId} {x y z : Operand} {r : R} (ho : o.op = .mapUpdate t x y z) (hx : xop0 P E tm st i0 nx' o = some r) (hK : Good P G st i0 nx' a o K Q r) : o.wp P a w K Q := by
  simp only [xop0, ho, Option.bind_eq_some_iff] at hx
  obtain ⟨x0, h0, y0, h1, z0, h2, hx⟩ := hx
  have hrz := ev_sound hgl ht h2
  split at hx
  · rename_i id k kt et hu
    split at hx
    · rename_i hk
      obtain ⟨d, hd, hk⟩ := kindOk_some hk
      split at hx
      · rename_i es hs
        rw [Option.bind_eq_some_iff] at hx
        obtain ⟨fr, hf, hx⟩ := hx
        obtain ⟨b, hv, hb⟩ := (ev_sound hgl ht h0).map_inv
        have hv1 := (ev_sound hgl ht h1).sc_inv
        obtain ⟨b', arr, clk, g1, g2, g3, g4⟩ := hinv.objs id _ hs
        rw [hb] at g1
        obtain rfl := Option.some.inj g1
        have hck := checkKey_ok (P := P) hd hk false 9999 w
        have hlt := (Array.getElem?_eq_some_iff.1 g3).1
        rcases find_sound hk g4 hf with ⟨rfl, h5⟩ | ⟨j, x', m', rfl, _, h6, h7, h8, h9⟩
        · simp only at hx
          obtain rfl := Option.some.inj hx
          refine wp_skip0 (w' := { w with heap := w.heap.setIfInBounds b (.map (arr.push { key := k, val := a.eval z, born := clk }) (clk + 1)) }) ?_ (hK G _ undef (.refl G) (.refl G _) ?_ (.pure (.sc _)))
          · simp [execOp, ho, hv, hv1, Instr.mapUpdate, run_underlying hu, getObj, setObj, Sem.run, g3, hck, findKey_ok hd h5]
          · refine hinv.setObj id _ _ b _ hs hb (by simp) (by simp) g2 hlt fun w' hw' => ⟨b, _, _, hb, g2, hw', ?_⟩
            rw [Array.toList_push]
            exact g4.append (.cons ⟨.pure (.sc _), hrz⟩ .nil)
        · simp only at hx
          obtain rfl := Option.some.inj hx
          have h6' : arr[j]? = some m' := by simpa using h6
          refine wp_skip0 (w' := { w with heap := w.heap.setIfInBounds b (.map (arr.modify j fun e => { e with key := k, val := a.eval z }) clk) }) ?_ (hK G _ undef (.refl G) (.refl G _) ?_ (.pure (.sc _)))
          · simp [execOp, ho, hv, hv1, Instr.mapUpdate, run_underlying hu, getObj, setObj, Sem.run, g3, hck, findKey_ok hd h7, h6', Instr.keyThatStays, h9]
          · refine hinv.setObj id _ _ b _ hs hb (by simp) (by simp) g2 hlt fun w' hw' => ⟨b, _, _, hb, g2, hw', ?_⟩
            have : (arr.modify j fun e => { e with key := k, val := a.eval z }).toList = arr.toList.set j { m' with key := k, val := a.eval z } := by
              apply List.ext_getElem?
              intro i
              rw [Array.getElem?_toList, Array.getElem?_modify, List.getElem?_set, Array.getElem?_toList]
              have hj : j < arr.size := (Array.getElem?_eq_some_iff.1 h6').1
              by_cases hij : j = i
              · subst hij
                have hm : arr[j] = m' := by simpa [hj] using h6'
                simp [hj, hm]
              · simp [hij]
            rw [this]
            rw [Nat.zero_add]
            exact g4.set (x := (V.sc k, z0)) (y := { m' with key := k, val := a.eval z }) ⟨.pure (.sc _), hrz⟩ j
      · cases hx
    · cases hx
  · cases hx
end
end Go.Proofs.YtkbheoganajhaaaDoor.Vm
