/- Proved here: what further operations of the machine over pure data do, the model's operations do. Conditions: none. -/
import Derived.Test.YtojbkakdhfmjmaaDoorVm4
set_option linter.unusedVariables false
set_option linter.unusedSimpArgs false
namespace Go.Proofs.YtojbkakdhfmjmaaDoor.Vm
open Go.RowKit
section
variable {P : Program} {G G' : Gh} {st : St} {w w' : World} {a : Act} {tm : Nat → V} {N i0 nx' : Nat} {o : Oper} {K : Act → World → Prop} {Q : Exit → Act → World → Prop} {E : Env}
theorem rep_cells {x : V} {v : Value} (hv : Rep P G x v) (h1 : ones x.cells = true) : All2 (Rep P G) x.cells v.cells.toList := by
  cases x with
  | agg cs => obtain ⟨vs, rfl, _, h⟩ := hv.agg_inv; simpa [V.cells, Value.cells] using h
  | sc u => have := hv.sc_inv; subst this; have h2 : v.oneCell' = true := by simpa [ones, V.cells, V.one] using h1
            have : v.cells.toList = [v] := by cases v <;> first | rfl | (simp [Value.oneCell'] at h2)
            rw [this]; exact .cons hv .nil
  | tup => simp [ones, V.cells, V.one] at h1
  | _ =>
    have h2 := hv.one rfl
    have : v.cells.toList = [v] := by cases v <;> first | rfl | (simp [Value.oneCell'] at h2)
    rw [this]; exact .cons hv .nil
theorem repP_cells {p : Pr} {x : V} {v : Value} (hv : RepP P p x v) (h1 : ones x.cells = true) : All2 (RepP P p) x.cells v.cells.toList := by
  cases hv with
  | agg h2 h3 => simpa [V.cells, Value.cells] using h3.all2
  | sc u => have h2 : v.oneCell' = true := by simpa [ones, V.cells, V.one] using h1
            have : v.cells.toList = [v] := by cases v <;> first | rfl | (simp [Value.oneCell'] at h2)
            rw [this]; exact .cons (.sc _) .nil
  | list h2 h3 h4 h5 h6 h7 h8 => exact .cons (.list h2 h3 h4 h5 h6 h7 h8) .nil
  | cp h2 h3 h4 => exact .cons (.cp h2 h3 h4) .nil
  | fn f => exact .cons (.fn f) .nil
theorem ones_vals {xs : List V} {vs : List Value} (h : All2 (Rep P G) xs vs) (h1 : ones xs = true) : ∀ u ∈ vs, u.oneCell' = true := fun u hu => by
  obtain ⟨i, hi⟩ := List.getElem?_of_mem hu
  obtain ⟨x, hx, hr⟩ := h.get' hi
  exact hr.one (ones_get h1 hx)
theorem op_store (hgl : GlOK P E.gl G.pr) (hinv : Inv P G st w) (ht : TmR P G N tm a) {t : TypeId} {x y : Operand} {r : R} (ho : o.op = .store t x y) (hx : xop P E tm st i0 nx' o = some r) (hK : Good P G st i0 nx' a o K Q r) : o.wp P a w K Q := by
  simp only [xop, ho, Option.bind_eq_some_iff] at hx
  obtain ⟨x0, h0, y0, h1, hx⟩ := hx
  split at hx
  · rename_i id off
    split at hx
    · rename_i cs hs
      split at hx
      · rename_i hc
        obtain rfl := Option.some.inj hx
        obtain ⟨hc1, hc2, hc3⟩ := hc
        obtain ⟨b, hv, hb⟩ := (ev_sound hgl ht h0).ptr_inv
        obtain ⟨b', arr, T, g1, g2, g3, g4, g5⟩ := hinv.objs id _ hs
        rw [hb] at g1
        obtain rfl := Option.some.inj g1
        have hy := rep_cells (ev_sound hgl ht h1) hc3
        have hl := hy.length
        have hla := g5.length
        have hst := run_storeCells_at P b off T (a.eval y).cells.toList 0 arr w g3 (by simp at hl hla ⊢; omega) (ones_vals hy hc3)
        simp only [Nat.add_zero, ← hl] at hst
        refine wp_skip0 (w' := w.setRow b (arr.toList.take off ++ (a.eval y).cells.toList ++ arr.toList.drop (off + y0.cells.length)).toArray) ?_ (hK G _ undef (.refl G) (.refl G _) ?_ (.pure (.sc _)))
        · have hsz : ((a.eval y).cells.size) = y0.cells.length := by simpa using hl.symm
          simp [execOp, ho, hv, Instr.storeAt, Instr.sureAddr, storeVar, run_size hc1, hsz, hst]
        · refine hinv.set id _ _ b hs hb (by simp) (by simp) g2 (fun k hk => setRow_other w b k _ hk) (by simp) rfl rfl rfl ⟨b, _, T, hb, g2, setRow_heap w b arr _ T (0, 0) g3, ?_, ?_⟩
          · rw [ones_append, ones_append, ones_take g4, hc3, ones_drop g4]; rfl
          · exact ((g5.take off).append hy).append (g5.drop _)
      · cases hx
    · cases hx
  · cases hx
theorem op_nilCheck (hgl : GlOK P E.gl G.pr) (hinv : Inv P G st w) (ht : TmR P G N tm a) {x : Operand} {r : R} (ho : o.op = .nilCheck x) (hx : xop P E tm st i0 nx' o = some r) (hK : Good P G st i0 nx' a o K Q r) : o.wp P a w K Q := by
  simp only [xop, ho, Option.bind_eq_some_iff] at hx
  obtain ⟨x0, h0, hx⟩ := hx
  have hr := ev_sound hgl ht h0
  split at hx
  · obtain rfl := Option.some.inj hx
    obtain ⟨b, hv, hb⟩ := hr.ptr_inv
    exact good_same hinv hK (v := a.eval x) (by simp [execOp, ho, hv]) hr
  · obtain rfl := Option.some.inj hx
    obtain ⟨ad, vs, hv, _⟩ := hr.cp_inv
    exact good_same hinv hK (v := a.eval x) (by simp [execOp, ho, hv]) hr
  · obtain rfl := Option.some.inj hx
    obtain ⟨us, ws, hv, _⟩ := hr.fn_inv
    exact good_same hinv hK (v := a.eval x) (by simp [execOp, ho, hv]) hr
  · cases hx
theorem rep_val1 {x : V} {u v : Value} (h : Rep P G x v) (hu : x.val1? = some u) : v = u := by
  cases x <;> simp [V.val1?] at hu
  subst hu; exact h.sc_inv
theorem vals_eq {xs : List V} {us vs : List Value} (h : All2 (Rep P G) xs vs) (hu : xs.mapM V.val1? = some us) : vs = us := by
  have h2 := mapM_some hu
  clear hu
  induction h2 generalizing vs with
  | nil => cases h; rfl
  | cons h3 _ ih => cases h with | cons k1 k2 => rw [rep_val1 k1 h3, ih k2]
theorem rep_val {x : V} {u v : Value} (h : Rep P G x v) (hu : x.val? = some u) : v = u := by
  unfold V.val? at hu
  split at hu
  · cases hu; exact h.sc_inv
  · rw [Option.map_eq_some_iff] at hu
    obtain ⟨l, hl, rfl⟩ := hu
    obtain ⟨vs, rfl, _, hv⟩ := h.agg_inv
    rw [vals_eq hv hl]
  · cases hu
theorem run_ptr_nil0 {t el : TypeId} (hu : P.underlying t = some (.pointer el)) (ad : Addr) (w : World) (d : Nat) : (Op.equalIn (d + 1) t (.pointer (some ad)) (.pointer none)).run P w = .ok false w := by
  simp [Op.equalIn, run_underlying hu]
theorem run_ptr_nil {t el : TypeId} (hu : P.underlying t = some (.pointer el)) (ad : Addr) (w : World) : (Op.equal t (.pointer (some ad)) (.pointer none)).run P w = .ok false w := run_ptr_nil0 hu ad w 9999
theorem op_binOp (hgl : GlOK P E.gl G.pr) (hinv : Inv P G st w) (ht : TmR P G N tm a) {b : BinOp} {t yt : TypeId} {x y : Operand} {r : R} (ho : o.op = .binOp b t x y yt) (hx : xop P E tm st i0 nx' o = some r) (hK : Good P G st i0 nx' a o K Q r) : o.wp P a w K Q := by
  simp only [xop, ho, Option.bind_eq_some_iff] at hx
  obtain ⟨x0, h0, y0, h1, hx⟩ := hx
  have hr := ev_sound hgl ht h0
  have hr1 := ev_sound hgl ht h1
  split at hx
  · obtain ⟨bb, hv, hb⟩ := hr.ptr_inv
    have hv1 := hr1.sc_inv
    split at hx
    · rename_i el hu
      obtain rfl := Option.some.inj hx
      exact good_same hinv hK (v := .bool false) (by simp [execOp, ho, hv, hv1, eqGuard, binOp, run_ptr_nil hu]) (.pure (.sc _))
    · rename_i el hu
      obtain rfl := Option.some.inj hx
      exact good_same hinv hK (v := .bool true) (by simp [execOp, ho, hv, hv1, eqGuard, binOp, run_ptr_nil hu]) (.pure (.sc _))
    · cases hx
  · rw [Option.bind_eq_some_iff] at hx
    obtain ⟨u, hu, hx⟩ := hx
    rw [Option.bind_eq_some_iff] at hx
    obtain ⟨v, hv, hx⟩ := hx
    rw [Option.map_eq_some_iff] at hx
    obtain ⟨z, hz, rfl⟩ := hx
    have e1 := rep_val hr hu
    have e2 := rep_val hr1 hv
    have hrun := reck_run _ hz w
    refine good_same hinv hK (v := z) ?_ (.pure (.sc _))
    simp only [execOp, ho, e1, e2]
    rw [Sem.run_bind, hrun]
    rfl
theorem op_unOp (hgl : GlOK P E.gl G.pr) (hinv : Inv P G st w) (ht : TmR P G N tm a) {b : UnOp} {t : TypeId} {x : Operand} {r : R} (ho : o.op = .unOp b t x) (hx : xop P E tm st i0 nx' o = some r) (hK : Good P G st i0 nx' a o K Q r) : o.wp P a w K Q := by
  simp only [xop, ho, Option.bind_eq_some_iff, Option.map_eq_some_iff] at hx
  obtain ⟨x0, h0, u, hu, z, hz, rfl⟩ := hx
  have e1 := rep_val1 (ev_sound hgl ht h0) hu
  have hrun := reck_run _ hz w
  refine good_same hinv hK (v := z) ?_ (.pure (.sc _))
  simp only [execOp, ho, e1]
  rw [Sem.run_bind, hrun]
  rfl
theorem op_makeFunc (hgl : GlOK P E.gl G.pr) (hinv : Inv P G st w) (ht : TmR P G N tm a) {f : Fn} {x y : Array Operand} {r : R} (ho : o.op = .makeFunc f x y) (hx : xop P E tm st i0 nx' o = some r) (hK : Good P G st i0 nx' a o K Q r) : o.wp P a w K Q := by
  simp only [xop, ho, Option.bind_eq_some_iff] at hx
  obtain ⟨x0, h0, y0, h1, hx⟩ := hx
  obtain rfl := Option.some.inj hx
  refine good_same hinv hK (v := .func f (x.map a.eval) (y.map a.eval)) (by simp [execOp, ho, Instr.makeFunc]) ?_
  have e1 := evs_sound hgl ht h0
  have e2 := evs_sound hgl ht h1
  have h3 : x.map a.eval = (x.toList.map a.eval).toArray := by apply Array.ext'; simp
  have h4 : y.map a.eval = (y.toList.map a.eval).toArray := by apply Array.ext'; simp
  rw [h3, h4]
  exact .fn (.of e1) (.of e2)
theorem op_makeMap (hinv : Inv P G st w) (hfr : Fresh G (R8 i0)) {t : TypeId} {r : R} (ho : o.op = .makeMap t none) (hx : xop P E tm st i0 nx' o = some r) (hK : Good P G st i0 nx' a o K Q r) : o.wp P a w K Q := by
  simp only [xop, ho] at hx
  obtain rfl := Option.some.inj hx
  have hf := hfr i0 (r8_self i0)
  obtain ⟨hg, hi⟩ := hinv.new (.map #[] 0) i0 (.map []) hf.1 (bx_none_st hinv hf.1 hf.2) (by simp) ⟨w.heap.size, #[], 0, by simp [upd], hinv.size, heap_alloc_new w _, .nil⟩
  exact wp_val (v := .map (some w.heap.size)) (by simp [execOp, ho, Instr.makeMap]) (hK _ _ _ hg (same_bx (r8_self i0) _) hi (.map (by simp [upd])))
theorem add_add0 (ad : Addr) (i j : Nat) : (ad.add i).add j = ad.add (i + j) := by
  unfold Addr.add
  by_cases hi : i = 0 <;> by_cases hj : j = 0 <;> simp [hi, hj, Nat.add_assoc]
theorem LiesAt.drop {p : Pr} {ad : Addr} {vs : List Value} (h : LiesAt p ad vs) (n : Nat) : LiesAt p (ad.add n) (vs.drop n) := fun j u hu => by
  rw [add_add0]
  exact h _ u (by rwa [List.getElem?_drop] at hu)
theorem LiesAt.take {p : Pr} {ad : Addr} {vs : List Value} (h : LiesAt p ad vs) (n : Nat) : LiesAt p ad (vs.take n) := fun j u hu => by
  rw [List.getElem?_take] at hu
  split at hu
  · exact h _ u hu
  · cases hu
theorem blk_add (b off n : Nat) : (⟨b, off, none⟩ : Addr).add n = ⟨b, off + n, none⟩ := by unfold Addr.add; split <;> simp_all
theorem op_fieldAddr (hgl : GlOK P E.gl G.pr) (hinv : Inv P G st w) (ht : TmR P G N tm a) {t : TypeId} {x : Operand} {f : Nat} {r : R} (ho : o.op = .fieldAddr t x f) (hx : xop P E tm st i0 nx' o = some r) (hK : Good P G st i0 nx' a o K Q r) : o.wp P a w K Q := by
  simp only [xop, ho, Option.bind_eq_some_iff] at hx
  obtain ⟨x0, h0, hx⟩ := hx
  have hr := ev_sound hgl ht h0
  split at hx
  · rename_i fs hfs
    rw [Option.bind_eq_some_iff] at hx
    obtain ⟨fd, hfd, hx⟩ := hx
    split at hx
    · rename_i n hn
      have hpl : ∀ ad : Addr, (fieldPlace ad fd).run P w = .ok (ad.add fd.offset) w := fun ad => by simp [fieldPlace, run_size hn]
      split at hx
      · obtain rfl := Option.some.inj hx
        obtain ⟨b, hv, hb⟩ := hr.ptr_inv
        exact good_same hinv hK (v := .pointer (some _)) (by simp [execOp, ho, hv, Instr.fieldAt, run_underlying hfs, hfd, Instr.sureAddr, hpl, blk_add]) (.ptr hb)
      · split at hx
        · obtain rfl := Option.some.inj hx
          obtain ⟨ad, vs, hv, h1, h2, h3⟩ := hr.cp_inv
          exact good_same hinv hK (v := .pointer (some (ad.add fd.offset))) (by simp [execOp, ho, hv, Instr.fieldAt, run_underlying hfs, hfd, Instr.sureAddr, hpl]) (.pure (.cp (ones_drop h1 _) (h2.drop _) (.of (h3.drop _))))
        · cases hx
      · cases hx
    · cases hx
  · cases hx
theorem op_field (hgl : GlOK P E.gl G.pr) (hinv : Inv P G st w) (ht : TmR P G N tm a) {t : TypeId} {x : Operand} {f : Nat} {r : R} (ho : o.op = .field t x f) (hx : xop P E tm st i0 nx' o = some r) (hK : Good P G st i0 nx' a o K Q r) : o.wp P a w K Q := by
  simp only [xop, ho, Option.bind_eq_some_iff] at hx
  obtain ⟨x0, h0, hx⟩ := hx
  have hr := ev_sound hgl ht h0
  split at hx
  · rename_i cs fs hfs
    rw [Option.bind_eq_some_iff] at hx
    obtain ⟨fd, hfd, hx⟩ := hx
    rw [Option.map_eq_some_iff] at hx
    obtain ⟨y, hy, rfl⟩ := hx
    obtain ⟨vs, hv, h1, h2⟩ := hr.agg_inv
    obtain ⟨u, hu, hrep⟩ := ld_part (w := w) hy h2 h1
    exact good_same hinv hK (v := u) (by simp [execOp, ho, hv, Instr.field, run_underlying hfs, hfd, asAgg, hu]) hrep
  · cases hx
theorem flat_get {s : Nat} : ∀ {xs : List V} {i : Nat} {x : V}, (∀ y ∈ xs, y.cells.length = s) → xs[i]? = some x → ((xs.flatMap V.cells).drop (i * s)).take s = x.cells ∧ i * s + s ≤ (xs.flatMap V.cells).length
  | [], i, x, _, h => by simp at h
  | y :: ys, 0, x, hl, h => by
    simp at h; subst h
    have := hl y (by simp)
    rw [List.flatMap_cons, Nat.zero_mul, List.drop_zero, ← this, List.take_left]
    exact ⟨rfl, by simp⟩
  | y :: ys, i + 1, x, hl, h => by
    obtain ⟨h1, h2⟩ := flat_get (xs := ys) (i := i) (fun z hz => hl z (by simp [hz])) (by simpa using h)
    have := hl y (by simp)
    rw [List.flatMap_cons, Nat.succ_mul, Nat.add_comm (i * s) s, ← this, List.drop_append, List.length_append]
    simp only [Nat.add_sub_cancel_left, Nat.add_comm]
    rw [List.drop_eq_nil_of_le (by omega), List.nil_append, this]
    exact ⟨h1, by omega⟩
theorem op_extract (hgl : GlOK P E.gl G.pr) (hinv : Inv P G st w) (ht : TmR P G N tm a) {x : Operand} {i : Nat} {r : R} (ho : o.op = .extract x i) (hx : xop P E tm st i0 nx' o = some r) (hK : Good P G st i0 nx' a o K Q r) : o.wp P a w K Q := by
  simp only [xop, ho, Option.bind_eq_some_iff] at hx
  obtain ⟨x0, h0, hx⟩ := hx
  split at hx
  · rw [Option.map_eq_some_iff] at hx
    obtain ⟨y, hy, rfl⟩ := hx
    obtain ⟨vs, hv, h2⟩ := (ev_sound hgl ht h0).tup_inv
    obtain ⟨u, hu, hr⟩ := h2.get hy
    exact good_same hinv hK (v := u) (by simp [execOp, ho, hv, Instr.extract, hu]) hr
  · cases hx
theorem op_makeInterface (hgl : GlOK P E.gl G.pr) (hinv : Inv P G st w) (ht : TmR P G N tm a) {t : TypeId} {x : Operand} {r : R} (ho : o.op = .makeInterface t x) (hx : xop P E tm st i0 nx' o = some r) (hK : Good P G st i0 nx' a o K Q r) : o.wp P a w K Q := by
  simp only [xop, ho, Option.bind_eq_some_iff] at hx
  obtain ⟨x0, h0, hx⟩ := hx
  have hr := ev_sound hgl ht h0
  split at hx
  · cases hx
  · cases hx
  · rename_i h1 h2
    obtain rfl := Option.some.inj hx
    refine good_same hinv hK (v := .iface t (a.eval x)) ?_ (.ifc hr)
    cases hu : P.underlying t with
    | none => exact absurd hu h2
    | some d =>
      simp only [execOp, ho, Instr.makeInterface, Sem.run_bind, run_underlying hu, Result.andThen_ok]
      cases d <;> first | rfl | exact absurd hu (h1 _)
theorem Rep.ifc_inv {t : TypeId} {x : V} {v : Value} (h : Rep P G (.ifc t x) v) : ∃ u, v = .iface t u ∧ Rep P G x u := by
  cases h with
  | pure h => cases h
  | ifc h => exact ⟨_, rfl, h⟩
theorem op_panic (hgl : GlOK P E.gl G.pr) (hinv : Inv P G st w) (ht : TmR P G N tm a) {x : Operand} {r : R} (ho : o.op = .panic x) (hx : xop P E tm st i0 nx' o = some r) (hK : Good P G st i0 nx' a o K Q r) : o.wp P a w K Q := by
  simp only [xop, ho, Option.bind_eq_some_iff] at hx
  obtain ⟨x0, h0, hx⟩ := hx
  have hr := ev_sound hgl ht h0
  split at hx
  · obtain rfl := Option.some.inj hx
    obtain ⟨u, hv, _⟩ := hr.ifc_inv
    rename_i t x1 _
    have hk := hK G w _ (.refl G) (.refl G _) hinv hr
    unfold Oper.wp
    rw [hv] at hk
    have : (execOp a.eval o).run P w = .halt (.panic (.iface t u)) w := by simp [execOp, ho, hv, Instr.panic, goPanic, Sem.run]
    rw [this]
    exact hk
  · cases hx
end
end Go.Proofs.YtojbkakdhfmjmaaDoor.Vm
