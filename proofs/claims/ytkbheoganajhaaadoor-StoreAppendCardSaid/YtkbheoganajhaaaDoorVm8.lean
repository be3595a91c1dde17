/- Proved here: what further operations of the machine over pure data do, the model's operations do: slices, literals, append. Conditions: none. -/
import Derived.Test.YtkbheoganajhaaaDoorVm4
set_option linter.unusedVariables false
set_option linter.unusedSimpArgs false
namespace Go.Proofs.YtkbheoganajhaaaDoor.Vm
open Go.RowKit
section
variable {P : Program} {G G' : Gh} {st : St} {w w' : World} {a : Act} {tm : Nat → V} {N i0 nx' : Nat} {o : Oper} {K : Act → World → Prop} {Q : Exit → Act → World → Prop} {E : Env}
theorem pint_inv (hgl : GlOK P E.gl G.pr) (ht : TmR P G N tm a) {x : Option Operand} {d n : Int} (h : pint (x.map (ev E tm)) d = some n) : (x = none ∧ n = d) ∨ ∃ y k, x = some y ∧ a.eval y = .int k n := by
  cases x with
  | none => simp [pint] at h; exact .inl ⟨rfl, h.symm⟩
  | some y =>
    simp only [Option.map_some, pint] at h
    cases hy : ev E tm y with
    | none => rw [hy] at h; simp at h
    | some v =>
      rw [hy] at h
      simp only at h
      obtain ⟨k, rfl⟩ := vint_inv h
      exact .inr ⟨y, k, rfl, (ev_sound hgl ht hy).sc_inv⟩
theorem rep_sub {p : Pr} {e : TypeId} {xs : List V} {s l h c : Nat} {A : Option Addr} (hr : RepP P p (.list e xs 0) (.slice A xs.length c)) (hs : usz P e = some s) (hl : l ≤ h) (hh : h ≤ xs.length) {m : Nat} (hm : h ≤ m) :
    RepP P p (.list e ((xs.take h).drop l) 0) (.slice (if m = l then A else A.map (·.add (l * s))) (h - l) (m - l)) := by
  obtain ⟨A', c', vs, hv', h2, h3, h4, h5, h6, h7⟩ := list_parts hr
  obtain ⟨rfl, rfl⟩ : A = A' ∧ c = c' := by simpa using hv'
  have hu : ∀ x ∈ xs.take h, x.cells.length = s := fun x hx => h4 s hs x (List.mem_of_mem_take hx)
  have hf : ((xs.take h).drop l).flatMap V.cells = ((xs.flatMap V.cells).take (h * s)).drop (l * s) := by rw [flat_drop l hu, flat_take h (h4 s hs)]
  refine .list (vs := (vs.take (h * s)).drop (l * s)) (by simp; omega) (by omega) (.inl rfl) (fun s' hs' x hx => h4 s' hs' x (List.mem_of_mem_take (List.mem_of_mem_drop hx))) (by rw [hf]; exact ones_drop (ones_take h5 _) _) (fun hne => ?_) (.of (by rw [hf]; exact (h7.take _).drop _))
  have hlt : l * s < h * s := by
    rcases Nat.lt_or_ge (l * s) (h * s) with q | q
    · exact q
    · exact absurd (List.drop_eq_nil_of_le (by rw [List.length_take]; omega)) hne
  have hlh : l < h := by
    rcases Nat.lt_or_ge l h with q | q
    · exact q
    · have := Nat.mul_le_mul_right s q; omega
  obtain ⟨ad, rfl, hlies⟩ := h6 (by rintro rfl; simp at hne)
  rw [if_neg (by omega)]
  exact ⟨_, rfl, (hlies.take _).drop _⟩
theorem op_slice (hgl : GlOK P E.gl G.pr) (hinv : Inv P G st w) (ht : TmR P G N tm a) {t : TypeId} {x : Operand} {lo hi mx : Option Operand} {r : R} (ho : o.op = .slice t x lo hi mx) (hx : xop0 P E tm st i0 nx' o = some r) (hK : Good P G st i0 nx' a o K Q r) : o.wp P a w K Q := by
  simp only [xop0, ho, Option.bind_eq_some_iff] at hx
  obtain ⟨x0, h0, hx⟩ := hx
  have hr := ev_sound hgl ht h0
  unfold xslice at hx
  split at hx
  · rename_i e xs _ el hu
    rw [Option.bind_eq_some_iff] at hx
    obtain ⟨l, hl, hx⟩ := hx
    rw [Option.bind_eq_some_iff] at hx
    obtain ⟨h, hh, hx⟩ := hx
    rw [Option.bind_eq_some_iff] at hx
    obtain ⟨m, hm, hx⟩ := hx
    split at hx
    · rename_i hc
      obtain ⟨c1, c2, c3, c4, c5, c6, c7⟩ := hc
      obtain rfl := Option.some.inj hx
      obtain ⟨s, hs⟩ := Option.isSome_iff_exists.1 c6
      obtain ⟨A, c, hv, hp, _⟩ := hr.list_inv
      have hlc : xs.length ≤ c := by cases hp; assumption
      obtain ⟨ln, rfl⟩ := Int.eq_ofNat_of_zero_le c1
      obtain ⟨hn, rfl⟩ := Int.eq_ofNat_of_zero_le (show (0 : Int) ≤ h by omega)
      have b1 : ln ≤ hn := by omega
      have b2 : hn ≤ xs.length := by omega
      have main : ∀ M : Nat, hn ≤ M → (Instr.sliceAt t (.slice A xs.length c) (lo.map a.eval) (hi.map a.eval) (mx.map a.eval)).run P w = .ok (.slice (if M = ln then A else A.map (·.add (ln * s))) (hn - ln) (M - ln)) w → o.wp P a w K Q := fun M hM hrun => by
        refine good_same hinv hK (v := .slice (if M = ln then A else A.map (·.add (ln * s))) (hn - ln) (M - ln)) ?_ (.pure ?_)
        · simp only [execOp, ho, hv]
          rw [Sem.run_bind, hrun]
          rfl
        · by_cases hel : e = el
          · subst hel
            simpa using rep_sub hp hs b1 b2 hM
          · have hxs : xs = [] := by
              rcases c5 with h | h
              · exact absurd h hel
              · simpa using h
            subst hxs
            simp at b2
            subst b2
            have : ln = 0 := by omega
            subst this
            simp
            exact .list (vs := []) rfl (Nat.zero_le _) (.inl rfl) (by simp) (by simp [ones]) (by simp) .nil
      have gl := pint_inv hgl ht hl
      have gh := pint_inv hgl ht hh
      have gm := pint_inv hgl ht hm
      rcases gm with ⟨rfl, rfl⟩ | ⟨my, mk, rfl, em⟩
      · refine main c (by omega) ?_
        rcases gh with ⟨rfl, e2⟩ | ⟨hy, hk, rfl, eh⟩
        · obtain rfl : hn = xs.length := by omega
          rcases gl with ⟨rfl, e1⟩ | ⟨ly, lk, rfl, elo⟩
          · obtain rfl : ln = 0 := by omega
            simp [Instr.sliceAt, run_underlying hu, Instr.slice, Instr.sliceBounds, run_size hs]
          · simp [Instr.sliceAt, run_underlying hu, Instr.slice, Instr.sliceBounds, Instr.sliceBound, asIntOf, elo, b1, run_size hs]
        · have bh : hn ≤ c := by omega
          rcases gl with ⟨rfl, e1⟩ | ⟨ly, lk, rfl, elo⟩
          · obtain rfl : ln = 0 := by omega
            simp [Instr.sliceAt, run_underlying hu, Instr.slice, Instr.sliceBounds, Instr.sliceBound, asIntOf, eh, bh, run_size hs]
          · simp [Instr.sliceAt, run_underlying hu, Instr.slice, Instr.sliceBounds, Instr.sliceBound, asIntOf, elo, eh, b1, bh, run_size hs]
      · rcases gh with ⟨rfl, e2⟩ | ⟨hy, hk, rfl, eh⟩
        · simp at c7
        · obtain rfl : m = hn := c4
          have bh : hn ≤ c := by omega
          refine main hn (Nat.le_refl _) ?_
          rcases gl with ⟨rfl, e1⟩ | ⟨ly, lk, rfl, elo⟩
          · obtain rfl : ln = 0 := by omega
            simp [Instr.sliceAt, run_underlying hu, Instr.slice, Instr.sliceBounds, Instr.sliceBound, asIntOf, eh, em, bh, run_size hs]
          · simp [Instr.sliceAt, run_underlying hu, Instr.slice, Instr.sliceBounds, Instr.sliceBound, asIntOf, elo, eh, em, b1, bh, run_size hs]
    · cases hx
  · rename_i str hu
    have hv := hr.sc_inv
    have done : ∀ (z : Value) (lv hv' : Option Value), lo.map a.eval = lv → hi.map a.eval = hv' → mx = none → (Instr.slice t (.string str) lv hv' none).run P w = .ok z w → Good P G st i0 nx' a o K Q (.val (.sc z) [] []) → o.wp P a w K Q := fun z lv hv' e1 e2 e3 hrun hK => by
      refine good_same hinv hK (v := z) ?_ (.pure (.sc _))
      simp only [execOp, ho, hv, e1, e2, e3, Option.map_none]
      rw [Sem.run_bind]
      have : (Instr.sliceAt t (.string str) lv hv' none).run P w = .ok z w := by
        simp only [Instr.sliceAt, Sem.run_bind, run_underlying hu, Result.andThen_ok]
        exact hrun
      rw [this]
      rfl
    have lom : ∀ {y : Option Operand} {u : Value}, y.map (ev E tm) = some (some (.sc u)) → y.map a.eval = some u := fun {y u} hy => by
      cases y with
      | none => simp at hy
      | some y => simp at hy; simp [(ev_sound hgl ht hy).sc_inv]
    have non : ∀ {y : Option Operand}, y.map (ev E tm) = none → y = none := fun {y} hy => by cases y <;> simp_all
    split at hx
    · rename_i e1 e2 e3
      obtain rfl := Option.some.inj hx
      have f1 := non e1; have f2 := non e2; have f3 := non e3
      refine done _ none none (by rw [f2]; rfl) (by rw [f3]; rfl) f1 ?_ hK
      simp [Instr.slice, run_underlying hu, Instr.sliceBounds]
    · rename_i l e1 e2 e3
      rw [Option.map_eq_some_iff] at hx
      obtain ⟨z, hz, rfl⟩ := hx
      have f1 := non e1; have f2 := lom e2; have f3 := non e3
      exact done z _ none f2 (by rw [f3]; rfl) f1 (reck_run _ hz w) hK
    · rename_i l e1 e2 e3
      rw [Option.map_eq_some_iff] at hx
      obtain ⟨z, hz, rfl⟩ := hx
      have f1 := non e1; have f2 := non e2; have f3 := lom e3
      exact done z none _ (by rw [f2]; rfl) f3 f1 (reck_run _ hz w) hK
    · rename_i l h e1 e2 e3
      rw [Option.map_eq_some_iff] at hx
      obtain ⟨z, hz, rfl⟩ := hx
      have f1 := non e1; have f2 := lom e2; have f3 := lom e3
      exact done z _ _ f2 f3 f1 (reck_run _ hz w) hK
    · cases hx
  · cases hx
end
end Go.Proofs.YtkbheoganajhaaaDoor.Vm
set_option linter.unusedVariables false
set_option linter.unusedSimpArgs false
namespace Go.Proofs.YtkbheoganajhaaaDoor.Vm
open Go.RowKit
section
variable {P : Program} {G G' : Gh} {st : St} {w w' : World} {a : Act} {tm : Nat → V} {N i0 nx' : Nat} {o : Oper} {K : Act → World → Prop} {Q : Exit → Act → World → Prop} {E : Env}
theorem seg_step {α : Type} (l : List α) (k : Nat) (v : α) (rest : List α) (h : k < l.length) : (l.set k v).take (k + 1) ++ rest ++ (l.set k v).drop (k + 1 + rest.length) = l.take k ++ (v :: rest) ++ l.drop (k + (rest.length + 1)) := by
  have h1 : (l.set k v).take (k + 1) = l.take k ++ [v] := by
    rw [List.take_add_one, List.take_set_of_le (Nat.le_refl _)]
    simp [h]
  have h2 : (l.set k v).drop (k + 1 + rest.length) = l.drop (k + (rest.length + 1)) := by
    rw [List.drop_set_of_lt (by omega)]
    congr 1; omega
  rw [h1, h2]; simp
theorem fold_set (off : Nat) : ∀ (l : List Value) (k : Nat) (cells : Array Value), off + k + l.length ≤ cells.size →
    ((l.zipIdx k).foldl (fun cs p => cs.setIfInBounds (off + p.2) p.1) cells).toList = cells.toList.take (off + k) ++ l ++ cells.toList.drop (off + k + l.length)
  | [], k, cells, _ => by simp
  | v :: l, k, cells, h => by
    rw [List.zipIdx_cons, List.foldl_cons, fold_set off l (k + 1) _ (by simp at h ⊢; omega)]
    simp only [Array.toList_setIfInBounds]
    have := seg_step cells.toList (off + k) v l (by simp at h ⊢; omega)
    rw [List.length_cons, ← this]
    simp only [Nat.add_assoc]
theorem fill_step (place : Nat → Option (Nat × Nat)) (cells : Array Value) (i : Nat) (v : Value) (rest : List (Nat × Value)) {off size : Nat} (hp : place i = some (off, size)) (h1 : v.cells.size = size) (h2 : off + v.cells.size ≤ cells.size) :
    Instr.fill place cells ((i, v) :: rest) = Instr.fill place (cells.toList.take off ++ v.cells.toList ++ cells.toList.drop (off + v.cells.size)).toArray rest := by
  have h3 : ¬ (cells.size < off + v.cells.size) := by omega
  simp only [Instr.fill, hp, h1]
  rw [if_neg (by simp; omega)]
  congr 1
  apply Array.ext'
  rw [← Array.foldl_toList, Array.toList_zipIdx]
  have := fold_set off v.cells.toList 0 cells (by simpa using h2)
  simpa [h1] using this
theorem fill_sound {place : Nat → Option (Nat × Nat)} : ∀ {vs : List (Nat × V)} {us : List (Nat × Value)} {cs ds : List V} {cells : Array Value}, All2 (fun p q => p.1 = q.1 ∧ Rep P G p.2 q.2) vs us → All2 (Rep P G) cs cells.toList → xfill place cs vs = some ds → (∀ p ∈ vs, ones p.2.cells = true) →
    ∃ arr, Instr.fill place cells us = some arr ∧ All2 (Rep P G) ds arr.toList
  | [], _, cs, ds, cells, h, hc, hf, _ => by cases h; simp [xfill] at hf; subst hf; exact ⟨cells, by simp [Instr.fill], hc⟩
  | (i, v) :: vs, _, cs, ds, cells, h, hc, hf, h1 => by
    cases h with
    | cons h2 h3 =>
      rename_i q us
      obtain ⟨qi, qv⟩ := q
      obtain ⟨rfl, hr⟩ := h2
      unfold xfill at hf
      split at hf
      · cases hf
      · rename_i off size hp
        split at hf
        · cases hf
        · rename_i hn
          have hcv := rep_cells hr (h1 _ (by simp))
          have hl := hcv.length
          have hlc := hc.length
          simp only [Array.length_toList] at hl hlc
          rw [fill_step place cells i qv us hp (by omega) (by omega)]
          have e : off + qv.cells.size = off + v.cells.length := by omega
          rw [e]
          exact fill_sound h3 (by simpa using ((hc.take off).append hcv).append (hc.drop _)) hf fun p hp => h1 p (by simp [hp])
theorem parts_sound (hgl : GlOK P E.gl G.pr) (ht : TmR P G N tm a) : ∀ {l : List (Nat × Operand)} {vs : List (Nat × V)}, (l.mapM fun (p : Nat × Operand) => (ev E tm p.2).map fun v => (p.1, v)) = some vs → All2 (fun p q => p.1 = q.1 ∧ Rep P G p.2 q.2) vs (l.map fun (i, x) => (i, a.eval x)) := fun {l vs} h => by
  have h2 := mapM_some h
  clear h
  induction h2 with
  | nil => exact .nil
  | cons h _ ih =>
    rw [Option.map_eq_some_iff] at h
    obtain ⟨v, hv, rfl⟩ := h
    exact .cons ⟨rfl, ev_sound hgl ht hv⟩ ih
theorem run_mapM {α β : Type} {f : α → Sem β} {g : α → β} : ∀ {l : List α}, (∀ x ∈ l, ∀ w, (f x).run P w = .ok (g x) w) → ∀ w, (l.mapM f).run P w = .ok (l.map g) w
  | [], _, w => by simp
  | x :: l, h, w => by
    rw [List.mapM_cons]
    simp [h x (by simp), run_mapM (l := l) fun y hy => h y (by simp [hy])]
theorem op_build (hgl : GlOK P E.gl G.pr) (hinv : Inv P G st w) (ht : TmR P G N tm a) {t : TypeId} {ps : Array (Nat × Operand)} {r : R} (ho : o.op = .build t ps) (hx : xop0 P E tm st i0 nx' o = some r) (hK : Good P G st i0 nx' a o K Q r) : o.wp P a w K Q := by
  simp only [xop0, ho, Option.bind_eq_some_iff] at hx
  obtain ⟨vs, hvs, hx⟩ := hx
  have hp := parts_sound hgl ht hvs
  split at hx
  · rename_i z fs hz hu
    rw [Option.bind_eq_some_iff] at hx
    obtain ⟨cs, hcs, hx⟩ := hx
    split at hx
    · rename_i hc
      obtain rfl := Option.some.inj hx
      simp only [Bool.and_eq_true] at hc
      obtain ⟨⟨⟨c1, c3⟩, c4⟩, c2⟩ := hc
      have hall : ∀ f ∈ fs.toList, ∃ s, usz P f.type = some s := fun f hf => Option.isSome_iff_exists.1 (by
        have := Array.all_eq_true.1 c1
        obtain ⟨i, hi⟩ := List.getElem?_of_mem hf
        have hlt : i < fs.size := by have := (List.getElem?_eq_some_iff.1 hi).1; simpa using this
        have h2 := this i hlt
        have h3 : fs[i] = f := by simpa [hlt] using hi
        rw [h3] at h2; exact h2)
      have hrun : (fs.mapM fun f => do pure (f.offset, ← sizeOf f.type) : Sem (Array (Nat × Nat))).run P w = .ok (fs.map fun f => (f.offset, (usz P f.type).getD 0)) w := by
        rw [Array.mapM_eq_mapM_toList]
        have := run_mapM (P := P) (f := fun (f : Field) => (do pure (f.offset, ← sizeOf f.type) : Sem (Nat × Nat))) (g := fun f => (f.offset, (usz P f.type).getD 0)) (l := fs.toList) (fun f hf w => by
          obtain ⟨s, hs⟩ := hall f hf
          simp [run_size hs, hs]) w
        rw [Sem.run_map, this]
        simp only [Result.andThen_ok]
        congr 1
        apply Array.ext'
        simp
      have hpl : ((fs.map fun (f : Field) => (f.offset, (usz P f.type).getD 0))[·]?) = fun (i : Nat) => (fs[i]?).bind fun (f : Field) => (usz P f.type).map fun s => (f.offset, s) := by
        funext i
        rw [Array.getElem?_map]
        cases hi : fs[i]? with
        | none => rfl
        | some f =>
          obtain ⟨s, hs⟩ := hall f (by rw [← Array.getElem?_toList] at hi; exact List.mem_of_getElem? hi)
          simp [hs]
      have hrz : Rep P G (V.ofV z) z := .pure (rep_ofV _ _ c3)
      have h1 : ∀ p ∈ vs, ones p.2.cells = true := fun p hp => List.all_eq_true.1 c4 p hp
      obtain ⟨arr, ha, hr⟩ := fill_sound (cells := z.cells) hp (rep_cells hrz c3) hcs h1
      have harr : arr = arr.toList.toArray := by simp
      refine good_same hinv hK (v := .agg arr) ?_ (by rw [harr]; exact .agg c2 (.of hr))
      have e1 : (ps.map fun x => (x.1, a.eval x.2)).toList = ps.toList.map fun (i, x) => (i, a.eval x) := by simp
      simp only [execOp, ho, Instr.build, Sem.run_bind, run_zero hz, Result.andThen_ok, run_underlying hu, hrun, hpl, e1, ha, Sem.run_pure]
    · cases hx
  · cases hx
theorem pur_cells {x y : V} (h : x.pur? = some y) : y.cells.length = x.cells.length ∧ (ones x.cells = true → ones y.cells = true) := by
  unfold V.pur? at h
  split at h
  · rename_i cs
    rw [Option.map_eq_some_iff] at h
    obtain ⟨ds, hds, rfl⟩ := h
    exact ⟨(mapM_some hds).length.symm, fun h1 => pur1_ones hds h1⟩
  · rename_i hne
    have : x.cells = [x] := by cases x <;> first | rfl | exact absurd rfl (hne _)
    have hy : y.cells = [y] := by
      cases x <;> simp [V.pur1?] at h
      · subst h; rfl
      · subst h; rfl
      · subst h; rfl
      · rename_i f a b
        cases a <;> cases b <;> simp [V.pur1?] at h
        subst h; rfl
    rw [this, hy]
    refine ⟨rfl, fun h1 => ?_⟩
    rcases pur1_one h with h2 | ⟨v, rfl, rfl⟩
    · simpa [ones] using h2
    · exact h1
/-- A literal's cells, part by part. -/
theorem fill_slice {s : Nat} : ∀ {vs : List (Nat × V)} {us : List (Nat × Value)} {k : Nat} {done : List Value} {cells : Array Value}, All2 (fun p q => p.1 = q.1 ∧ Rep P G p.2 q.2) vs us → vs.map (·.1) = List.range' k vs.length → (∀ p ∈ vs, p.2.cells.length = s ∧ ones p.2.cells = true) →
    done.length = k * s → cells.size = (k + vs.length) * s → cells.toList.take (k * s) = done →
    ∃ arr, Instr.fill (fun i => some (i * s, s)) cells us = some arr ∧ arr.toList = done ++ us.flatMap fun q => q.2.cells.toList
  | [], _, k, done, cells, h, _, _, hd, hc, ht => by
    cases h
    refine ⟨cells, by simp [Instr.fill], ?_⟩
    simp only [List.length_nil, Nat.add_zero] at hc
    rw [List.flatMap_nil, List.append_nil, ← ht, List.take_of_length_le (by simp; omega)]
  | (i, v) :: vs, _, k, done, cells, h, hr, hs, hd, hc, ht => by
    cases h with
    | cons h2 h3 =>
      rename_i q us
      obtain ⟨qi, qv⟩ := q
      obtain ⟨rfl, hrep⟩ := h2
      rw [List.map_cons, List.length_cons, List.range'_succ, List.cons.injEq] at hr
      obtain ⟨hi0, hr⟩ := hr
      have hi0 : i = k := hi0
      subst hi0
      obtain ⟨hs1, hs2⟩ := hs _ (List.mem_cons_self ..)
      have hs1 : v.cells.length = s := hs1
      have hcv := (rep_cells hrep hs2).length
      simp only [Array.length_toList] at hcv
      have hsz : qv.cells.size = s := by omega
      have hc2 : cells.size = i * s + s + vs.length * s := by rw [hc, List.length_cons, Nat.add_mul, Nat.succ_mul]; omega
      rw [fill_step _ cells i qv us rfl hsz (by omega)]
      obtain ⟨arr, h4, h5⟩ := fill_slice (s := s) (k := i + 1) (done := done ++ qv.cells.toList) (cells := (cells.toList.take (i * s) ++ qv.cells.toList ++ cells.toList.drop (i * s + qv.cells.size)).toArray) h3 hr (fun p hp => hs p (by simp [hp])) (by simp [hd, hsz, Nat.succ_mul]) (by simp [hsz]; rw [Nat.add_mul, Nat.succ_mul]; omega) (by
        have e : (i + 1) * s = (cells.toList.take (i * s) ++ qv.cells.toList).length := by simp [hsz, Nat.succ_mul]; omega
        rw [e, List.toList_toArray, List.take_left, ht])
      exact ⟨arr, h4, by rw [h5]; simp⟩
theorem purs_rep {vs : List (Nat × V)} {xs : List V} {us : List (Nat × Value)} (h : All2 (fun p q => p.1 = q.1 ∧ Rep P G p.2 q.2) vs us) (hx : vs.mapM (fun (p : Nat × V) => p.2.pur?) = some xs) (h1 : ∀ p ∈ vs, ones p.2.cells = true) :
    All2 (RepP P G.pr) (xs.flatMap V.cells) (us.flatMap fun q => q.2.cells.toList) := by
  have hx2 := mapM_some hx
  clear hx
  induction hx2 generalizing us with
  | nil => cases h; exact .nil
  | cons h2 _ ih =>
    cases h with
    | cons h3 h4 =>
      rw [List.flatMap_cons, List.flatMap_cons]
      exact (repP_cells (rep_pur h3.2 h2) ((pur_cells h2).2 (h1 _ (by simp)))).append (ih h4 fun p hp => h1 p (by simp [hp]))
theorem own_lit0 (w : World) (base e s n : Nat) (arr : Array Value) (hb : base ≤ w.heap.size) (hm : n ≤ maxLen) (hs : arr.size = n * s) : (w.alloc (.cells arr e)).ownsRow base e s (.slice (some ⟨w.heap.size, 0, none⟩) n n) n arr.toList :=
  ⟨by simpa using hs, .inr ⟨w.heap.size, n, arr, rfl, hb, heap_alloc_new w _, Nat.le_refl _, hm, hs, by rw [← hs, ← Array.length_toList, List.take_length]⟩⟩
/-- A row with a right is a value. -/
theorem rep_tok {e s n i : Nat} {xs : List V} {v' : Value} {vs : List Value} (h8 : 8 ≤ i) (hs : usz P e = some s) (hown : w.ownsRow G.base e s v' n vs) (hn : xs.length = n) (htl : G.tl i = some v') (hpr : ∀ b, v'.ownBlock = some b → ∀ o, o < n * s → G.pr b o = vs[o]?)
    (hu : ∀ x ∈ xs, x.cells.length = s) (h1 : ones (xs.flatMap V.cells) = true) (hr : All2 (RepP P G.pr) (xs.flatMap V.cells) vs) : Rep P G (.list e xs i) v' := by
  rcases hown.2 with ⟨rfl, rfl⟩ | ⟨g, cap, cur, rfl, _, hh, hc, _⟩
  · have hx : xs = [] := List.eq_nil_of_length_eq_zero hn
    subst hx
    exact .tok h8 (.list (vs := []) rfl (Nat.le_refl _) (.inl rfl) (by simp) (by simp [ones]) (by simp) .nil) htl (Nat.le_refl _) fun _ => rfl
  · refine .tok h8 (.list (vs := vs) hn hc (.inl rfl) (fun s' hs' x hx => by rw [hs] at hs'; obtain rfl := Option.some.inj hs'; exact hu x hx) h1 (fun _ => ⟨_, rfl, fun j u hj => ?_⟩) (.of hr)) htl (Nat.le_refl _) fun _ => rfl
    rw [blk_add, Nat.zero_add]
    have hlt : j < n * s := by have := (List.getElem?_eq_some_iff.1 hj).1; rw [hown.1] at this; exact this
    exact ⟨rfl, by rw [hpr g rfl j hlt]; exact hj⟩
theorem same_tl {i : Nat} (hi : R8 i0 i) (v : Value) (p : Pr) : Same G { G with pr := p, tl := upd G.tl i (some v) } (R8 i0) := fun k hk => ⟨id, fun h => by
  have : k ≠ i := fun e => hk (by subst e; exact hi)
  simpa [upd, this] using h⟩
theorem uel_elem {t e : TypeId} (h : uel P t = some e) : P.underlying t = some (.slice e) := uel_u h
theorem op_buildSlice (hgl : GlOK P E.gl G.pr) (hinv : Inv P G st w) (ht : TmR P G N tm a) (hfr : Fresh G (R8 i0)) (h8 : 8 ≤ i0) {t : TypeId} {n : Nat} {ps : Array (Nat × Operand)} {r : R} (ho : o.op = .buildSlice t n ps) (hx : xop0 P E tm st i0 nx' o = some r) (hK : Good P G st i0 nx' a o K Q r) : o.wp P a w K Q := by
  simp only [xop0, ho, Option.bind_eq_some_iff] at hx
  obtain ⟨vs, hvs, hx⟩ := hx
  have hp := parts_sound hgl ht hvs
  split at hx
  · rename_i e he
    rw [Option.bind_eq_some_iff] at hx
    obtain ⟨s, hs, hx⟩ := hx
    split at hx
    · rename_i hc
      obtain ⟨c1, c2, c3, c4, c5⟩ := hc
      split at hx
      · rename_i hall
        rw [Option.bind_eq_some_iff] at hx
        obtain ⟨xs, hxs, hx⟩ := hx
        obtain rfl := Option.some.inj hx
        obtain ⟨z, hz⟩ := Option.isSome_iff_exists.1 c5
        have hu := uel_u he
        have hparts : ∀ p ∈ vs, p.2.cells.length = s ∧ ones p.2.cells = true := fun p hp => by
          have := List.all_eq_true.1 hall p hp
          simp only [Bool.and_eq_true, beq_iff_eq] at this
          exact ⟨this.1.1, this.1.2⟩
        have hlen : vs.length = n := by have := congrArg List.length c1; simpa using this
        have hsz0 : ((Array.range (n * s)).map (fun i => z.cells[i % z.cells.size]!)).size = n * s := by simp
        have hsz1 : ∀ init : Array Value, init.size = n * s → ∃ arr, Instr.fill (fun i => some (i * s, s)) init (ps.toList.map fun (i, x) => (i, a.eval x)) = some arr ∧ arr.toList = (ps.toList.map fun (i, x) => (i, a.eval x)).flatMap fun q => q.2.cells.toList := fun init hinit => by
          obtain ⟨arr, h1, h2⟩ := fill_slice (s := s) (k := 0) (done := []) (cells := init) hp (by rw [c1, hlen, List.range_eq_range']) hparts (by simp) (by rw [hinit, hlen]; simp) (by simp)
          exact ⟨arr, h1, by simpa using h2⟩
        have hrep := purs_rep hp hxs fun p hp => (hparts p hp).2
        have hnm : ¬ (16777216 < n * s) := by have : n * s ≤ 1000 * 1000 := Nat.mul_le_mul c2 c3; omega
        have e1 : (ps.map fun x => (x.1, a.eval x.2)).toList = ps.toList.map fun (i, x) => (i, a.eval x) := by simp
        have hxl : xs.length = n := by rw [← (mapM_some hxs).length]; exact hlen
        have hus : ∀ x ∈ xs, x.cells.length = s := fun x hx => by
          obtain ⟨i, hi⟩ := List.getElem?_of_mem hx
          obtain ⟨p, hp1, hp2⟩ := (mapM_some hxs).get' hi
          rw [(pur_cells hp2).1]; exact (hparts p (List.mem_of_getElem? hp1)).1
        have h1s : ones (xs.flatMap V.cells) = true := List.all_eq_true.2 fun c hc => by
          obtain ⟨x, hx, hcx⟩ := List.mem_flatMap.1 hc
          obtain ⟨i, hi⟩ := List.getElem?_of_mem hx
          obtain ⟨p, hp1, hp2⟩ := (mapM_some hxs).get' hi
          exact List.all_eq_true.1 ((pur_cells hp2).2 (hparts p (List.mem_of_getElem? hp1)).2) c hcx
        have hf := hfr i0 (r8_self i0)
        have run : ∃ arr, (execOp a.eval o).run P w = .ok (.value (.slice (some ⟨w.heap.size, 0, none⟩) n n)) (w.alloc (.cells arr e)) ∧ arr.size = n * s ∧ arr.toList = (ps.toList.map fun (i, x) => (i, a.eval x)).flatMap fun q => q.2.cells.toList := by
          by_cases h0 : n * s = 0
          · obtain ⟨arr, h1, h2⟩ := hsz1 ((Array.range (n * s)).map fun i => (#[] : Array Value)[i % (#[] : Array Value).size]!) (by simp)
            refine ⟨arr, ?_, ?_, h2⟩
            · simp only [execOp, ho, Instr.buildSlice, Sem.run_bind, run_underlying hu, Result.andThen_ok, run_size hs]
              rw [if_neg (by simpa using hnm), if_pos h0]
              simp only [pure_bind, Sem.run_pure, Result.andThen_ok, e1, h1, Sem.run_bind, newRow, run_newObj]
              rfl
            · have := hrep.length
              rw [flat_len hus, hxl, ← h2] at this
              simpa using this.symm
          · obtain ⟨arr, h1, h2⟩ := hsz1 ((Array.range (n * s)).map fun i => z.cells[i % z.cells.size]!) (by simp)
            refine ⟨arr, ?_, ?_, h2⟩
            · simp only [execOp, ho, Instr.buildSlice, Sem.run_bind, run_underlying hu, Result.andThen_ok, run_size hs]
              rw [if_neg (by simpa using hnm), if_neg h0]
              simp only [pure_bind, Sem.run_pure, Result.andThen_ok, e1, h1, Sem.run_bind, newRow, run_newObj, run_zero hz]
              rfl
            · have := hrep.length
              rw [flat_len hus, hxl, ← h2] at this
              simpa using this.symm
        obtain ⟨arr, hrun, hasz, hal⟩ := run
        have hrep' : All2 (RepP P G.pr) (xs.flatMap V.cells) arr.toList := by rw [hal]; exact hrep
        have hown := own_lit0 w G.base e s n arr hinv.size (by simp only [maxLen]; omega) hasz
        obtain ⟨hg, hi⟩ := hinv.row (w' := w.alloc (.cells arr e)) i0 (v := .slice none 0 0) (v' := .slice (some ⟨w.heap.size, 0, none⟩) n n) (n := 0) (n' := n) (vs := []) (news := arr.toList) hs (World.ownsRow_nil w G.base e s) (.inl ⟨bx_none_st hinv hf.1 hf.2, hf.2, rfl⟩) hf.1 (by simpa using hown) (.inr ⟨rfl, rfl, rfl, rfl, by simp, fun k hk _ => Below.heap_alloc w _ k hk⟩) (Nat.zero_le _) (fun h => by rw [bx_none_st hinv hf.1 hf.2] at h; cases h)
        refine wp_val hrun (hK _ _ _ hg (same_tl (r8_self i0) _ _) hi (rep_tok h8 hs hown hxl (by simp [upd]) (fun b hb o ho => ?_) hus h1s (hrep'.mono fun _ _ => RepP.mono hg.pr)))
        show (if _ then _ else _) = _
        rw [if_pos ⟨hb.symm, ho⟩, List.nil_append]
      · cases hx
    · cases hx
  · cases hx
end
end Go.Proofs.YtkbheoganajhaaaDoor.Vm
set_option linter.unusedVariables false
set_option linter.unusedSimpArgs false
namespace Go.Proofs.YtkbheoganajhaaaDoor.Vm
open Go.RowKit
section
variable {P : Program} {G G' : Gh} {st : St} {w w' : World} {a : Act} {tm : Nat → V} {N i0 nx' : Nat} {o : Oper} {K : Act → World → Prop} {Q : Exit → Act → World → Prop} {E : Env}
theorem arr_of_list {α : Type} {x : Array α} {l : List α} (h : x.toList = l) : x = l.toArray := by subst h; simp
theorem args_arr {c : Call} {vs : List Value} (h : c.args.toList.map a.eval = vs) : c.args.map a.eval = vs.toArray := arr_of_list (by simpa using h)
/-- What an append takes its new cells from. -/
theorem source_ok (hinv : Inv P G st w) {t t' el : TypeId} {y : V} {u : Value} {ys : List V} {i : TypeInfo} (hi : P.info? el = some i) (hel : uel P t = some el) (hr : Rep P G y u)
    (hty : srcTy P t t' y = true)
    (hys : src P el y = some ys) :
    ∃ d news, P.underlying t' = some d ∧ ((∃ e', d = .slice e') ∨ d = .string) ∧ (∀ w', (Builtin.lenOf u).run P w' = .ok ys.length w') ∧ (∀ w' : World, w'.heap = w.heap → (Builtin.firstCells i.size ys.length u).run P w' = .ok news.toArray w') ∧
      All2 (RepP P G.pr) (ys.flatMap V.cells) news ∧ (∀ x ∈ ys, x.cells.length = i.size) ∧ ones (ys.flatMap V.cells) = true := by
  have hsz : usz P el = some i.size := by simp [usz, hi]
  cases y with
  | list e' ys' r' =>
    simp only [src, srcTy] at hty hys
    split at hys
    · rename_i hc
      obtain rfl := Option.some.inj hys
      simp only [beq_iff_eq] at hty
      subst hty
      obtain ⟨A, c, hv, hp, _⟩ := hr.list_inv
      obtain ⟨A', c', vs, hv', h2, h3, h4, h5, h6, h7⟩ := list_parts hp
      obtain ⟨rfl, rfl⟩ : A = A' ∧ c = c' := by simpa using hv'
      subst hv
      have hall : ∀ x ∈ ys', x.cells.length = i.size := by
        rcases hc with rfl | hc
        · exact h4 _ hsz
        · have : ys' = [] := by simpa using hc
          subst this; simp
      have hl : vs.length = ys'.length * i.size := by rw [← h7.length, flat_len hall]
      refine ⟨_, vs, uel_u hel, .inl ⟨_, rfl⟩, fun w' => by simp [Builtin.lenOf], fun w' hw => ?_, h7, hall, h5⟩
      cases A with
      | none =>
        have : vs = [] := by
          rcases vs with _ | ⟨v, vs⟩
          · rfl
          · obtain ⟨ad, h, _⟩ := h6 (by simp); cases h
        subst this
        simp [Builtin.firstCells]
      | some ad =>
        refine run_firstCells_some w' i.size _ ad _ _ vs hl fun j u hu => ?_
        obtain ⟨ad', h, hlies⟩ := h6 (by intro e; rw [e] at hu; simp at hu)
        obtain rfl := Option.some.inj h
        have := cell_lies hinv hlies hu
        rw [← this]
        simp only [World.cell?, hw]
    · cases hys
  | sc v =>
    cases v with
    | string s =>
      simp only [src, srcTy] at hty hys
      split at hys
      · rename_i hc
        simp only [Bool.and_eq_true, beq_iff_eq] at hc
        obtain rfl := Option.some.inj hys
        have hv := hr.sc_inv
        subst hv
        have h1 : i.size = 1 := by have := hc.2; rw [hsz] at this; simpa using this
        refine ⟨_, s.data.toList.map fun b => Value.int .u8 b.toNat, isStr_u hty, .inr rfl, fun w' => by simp [Builtin.lenOf, bytesV_length], fun w' _ => ?_, ?_, ?_, ?_⟩
        · have hx : (Array.map (fun b : UInt8 => Value.int IntKind.u8 (b.toNat : Int)) s.data).extract 0 s.size = Array.map (fun b : UInt8 => Value.int IntKind.u8 (b.toNat : Int)) s.data := by
            have hs : s.size = (Array.map (fun b : UInt8 => Value.int IntKind.u8 (b.toNat : Int)) s.data).size := by rw [Array.size_map]; rfl
            rw [hs, Array.extract_size]
          have e : (List.map (fun b : UInt8 => Value.int IntKind.u8 (b.toNat : Int)) s.data.toList).toArray = Array.map (fun b : UInt8 => Value.int IntKind.u8 (b.toNat : Int)) s.data := by apply Array.ext'; simp
          rw [e]
          simp [Builtin.firstCells, bytesV_length, hx]
        · rw [flat_bytes]; exact bytes_all2 _
        · intro x hx
          simp only [bytesV, List.mem_map] at hx
          obtain ⟨b, _, rfl⟩ := hx
          rw [h1]; rfl
        · rw [flat_bytes]
          refine List.all_eq_true.2 fun x hx => ?_
          simp only [bytesV, List.mem_map] at hx
          obtain ⟨b, _, rfl⟩ := hx
          rfl
      · cases hys
    | _ => simp [src] at hys
  | _ => simp [src] at hys
theorem rest_ok (hinv : Inv P G st w) {e s r : Nat} {xs : List V} {v : Value} (h8 : 8 ≤ r) (hr : Rep P G (.list e xs r) v) (hst : st r = some (.tok xs.length e)) (hs : usz P e = some s) :
    ∃ vs, G.tl r = some v ∧ w.ownsRow G.base e s v xs.length vs ∧ All2 (RepP P G.pr) (xs.flatMap V.cells) vs ∧ (∀ x ∈ xs, x.cells.length = s) ∧ ones (xs.flatMap V.cells) = true ∧
      ∀ b, v.ownBlock = some b → ∀ o, o < xs.length * s → G.pr b o = vs[o]? := by
  obtain ⟨A, c, rfl, hp, _, ho⟩ := hr.list_inv
  obtain ⟨v0, s', vs0, h1, h2, h3, _⟩ := hinv.objs r _ hst
  rw [hs] at h2
  obtain rfl := Option.some.inj h2
  rcases ho with rfl | rfl | ⟨_, v1, h4, h5⟩
  · omega
  · omega
  · rw [h1] at h4
    obtain rfl := Option.some.inj h4
    have hv := h5 (vlen_own h3).symm
    subst hv
    obtain ⟨A', c', vs, hv', k2, k3, k4, k5, k6, k7⟩ := list_parts hp
    obtain ⟨rfl, rfl⟩ : A = A' ∧ c = c' := by simpa using hv'
    have hl : vs.length = xs.length * s := by rw [← k7.length, flat_len (k4 s hs)]
    have hvs : vs = vs0 := by
      apply List.ext_getElem?
      intro j
      rcases Nat.lt_or_ge j (xs.length * s) with hj | hj
      · have e1 : vs[j]? = some vs[j] := List.getElem?_eq_getElem (by omega)
        have e2 : vs0[j]? = some (vs0[j]'(by rw [h3.1]; exact hj)) := List.getElem?_eq_getElem _
        obtain ⟨ad, rfl, hlies⟩ := k6 (by rintro rfl; simp at hl; omega)
        rcases h3.2 with ⟨h6, _⟩ | ⟨g, cap, cur, h6, _⟩
        · cases h6
        · obtain ⟨rfl, rfl⟩ : ad = ⟨g, 0, none⟩ ∧ c = cap := by simpa using h6
          have c1 := cell_lies hinv hlies e1
          have c2 := own_cells h3 (g := g) rfl e2
          rw [blk_add, Nat.zero_add, c2] at c1
          rw [e1, e2]
          exact c1.symm
      · rw [List.getElem?_eq_none (by omega), List.getElem?_eq_none (by rw [h3.1]; exact hj)]
    subst hvs
    refine ⟨vs, h1, h3, k7, k4 s hs, k5, fun b hb o ho => ?_⟩
    obtain ⟨ad, rfl, hlies⟩ := k6 (by rintro rfl; simp at hl; omega)
    have e1 : vs[o]? = some vs[o] := List.getElem?_eq_getElem (by omega)
    rcases h3.2 with ⟨h6, _⟩ | ⟨g, cap, cur, h6, _⟩
    · cases h6
    · obtain ⟨rfl, rfl⟩ : ad = ⟨g, 0, none⟩ ∧ c = cap := by simpa using h6
      obtain rfl : g = b := by simpa [Value.ownBlock] using hb
      have := (hlies o _ e1).2
      rw [blk_add] at this
      simp only [Nat.zero_add] at this
      rw [this, e1]
theorem run_builtin {c : Call} {f : Sem Value} {b : Builtin} (ho : o.op = .call c) (hc : c.callee = .builtin b) (hf : ∀ k, builtin b c.argTypes o.type k (c.args.map a.eval) = (do pure (.value (← f)))) {v : Value} (hr : f.run P w = .ok v w') : (execOp a.eval o).run P w = .ok (.value v) w' := by
  simp only [execOp, ho, resolve, hc, pure_bind, invoke, hf]
  rw [Sem.run_bind, hr]
  rfl
theorem ones_flat_append {xs ys : List V} (h : ones (xs.flatMap V.cells) = true) (k : ones (ys.flatMap V.cells) = true) : ones ((xs ++ ys).flatMap V.cells) = true := by rw [List.flatMap_append, ones_append, h, k]; rfl
theorem op_append (hgl : GlOK P E.gl G.pr) (hinv : Inv P G st w) (ht : TmR P G N tm a) (hfr : Fresh G (R8 i0)) (h8 : 8 ≤ i0) {c : Call} {t t' : TypeId} {x y : V} {r : R} (ho : o.op = .call c) (hc : c.callee = .builtin .append) (hts : c.argTypes.toList = [t, t'])
    {us : List Value} (hargs : All2 (Rep P G) [x, y] us) (hus : c.args.toList.map a.eval = us) (hty : srcTy P t t' y = true) (hx : xappend1 P st i0 t x y = some r) (hK : Good P G st i0 nx' a o K Q r) : o.wp P a w K Q := by
  cases hargs with
  | cons hrx hargs =>
  cases hargs with
  | cons hry hargs =>
  cases hargs
  rename_i ux uy
  have hA := args_arr hus
  have hT := arr_of_list hts
  unfold xappend1 at hx
  split at hx
  · rename_i e xs rr
    -- what holds of the row, whichever right it is
    have main : ∀ (i n : Nat) (vs : List Value), 8 ≤ i → R8 i0 i ∨ G.tl i = some ux → ∀ el, uel P t = some el → (∀ s, usz P el = some s → w.ownsRow G.base el s ux n vs ∧ xs.length = n ∧ All2 (RepP P G.pr) (xs.flatMap V.cells) vs ∧ (∀ x ∈ xs, x.cells.length = s) ∧ ones (xs.flatMap V.cells) = true) →
        ((st i = none ∧ G.tl i = none ∧ ux = .slice none 0 0) ∨ (st i = some (.tok n el) ∧ G.tl i = some ux)) → G.bx i = none → ∀ ys info zc, src P el y = some ys →
        P.info? el = some info → info.zero = some zc → zc.cells.size = info.size → (n + ys.length) * info.bytes ≤ 140737488355328 → n + ys.length ≤ maxLen →
        (∀ G' w' v', G.le G' → Same G G' (R8 i0) → Inv P G' (upd st i (some (.tok (n + ys.length) el))) w' → Rep P G' (.list el (xs ++ ys) i) v' → K (a.put o.dst v') w') → o.wp P a w K Q := by
      intro i n vs h8i hir el hel hown hi hbi ys info zc hys hinfo hz hzs hb hm hk
      have hsz : usz P el = some info.size := by simp [usz, hinfo]
      obtain ⟨o1, o2, o3, o4, o5⟩ := hown _ hsz
      obtain ⟨d, news, hd, hdd, s1, s2, s3, s4, s5⟩ := source_ok hinv hinfo hel hry hty hys
      have hnl : news.length = ys.length * info.size := by rw [← s3.length, flat_len s4]
      obtain ⟨v', w', hrun, hown', hat, hm0⟩ := run_app w G.base t t' o.type el info zc (uel_u hel) hd hdd hinfo hz hzs ux n vs o1 uy ys.length news s1 s2 hnl (fun u hu => by
        obtain ⟨j, hj⟩ := List.getElem?_of_mem hu
        obtain ⟨q, hq, hqr⟩ := s3.get' hj
        exact hqr.one (ones_get s5 hq)) hm hb hinv.size
      obtain ⟨hg, hinv'⟩ := hinv.row i hsz o1 hi hbi hown' hat (by omega) (fun _ he => hm0 (by omega))
      refine wp_val (v := v') (w' := w') ?_ (hk _ w' v' hg ?_ hinv' ?_)
      · refine run_builtin (f := Builtin.append_ c.argTypes o.type (c.args.map a.eval)) ho hc (fun k => rfl) ?_
        rw [hT, hA]; exact hrun
      · intro k hk1
        refine ⟨id, fun h => ?_⟩
        have : k ≠ i := fun e => by
          subst e
          rcases hir with h1 | h1
          · exact hk1 h1
          · rw [h1] at h; cases h
        simpa [upd, this] using h
      · refine rep_tok h8i hsz hown' (by simp [o2]) (by simp [upd]) (fun b hbb q hq => ?_) (fun z hz => ?_) (ones_flat_append o5 s5) ?_
        · show (if _ then _ else _) = _
          rw [if_pos ⟨hbb.symm, hq⟩]
        · rcases List.mem_append.1 hz with hz | hz
          · exact o4 z hz
          · exact s4 z hz
        · rw [List.flatMap_append]
          exact (o3.append s3).mono fun _ _ => RepP.mono hg.pr
    split at hx
    · rename_i hr1
      subst hr1
      unfold xappend at hx
      split at hx
      · rename_i e1 xs1 r1 el hx1 hel
        obtain ⟨rfl, rfl, rfl⟩ : e = e1 ∧ xs = xs1 ∧ 1 = r1 := by simpa using hx1
        split at hx
        · rename_i ys s1 by_ zs hys hinf
          rw [Option.map_eq_some_iff] at hinf
          obtain ⟨info, hinfo, hinf⟩ := hinf
          simp only [Prod.mk.injEq, Option.map_eq_some_iff] at hinf
          obtain ⟨rfl, rfl, zc, hz, rfl⟩ := hinf
          split at hx
          · rename_i hc
            obtain ⟨c1, c2, c3, c4⟩ := hc
            try rw [if_pos rfl] at hx
            split at hx
            · rename_i hemp
              obtain rfl := Option.some.inj hx
              have hxs : xs = [] := by simpa using hemp
              subst hxs
              have hf := hfr i0 (r8_self i0)
              obtain ⟨A, cc, hv, _, hn, _⟩ := hrx.list_inv
              obtain ⟨_, rfl, rfl⟩ := hn rfl
              subst hv
              refine main i0 0 [] h8 (.inl (r8_self i0)) el hel (fun s _ => ⟨World.ownsRow_nil w G.base el s, rfl, .nil, by simp, by simp [ones]⟩) (.inl ⟨bx_none_st hinv hf.1 hf.2, hf.2, rfl⟩) hf.1 ys info zc hys hinfo hz c1 (by simpa using c3) (by simpa using c4) fun G' w' v' g1 g2 g3 g4 => hK G' w' v' g1 g2 ?_ g4
              simpa [upds] using g3
            · cases hx
          · cases hx
        · cases hx
      · cases hx
    · rename_i hr1
      split at hx
      · rename_i n e' hst
        split at hx
        · rename_i hc0
          obtain ⟨rfl, rfl⟩ := hc0
          unfold xappend at hx
          split at hx
          · rename_i e1 xs1 r1 el hx1 hel
            obtain ⟨rfl, rfl, rfl⟩ : e' = e1 ∧ xs = xs1 ∧ rr = r1 := by simpa using hx1
            split at hx
            · rename_i ys s1 by_ zs hys hinf
              rw [Option.map_eq_some_iff] at hinf
              obtain ⟨info, hinfo, hinf⟩ := hinf
              simp only [Prod.mk.injEq, Option.map_eq_some_iff] at hinf
              obtain ⟨rfl, rfl, zc, hz, rfl⟩ := hinf
              split at hx
              · rename_i hc
                obtain ⟨c1, c2, c3, c4⟩ := hc
                try rw [if_neg hr1] at hx
                split at hx
                · cases hx
                · rename_i hr0
                  split at hx
                  · rename_i hel2
                    subst hel2
                    obtain rfl := Option.some.inj hx
                    have h8r : 8 ≤ rr := by
                      obtain ⟨_, _, _, _, _, ho⟩ := hrx.list_inv
                      rcases ho with h | h | h
                      · exact absurd h hr0
                      · exact absurd h hr1
                      · exact h.1
                    have hsz : usz P e' = some info.size := by simp [usz, hinfo]
                    obtain ⟨vs, k1, k2, k3, k4, k5, _⟩ := rest_ok hinv h8r hrx hst hsz
                    refine main rr xs.length vs h8r (.inr k1) e' hel (fun s hs => ?_) (.inr ⟨hst, k1⟩) (by obtain ⟨_, _, _, _, _, _, q⟩ := hinv.objs _ _ hst; exact q) ys info zc hys hinfo hz c1 c3 c4 fun G' w' v' g1 g2 g3 g4 => hK G' w' v' g1 g2 ?_ g4
                    · rw [hsz] at hs; obtain rfl := Option.some.inj hs
                      exact ⟨k2, rfl, k3, k4, k5⟩
                    · simpa [upds] using g3
                  · cases hx
              · cases hx
            · cases hx
          · cases hx
        · cases hx
      · cases hx
  · cases hx
end
end Go.Proofs.YtkbheoganajhaaaDoor.Vm
set_option linter.unusedVariables false
set_option linter.unusedSimpArgs false
namespace Go.Proofs.YtkbheoganajhaaaDoor.Vm
open Go.RowKit
section
variable (P : Program)
structure ProgOK : Prop where
  ng : P.funcs.all (fun fn => fn.name != "runtime.NumGoroutine") = true
  mix : P.follows .mixedOrders = true
def Ext (p p' : Pr) (w w' : World) : Prop := (∀ b o v, p b o = some v → p' b o = some v) ∧ (∀ b o v, p' b o = some v → w'.cell? ⟨b, o, none⟩ = some v) ∧ (∀ b o, b < w.heap.size → p' b o = p b o)
def isOwn : V → Bool
  | .list _ _ r => decide (8 ≤ r)
  | _ => false
/-- One result, its right told by its mark. -/
def Ret1 (B : Nat) (p : Pr) (w : World) (y : V) (v : Value) : Prop :=
  (isOwn y = false ∧ RepP P p y v) ∨
  ∃ e xs s vs, y = .list e xs (8 + e) ∧ usz P e = some s ∧ w.ownsRow B e s v xs.length vs ∧ All2 (RepP P p) (xs.flatMap V.cells) vs ∧ (∀ x ∈ xs, x.cells.length = s) ∧ ones (xs.flatMap V.cells) = true ∧
    (∀ b, v.ownBlock = some b → ∀ o, o < xs.length * s → p b o = vs[o]?) ∧ (∀ b, v.ownBlock = some b → ∀ o u, p b o = some u → o < xs.length * s)
def RetOK (B : Nat) (p : Pr) (w : World) (y : V) (v : Value) : Prop :=
  match y with
  | .tup ys => ∃ us, v = .tuple us.toArray ∧ ys.length ≤ 8 ∧ All2 (Ret1 P B p w) ys us ∧
      ∀ (i j : Nat) yi yj ui uj b, i ≠ j → ys[i]? = some yi → ys[j]? = some yj → us[i]? = some ui → us[j]? = some uj → isOwn yi = true → isOwn yj = true → Value.ownBlock ui = some b → Value.ownBlock uj = some b → False
  | y => Ret1 P B p w y v
def PlPost (p : Pr) (w : World) : CR → Ending → World → Prop
  | .ret y, e, w' => ∃ v p', e = .returned v ∧ Below w.heap.size w w' ∧ Ext p p' w w' ∧ RetOK P w.heap.size p' w' y v
  | .pan y, e, w' => ∃ t y0 u p', y = .ifc t y0 ∧ e = .panicked [{ v := .iface t u, recovered := false }] ∧ Below w.heap.size w w' ∧ Ext p p' w w' ∧ RepP P p' y0 u
def HpPost (G : Gh) (nx : Nat) : HR → Ending → World → Prop
  | .ret y st' nx', e, w' => ∃ G' v, e = .returned v ∧ G.le G' ∧ Same G G' (fun k => nx ≤ k ∧ k < nx') ∧ nx ≤ nx' ∧ Inv P G' st' w' ∧ Rep P G' y v
  | .pan y st' nx', e, w' => ∃ G' v, e = .panicked [{ v, recovered := false }] ∧ G.le G' ∧ Same G G' (fun k => nx ≤ k ∧ k < nx') ∧ nx ≤ nx' ∧ Inv P G' st' w' ∧ Rep P G' y v
structure EnvOK (E : Env) : Prop where
  pl : ∀ f as r, nobody P f = false → E.pl f as = some r → ∀ p vs w, GlOK P E.gl p → (∀ b o v, p b o = some v → w.cell? ⟨b, o, none⟩ = some v) → All2 (RepP P p) as vs → Calls P f vs.toArray w (PlPost P p w r)
  hp : ∀ f as st nx r, nobody P f = false → E.hp f as st nx = some r → ∀ G vs w, GlOK P E.gl G.pr → Inv P G st w → All2 (Rep P G) as vs → 8 ≤ nx → Fresh G (fun k => nx ≤ k) → Calls P f vs.toArray w (HpPost P G nx r)
end
section
variable {P : Program} {G G' : Gh} {st : St} {w w' : World} {a : Act} {tm : Nat → V} {N i0 nx' : Nat} {o : Oper} {K : Act → World → Prop} {Q : Exit → Act → World → Prop} {E : Env}
theorem op_builtin (hgl : GlOK P E.gl G.pr) (hinv : Inv P G st w) (ht : TmR P G N tm a) (hfr : Fresh G (R8 i0)) (h8 : 8 ≤ i0) {c : Call} {b : Builtin} {args : List V} {r : R} (ho : o.op = .call c) (hc : c.callee = .builtin b)
    (hargs : c.args.toList.mapM (ev E tm) = some args) (hx : xbuiltin P st i0 b c.argTypes o.type args = some r) (hK : Good P G st i0 nx' a o K Q r) : o.wp P a w K Q := by
  have hA := evs_sound hgl ht hargs
  have hA2 := args_arr (a := a) (c := c) rfl
  unfold xbuiltin at hx
  split at hx
  · rename_i x y
    split at hx
    · rename_i t t' hts
      split at hx
      · rename_i hty
        exact op_append hgl hinv ht hfr h8 ho hc hts hA rfl hty hx hK
      · cases hx
    · cases hx
  · rename_i e xs rr
    split at hx
    · rename_i t hts
      split at hx
      · rename_i el hu
        obtain rfl := Option.some.inj hx
        generalize hg : c.args.toList.map a.eval = us at hA hA2
        cases hA with
        | cons h1 h2 =>
          cases h2
          obtain ⟨A, cc, rfl, _⟩ := h1.list_inv
          refine good_same hinv hK (v := .int .i64 xs.length) ?_ (.pure (.sc _))
          refine run_builtin (f := Builtin.len_ c.argTypes o.type (c.args.map a.eval)) ho hc (fun k => rfl) ?_
          rw [arr_of_list hts, hA2]
          simp [Builtin.len_, run_underlying hu, goInt]
      · cases hx
    · cases hx
  · rename_i id
    split at hx
    · rename_i t hts
      split at hx
      · rename_i kt et hu
        split at hx
        · rename_i es hs
          obtain rfl := Option.some.inj hx
          generalize hg : c.args.toList.map a.eval = us at hA hA2
          cases hA with
          | cons h1 h2 =>
            cases h2
            obtain ⟨bb, rfl, hb⟩ := h1.map_inv
            obtain ⟨b', arr, clk, g1, g2, g3, g4⟩ := hinv.objs id _ hs
            rw [hb] at g1
            obtain rfl := Option.some.inj g1
            have hl := g4.length
            refine good_same hinv hK (v := .int .i64 es.length) ?_ (.pure (.sc _))
            refine run_builtin (f := Builtin.len_ c.argTypes o.type (c.args.map a.eval)) ho hc (fun k => rfl) ?_
            rw [arr_of_list hts, hA2]
            simp at hl
            simp [Builtin.len_, run_underlying hu, goInt, getObj, Sem.run, g3, hl]
        · cases hx
      · cases hx
    · cases hx
  · rename_i v
    rw [Option.map_eq_some_iff] at hx
    obtain ⟨z, hz, rfl⟩ := hx
    generalize hg : c.args.toList.map a.eval = us at hA hA2
    cases hA with
    | cons h1 h2 =>
      cases h2
      have := h1.sc_inv
      subst this
      refine good_same hinv hK (v := z) ?_ (.pure (.sc _))
      refine run_builtin (f := Builtin.len_ c.argTypes o.type (c.args.map a.eval)) ho hc (fun k => rfl) ?_
      rw [hA2]
      exact reck_run _ hz w
  · rename_i l
    rw [Option.bind_eq_some_iff] at hx
    obtain ⟨vs, hvs, hx⟩ := hx
    rw [Option.map_eq_some_iff] at hx
    obtain ⟨z, hz, rfl⟩ := hx
    have := vals_eq hA hvs
    refine good_same hinv hK (v := z) ?_ (.pure (.sc _))
    refine run_builtin (f := Builtin.min_ c.argTypes o.type (c.args.map a.eval)) ho hc (fun k => rfl) ?_
    rw [hA2, this]
    exact reck_run _ hz w
  · rename_i l
    rw [Option.bind_eq_some_iff] at hx
    obtain ⟨vs, hvs, hx⟩ := hx
    rw [Option.map_eq_some_iff] at hx
    obtain ⟨z, hz, rfl⟩ := hx
    have := vals_eq hA hvs
    refine good_same hinv hK (v := z) ?_ (.pure (.sc _))
    refine run_builtin (f := Builtin.max_ c.argTypes o.type (c.args.map a.eval)) ho hc (fun k => rfl) ?_
    rw [hA2, this]
    exact reck_run _ hz w
  · cases hx
/-- Behind a call on pure data: the world has grown. -/
theorem Inv.grow (h : Inv P G st w) {p' : Pr} (hb : Below w.heap.size w w') (he : Ext G.pr p' w w') : G.le { G with pr := p' } ∧ Inv P { G with pr := p' } st w' := by
  have hle : G.le { G with pr := p' } := ⟨rfl, rfl, he.1, fun _ _ q => q, fun t v q => ⟨v, q, Nat.le_refl _, fun _ => rfl, fun _ => rfl⟩, fun b o hb => he.2.2 b o (by have := h.size; omega)⟩
  refine ⟨hle, h.below.trans (hb.mono h.size), Nat.le_trans h.size hb.size, he.2.1, fun i ob hi => ?_, fun i j b hi hj => h.apart i j b hi hj, fun i b hi o v hv => ?_⟩
  · refine (h.objs i ob hi).kept hle rfl rfl fun b hbb => hb.block b ?_
    refine (h.blk_lt (i := i) ?_).1
    unfold blk; rw [hi]; cases ob <;> exact hbb
  · have hi' : blk G st i = some b := hi
    have hv' : p' b o = some v := hv
    rw [he.2.2 b o (h.blk_lt hi').1] at hv'
    exact h.free i b hi' o v hv'
/-- A right is given a name. -/
theorem Inv.name (h : Inv P G st w) (i : Nat) {v : Value} {n e s : Nat} {vs : List Value} (h1 : st i = none) (h2 : G.tl i = none) (hbx : G.bx i = none) (hs : usz P e = some s) (hown : w.ownsRow G.base e s v n vs)
    (hap : ∀ j b, blk G st j = some b → v.ownBlock ≠ some b) (hfree : ∀ b, v.ownBlock = some b → ∀ o u, G.pr b o = some u → o < n * s) :
    G.le { G with tl := upd G.tl i (some v) } ∧ Inv P { G with tl := upd G.tl i (some v) } (upd st i (some (.tok n e))) w := by
  have hle : G.le { G with tl := upd G.tl i (some v) } := ⟨rfl, rfl, fun _ _ _ q => q, fun _ _ q => q, fun t u q => by
    simp only [upd]; split
    · rename_i e1; subst e1; rw [h2] at q; cases q
    · exact ⟨u, q, Nat.le_refl _, fun _ => rfl, fun _ => rfl⟩, fun _ _ _ => rfl⟩
  have hb : ∀ b, blk { G with tl := upd G.tl i (some v) } (upd st i (some (.tok n e))) i = some b → v.ownBlock = some b := fun b hb => by
    unfold blk at hb; simpa [upd] using hb
  refine ⟨hle, h.go hle (Below.refl _ _) h.prot i (fun j hj => by simp [upd, hj]) (fun _ _ => rfl) (fun j hj => by simp [upd, hj]) (fun _ _ _ _ => rfl) (fun ob hob => ?_) (fun j b _ hb1 hb2 => hap j b hb1 (hb b hb2)) (fun b hb1 o u hu => ?_) (fun _ _ _ _ _ _ q => q)⟩
  · simp [upd] at hob; subst hob
    exact ⟨v, s, vs, by simp [upd], hs, hown, hbx⟩
  · exact ⟨n, e, s, by simp [upd], hs, hfree b (hb b hb1) o u hu⟩
end
end Go.Proofs.YtkbheoganajhaaaDoor.Vm
set_option linter.unusedVariables false
set_option linter.unusedSimpArgs false
namespace Go.Proofs.YtkbheoganajhaaaDoor.Vm
open Go.RowKit
section
variable {P : Program} {G G' : Gh} {st : St} {w w' : World} {a : Act} {tm : Nat → V} {N i0 nx' : Nat} {o : Oper} {K : Act → World → Prop} {Q : Exit → Act → World → Prop} {E : Env}
theorem own_lower {B B' e s n : Nat} {v : Value} {vs : List Value} (h : w.ownsRow B e s v n vs) (hb : B' ≤ B) : w.ownsRow B' e s v n vs := by
  rcases h with ⟨h1, h2 | ⟨g, cap, cur, h3, h4, h5⟩⟩
  · exact ⟨h1, .inl h2⟩
  · exact ⟨h1, .inr ⟨g, cap, cur, h3, Nat.le_trans hb h4, h5⟩⟩
theorem upds_append {α : Type} (a b : List (Nat × α)) (f : Nat → α) : upds (a ++ b) f = upds b (upds a f) := by simp [upds]
theorem owns_sound {B : Nat} (h8 : 8 ≤ i0) : ∀ {ys : List V} {us : List Value} {j : Nat} {G : Gh} {st : St}, All2 (Ret1 P B G.pr w) ys us → j + ys.length ≤ 8 → (∀ k, i0 + j ≤ k → k < i0 + 8 → G.bx k = none ∧ G.tl k = none) → Inv P G st w → G.base ≤ B →
    (∀ (q : Nat) yi ui b, ys[q]? = some yi → us[q]? = some ui → isOwn yi = true → Value.ownBlock ui = some b → ∀ k, blk G st k ≠ some b) →
    (∀ (i j : Nat) yi yj ui uj b, i ≠ j → ys[i]? = some yi → ys[j]? = some yj → us[i]? = some ui → us[j]? = some uj → isOwn yi = true → isOwn yj = true → Value.ownBlock ui = some b → Value.ownBlock uj = some b → False) →
    ∃ G', G.le G' ∧ Same G G' (R8 i0) ∧ Inv P G' (upds (owns i0 j ys).2 st) w ∧ All2 (Rep P G') (owns i0 j ys).1 us
  | [], _, j, G, st, h, _, _, hinv, _, _, _ => by cases h; exact ⟨G, .refl G, .refl G _, hinv, .nil⟩
  | y :: ys, _, j, G, st, h, hj, hfr, hinv, hB, hd, hpd => by
    cases h with
    | cons h1 h2 =>
      rename_i u us
      simp only [List.length_cons] at hj
      rcases h1 with ⟨hno, hp⟩ | ⟨e, xs, s, vs, rfl, hs, k1, k2, k3, k4, k5, k6⟩
      · have e1 : own1 (i0 + j) y = (y, []) := by
          cases y <;> simp [own1]
          simp [isOwn] at hno
          exact hno
        obtain ⟨G', g1, g2, g3, g4⟩ := owns_sound h8 (j := j + 1) h2 (by omega) (fun k a b => hfr k (by omega) b) hinv hB (fun q yi ui b a1 a2 => hd (q + 1) yi ui b (by simpa using a1) (by simpa using a2))
          (fun i j' yi yj ui uj b hne a1 a2 a3 a4 => hpd (i + 1) (j' + 1) yi yj ui uj b (by omega) (by simpa using a1) (by simpa using a2) (by simpa using a3) (by simpa using a4))
        refine ⟨G', g1, g2, ?_, ?_⟩
        · simp only [owns, e1, List.nil_append]; exact g3
        · simp only [owns, e1]; exact .cons ((Rep.pure hp).mono g1) g4
      · have e1 : own1 (i0 + j) (.list e xs (8 + e)) = (.list e xs (i0 + j), [(i0 + j, some (.tok xs.length e))]) := by simp [own1]
        have hf := hfr (i0 + j) (Nat.le_refl _) (by omega)
        obtain ⟨n1, n2⟩ := hinv.name (i0 + j) (bx_none_st hinv hf.1 hf.2) hf.2 hf.1 hs (own_lower k1 hB) (fun q b hb hv => hd 0 _ _ b rfl rfl (by simp [isOwn]) hv q hb) k6
        obtain ⟨G', g1, g2, g3, g4⟩ := owns_sound h8 (j := j + 1) (G := { G with tl := upd G.tl (i0 + j) (some u) }) h2 (by omega) (fun k a b => ⟨(hfr k (by omega) b).1, by
            have : k ≠ i0 + j := by omega
            simpa [upd, this] using (hfr k (by omega) b).2⟩) n2 hB (fun q yi ui b a1 a2 a3 a4 k hk => by
            by_cases hkj : k = i0 + j
            · subst hkj
              have : u.ownBlock = some b := by unfold blk at hk; simpa [upd] using hk
              exact hpd 0 (q + 1) _ _ _ _ b (by omega) rfl (by simpa using a1) rfl (by simpa using a2) (by simp [isOwn]) a3 this a4
            · refine hd (q + 1) yi ui b (by simpa using a1) (by simpa using a2) a3 a4 k ?_
              unfold blk at hk ⊢; simpa [upd, hkj] using hk)
          (fun i j' yi yj ui uj b hne a1 a2 a3 a4 => hpd (i + 1) (j' + 1) yi yj ui uj b (by omega) (by simpa using a1) (by simpa using a2) (by simpa using a3) (by simpa using a4))
        have hrep : Rep P { G with tl := upd G.tl (i0 + j) (some u) } (.list e xs (i0 + j)) u := rep_tok (by omega) hs (own_lower k1 hB) rfl (by simp [upd]) k5 k3 k4 k2
        have hsame : Same G { G with tl := upd G.tl (i0 + j) (some u) } (R8 i0) := fun k hk => ⟨id, fun q => by
          have : k ≠ i0 + j := fun e => hk (by subst e; exact ⟨by omega, by omega⟩)
          simpa [upd, this] using q⟩
        refine ⟨G', n1.trans g1, hsame.trans g2, ?_, ?_⟩
        · simp only [owns, e1]; rw [upds_append]; exact g3
        · simp only [owns, e1]; exact .cons (hrep.mono g1) g4
theorem own_sound {B : Nat} (h8 : 8 ≤ i0) {y : V} {v : Value} (h : RetOK P B G.pr w y v) (hfr : Fresh G (R8 i0)) (hinv : Inv P G st w) (hB : G.base ≤ B) (hblk : ∀ k b, blk G st k = some b → b < B) :
    ∃ G', G.le G' ∧ Same G G' (R8 i0) ∧ Inv P G' (upds (own i0 y).2 st) w ∧ Rep P G' (own i0 y).1 v := by
  have big : ∀ {yi : V} {ui : Value} {b : Nat}, Ret1 P B G.pr w yi ui → isOwn yi = true → ui.ownBlock = some b → ∀ k, blk G st k ≠ some b := fun {yi ui b} h1 h2 h3 k hk => by
    rcases h1 with ⟨h4, _⟩ | ⟨e, xs, s, vs, _, _, k1, _⟩
    · rw [h2] at h4; cases h4
    · have := (k1.lt b h3).1
      have := hblk k b hk
      omega
  cases y with
  | tup ys =>
    obtain ⟨us, rfl, hl, h1, h2⟩ := h
    obtain ⟨G', g1, g2, g3, g4⟩ := owns_sound h8 (j := 0) h1 (by omega) (fun k a b => hfr k ⟨by omega, b⟩) hinv hB (fun q yi ui b a1 a2 => by
      obtain ⟨u', hu', hr⟩ := h1.get a1
      rw [a2] at hu'; obtain rfl := Option.some.inj hu'
      exact big hr) h2
    exact ⟨G', g1, g2, g3, .tup (.of g4)⟩
  | _ =>
    have h1 : Ret1 P B G.pr w _ v := h
    obtain ⟨G', g1, g2, g3, g4⟩ := owns_sound (us := [v]) h8 (j := 0) (.cons h1 .nil) (by simp) (fun k a b => hfr k ⟨by omega, b⟩) hinv hB (fun q yi ui b a1 a2 => by
      cases q with
      | zero => simp at a1 a2; subst a1; subst a2; exact big h1
      | succ q => simp at a1) (fun i j yi yj ui uj b hne a1 a2 => by
      cases i <;> cases j <;> simp at a1 a2
      omega)
    refine ⟨G', g1, g2, by simpa [owns, own] using g3, ?_⟩
    cases g4 with
    | cons h2 _ => simpa [own, owns] using h2
theorem run_callFunc_enter (hP : ProgOK P) {f : FuncId} (hf : nobody P f = false) (args : Array Value) (w : World) : (callFunc f args).run P w = .ok (.enter f args) w := by
  unfold nobody at hf
  split at hf
  · rename_i fn hfn
    have hng : fn.name ≠ "runtime.NumGoroutine" := by
      have := Array.all_eq_true.1 hP.ng
      obtain ⟨hlt, hget⟩ := Array.getElem?_eq_some_iff.1 hfn
      have h2 := this f hlt
      rw [hget] at h2
      simpa using h2
    obtain ⟨c, hc⟩ := Option.ne_none_iff_exists'.1 (show fn.body ≠ none by intro h; rw [h] at hf; cases hf)
    simp [callFunc, hfn, hng, hc]
  · cases hf
theorem run_call {c : Call} {f : Operand} {g : FuncId} {us ws args : List Value} (ho : o.op = .call c) (hc : c.callee = .value f) (hf : a.eval f = .func (.func g) us.toArray ws.toArray) (hargs : c.args.toList.map a.eval = args) {r : Result Next} (hr : (callFunc g (us ++ args ++ ws).toArray).run P w = r) :
    (execOp a.eval o).run P w = r := by
  have hA := args_arr hargs
  simp only [execOp, ho, resolve, hc, hf, hA, Deferred.ofValue, pure_bind, invoke]
  rw [← hr]
  simp
theorem op_call (hP : ProgOK P) (hE : EnvOK P E) (hgl : GlOK P E.gl G.pr) (hinv : Inv P G st w) (ht : TmR P G N tm a) (hfr : Fresh G (R8 i0)) (hfr2 : Fresh G (fun k => nx' ≤ k)) (h8 : 8 ≤ i0) (h8' : 8 ≤ nx') {c : Call} {r : R} (ho : o.op = .call c) (hx : xop0 P E tm st i0 nx' o = some r) (hK : Good P G st i0 nx' a o K Q r) : o.wp P a w K Q := by
  simp only [xop0, ho, Option.bind_eq_some_iff] at hx
  obtain ⟨args, hargs, hx⟩ := hx
  split at hx
  · rename_i b hc
    exact op_builtin hgl hinv ht hfr h8 ho hc hargs hx hK
  · rename_i f hc
    rw [Option.bind_eq_some_iff] at hx
    obtain ⟨fv, hfv, hx⟩ := hx
    split at hx
    · rename_i g first cap
      obtain ⟨us, ws, hv, hus, hws⟩ := (ev_sound hgl ht hfv).fn_inv
      have hA := evs_sound hgl ht hargs
      have hall := (hus.append hA).append hws
      generalize hg : c.args.toList.map a.eval = ras at hA hall
      unfold xcall at hx
      split at hx
      · -- a function without a body
        rw [Option.bind_eq_some_iff] at hx
        obtain ⟨vs, hvs, hx⟩ := hx
        split at hx
        · rename_i v hrk
          obtain rfl := Option.some.inj hx
          have hvals := vals_eq hall hvs
          refine good_same hinv hK (v := v) (run_call ho hc hv hg (by rw [hvals]; exact reck_run _ hrk w)) ?_
          unfold ofRes
          split
          · rename_i l
            have : l = l.toList.toArray := by simp
            rw [this]
            refine .tup (.of ?_)
            rw [show l.toList.toArray.toList = l.toList by simp]
            generalize l.toList = q
            induction q with
            | nil => exact .nil
            | cons x q ih => exact .cons (.pure (.sc x)) ih
          · exact .pure (.sc _)
        · cases hx
      · rename_i hnb
        have hnb : nobody P g = false := by simpa using hnb
        have henter := run_call ho hc hv hg (run_callFunc_enter hP hnb (us ++ ras ++ ws).toArray w)
        split at hx
        · -- on this memory
          split at hx
          · rename_i y st' n hh
            obtain rfl := Option.some.inj hx
            unfold Oper.wp
            rw [henter]
            refine (hE.hp g _ st nx' _ hnb hh G _ w hgl hinv hall h8' hfr2).mono fun e w' he => ?_
            obtain ⟨G', v, rfl, g1, g2, g3, g4, g5⟩ := he
            exact hK G' w' v g1 g2 g3 g4 g5
          · rename_i y st' n hh
            obtain rfl := Option.some.inj hx
            unfold Oper.wp
            rw [henter]
            refine (hE.hp g _ st nx' _ hnb hh G _ w hgl hinv hall h8' hfr2).mono fun e w' he => ?_
            obtain ⟨G', v, rfl, g1, g2, g3, g4, g5⟩ := he
            exact hK G' w' v g1 g2 g3 g4 g5
          · cases hx
        · -- on pure data
          rw [Option.bind_eq_some_iff] at hx
          obtain ⟨as, has, hx⟩ := hx
          have hpure : All2 (RepP P G.pr) as (us ++ ras ++ ws) := All2.trans2 (S := Rep P G) (T := RepP P G.pr) (fun x y z hy hz => rep_pur (P := P) (G := G) hz hy) (mapM_some has) hall
          split at hx
          · rename_i y hh
            obtain rfl := Option.some.inj hx
            unfold Oper.wp
            rw [henter]
            refine (hE.pl g as _ hnb hh G.pr _ w hgl hinv.prot hpure).mono fun e w' he => ?_
            obtain ⟨v, p', rfl, hb, hext, hret⟩ := he
            obtain ⟨g1, g2⟩ := hinv.grow hb hext
            obtain ⟨G', k1, k2, k3, k4⟩ := own_sound (G := { G with pr := p' }) h8 hret hfr g2 hinv.size (fun k b hk => (hinv.blk_lt (i := k) hk).1)
            exact hK G' w' v (g1.trans k1) (fun k hk => k2 k hk) k3 k4
          · rename_i y hh
            obtain rfl := Option.some.inj hx
            unfold Oper.wp
            rw [henter]
            refine (hE.pl g as _ hnb hh G.pr _ w hgl hinv.prot hpure).mono fun e w' he => ?_
            obtain ⟨t, y0, u, p', rfl, rfl, hb, hext, hret⟩ := he
            obtain ⟨g1, g2⟩ := hinv.grow hb hext
            exact hK _ w' _ g1 (fun k _ => ⟨id, id⟩) g2 (.ifc (.pure hret))
          · cases hx
    · cases hx
  · cases hx
theorem xop0_sound (hP : ProgOK P) (hE : EnvOK P E) (hgl : GlOK P E.gl G.pr) (hinv : Inv P G st w) (ht : TmR P G N tm a) (hfr : Fresh G (R8 i0)) (hfr2 : Fresh G (fun k => nx' ≤ k)) (h8 : 8 ≤ i0) (h8' : 8 ≤ nx') {r : R} (hx : xop0 P E tm st i0 nx' o = some r) (hK : Good P G st i0 nx' a o K Q r) : o.wp P a w K Q := by
  cases ho : o.op with
  | move x => exact op_move hgl hinv ht (.inl ho) hx hK
  | assign x => exact op_move hgl hinv ht (.inr ho) hx hK
  | pick c x y => exact op_pick hgl hinv ht ho hx hK
  | alloc e => exact op_alloc hinv hfr ho hx hK
  | box e x => exact op_box hgl hinv ht hfr ho hx hK
  | build t ps => exact op_build hgl hinv ht ho hx hK
  | buildSlice t n ps => exact op_buildSlice hgl hinv ht hfr h8 ho hx hK
  | load t x => exact op_load hgl hinv ht ho hx hK
  | store t x y => exact op_store hgl hinv ht ho hx hK
  | nilCheck x => exact op_nilCheck hgl hinv ht ho hx hK
  | binOp b t x y yt => exact op_binOp hgl hinv ht ho hx hK
  | unOp b t x => exact op_unOp hgl hinv ht ho hx hK
  | convert s d x => exact op_convert hgl hinv ht ho hx hK
  | makeFunc f x y => exact op_makeFunc hgl hinv ht ho hx hK
  | makeMap t y =>
    cases y with
    | none => exact op_makeMap hinv hfr ho hx hK
    | some y => simp [xop0, ho] at hx
  | slice t x lo hi mx => exact op_slice hgl hinv ht ho hx hK
  | fieldAddr s x f => exact op_fieldAddr hgl hinv ht ho hx hK
  | field s x f => exact op_field hgl hinv ht ho hx hK
  | indexAddr t x i => exact op_indexAddr hgl hinv ht ho hx hK
  | index t x i => exact op_index hgl hinv ht ho hx hK
  | lookup t x k ok => exact op_lookup hgl hinv ht ho hx hK
  | mapUpdate t x k y => exact op_mapUpdate hgl hinv ht ho hx hK
  | range t x => exact op_range hgl hinv ht hfr ho hx hK
  | next x b =>
    cases b with
    | true => exact op_next hgl hinv ht ho hx hK
    | false => simp [xop0, ho] at hx
  | extract x i => exact op_extract hgl hinv ht ho hx hK
  | makeInterface t x => exact op_makeInterface hgl hinv ht ho hx hK
  | panic x => exact op_panic hgl hinv ht ho hx hK
  | call c => exact op_call hP hE hgl hinv ht hfr hfr2 h8 h8' ho hx hK
  | _ => simp [xop0, ho] at hx
end
end Go.Proofs.YtkbheoganajhaaaDoor.Vm
set_option linter.unusedVariables false
set_option linter.unusedSimpArgs false
namespace Go.Proofs.YtkbheoganajhaaaDoor.Vm
open Go.RowKit
section
variable {P : Program} {E : Env} {tm tm' : Nat → V} {st st' : St} {i0 nx : Nat} {o : Oper}
theorem mapM_congr' {α β : Type} {f g : α → Option β} : ∀ {l : List α}, (∀ x ∈ l, f x = g x) → l.mapM f = l.mapM g
  | [], _ => rfl
  | x :: l, h => by rw [List.mapM_cons, List.mapM_cons, h x (by simp), mapM_congr' fun y hy => h y (by simp [hy])]
theorem xop0_tm (h : ∀ x ∈ o.op.operands, ev E tm' x = ev E tm x) : xop0 P E tm' st i0 nx o = xop0 P E tm st i0 nx o := by
  cases ho : o.op with
  | build t ps =>
    rw [ho] at h
    have : (ps.toList.mapM fun (p : Nat × Operand) => (ev E tm' p.2).map fun v => (p.1, v)) = ps.toList.mapM fun (p : Nat × Operand) => (ev E tm p.2).map fun v => (p.1, v) := mapM_congr' fun p hp => by
      rw [h p.2 (by simp [Op.operands]; exact ⟨p.1, by simpa using hp⟩)]
    simp only [xop0, ho, this]
  | buildSlice t n ps =>
    rw [ho] at h
    have : (ps.toList.mapM fun (p : Nat × Operand) => (ev E tm' p.2).map fun v => (p.1, v)) = ps.toList.mapM fun (p : Nat × Operand) => (ev E tm p.2).map fun v => (p.1, v) := mapM_congr' fun p hp => by
      rw [h p.2 (by simp [Op.operands]; exact ⟨p.1, by simpa using hp⟩)]
    simp only [xop0, ho, this]
  | makeFunc f x y =>
    rw [ho] at h
    have h1 : x.toList.mapM (ev E tm') = x.toList.mapM (ev E tm) := mapM_congr' fun p hp => h p (by simp [Op.operands]; exact .inl (by simpa using hp))
    have h2 : y.toList.mapM (ev E tm') = y.toList.mapM (ev E tm) := mapM_congr' fun p hp => h p (by simp [Op.operands]; exact .inr (by simpa using hp))
    simp only [xop0, ho, h1, h2]
  | call c =>
    rw [ho] at h
    have h1 : c.args.toList.mapM (ev E tm') = c.args.toList.mapM (ev E tm) := mapM_congr' fun p hp => h p (by simp [Op.operands, Call.operands]; exact .inr (by simpa using hp))
    simp only [xop0, ho, h1]
    cases hc : c.callee with
    | value f =>
      have h2 := h f (by simp [Op.operands, Call.operands, hc])
      simp only [h2]
    | _ => rfl
  | slice t x lo hi mx =>
    rw [ho] at h
    have h1 := h x (by simp [Op.operands])
    have h2 : lo.map (ev E tm') = lo.map (ev E tm) := by cases lo with | none => rfl | some y => simp [h y (by simp [Op.operands])]
    have h3 : hi.map (ev E tm') = hi.map (ev E tm) := by cases hi with | none => rfl | some y => simp [h y (by simp [Op.operands])]
    have h4 : mx.map (ev E tm') = mx.map (ev E tm) := by cases mx with | none => rfl | some y => simp [h y (by simp [Op.operands])]
    simp only [xop0, ho, h1, h2, h3, h4]
  | makeMap t y => cases y <;> simp [xop0, ho]
  | next x b =>
    rw [ho] at h
    have h1 := h x (by simp [Op.operands])
    cases b <;> simp [xop0, ho, h1]
  | _ => (first | (simp [xop0, ho]; done) | (simp [ho, Op.operands] at h; simp [xop0, ho, h]))
theorem xcall_st {nx2 : Nat} {f : FuncId} {args : List V} {v : V} {δ : List (Nat × Option Ob)} {rd : List Nat} (h : xcall P E i0 nx st f args = some (.val v δ rd)) : xcall P E i0 nx2 st' f args = some (.val v δ rd) := by
  unfold xcall at h ⊢
  split at h
  · rename_i hn; rw [if_pos hn]; exact h
  · rename_i hn
    rw [if_neg hn]
    split at h
    · split at h <;> simp at h
    · rename_i hm; rw [if_neg hm]; exact h
theorem xop0_st {nx2 : Nat} {v : V} {δ : List (Nat × Option Ob)} {rd : List Nat} (h : xop0 P E tm st i0 nx o = some (.val v δ rd)) (hs : ∀ k ∈ rd, st' k = st k) : xop0 P E tm st' i0 nx2 o = some (.val v δ rd) := by
  have one : ∀ {id : Nat}, rd = [id] → st' id = st id := fun h => hs _ (by simp [h])
  cases ho : o.op with
  | load t x =>
    simp only [xop0, ho, Option.bind_eq_some_iff] at h ⊢
    obtain ⟨x0, h0, h⟩ := h
    refine ⟨x0, h0, ?_⟩
    cases x0 with
    | ptr id off =>
      simp only at h ⊢
      have : st' id = st id := by
        refine one ?_
        split at h
        · rw [Option.map_eq_some_iff] at h
          obtain ⟨y, _, h⟩ := h
          simp at h; exact h.2.2.symm
        · cases h
      rw [this]; exact h
    | _ => exact h
  | store t x y =>
    simp only [xop0, ho, Option.bind_eq_some_iff] at h ⊢
    obtain ⟨x0, h0, y0, h1, h⟩ := h
    refine ⟨x0, h0, y0, h1, ?_⟩
    cases x0 with
    | ptr id off =>
      simp only at h ⊢
      have : st' id = st id := by
        refine one ?_
        split at h
        · split at h
          · simp at h; exact h.2.2.symm
          · cases h
        · cases h
      rw [this]; exact h
    | _ => exact h
  | lookup t x y ok =>
    simp only [xop0, ho, Option.bind_eq_some_iff] at h ⊢
    obtain ⟨x0, h0, y0, h1, h⟩ := h
    refine ⟨x0, h0, y0, h1, ?_⟩
    split at h
    · rename_i id k kt et hu
      split at h
      · rename_i hk
        rw [Option.bind_eq_some_iff] at h
        obtain ⟨z, hz, h⟩ := h
        have : st' id = st id := by
          refine one ?_
          split at h
          · rw [Option.bind_eq_some_iff] at h
            obtain ⟨r, _, h⟩ := h
            split at h
            · simp at h; exact h.2.2.symm
            · split at h
              · simp at h; exact h.2.2.symm
              · cases h
          · cases h
        simp only [hk, if_true, hz, Option.bind_some, this]
        exact h
      · cases h
    · cases h
  | mapUpdate t x y z =>
    simp only [xop0, ho, Option.bind_eq_some_iff] at h ⊢
    obtain ⟨x0, h0, y0, h1, z0, h2, h⟩ := h
    refine ⟨x0, h0, y0, h1, z0, h2, ?_⟩
    split at h
    · rename_i id k kt et hu
      split at h
      · rename_i hk
        have : st' id = st id := by
          refine one ?_
          split at h
          · rw [Option.bind_eq_some_iff] at h
            obtain ⟨r, _, h⟩ := h
            split at h <;> (simp at h; exact h.2.2.symm)
          · cases h
        simp only [hk, if_true, this]
        exact h
      · cases h
    · cases h
  | next x b =>
    cases b with
    | false => simp [xop0, ho] at h
    | true =>
      simp only [xop0, ho, Option.bind_eq_some_iff] at h ⊢
      obtain ⟨x0, h0, h⟩ := h
      refine ⟨x0, h0, ?_⟩
      split at h
      · rename_i id
        have : st' id = st id := by
          refine one ?_
          split at h
          · split at h <;> (simp at h; exact h.2.2.symm)
          · cases h
        rw [this]
        exact h
      · cases h
  | call c =>
    simp only [xop0, ho, Option.bind_eq_some_iff] at h ⊢
    obtain ⟨args, hargs, h⟩ := h
    refine ⟨args, hargs, ?_⟩
    split at h
    · rename_i b hc
      unfold xbuiltin at h ⊢
      split at h
      · rename_i x y
        try dsimp only
        split at h
        · rename_i t t' hts
          split at h
          · rename_i hty
            simp only [hts, hty, if_true]
            unfold xappend1 at h ⊢
            split at h
            · rename_i e xs r
              try dsimp only
              split at h
              · rename_i hr; rw [if_pos hr]; exact h
              · rename_i hr
                rw [if_neg hr]
                have : st' r = st r := by
                  refine one ?_
                  split at h
                  · split at h
                    · unfold xappend at h
                      split at h
                      · split at h
                        · split at h
                          · split at h
                            · rename_i h1; exact absurd (by simpa using h1) (by rename_i heq _ _ _ _ _ _ _ ; intro hh; simp_all)
                            · split at h
                              · cases h
                              · split at h
                                · simp at h; rename_i heq _ _ _ _ _ _ _ _ _ _; simp_all
                                · cases h
                          · cases h
                        · cases h
                      · cases h
                    · cases h
                  · cases h
                rw [this]; exact h
            · cases h
          · cases h
        · cases h
      · exact h
      · rename_i id
        try dsimp only
        split at h
        · rename_i t hts
          split at h
          · rename_i kt et hu
            have : st' id = st id := by
              refine one ?_
              split at h
              · simp at h; exact h.2.2.symm
              · cases h
            simp only [hts, hu, this]
            exact h
          · cases h
        · cases h
      · exact h
      · exact h
      · exact h
      · cases h
    · rename_i f hc
      rw [Option.bind_eq_some_iff] at h
      obtain ⟨fv, hfv, h⟩ := h
      split at h
      · simp only [hfv, Option.bind_some]
        exact xcall_st h
      · cases h
    · cases h
  | makeMap t y =>
    cases y with
    | none => simp only [xop0, ho] at h ⊢; exact h
    | some y => simp [xop0, ho] at h
  | _ => (simp only [xop0, ho] at h ⊢; exact h)
end
end Go.Proofs.YtkbheoganajhaaaDoor.Vm
