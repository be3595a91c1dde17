/- Proved here: what further operations of the machine over pure data do, the model's operations do: literals, append, len. Conditions: none. -/
import Derived.Test.YtojbkakdhfmjmaaDoorVm8
set_option linter.unusedVariables false
set_option linter.unusedSimpArgs false
namespace Go.Proofs.YtojbkakdhfmjmaaDoor.Vm
open Go.RowKit
section
variable {P : Program} {G G' : Gh} {st : St} {w w' : World} {a : Act} {tm : Nat → V} {N i0 nx' : Nat} {o : Oper} {K : Act → World → Prop} {Q : Exit → Act → World → Prop} {E : Env}
theorem seg_step {α : Type} (l : List α) (k : Nat) (v : α) (rest : List α) (h : k < l.length) : (l.set k v).take (k + 1) ++ rest ++ (l.set k v).drop (k + 1 + rest.length) = l.take k ++ (v :: rest) ++ l.drop (k + (rest.length + 1)) := by
  have h1 : (l.set k v).take (k + 1) = l.take k ++ [v] := by
    rw [List.take_add_one, List.take_set_of_le (Nat.le_refl _)]
    simp [h]
  have h2 : (l.set k v).drop (k + 1 + rest.length) = l.drop (k + (rest.length + 1)) := by
    rw [List.drop_set_of_lt (by omega)]
    congr 1; omega
  rw [h1, h2]; simp
theorem fold_set (off : Nat) : ∀ (l : List Value) (k : Nat) (cells : Array Value), off + k + l.length ≤ cells.size →
    ((l.zipIdx k).foldl (fun cs p => cs.setIfInBounds (off + p.2) p.1) cells).toList = cells.toList.take (off + k) ++ l ++ cells.toList.drop (off + k + l.length)
  | [], k, cells, _ => by simp
  | v :: l, k, cells, h => by
    rw [List.zipIdx_cons, List.foldl_cons, fold_set off l (k + 1) _ (by simp at h ⊢; omega)]
    simp only [Array.toList_setIfInBounds]
    have := seg_step cells.toList (off + k) v l (by simp at h ⊢; omega)
    rw [List.length_cons, ← this]
    simp only [Nat.add_assoc]
theorem fill_step (place : Nat → Option (Nat × Nat)) (cells : Array Value) (i : Nat) (v : Value) (rest : List (Nat × Value)) {off size : Nat} (hp : place i = some (off, size)) (h1 : v.cells.size = size) (h2 : off + v.cells.size ≤ cells.size) :
    Instr.fill place cells ((i, v) :: rest) = Instr.fill place (cells.toList.take off ++ v.cells.toList ++ cells.toList.drop (off + v.cells.size)).toArray rest := by
  have h3 : ¬ (cells.size < off + v.cells.size) := by omega
  simp only [Instr.fill, hp, h1]
  rw [if_neg (by simp; omega)]
  congr 1
  apply Array.ext'
  rw [← Array.foldl_toList, Array.toList_zipIdx]
  have := fold_set off v.cells.toList 0 cells (by simpa using h2)
  simpa [h1] using this
theorem fill_sound {place : Nat → Option (Nat × Nat)} : ∀ {vs : List (Nat × V)} {us : List (Nat × Value)} {cs ds : List V} {cells : Array Value}, All2 (fun p q => p.1 = q.1 ∧ Rep P G p.2 q.2) vs us → All2 (Rep P G) cs cells.toList → xfill place cs vs = some ds → (∀ p ∈ vs, ones p.2.cells = true) →
    ∃ arr, Instr.fill place cells us = some arr ∧ All2 (Rep P G) ds arr.toList
  | [], _, cs, ds, cells, h, hc, hf, _ => by cases h; simp [xfill] at hf; subst hf; exact ⟨cells, by simp [Instr.fill], hc⟩
  | (i, v) :: vs, _, cs, ds, cells, h, hc, hf, h1 => by
    cases h with
    | cons h2 h3 =>
      rename_i q us
      obtain ⟨qi, qv⟩ := q
      obtain ⟨rfl, hr⟩ := h2
      unfold xfill at hf
      split at hf
      · cases hf
      · rename_i off size hp
        split at hf
        · cases hf
        · rename_i hn
          have hcv := rep_cells hr (h1 _ (by simp))
          have hl := hcv.length
          have hlc := hc.length
          simp only [Array.length_toList] at hl hlc
          rw [fill_step place cells i qv us hp (by omega) (by omega)]
          have e : off + qv.cells.size = off + v.cells.length := by omega
          rw [e]
          exact fill_sound h3 (by simpa using ((hc.take off).append hcv).append (hc.drop _)) hf fun p hp => h1 p (by simp [hp])
theorem parts_sound (hgl : GlOK P E.gl G.pr) (ht : TmR P G N tm a) : ∀ {l : List (Nat × Operand)} {vs : List (Nat × V)}, (l.mapM fun (p : Nat × Operand) => (ev E tm p.2).map fun v => (p.1, v)) = some vs → All2 (fun p q => p.1 = q.1 ∧ Rep P G p.2 q.2) vs (l.map fun (i, x) => (i, a.eval x)) := fun {l vs} h => by
  have h2 := mapM_some h
  clear h
  induction h2 with
  | nil => exact .nil
  | cons h _ ih =>
    rw [Option.map_eq_some_iff] at h
    obtain ⟨v, hv, rfl⟩ := h
    exact .cons ⟨rfl, ev_sound hgl ht hv⟩ ih
theorem run_mapM {α β : Type} {f : α → Sem β} {g : α → β} : ∀ {l : List α}, (∀ x ∈ l, ∀ w, (f x).run P w = .ok (g x) w) → ∀ w, (l.mapM f).run P w = .ok (l.map g) w
  | [], _, w => by simp
  | x :: l, h, w => by
    rw [List.mapM_cons]
    simp [h x (by simp), run_mapM (l := l) fun y hy => h y (by simp [hy])]
theorem op_build (hgl : GlOK P E.gl G.pr) (hinv : Inv P G st w) (ht : TmR P G N tm a) {t : TypeId} {ps : Array (Nat × Operand)} {r : R} (ho : o.op = .build t ps) (hx : xop P E tm st i0 nx' o = some r) (hK : Good P G st i0 nx' a o K Q r) : o.wp P a w K Q := by
  simp only [xop, ho, Option.bind_eq_some_iff] at hx
  obtain ⟨vs, hvs, hx⟩ := hx
  have hp := parts_sound hgl ht hvs
  split at hx
  · rename_i z fs hz hu
    rw [Option.bind_eq_some_iff] at hx
    obtain ⟨cs, hcs, hx⟩ := hx
    split at hx
    · rename_i hc
      obtain rfl := Option.some.inj hx
      simp only [Bool.and_eq_true] at hc
      obtain ⟨⟨⟨c1, c3⟩, c4⟩, c2⟩ := hc
      have hall : ∀ f ∈ fs.toList, ∃ s, usz P f.type = some s := fun f hf => Option.isSome_iff_exists.1 (by
        have := Array.all_eq_true.1 c1
        obtain ⟨i, hi⟩ := List.getElem?_of_mem hf
        have hlt : i < fs.size := by have := (List.getElem?_eq_some_iff.1 hi).1; simpa using this
        have h2 := this i hlt
        have h3 : fs[i] = f := by simpa [hlt] using hi
        rw [h3] at h2; exact h2)
      have hrun : (fs.mapM fun f => do pure (f.offset, ← sizeOf f.type) : Sem (Array (Nat × Nat))).run P w = .ok (fs.map fun f => (f.offset, (usz P f.type).getD 0)) w := by
        rw [Array.mapM_eq_mapM_toList]
        have := run_mapM (P := P) (f := fun (f : Field) => (do pure (f.offset, ← sizeOf f.type) : Sem (Nat × Nat))) (g := fun f => (f.offset, (usz P f.type).getD 0)) (l := fs.toList) (fun f hf w => by
          obtain ⟨s, hs⟩ := hall f hf
          simp [run_size hs, hs]) w
        rw [Sem.run_map, this]
        simp only [Result.andThen_ok]
        congr 1
        apply Array.ext'
        simp
      have hpl : ((fs.map fun (f : Field) => (f.offset, (usz P f.type).getD 0))[·]?) = fun (i : Nat) => (fs[i]?).bind fun (f : Field) => (usz P f.type).map fun s => (f.offset, s) := by
        funext i
        rw [Array.getElem?_map]
        cases hi : fs[i]? with
        | none => rfl
        | some f =>
          obtain ⟨s, hs⟩ := hall f (by rw [← Array.getElem?_toList] at hi; exact List.mem_of_getElem? hi)
          simp [hs]
      have hrz : Rep P G (V.ofV z) z := .pure (rep_ofV _ _ c3)
      have h1 : ∀ p ∈ vs, ones p.2.cells = true := fun p hp => List.all_eq_true.1 c4 p hp
      obtain ⟨arr, ha, hr⟩ := fill_sound (cells := z.cells) hp (rep_cells hrz c3) hcs h1
      have harr : arr = arr.toList.toArray := by simp
      refine good_same hinv hK (v := .agg arr) ?_ (by rw [harr]; exact .agg c2 (.of hr))
      have e1 : (ps.map fun x => (x.1, a.eval x.2)).toList = ps.toList.map fun (i, x) => (i, a.eval x) := by simp
      simp only [execOp, ho, Instr.build, Sem.run_bind, run_zero hz, Result.andThen_ok, run_underlying hu, hrun, hpl, e1, ha, Sem.run_pure]
    · cases hx
  · cases hx
theorem pur_cells {x y : V} (h : x.pur? = some y) : y.cells.length = x.cells.length ∧ (ones x.cells = true → ones y.cells = true) := by
  unfold V.pur? at h
  split at h
  · rename_i cs
    rw [Option.map_eq_some_iff] at h
    obtain ⟨ds, hds, rfl⟩ := h
    exact ⟨(mapM_some hds).length.symm, fun h1 => pur1_ones hds h1⟩
  · rename_i hne
    have : x.cells = [x] := by cases x <;> first | rfl | exact absurd rfl (hne _)
    have hy : y.cells = [y] := by
      cases x <;> simp [V.pur1?] at h
      · subst h; rfl
      · subst h; rfl
      · subst h; rfl
      · rename_i f a b
        cases a <;> cases b <;> simp [V.pur1?] at h
        subst h; rfl
    rw [this, hy]
    refine ⟨rfl, fun h1 => ?_⟩
    rcases pur1_one h with h2 | ⟨v, rfl, rfl⟩
    · simpa [ones] using h2
    · exact h1
/-- A literal's cells, part by part. -/
theorem fill_slice {s : Nat} : ∀ {vs : List (Nat × V)} {us : List (Nat × Value)} {k : Nat} {done : List Value} {cells : Array Value}, All2 (fun p q => p.1 = q.1 ∧ Rep P G p.2 q.2) vs us → vs.map (·.1) = List.range' k vs.length → (∀ p ∈ vs, p.2.cells.length = s ∧ ones p.2.cells = true) →
    done.length = k * s → cells.size = (k + vs.length) * s → cells.toList.take (k * s) = done →
    ∃ arr, Instr.fill (fun i => some (i * s, s)) cells us = some arr ∧ arr.toList = done ++ us.flatMap fun q => q.2.cells.toList
  | [], _, k, done, cells, h, _, _, hd, hc, ht => by
    cases h
    refine ⟨cells, by simp [Instr.fill], ?_⟩
    simp only [List.length_nil, Nat.add_zero] at hc
    rw [List.flatMap_nil, List.append_nil, ← ht, List.take_of_length_le (by simp; omega)]
  | (i, v) :: vs, _, k, done, cells, h, hr, hs, hd, hc, ht => by
    cases h with
    | cons h2 h3 =>
      rename_i q us
      obtain ⟨qi, qv⟩ := q
      obtain ⟨rfl, hrep⟩ := h2
      rw [List.map_cons, List.length_cons, List.range'_succ, List.cons.injEq] at hr
      obtain ⟨hi0, hr⟩ := hr
      have hi0 : i = k := hi0
      subst hi0
      obtain ⟨hs1, hs2⟩ := hs _ (List.mem_cons_self ..)
      have hs1 : v.cells.length = s := hs1
      have hcv := (rep_cells hrep hs2).length
      simp only [Array.length_toList] at hcv
      have hsz : qv.cells.size = s := by omega
      have hc2 : cells.size = i * s + s + vs.length * s := by rw [hc, List.length_cons, Nat.add_mul, Nat.succ_mul]; omega
      rw [fill_step _ cells i qv us rfl hsz (by omega)]
      obtain ⟨arr, h4, h5⟩ := fill_slice (s := s) (k := i + 1) (done := done ++ qv.cells.toList) (cells := (cells.toList.take (i * s) ++ qv.cells.toList ++ cells.toList.drop (i * s + qv.cells.size)).toArray) h3 hr (fun p hp => hs p (by simp [hp])) (by simp [hd, hsz, Nat.succ_mul]) (by simp [hsz]; rw [Nat.add_mul, Nat.succ_mul]; omega) (by
        have e : (i + 1) * s = (cells.toList.take (i * s) ++ qv.cells.toList).length := by simp [hsz, Nat.succ_mul]; omega
        rw [e, List.toList_toArray, List.take_left, ht])
      exact ⟨arr, h4, by rw [h5]; simp⟩
theorem purs_rep {vs : List (Nat × V)} {xs : List V} {us : List (Nat × Value)} (h : All2 (fun p q => p.1 = q.1 ∧ Rep P G p.2 q.2) vs us) (hx : vs.mapM (fun (p : Nat × V) => p.2.pur?) = some xs) (h1 : ∀ p ∈ vs, ones p.2.cells = true) :
    All2 (RepP P G.pr) (xs.flatMap V.cells) (us.flatMap fun q => q.2.cells.toList) := by
  have hx2 := mapM_some hx
  clear hx
  induction hx2 generalizing us with
  | nil => cases h; exact .nil
  | cons h2 _ ih =>
    cases h with
    | cons h3 h4 =>
      rw [List.flatMap_cons, List.flatMap_cons]
      exact (repP_cells (rep_pur h3.2 h2) ((pur_cells h2).2 (h1 _ (by simp)))).append (ih h4 fun p hp => h1 p (by simp [hp]))
theorem own_lit0 (w : World) (base e s n : Nat) (arr : Array Value) (hb : base ≤ w.heap.size) (hm : n ≤ maxLen) (hs : arr.size = n * s) : (w.alloc (.cells arr e)).ownsRow base e s (.slice (some ⟨w.heap.size, 0, none⟩) n n) n arr.toList :=
  ⟨by simpa using hs, .inr ⟨w.heap.size, n, arr, rfl, hb, heap_alloc_new w _, Nat.le_refl _, hm, hs, by rw [← hs, ← Array.length_toList, List.take_length]⟩⟩
/-- A row with a right is a value. -/
theorem rep_tok {e s n i : Nat} {xs : List V} {v' : Value} {vs : List Value} (h8 : 8 ≤ i) (hs : usz P e = some s) (hown : w.ownsRow G.base e s v' n vs) (hn : xs.length = n) (htl : G.tl i = some v') (hpr : ∀ b, v'.ownBlock = some b → ∀ o, o < n * s → G.pr b o = vs[o]?)
    (hu : ∀ x ∈ xs, x.cells.length = s) (h1 : ones (xs.flatMap V.cells) = true) (hr : All2 (RepP P G.pr) (xs.flatMap V.cells) vs) : Rep P G (.list e xs i) v' := by
  rcases hown.2 with ⟨rfl, rfl⟩ | ⟨g, cap, cur, rfl, _, hh, hc, _⟩
  · have hx : xs = [] := List.eq_nil_of_length_eq_zero hn
    subst hx
    exact .tok h8 (.list (vs := []) rfl (Nat.le_refl _) (.inl rfl) (by simp) (by simp [ones]) (by simp) .nil) htl (Nat.le_refl _) fun _ => rfl
  · refine .tok h8 (.list (vs := vs) hn hc (.inl rfl) (fun s' hs' x hx => by rw [hs] at hs'; obtain rfl := Option.some.inj hs'; exact hu x hx) h1 (fun _ => ⟨_, rfl, fun j u hj => ?_⟩) (.of hr)) htl (Nat.le_refl _) fun _ => rfl
    rw [blk_add, Nat.zero_add]
    have hlt : j < n * s := by have := (List.getElem?_eq_some_iff.1 hj).1; rw [hown.1] at this; exact this
    exact ⟨rfl, by rw [hpr g rfl j hlt]; exact hj⟩
theorem same_tl {i : Nat} (hi : R8 i0 i) (v : Value) (p : Pr) : Same G { G with pr := p, tl := upd G.tl i (some v) } (R8 i0) := fun k hk => ⟨id, fun h => by
  have : k ≠ i := fun e => hk (by subst e; exact hi)
  simpa [upd, this] using h⟩
theorem uel_elem {t e : TypeId} (h : uel P t = some e) : P.underlying t = some (.slice e) := uel_u h
theorem op_buildSlice (hgl : GlOK P E.gl G.pr) (hinv : Inv P G st w) (ht : TmR P G N tm a) (hfr : Fresh G (R8 i0)) (h8 : 8 ≤ i0) {t : TypeId} {n : Nat} {ps : Array (Nat × Operand)} {r : R} (ho : o.op = .buildSlice t n ps) (hx : xop P E tm st i0 nx' o = some r) (hK : Good P G st i0 nx' a o K Q r) : o.wp P a w K Q := by
  simp only [xop, ho, Option.bind_eq_some_iff] at hx
  obtain ⟨vs, hvs, hx⟩ := hx
  have hp := parts_sound hgl ht hvs
  split at hx
  · rename_i e he
    rw [Option.bind_eq_some_iff] at hx
    obtain ⟨s, hs, hx⟩ := hx
    split at hx
    · rename_i hc
      obtain ⟨c1, c2, c3, c4, c5⟩ := hc
      split at hx
      · rename_i hall
        rw [Option.bind_eq_some_iff] at hx
        obtain ⟨xs, hxs, hx⟩ := hx
        obtain rfl := Option.some.inj hx
        obtain ⟨z, hz⟩ := Option.isSome_iff_exists.1 c5
        have hu := uel_u he
        have hparts : ∀ p ∈ vs, p.2.cells.length = s ∧ ones p.2.cells = true := fun p hp => by
          have := List.all_eq_true.1 hall p hp
          simp only [Bool.and_eq_true, beq_iff_eq] at this
          exact ⟨this.1.1, this.1.2⟩
        have hlen : vs.length = n := by have := congrArg List.length c1; simpa using this
        have hsz0 : ((Array.range (n * s)).map (fun i => z.cells[i % z.cells.size]!)).size = n * s := by simp
        have hsz1 : ∀ init : Array Value, init.size = n * s → ∃ arr, Instr.fill (fun i => some (i * s, s)) init (ps.toList.map fun (i, x) => (i, a.eval x)) = some arr ∧ arr.toList = (ps.toList.map fun (i, x) => (i, a.eval x)).flatMap fun q => q.2.cells.toList := fun init hinit => by
          obtain ⟨arr, h1, h2⟩ := fill_slice (s := s) (k := 0) (done := []) (cells := init) hp (by rw [c1, hlen, List.range_eq_range']) hparts (by simp) (by rw [hinit, hlen]; simp) (by simp)
          exact ⟨arr, h1, by simpa using h2⟩
        have hrep := purs_rep hp hxs fun p hp => (hparts p hp).2
        have hnm : ¬ (16777216 < n * s) := by have : n * s ≤ 1000 * 1000 := Nat.mul_le_mul c2 c3; omega
        have e1 : (ps.map fun x => (x.1, a.eval x.2)).toList = ps.toList.map fun (i, x) => (i, a.eval x) := by simp
        have hxl : xs.length = n := by rw [← (mapM_some hxs).length]; exact hlen
        have hus : ∀ x ∈ xs, x.cells.length = s := fun x hx => by
          obtain ⟨i, hi⟩ := List.getElem?_of_mem hx
          obtain ⟨p, hp1, hp2⟩ := (mapM_some hxs).get' hi
          rw [(pur_cells hp2).1]; exact (hparts p (List.mem_of_getElem? hp1)).1
        have h1s : ones (xs.flatMap V.cells) = true := List.all_eq_true.2 fun c hc => by
          obtain ⟨x, hx, hcx⟩ := List.mem_flatMap.1 hc
          obtain ⟨i, hi⟩ := List.getElem?_of_mem hx
          obtain ⟨p, hp1, hp2⟩ := (mapM_some hxs).get' hi
          exact List.all_eq_true.1 ((pur_cells hp2).2 (hparts p (List.mem_of_getElem? hp1)).2) c hcx
        have hf := hfr i0 (r8_self i0)
        have run : ∃ arr, (execOp a.eval o).run P w = .ok (.value (.slice (some ⟨w.heap.size, 0, none⟩) n n)) (w.alloc (.cells arr e)) ∧ arr.size = n * s ∧ arr.toList = (ps.toList.map fun (i, x) => (i, a.eval x)).flatMap fun q => q.2.cells.toList := by
          by_cases h0 : n * s = 0
          · obtain ⟨arr, h1, h2⟩ := hsz1 ((Array.range (n * s)).map fun i => (#[] : Array Value)[i % (#[] : Array Value).size]!) (by simp)
            refine ⟨arr, ?_, ?_, h2⟩
            · simp only [execOp, ho, Instr.buildSlice, Sem.run_bind, run_underlying hu, Result.andThen_ok, run_size hs]
              rw [if_neg (by simpa using hnm), if_pos h0]
              simp only [pure_bind, Sem.run_pure, Result.andThen_ok, e1, h1, Sem.run_bind, newRow, run_newObj]
              rfl
            · have := hrep.length
              rw [flat_len hus, hxl, ← h2] at this
              simpa using this.symm
          · obtain ⟨arr, h1, h2⟩ := hsz1 ((Array.range (n * s)).map fun i => z.cells[i % z.cells.size]!) (by simp)
            refine ⟨arr, ?_, ?_, h2⟩
            · simp only [execOp, ho, Instr.buildSlice, Sem.run_bind, run_underlying hu, Result.andThen_ok, run_size hs]
              rw [if_neg (by simpa using hnm), if_neg h0]
              simp only [pure_bind, Sem.run_pure, Result.andThen_ok, e1, h1, Sem.run_bind, newRow, run_newObj, run_zero hz]
              rfl
            · have := hrep.length
              rw [flat_len hus, hxl, ← h2] at this
              simpa using this.symm
        obtain ⟨arr, hrun, hasz, hal⟩ := run
        have hrep' : All2 (RepP P G.pr) (xs.flatMap V.cells) arr.toList := by rw [hal]; exact hrep
        have hown := own_lit0 w G.base e s n arr hinv.size (by simp only [maxLen]; omega) hasz
        obtain ⟨hg, hi⟩ := hinv.row (w' := w.alloc (.cells arr e)) i0 (v := .slice none 0 0) (v' := .slice (some ⟨w.heap.size, 0, none⟩) n n) (n := 0) (n' := n) (vs := []) (news := arr.toList) hs (World.ownsRow_nil w G.base e s) (.inl ⟨bx_none_st hinv hf.1 hf.2, hf.2, rfl⟩) (by simpa using hown) (.inr ⟨rfl, rfl, rfl, rfl, by simp, fun k hk _ => Below.heap_alloc w _ k hk⟩) (Nat.zero_le _) (fun h => by rw [bx_none_st hinv hf.1 hf.2] at h; cases h)
        refine wp_val hrun (hK _ _ _ hg (same_tl (r8_self i0) _ _) hi (rep_tok h8 hs hown hxl (by simp [upd]) (fun b hb o ho => ?_) hus h1s (hrep'.mono fun _ _ => RepP.mono hg.pr)))
        show (if _ then _ else _) = _
        rw [if_pos ⟨hb.symm, ho⟩, List.nil_append]
      · cases hx
    · cases hx
  · cases hx
end
end Go.Proofs.YtojbkakdhfmjmaaDoor.Vm
