/- Proved here: what further operations of the machine over pure data do, the model's operations do: slices, maps, iterators, literals, append. Conditions: none. -/
import Derived.Test.YtojbkakdhfmjmaaDoorVm6
set_option linter.unusedVariables false
set_option linter.unusedSimpArgs false
namespace Go.Proofs.YtojbkakdhfmjmaaDoor.Vm
open Go.RowKit
section
variable {P : Program} {G G' : Gh} {st : St} {w w' : World} {a : Act} {tm : Nat → V} {N i0 nx' : Nat} {o : Oper} {K : Act → World → Prop} {Q : Exit → Act → World → Prop} {E : Env}
theorem setIf_other (h : Array Obj) (b k : Nat) (x : Obj) (hk : k ≠ b) : (h.setIfInBounds b x)[k]? = h[k]? := Array.getElem?_setIfInBounds_ne (fun e => hk e.symm)
theorem setIf_same (h : Array Obj) (b : Nat) (x : Obj) (hb : b < h.size) : (h.setIfInBounds b x)[b]? = some x := by simp [hb]
/-- A block that is no row of cells turns. -/
theorem Inv.setObj (h : Inv P G st w) (i : Nat) (ob ob' : Ob) (b : Nat) (x : Obj) (hs : st i = some ob) (hb : G.bx i = some b) (hnt : ∀ n e, ob ≠ .tok n e) (hnt' : ∀ n e, ob' ≠ .tok n e) (hbase : G.base ≤ b) (hlt : b < w.heap.size)
    (hob : ∀ w' : World, w'.heap[b]? = some x → ObOK P G w' i ob') : Inv P G (upd st i (some ob')) { w with heap := w.heap.setIfInBounds b x } :=
  h.set (w' := { w with heap := w.heap.setIfInBounds b x }) i ob ob' b hs hb hnt hnt' hbase (fun k hk => setIf_other w.heap b k x hk) (by simp) rfl rfl rfl (hob _ (setIf_same w.heap b x hlt))
theorem op_range (hgl : GlOK P E.gl G.pr) (hinv : Inv P G st w) (ht : TmR P G N tm a) (hfr : Fresh G (R8 i0)) {t : TypeId} {x : Operand} {r : R} (ho : o.op = .range t x) (hx : xop P E tm st i0 nx' o = some r) (hK : Good P G st i0 nx' a o K Q r) : o.wp P a w K Q := by
  simp only [xop, ho, Option.bind_eq_some_iff] at hx
  obtain ⟨x0, h0, hx⟩ := hx
  split at hx
  · rename_i s hu
    obtain rfl := Option.some.inj hx
    have hv := (ev_sound hgl ht h0).sc_inv
    have hf := hfr i0 (r8_self i0)
    obtain ⟨hg, hi⟩ := hinv.new (.stringIter s 0) i0 (.iter s 0) hf.1 (bx_none_st hinv hf.1 hf.2) (by simp) ⟨w.heap.size, by simp [upd], hinv.size, heap_alloc_new w _⟩
    exact wp_val (v := .pointer (some ⟨w.heap.size, 0, none⟩)) (by simp [execOp, ho, hv, Instr.range, run_underlying hu]) (hK _ _ _ hg (same_bx (r8_self i0) _) hi (.ptr (by simp [upd])))
  · cases hx
theorem op_next (hgl : GlOK P E.gl G.pr) (hinv : Inv P G st w) (ht : TmR P G N tm a) {x : Operand} {r : R} (ho : o.op = .next x true) (hx : xop P E tm st i0 nx' o = some r) (hK : Good P G st i0 nx' a o K Q r) : o.wp P a w K Q := by
  simp only [xop, ho, Option.bind_eq_some_iff] at hx
  obtain ⟨x0, h0, hx⟩ := hx
  split at hx
  · rename_i id
    split at hx
    · rename_i s pos hs
      obtain ⟨b, hv, hb⟩ := (ev_sound hgl ht h0).ptr_inv
      obtain ⟨b', g1, g2, g3⟩ := hinv.objs id _ hs
      rw [hb] at g1
      obtain rfl := Option.some.inj g1
      split at hx
      · rename_i hp
        obtain rfl := Option.some.inj hx
        refine wp_val (v := .tuple #[.bool true, .int .i64 pos, .int .i32 (Utf8.decode s pos).1]) (w' := { w with heap := w.heap.setIfInBounds b (.stringIter s (pos + (Utf8.decode s pos).2)) }) ?_ (hK G _ _ (.refl G) (.refl G _) ?_ (.tup (.of (.cons (.pure (.sc _)) (.cons (.pure (.sc _)) (.cons (.pure (.sc _)) .nil))))))
        · simp [execOp, ho, hv, Instr.next, getObj, setObj, Sem.run, g3, hp, goInt]
        · exact hinv.setObj id _ _ b _ hs hb (by simp) (by simp) g2 (Array.getElem?_eq_some_iff.1 g3).1 fun w' hw' => ⟨b, hb, g2, hw'⟩
      · rename_i hp
        obtain rfl := Option.some.inj hx
        refine good_same hinv hK (v := .tuple #[.bool false]) ?_ (.tup (.of (.cons (.pure (.sc _)) .nil)))
        simp [execOp, ho, hv, Instr.next, getObj, Sem.run, g3, hp]
    · cases hx
  · cases hx
theorem keyEq_now {d : TypeDesc} {k k' : Value} {b : Bool} (hd : kindOk (some d) k = true) (h : keyEq k k' = some b) : Instr.sameNow d k k' = some b := by
  cases d <;> cases k <;> simp [kindOk] at hd <;> cases k' <;> simp_all [keyEq, Instr.sameNow]
theorem ba_beq {a b : ByteArray} : (a == b) = decide (a = b) := by
  show ByteArray.beq a b = _
  unfold ByteArray.beq
  rw [Bool.eq_iff_iff]
  cases a; cases b
  simp
theorem keyEq_bits {k k' : Value} (h : keyEq k k' = some true) : Instr.sameBits 10000 k' k = true := by
  cases k <;> cases k' <;> simp_all [keyEq, Instr.sameBits] <;> (rw [ba_beq] at h ⊢; simpa [eq_comm] using h)
theorem find_sound {d : TypeDesc} {k : Value} (hd : kindOk (some d) k = true) : ∀ {es : List (V × V)} {ms : List MapEntry} {i : Nat} {r : Option (Nat × V)}, All2 (fun e m => Rep P G e.1 m.key ∧ Rep P G e.2 m.val) es ms → mfind k es i = some r →
    (r = none ∧ Instr.findNow d k ms i = some none) ∨ ∃ j x m, r = some (i + j, x) ∧ es[j]? = some (es[j]?.getD default) ∧ ms[j]? = some m ∧ Instr.findNow d k ms i = some (some (i + j, m.val)) ∧ Rep P G x m.val ∧ Instr.sameBits 10000 m.key k = true
  | [], _, i, r, h, hf => by cases h; simp [mfind] at hf; subst hf; exact .inl ⟨rfl, rfl⟩
  | (y, x) :: es, _, i, r, h, hf => by
    cases h with
    | cons h1 h2 =>
      rename_i m ms
      unfold mfind at hf
      split at hf
      · rename_i h3; cases h3
      · rename_i k' v es' heq
        obtain ⟨⟨rfl, rfl⟩, rfl⟩ : (y = .sc k' ∧ x = v) ∧ es = es' := by simpa using heq
        have hk := h1.1.sc_inv
        split at hf
        · rename_i he
          obtain rfl := Option.some.inj hf
          refine .inr ⟨0, x, m, rfl, by simp, rfl, ?_, h1.2, ?_⟩
          · simp only [Instr.findNow, hk, keyEq_now hd he, Nat.add_zero]
          · rw [hk]; exact keyEq_bits he
        · rename_i he
          rcases find_sound hd h2 hf with ⟨h4, h5⟩ | ⟨j, x', m', h4, h5, h6, h7, h8, h9⟩
          · refine .inl ⟨h4, ?_⟩
            simp only [Instr.findNow, hk, keyEq_now hd he]; exact h5
          · refine .inr ⟨j + 1, x', m', by rw [h4]; congr 2; omega, by simpa using h5, by simpa using h6, ?_, h8, h9⟩
            simp only [Instr.findNow, hk, keyEq_now hd he]
            rw [h7]; congr 3; omega
        · cases hf
      · cases hf
theorem checkKey_ok {d : TypeDesc} {t : TypeId} {k : Value} (hu : P.underlying t = some d) (hd : kindOk (some d) k = true) (b : Bool) (n : Nat) (w : World) : (Instr.checkKey b (n + 1) t k).run P w = .ok () w := by
  cases d <;> cases k <;> simp [kindOk] at hd <;> simp [Instr.checkKey, run_underlying hu]
theorem findKey_ok {d : TypeDesc} {t : TypeId} {k : Value} {ms : List MapEntry} {r : Option (Nat × Value)} (hu : P.underlying t = some d) (h : Instr.findNow d k ms 0 = some r) (w : World) : (Instr.findKey t k ms).run P w = .ok r w := by
  simp [Instr.findKey, run_underlying hu, h]
theorem kindOk_some {t : TypeId} {k : Value} (h : kindOk (P.underlying t) k = true) : ∃ d, P.underlying t = some d ∧ kindOk (some d) k = true := by
  cases hu : P.underlying t with
  | none => rw [hu] at h; simp [kindOk] at h
  | some d => rw [hu] at h; exact ⟨d, rfl, h⟩
theorem op_lookup (hgl : GlOK P E.gl G.pr) (hinv : Inv P G st w) (ht : TmR P G N tm a) {t : TypeId} {x y : Operand} {ok : Bool} {r : R} (ho : o.op = .lookup t x y ok) (hx : xop P E tm st i0 nx' o = some r) (hK : Good P G st i0 nx' a o K Q r) : o.wp P a w K Q := by
  simp only [xop, ho, Option.bind_eq_some_iff] at hx
  obtain ⟨x0, h0, y0, h1, hx⟩ := hx
  split at hx
  · rename_i id k kt et hu
    split at hx
    · rename_i hk
      obtain ⟨d, hd, hk⟩ := kindOk_some hk
      rw [Option.bind_eq_some_iff] at hx
      obtain ⟨z, hz, hx⟩ := hx
      split at hx
      · rename_i es hs
        rw [Option.bind_eq_some_iff] at hx
        obtain ⟨fr, hf, hx⟩ := hx
        obtain ⟨b, hv, hb⟩ := (ev_sound hgl ht h0).map_inv
        have hv1 := (ev_sound hgl ht h1).sc_inv
        obtain ⟨b', arr, clk, g1, g2, g3, g4⟩ := hinv.objs id _ hs
        rw [hb] at g1
        obtain rfl := Option.some.inj g1
        have hck := checkKey_ok (P := P) hd hk arr.isEmpty 9999 w
        rcases find_sound hk g4 hf with ⟨rfl, h5⟩ | ⟨j, x', m', rfl, _, _, h7, h8, _⟩
        · simp only at hx
          split at hx
          · rename_i hone
            obtain rfl := Option.some.inj hx
            have hrz : Rep P G (V.ofV z) z := .pure (rep_ofV _ _ hone)
            refine good_same hinv hK (v := if ok then .tuple #[z, .bool false] else z) ?_ ?_
            · simp [execOp, ho, hv, hv1, Instr.lookup, run_underlying hu, getObj, Sem.run, g3, hck, findKey_ok hd h5, run_zero hz]
            · cases ok
              · exact hrz
              · exact .tup (.of (.cons hrz (.cons (.pure (.sc _)) .nil)))
          · cases hx
        · simp only at hx
          obtain rfl := Option.some.inj hx
          refine good_same hinv hK (v := if ok then .tuple #[m'.val, .bool true] else m'.val) ?_ ?_
          · simp [execOp, ho, hv, hv1, Instr.lookup, run_underlying hu, getObj, Sem.run, g3, hck, findKey_ok hd h7]
          · cases ok
            · exact h8
            · exact .tup (.of (.cons h8 (.cons (.pure (.sc _)) .nil)))
      · cases hx
    · cases hx
  · cases hx
theorem op_mapUpdate (hgl : GlOK P E.gl G.pr) (hinv : Inv P G st w) (ht : TmR P G N tm a) {t : TypeId} {x y z : Operand} {r : R} (ho : o.op = .mapUpdate t x y z) (hx : xop P E tm st i0 nx' o = some r) (hK : Good P G st i0 nx' a o K Q r) : o.wp P a w K Q := by
  simp only [xop, ho, Option.bind_eq_some_iff] at hx
  obtain ⟨x0, h0, y0, h1, z0, h2, hx⟩ := hx
  have hrz := ev_sound hgl ht h2
  split at hx
  · rename_i id k kt et hu
    split at hx
    · rename_i hk
      obtain ⟨d, hd, hk⟩ := kindOk_some hk
      split at hx
      · rename_i es hs
        rw [Option.bind_eq_some_iff] at hx
        obtain ⟨fr, hf, hx⟩ := hx
        obtain ⟨b, hv, hb⟩ := (ev_sound hgl ht h0).map_inv
        have hv1 := (ev_sound hgl ht h1).sc_inv
        obtain ⟨b', arr, clk, g1, g2, g3, g4⟩ := hinv.objs id _ hs
        rw [hb] at g1
        obtain rfl := Option.some.inj g1
        have hck := checkKey_ok (P := P) hd hk false 9999 w
        have hlt := (Array.getElem?_eq_some_iff.1 g3).1
        rcases find_sound hk g4 hf with ⟨rfl, h5⟩ | ⟨j, x', m', rfl, _, h6, h7, h8, h9⟩
        · simp only at hx
          obtain rfl := Option.some.inj hx
          refine wp_skip0 (w' := { w with heap := w.heap.setIfInBounds b (.map (arr.push { key := k, val := a.eval z, born := clk }) (clk + 1)) }) ?_ (hK G _ undef (.refl G) (.refl G _) ?_ (.pure (.sc _)))
          · simp [execOp, ho, hv, hv1, Instr.mapUpdate, run_underlying hu, getObj, setObj, Sem.run, g3, hck, findKey_ok hd h5]
          · refine hinv.setObj id _ _ b _ hs hb (by simp) (by simp) g2 hlt fun w' hw' => ⟨b, _, _, hb, g2, hw', ?_⟩
            rw [Array.toList_push]
            exact g4.append (.cons ⟨.pure (.sc _), hrz⟩ .nil)
        · simp only at hx
          obtain rfl := Option.some.inj hx
          have h6' : arr[j]? = some m' := by simpa using h6
          refine wp_skip0 (w' := { w with heap := w.heap.setIfInBounds b (.map (arr.modify j fun e => { e with key := k, val := a.eval z }) clk) }) ?_ (hK G _ undef (.refl G) (.refl G _) ?_ (.pure (.sc _)))
          · simp [execOp, ho, hv, hv1, Instr.mapUpdate, run_underlying hu, getObj, setObj, Sem.run, g3, hck, findKey_ok hd h7, h6', Instr.keyThatStays, h9]
          · refine hinv.setObj id _ _ b _ hs hb (by simp) (by simp) g2 hlt fun w' hw' => ⟨b, _, _, hb, g2, hw', ?_⟩
            have : (arr.modify j fun e => { e with key := k, val := a.eval z }).toList = arr.toList.set j { m' with key := k, val := a.eval z } := by
              apply List.ext_getElem?
              intro i
              rw [Array.getElem?_toList, Array.getElem?_modify, List.getElem?_set, Array.getElem?_toList]
              have hj : j < arr.size := (Array.getElem?_eq_some_iff.1 h6').1
              by_cases hij : j = i
              · subst hij
                have hm : arr[j] = m' := by simpa [hj] using h6'
                simp [hj, hm]
              · simp [hij]
            rw [this]
            rw [Nat.zero_add]
            exact g4.set (x := (V.sc k, z0)) (y := { m' with key := k, val := a.eval z }) ⟨.pure (.sc _), hrz⟩ j
      · cases hx
    · cases hx
  · cases hx
end
end Go.Proofs.YtojbkakdhfmjmaaDoor.Vm
