/- Proved here: every operation of the machine over pure data is met by the model's operation. Conditions: none. -/
import Derived.Test.YtojbkakdhfmjmaaDoorVm11
set_option linter.unusedVariables false
set_option linter.unusedSimpArgs false
namespace Go.Proofs.YtojbkakdhfmjmaaDoor.Vm
open Go.RowKit
section
variable {P : Program} {G G' : Gh} {st : St} {w w' : World} {a : Act} {tm : Nat → V} {N i0 nx' : Nat} {o : Oper} {K : Act → World → Prop} {Q : Exit → Act → World → Prop} {E : Env}
theorem own_lower {B B' e s n : Nat} {v : Value} {vs : List Value} (h : w.ownsRow B e s v n vs) (hb : B' ≤ B) : w.ownsRow B' e s v n vs := by
  rcases h with ⟨h1, h2 | ⟨g, cap, cur, h3, h4, h5⟩⟩
  · exact ⟨h1, .inl h2⟩
  · exact ⟨h1, .inr ⟨g, cap, cur, h3, Nat.le_trans hb h4, h5⟩⟩
theorem upds_append {α : Type} (a b : List (Nat × α)) (f : Nat → α) : upds (a ++ b) f = upds b (upds a f) := by simp [upds]
theorem owns_sound {B : Nat} (h8 : 8 ≤ i0) : ∀ {ys : List V} {us : List Value} {j : Nat} {G : Gh} {st : St}, All2 (Ret1 P B G.pr w) ys us → j + ys.length ≤ 8 → (∀ k, i0 + j ≤ k → k < i0 + 8 → G.bx k = none ∧ G.tl k = none) → Inv P G st w → G.base ≤ B →
    (∀ (q : Nat) yi ui b, ys[q]? = some yi → us[q]? = some ui → isOwn yi = true → Value.ownBlock ui = some b → ∀ k, blk G st k ≠ some b) →
    (∀ (i j : Nat) yi yj ui uj b, i ≠ j → ys[i]? = some yi → ys[j]? = some yj → us[i]? = some ui → us[j]? = some uj → isOwn yi = true → isOwn yj = true → Value.ownBlock ui = some b → Value.ownBlock uj = some b → False) →
    ∃ G', G.le G' ∧ Same G G' (R8 i0) ∧ Inv P G' (upds (owns i0 j ys).2 st) w ∧ All2 (Rep P G') (owns i0 j ys).1 us
  | [], _, j, G, st, h, _, _, hinv, _, _, _ => by cases h; exact ⟨G, .refl G, .refl G _, hinv, .nil⟩
  | y :: ys, _, j, G, st, h, hj, hfr, hinv, hB, hd, hpd => by
    cases h with
    | cons h1 h2 =>
      rename_i u us
      simp only [List.length_cons] at hj
      rcases h1 with ⟨hno, hp⟩ | ⟨e, xs, s, vs, rfl, hs, k1, k2, k3, k4, k5, k6⟩
      · have e1 : own1 (i0 + j) y = (y, []) := by
          cases y <;> simp [own1]
          simp [isOwn] at hno
          exact hno
        obtain ⟨G', g1, g2, g3, g4⟩ := owns_sound h8 (j := j + 1) h2 (by omega) (fun k a b => hfr k (by omega) b) hinv hB (fun q yi ui b a1 a2 => hd (q + 1) yi ui b (by simpa using a1) (by simpa using a2))
          (fun i j' yi yj ui uj b hne a1 a2 a3 a4 => hpd (i + 1) (j' + 1) yi yj ui uj b (by omega) (by simpa using a1) (by simpa using a2) (by simpa using a3) (by simpa using a4))
        refine ⟨G', g1, g2, ?_, ?_⟩
        · simp only [owns, e1, List.nil_append]; exact g3
        · simp only [owns, e1]; exact .cons ((Rep.pure hp).mono g1) g4
      · have e1 : own1 (i0 + j) (.list e xs (8 + e)) = (.list e xs (i0 + j), [(i0 + j, some (.tok xs.length e))]) := by simp [own1]
        have hf := hfr (i0 + j) (Nat.le_refl _) (by omega)
        obtain ⟨n1, n2⟩ := hinv.name (i0 + j) (bx_none_st hinv hf.1 hf.2) hf.2 hs (own_lower k1 hB) (fun q b hb hv => hd 0 _ _ b rfl rfl (by simp [isOwn]) hv q hb) k6
        obtain ⟨G', g1, g2, g3, g4⟩ := owns_sound h8 (j := j + 1) (G := { G with tl := upd G.tl (i0 + j) (some u) }) h2 (by omega) (fun k a b => ⟨(hfr k (by omega) b).1, by
            have : k ≠ i0 + j := by omega
            simpa [upd, this] using (hfr k (by omega) b).2⟩) n2 hB (fun q yi ui b a1 a2 a3 a4 k hk => by
            by_cases hkj : k = i0 + j
            · subst hkj
              have : u.ownBlock = some b := by unfold blk at hk; simpa [upd] using hk
              exact hpd 0 (q + 1) _ _ _ _ b (by omega) rfl (by simpa using a1) rfl (by simpa using a2) (by simp [isOwn]) a3 this a4
            · refine hd (q + 1) yi ui b (by simpa using a1) (by simpa using a2) a3 a4 k ?_
              unfold blk at hk ⊢; simpa [upd, hkj] using hk)
          (fun i j' yi yj ui uj b hne a1 a2 a3 a4 => hpd (i + 1) (j' + 1) yi yj ui uj b (by omega) (by simpa using a1) (by simpa using a2) (by simpa using a3) (by simpa using a4))
        have hrep : Rep P { G with tl := upd G.tl (i0 + j) (some u) } (.list e xs (i0 + j)) u := rep_tok (by omega) hs (own_lower k1 hB) rfl (by simp [upd]) k5 k3 k4 k2
        have hsame : Same G { G with tl := upd G.tl (i0 + j) (some u) } (R8 i0) := fun k hk => ⟨id, fun q => by
          have : k ≠ i0 + j := fun e => hk (by subst e; exact ⟨by omega, by omega⟩)
          simpa [upd, this] using q⟩
        refine ⟨G', n1.trans g1, hsame.trans g2, ?_, ?_⟩
        · simp only [owns, e1]; rw [upds_append]; exact g3
        · simp only [owns, e1]; exact .cons (hrep.mono g1) g4
theorem own_sound {B : Nat} (h8 : 8 ≤ i0) {y : V} {v : Value} (h : RetOK P B G.pr w y v) (hfr : Fresh G (R8 i0)) (hinv : Inv P G st w) (hB : G.base ≤ B) (hblk : ∀ k b, blk G st k = some b → b < B) :
    ∃ G', G.le G' ∧ Same G G' (R8 i0) ∧ Inv P G' (upds (own i0 y).2 st) w ∧ Rep P G' (own i0 y).1 v := by
  have big : ∀ {yi : V} {ui : Value} {b : Nat}, Ret1 P B G.pr w yi ui → isOwn yi = true → ui.ownBlock = some b → ∀ k, blk G st k ≠ some b := fun {yi ui b} h1 h2 h3 k hk => by
    rcases h1 with ⟨h4, _⟩ | ⟨e, xs, s, vs, _, _, k1, _⟩
    · rw [h2] at h4; cases h4
    · have := (k1.lt b h3).1
      have := hblk k b hk
      omega
  cases y with
  | tup ys =>
    obtain ⟨us, rfl, hl, h1, h2⟩ := h
    obtain ⟨G', g1, g2, g3, g4⟩ := owns_sound h8 (j := 0) h1 (by omega) (fun k a b => hfr k ⟨by omega, b⟩) hinv hB (fun q yi ui b a1 a2 => by
      obtain ⟨u', hu', hr⟩ := h1.get a1
      rw [a2] at hu'; obtain rfl := Option.some.inj hu'
      exact big hr) h2
    exact ⟨G', g1, g2, g3, .tup (.of g4)⟩
  | _ =>
    have h1 : Ret1 P B G.pr w _ v := h
    obtain ⟨G', g1, g2, g3, g4⟩ := owns_sound (us := [v]) h8 (j := 0) (.cons h1 .nil) (by simp) (fun k a b => hfr k ⟨by omega, b⟩) hinv hB (fun q yi ui b a1 a2 => by
      cases q with
      | zero => simp at a1 a2; subst a1; subst a2; exact big h1
      | succ q => simp at a1) (fun i j yi yj ui uj b hne a1 a2 => by
      cases i <;> cases j <;> simp at a1 a2
      omega)
    refine ⟨G', g1, g2, by simpa [owns, own] using g3, ?_⟩
    cases g4 with
    | cons h2 _ => simpa [own, owns] using h2
theorem run_callFunc_enter (hP : ProgOK P) {f : FuncId} (hf : nobody P f = false) (args : Array Value) (w : World) : (callFunc f args).run P w = .ok (.enter f args) w := by
  unfold nobody at hf
  split at hf
  · rename_i fn hfn
    have hng : fn.name ≠ "runtime.NumGoroutine" := by
      have := Array.all_eq_true.1 hP.ng
      obtain ⟨hlt, hget⟩ := Array.getElem?_eq_some_iff.1 hfn
      have h2 := this f hlt
      rw [hget] at h2
      simpa using h2
    obtain ⟨c, hc⟩ := Option.ne_none_iff_exists'.1 (show fn.body ≠ none by intro h; rw [h] at hf; cases hf)
    simp [callFunc, hfn, hng, hc]
  · cases hf
theorem run_call {c : Call} {f : Operand} {g : FuncId} {us ws args : List Value} (ho : o.op = .call c) (hc : c.callee = .value f) (hf : a.eval f = .func (.func g) us.toArray ws.toArray) (hargs : c.args.toList.map a.eval = args) {r : Result Next} (hr : (callFunc g (us ++ args ++ ws).toArray).run P w = r) :
    (execOp a.eval o).run P w = r := by
  have hA := args_arr hargs
  simp only [execOp, ho, resolve, hc, hf, hA, Deferred.ofValue, pure_bind, invoke]
  rw [← hr]
  simp
theorem op_call (hP : ProgOK P) (hE : EnvOK P E) (hgl : GlOK P E.gl G.pr) (hinv : Inv P G st w) (ht : TmR P G N tm a) (hfr : Fresh G (R8 i0)) (hfr2 : Fresh G (fun k => nx' ≤ k)) (h8 : 8 ≤ i0) (h8' : 8 ≤ nx') {c : Call} {r : R} (ho : o.op = .call c) (hx : xop P E tm st i0 nx' o = some r) (hK : Good P G st i0 nx' a o K Q r) : o.wp P a w K Q := by
  simp only [xop, ho, Option.bind_eq_some_iff] at hx
  obtain ⟨args, hargs, hx⟩ := hx
  split at hx
  · rename_i b hc
    exact op_builtin hgl hinv ht hfr h8 ho hc hargs hx hK
  · rename_i f hc
    rw [Option.bind_eq_some_iff] at hx
    obtain ⟨fv, hfv, hx⟩ := hx
    split at hx
    · rename_i g first cap
      obtain ⟨us, ws, hv, hus, hws⟩ := (ev_sound hgl ht hfv).fn_inv
      have hA := evs_sound hgl ht hargs
      have hall := (hus.append hA).append hws
      generalize hg : c.args.toList.map a.eval = ras at hA hall
      unfold xcall at hx
      split at hx
      · -- a function without a body
        rw [Option.bind_eq_some_iff] at hx
        obtain ⟨vs, hvs, hx⟩ := hx
        split at hx
        · rename_i v hrk
          obtain rfl := Option.some.inj hx
          have hvals := vals_eq hall hvs
          refine good_same hinv hK (v := v) (run_call ho hc hv hg (by rw [hvals]; exact reck_run _ hrk w)) ?_
          unfold ofRes
          split
          · rename_i l
            have : l = l.toList.toArray := by simp
            rw [this]
            refine .tup (.of ?_)
            rw [show l.toList.toArray.toList = l.toList by simp]
            generalize l.toList = q
            induction q with
            | nil => exact .nil
            | cons x q ih => exact .cons (.pure (.sc x)) ih
          · exact .pure (.sc _)
        · cases hx
      · rename_i hnb
        have hnb : nobody P g = false := by simpa using hnb
        have henter := run_call ho hc hv hg (run_callFunc_enter hP hnb (us ++ ras ++ ws).toArray w)
        split at hx
        · -- on this memory
          split at hx
          · rename_i y st' n hh
            obtain rfl := Option.some.inj hx
            unfold Oper.wp
            rw [henter]
            refine (hE.hp g _ st nx' _ hnb hh G _ w hgl hinv hall h8' hfr2).mono fun e w' he => ?_
            obtain ⟨G', v, rfl, g1, g2, g3, g4, g5⟩ := he
            exact hK G' w' v g1 g2 g3 g4 g5
          · rename_i y st' n hh
            obtain rfl := Option.some.inj hx
            unfold Oper.wp
            rw [henter]
            refine (hE.hp g _ st nx' _ hnb hh G _ w hgl hinv hall h8' hfr2).mono fun e w' he => ?_
            obtain ⟨G', v, rfl, g1, g2, g3, g4, g5⟩ := he
            exact hK G' w' v g1 g2 g3 g4 g5
          · cases hx
        · -- on pure data
          rw [Option.bind_eq_some_iff] at hx
          obtain ⟨as, has, hx⟩ := hx
          have hpure : All2 (RepP P G.pr) as (us ++ ras ++ ws) := All2.trans2 (S := Rep P G) (T := RepP P G.pr) (fun x y z hy hz => rep_pur (P := P) (G := G) hz hy) (mapM_some has) hall
          split at hx
          · rename_i y hh
            obtain rfl := Option.some.inj hx
            unfold Oper.wp
            rw [henter]
            refine (hE.pl g as _ hnb hh G.pr _ w hgl hinv.prot hpure).mono fun e w' he => ?_
            obtain ⟨v, p', rfl, hb, hext, hret⟩ := he
            obtain ⟨g1, g2⟩ := hinv.grow hb hext
            obtain ⟨G', k1, k2, k3, k4⟩ := own_sound (G := { G with pr := p' }) h8 hret hfr g2 hinv.size (fun k b hk => (hinv.blk_lt (i := k) hk).1)
            exact hK G' w' v (g1.trans k1) (fun k hk => k2 k hk) k3 k4
          · rename_i y hh
            obtain rfl := Option.some.inj hx
            unfold Oper.wp
            rw [henter]
            refine (hE.pl g as _ hnb hh G.pr _ w hgl hinv.prot hpure).mono fun e w' he => ?_
            obtain ⟨t, y0, u, p', rfl, rfl, hb, hext, hret⟩ := he
            obtain ⟨g1, g2⟩ := hinv.grow hb hext
            exact hK _ w' _ g1 (fun k _ => ⟨id, id⟩) g2 (.ifc (.pure hret))
          · cases hx
    · cases hx
  · cases hx
theorem xop_sound (hP : ProgOK P) (hE : EnvOK P E) (hgl : GlOK P E.gl G.pr) (hinv : Inv P G st w) (ht : TmR P G N tm a) (hfr : Fresh G (R8 i0)) (hfr2 : Fresh G (fun k => nx' ≤ k)) (h8 : 8 ≤ i0) (h8' : 8 ≤ nx') {r : R} (hx : xop P E tm st i0 nx' o = some r) (hK : Good P G st i0 nx' a o K Q r) : o.wp P a w K Q := by
  cases ho : o.op with
  | move x => exact op_move hgl hinv ht (.inl ho) hx hK
  | assign x => exact op_move hgl hinv ht (.inr ho) hx hK
  | pick c x y => exact op_pick hgl hinv ht ho hx hK
  | alloc e => exact op_alloc hinv hfr ho hx hK
  | box e x => exact op_box hgl hinv ht hfr ho hx hK
  | build t ps => exact op_build hgl hinv ht ho hx hK
  | buildSlice t n ps => exact op_buildSlice hgl hinv ht hfr h8 ho hx hK
  | load t x => exact op_load hgl hinv ht ho hx hK
  | store t x y => exact op_store hgl hinv ht ho hx hK
  | nilCheck x => exact op_nilCheck hgl hinv ht ho hx hK
  | binOp b t x y yt => exact op_binOp hgl hinv ht ho hx hK
  | unOp b t x => exact op_unOp hgl hinv ht ho hx hK
  | convert s d x => exact op_convert hgl hinv ht ho hx hK
  | makeFunc f x y => exact op_makeFunc hgl hinv ht ho hx hK
  | makeMap t y =>
    cases y with
    | none => exact op_makeMap hinv hfr ho hx hK
    | some y => simp [xop, ho] at hx
  | slice t x lo hi mx => exact op_slice hgl hinv ht ho hx hK
  | fieldAddr s x f => exact op_fieldAddr hgl hinv ht ho hx hK
  | field s x f => exact op_field hgl hinv ht ho hx hK
  | indexAddr t x i => exact op_indexAddr hgl hinv ht ho hx hK
  | index t x i => exact op_index hgl hinv ht ho hx hK
  | lookup t x k ok => exact op_lookup hgl hinv ht ho hx hK
  | mapUpdate t x k y => exact op_mapUpdate hgl hinv ht ho hx hK
  | range t x => exact op_range hgl hinv ht hfr ho hx hK
  | next x b =>
    cases b with
    | true => exact op_next hgl hinv ht ho hx hK
    | false => simp [xop, ho] at hx
  | extract x i => exact op_extract hgl hinv ht ho hx hK
  | makeInterface t x => exact op_makeInterface hgl hinv ht ho hx hK
  | panic x => exact op_panic hgl hinv ht ho hx hK
  | call c => exact op_call hP hE hgl hinv ht hfr hfr2 h8 h8' ho hx hK
  | _ => simp [xop, ho] at hx
end
end Go.Proofs.YtojbkakdhfmjmaaDoor.Vm
