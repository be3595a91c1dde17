/- Proved here: an operation of the machine over pure data depends on the slots and places that it looks at, alone. Conditions: none. -/
import Derived.Test.YtojbkakdhfmjmaaDoorVm12
set_option linter.unusedVariables false
set_option linter.unusedSimpArgs false
namespace Go.Proofs.YtojbkakdhfmjmaaDoor.Vm
open Go.RowKit
section
variable {P : Program} {E : Env} {tm tm' : Nat → V} {st st' : St} {i0 nx : Nat} {o : Oper}
theorem mapM_congr' {α β : Type} {f g : α → Option β} : ∀ {l : List α}, (∀ x ∈ l, f x = g x) → l.mapM f = l.mapM g
  | [], _ => rfl
  | x :: l, h => by rw [List.mapM_cons, List.mapM_cons, h x (by simp), mapM_congr' fun y hy => h y (by simp [hy])]
theorem xop_tm (h : ∀ x ∈ o.op.operands, ev E tm' x = ev E tm x) : xop P E tm' st i0 nx o = xop P E tm st i0 nx o := by
  cases ho : o.op with
  | build t ps =>
    rw [ho] at h
    have : (ps.toList.mapM fun (p : Nat × Operand) => (ev E tm' p.2).map fun v => (p.1, v)) = ps.toList.mapM fun (p : Nat × Operand) => (ev E tm p.2).map fun v => (p.1, v) := mapM_congr' fun p hp => by
      rw [h p.2 (by simp [Op.operands]; exact ⟨p.1, by simpa using hp⟩)]
    simp only [xop, ho, this]
  | buildSlice t n ps =>
    rw [ho] at h
    have : (ps.toList.mapM fun (p : Nat × Operand) => (ev E tm' p.2).map fun v => (p.1, v)) = ps.toList.mapM fun (p : Nat × Operand) => (ev E tm p.2).map fun v => (p.1, v) := mapM_congr' fun p hp => by
      rw [h p.2 (by simp [Op.operands]; exact ⟨p.1, by simpa using hp⟩)]
    simp only [xop, ho, this]
  | makeFunc f x y =>
    rw [ho] at h
    have h1 : x.toList.mapM (ev E tm') = x.toList.mapM (ev E tm) := mapM_congr' fun p hp => h p (by simp [Op.operands]; exact .inl (by simpa using hp))
    have h2 : y.toList.mapM (ev E tm') = y.toList.mapM (ev E tm) := mapM_congr' fun p hp => h p (by simp [Op.operands]; exact .inr (by simpa using hp))
    simp only [xop, ho, h1, h2]
  | call c =>
    rw [ho] at h
    have h1 : c.args.toList.mapM (ev E tm') = c.args.toList.mapM (ev E tm) := mapM_congr' fun p hp => h p (by simp [Op.operands, Call.operands]; exact .inr (by simpa using hp))
    simp only [xop, ho, h1]
    cases hc : c.callee with
    | value f =>
      have h2 := h f (by simp [Op.operands, Call.operands, hc])
      simp only [h2]
    | _ => rfl
  | slice t x lo hi mx =>
    rw [ho] at h
    have h1 := h x (by simp [Op.operands])
    have h2 : lo.map (ev E tm') = lo.map (ev E tm) := by cases lo with | none => rfl | some y => simp [h y (by simp [Op.operands])]
    have h3 : hi.map (ev E tm') = hi.map (ev E tm) := by cases hi with | none => rfl | some y => simp [h y (by simp [Op.operands])]
    have h4 : mx.map (ev E tm') = mx.map (ev E tm) := by cases mx with | none => rfl | some y => simp [h y (by simp [Op.operands])]
    simp only [xop, ho, h1, h2, h3, h4]
  | makeMap t y => cases y <;> simp [xop, ho]
  | next x b =>
    rw [ho] at h
    have h1 := h x (by simp [Op.operands])
    cases b <;> simp [xop, ho, h1]
  | _ => (first | (simp [xop, ho]; done) | (simp [ho, Op.operands] at h; simp [xop, ho, h]))
theorem xcall_st {f : FuncId} {args : List V} {v : V} {δ : List (Nat × Option Ob)} {rd : List Nat} (h : xcall P E i0 nx st f args = some (.val v δ rd)) : xcall P E i0 nx st' f args = some (.val v δ rd) := by
  unfold xcall at h ⊢
  split at h
  · rename_i hn; rw [if_pos hn]; exact h
  · rename_i hn
    rw [if_neg hn]
    split at h
    · split at h <;> simp at h
    · rename_i hm; rw [if_neg hm]; exact h
theorem xop_st {v : V} {δ : List (Nat × Option Ob)} {rd : List Nat} (h : xop P E tm st i0 nx o = some (.val v δ rd)) (hs : ∀ k ∈ rd, st' k = st k) : xop P E tm st' i0 nx o = some (.val v δ rd) := by
  have one : ∀ {id : Nat}, rd = [id] → st' id = st id := fun h => hs _ (by simp [h])
  cases ho : o.op with
  | load t x =>
    simp only [xop, ho, Option.bind_eq_some_iff] at h ⊢
    obtain ⟨x0, h0, h⟩ := h
    refine ⟨x0, h0, ?_⟩
    cases x0 with
    | ptr id off =>
      simp only at h ⊢
      have : st' id = st id := by
        refine one ?_
        split at h
        · rw [Option.map_eq_some_iff] at h
          obtain ⟨y, _, h⟩ := h
          simp at h; exact h.2.2.symm
        · cases h
      rw [this]; exact h
    | _ => exact h
  | store t x y =>
    simp only [xop, ho, Option.bind_eq_some_iff] at h ⊢
    obtain ⟨x0, h0, y0, h1, h⟩ := h
    refine ⟨x0, h0, y0, h1, ?_⟩
    cases x0 with
    | ptr id off =>
      simp only at h ⊢
      have : st' id = st id := by
        refine one ?_
        split at h
        · split at h
          · simp at h; exact h.2.2.symm
          · cases h
        · cases h
      rw [this]; exact h
    | _ => exact h
  | lookup t x y ok =>
    simp only [xop, ho, Option.bind_eq_some_iff] at h ⊢
    obtain ⟨x0, h0, y0, h1, h⟩ := h
    refine ⟨x0, h0, y0, h1, ?_⟩
    split at h
    · rename_i id k kt et hu
      split at h
      · rename_i hk
        rw [Option.bind_eq_some_iff] at h
        obtain ⟨z, hz, h⟩ := h
        have : st' id = st id := by
          refine one ?_
          split at h
          · rw [Option.bind_eq_some_iff] at h
            obtain ⟨r, _, h⟩ := h
            split at h
            · simp at h; exact h.2.2.symm
            · split at h
              · simp at h; exact h.2.2.symm
              · cases h
          · cases h
        simp only [hk, if_true, hz, Option.bind_some, this]
        exact h
      · cases h
    · cases h
  | mapUpdate t x y z =>
    simp only [xop, ho, Option.bind_eq_some_iff] at h ⊢
    obtain ⟨x0, h0, y0, h1, z0, h2, h⟩ := h
    refine ⟨x0, h0, y0, h1, z0, h2, ?_⟩
    split at h
    · rename_i id k kt et hu
      split at h
      · rename_i hk
        have : st' id = st id := by
          refine one ?_
          split at h
          · rw [Option.bind_eq_some_iff] at h
            obtain ⟨r, _, h⟩ := h
            split at h <;> (simp at h; exact h.2.2.symm)
          · cases h
        simp only [hk, if_true, this]
        exact h
      · cases h
    · cases h
  | next x b =>
    cases b with
    | false => simp [xop, ho] at h
    | true =>
      simp only [xop, ho, Option.bind_eq_some_iff] at h ⊢
      obtain ⟨x0, h0, h⟩ := h
      refine ⟨x0, h0, ?_⟩
      split at h
      · rename_i id
        have : st' id = st id := by
          refine one ?_
          split at h
          · split at h <;> (simp at h; exact h.2.2.symm)
          · cases h
        rw [this]
        exact h
      · cases h
  | call c =>
    simp only [xop, ho, Option.bind_eq_some_iff] at h ⊢
    obtain ⟨args, hargs, h⟩ := h
    refine ⟨args, hargs, ?_⟩
    split at h
    · rename_i b hc
      unfold xbuiltin at h ⊢
      split at h
      · rename_i x y
        try dsimp only
        split at h
        · rename_i t t' hts
          split at h
          · rename_i hty
            simp only [hts, hty, if_true]
            unfold xappend1 at h ⊢
            split at h
            · rename_i e xs r
              try dsimp only
              split at h
              · rename_i hr; rw [if_pos hr]; exact h
              · rename_i hr
                rw [if_neg hr]
                have : st' r = st r := by
                  refine one ?_
                  split at h
                  · split at h
                    · unfold xappend at h
                      split at h
                      · split at h
                        · split at h
                          · split at h
                            · rename_i h1; exact absurd (by simpa using h1) (by rename_i heq _ _ _ _ _ _ _ ; intro hh; simp_all)
                            · split at h
                              · cases h
                              · split at h
                                · simp at h; rename_i heq _ _ _ _ _ _ _ _ _ _; simp_all
                                · cases h
                          · cases h
                        · cases h
                      · cases h
                    · cases h
                  · cases h
                rw [this]; exact h
            · cases h
          · cases h
        · cases h
      · exact h
      · rename_i id
        try dsimp only
        split at h
        · rename_i t hts
          split at h
          · rename_i kt et hu
            have : st' id = st id := by
              refine one ?_
              split at h
              · simp at h; exact h.2.2.symm
              · cases h
            simp only [hts, hu, this]
            exact h
          · cases h
        · cases h
      · exact h
      · exact h
      · exact h
      · cases h
    · rename_i f hc
      rw [Option.bind_eq_some_iff] at h
      obtain ⟨fv, hfv, h⟩ := h
      split at h
      · simp only [hfv, Option.bind_some]
        exact xcall_st h
      · cases h
    · cases h
  | makeMap t y =>
    cases y with
    | none => simp only [xop, ho] at h ⊢; exact h
    | some y => simp [xop, ho] at h
  | _ => (simp only [xop, ho] at h ⊢; exact h)
end
end Go.Proofs.YtojbkakdhfmjmaaDoor.Vm
