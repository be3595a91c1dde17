/- Proved here: what further operations of the machine over pure data do, the model's operations do: slices, literals, append. Conditions: none. -/
import Derived.Test.YtojbkakdhfmjmaaDoorVm7
set_option linter.unusedVariables false
set_option linter.unusedSimpArgs false
namespace Go.Proofs.YtojbkakdhfmjmaaDoor.Vm
open Go.RowKit
section
variable {P : Program} {G G' : Gh} {st : St} {w w' : World} {a : Act} {tm : Nat → V} {N i0 nx' : Nat} {o : Oper} {K : Act → World → Prop} {Q : Exit → Act → World → Prop} {E : Env}
theorem pint_inv (hgl : GlOK P E.gl G.pr) (ht : TmR P G N tm a) {x : Option Operand} {d n : Int} (h : pint (x.map (ev E tm)) d = some n) : (x = none ∧ n = d) ∨ ∃ y k, x = some y ∧ a.eval y = .int k n := by
  cases x with
  | none => simp [pint] at h; exact .inl ⟨rfl, h.symm⟩
  | some y =>
    simp only [Option.map_some, pint] at h
    cases hy : ev E tm y with
    | none => rw [hy] at h; simp at h
    | some v =>
      rw [hy] at h
      simp only at h
      obtain ⟨k, rfl⟩ := vint_inv h
      exact .inr ⟨y, k, rfl, (ev_sound hgl ht hy).sc_inv⟩
theorem rep_sub {p : Pr} {e : TypeId} {xs : List V} {s l h c : Nat} {A : Option Addr} (hr : RepP P p (.list e xs 0) (.slice A xs.length c)) (hs : usz P e = some s) (hl : l ≤ h) (hh : h ≤ xs.length) {m : Nat} (hm : h ≤ m) :
    RepP P p (.list e ((xs.take h).drop l) 0) (.slice (if m = l then A else A.map (·.add (l * s))) (h - l) (m - l)) := by
  obtain ⟨A', c', vs, hv', h2, h3, h4, h5, h6, h7⟩ := list_parts hr
  obtain ⟨rfl, rfl⟩ : A = A' ∧ c = c' := by simpa using hv'
  have hu : ∀ x ∈ xs.take h, x.cells.length = s := fun x hx => h4 s hs x (List.mem_of_mem_take hx)
  have hf : ((xs.take h).drop l).flatMap V.cells = ((xs.flatMap V.cells).take (h * s)).drop (l * s) := by rw [flat_drop l hu, flat_take h (h4 s hs)]
  refine .list (vs := (vs.take (h * s)).drop (l * s)) (by simp; omega) (by omega) (.inl rfl) (fun s' hs' x hx => h4 s' hs' x (List.mem_of_mem_take (List.mem_of_mem_drop hx))) (by rw [hf]; exact ones_drop (ones_take h5 _) _) (fun hne => ?_) (.of (by rw [hf]; exact (h7.take _).drop _))
  have hlt : l * s < h * s := by
    rcases Nat.lt_or_ge (l * s) (h * s) with q | q
    · exact q
    · exact absurd (List.drop_eq_nil_of_le (by rw [List.length_take]; omega)) hne
  have hlh : l < h := by
    rcases Nat.lt_or_ge l h with q | q
    · exact q
    · have := Nat.mul_le_mul_right s q; omega
  obtain ⟨ad, rfl, hlies⟩ := h6 (by rintro rfl; simp at hne)
  rw [if_neg (by omega)]
  exact ⟨_, rfl, (hlies.take _).drop _⟩
theorem op_slice (hgl : GlOK P E.gl G.pr) (hinv : Inv P G st w) (ht : TmR P G N tm a) {t : TypeId} {x : Operand} {lo hi mx : Option Operand} {r : R} (ho : o.op = .slice t x lo hi mx) (hx : xop P E tm st i0 nx' o = some r) (hK : Good P G st i0 nx' a o K Q r) : o.wp P a w K Q := by
  simp only [xop, ho, Option.bind_eq_some_iff] at hx
  obtain ⟨x0, h0, hx⟩ := hx
  have hr := ev_sound hgl ht h0
  unfold xslice at hx
  split at hx
  · rename_i e xs _ el hu
    rw [Option.bind_eq_some_iff] at hx
    obtain ⟨l, hl, hx⟩ := hx
    rw [Option.bind_eq_some_iff] at hx
    obtain ⟨h, hh, hx⟩ := hx
    rw [Option.bind_eq_some_iff] at hx
    obtain ⟨m, hm, hx⟩ := hx
    split at hx
    · rename_i hc
      obtain ⟨c1, c2, c3, c4, c5, c6, c7⟩ := hc
      obtain rfl := Option.some.inj hx
      obtain ⟨s, hs⟩ := Option.isSome_iff_exists.1 c6
      obtain ⟨A, c, hv, hp, _⟩ := hr.list_inv
      have hlc : xs.length ≤ c := by cases hp; assumption
      obtain ⟨ln, rfl⟩ := Int.eq_ofNat_of_zero_le c1
      obtain ⟨hn, rfl⟩ := Int.eq_ofNat_of_zero_le (show (0 : Int) ≤ h by omega)
      have b1 : ln ≤ hn := by omega
      have b2 : hn ≤ xs.length := by omega
      have main : ∀ M : Nat, hn ≤ M → (Instr.sliceAt t (.slice A xs.length c) (lo.map a.eval) (hi.map a.eval) (mx.map a.eval)).run P w = .ok (.slice (if M = ln then A else A.map (·.add (ln * s))) (hn - ln) (M - ln)) w → o.wp P a w K Q := fun M hM hrun => by
        refine good_same hinv hK (v := .slice (if M = ln then A else A.map (·.add (ln * s))) (hn - ln) (M - ln)) ?_ (.pure ?_)
        · simp only [execOp, ho, hv]
          rw [Sem.run_bind, hrun]
          rfl
        · by_cases hel : e = el
          · subst hel
            simpa using rep_sub hp hs b1 b2 hM
          · have hxs : xs = [] := by
              rcases c5 with h | h
              · exact absurd h hel
              · simpa using h
            subst hxs
            simp at b2
            subst b2
            have : ln = 0 := by omega
            subst this
            simp
            exact .list (vs := []) rfl (Nat.zero_le _) (.inl rfl) (by simp) (by simp [ones]) (by simp) .nil
      have gl := pint_inv hgl ht hl
      have gh := pint_inv hgl ht hh
      have gm := pint_inv hgl ht hm
      rcases gm with ⟨rfl, rfl⟩ | ⟨my, mk, rfl, em⟩
      · refine main c (by omega) ?_
        rcases gh with ⟨rfl, e2⟩ | ⟨hy, hk, rfl, eh⟩
        · obtain rfl : hn = xs.length := by omega
          rcases gl with ⟨rfl, e1⟩ | ⟨ly, lk, rfl, elo⟩
          · obtain rfl : ln = 0 := by omega
            simp [Instr.sliceAt, run_underlying hu, Instr.slice, Instr.sliceBounds, run_size hs]
          · simp [Instr.sliceAt, run_underlying hu, Instr.slice, Instr.sliceBounds, Instr.sliceBound, asIntOf, elo, b1, run_size hs]
        · have bh : hn ≤ c := by omega
          rcases gl with ⟨rfl, e1⟩ | ⟨ly, lk, rfl, elo⟩
          · obtain rfl : ln = 0 := by omega
            simp [Instr.sliceAt, run_underlying hu, Instr.slice, Instr.sliceBounds, Instr.sliceBound, asIntOf, eh, bh, run_size hs]
          · simp [Instr.sliceAt, run_underlying hu, Instr.slice, Instr.sliceBounds, Instr.sliceBound, asIntOf, elo, eh, b1, bh, run_size hs]
      · rcases gh with ⟨rfl, e2⟩ | ⟨hy, hk, rfl, eh⟩
        · simp at c7
        · obtain rfl : m = hn := c4
          have bh : hn ≤ c := by omega
          refine main hn (Nat.le_refl _) ?_
          rcases gl with ⟨rfl, e1⟩ | ⟨ly, lk, rfl, elo⟩
          · obtain rfl : ln = 0 := by omega
            simp [Instr.sliceAt, run_underlying hu, Instr.slice, Instr.sliceBounds, Instr.sliceBound, asIntOf, eh, em, bh, run_size hs]
          · simp [Instr.sliceAt, run_underlying hu, Instr.slice, Instr.sliceBounds, Instr.sliceBound, asIntOf, elo, eh, em, b1, bh, run_size hs]
    · cases hx
  · rename_i str hu
    have hv := hr.sc_inv
    have done : ∀ (z : Value) (lv hv' : Option Value), lo.map a.eval = lv → hi.map a.eval = hv' → mx = none → (Instr.slice t (.string str) lv hv' none).run P w = .ok z w → Good P G st i0 nx' a o K Q (.val (.sc z) [] []) → o.wp P a w K Q := fun z lv hv' e1 e2 e3 hrun hK => by
      refine good_same hinv hK (v := z) ?_ (.pure (.sc _))
      simp only [execOp, ho, hv, e1, e2, e3, Option.map_none]
      rw [Sem.run_bind]
      have : (Instr.sliceAt t (.string str) lv hv' none).run P w = .ok z w := by
        simp only [Instr.sliceAt, Sem.run_bind, run_underlying hu, Result.andThen_ok]
        exact hrun
      rw [this]
      rfl
    have lom : ∀ {y : Option Operand} {u : Value}, y.map (ev E tm) = some (some (.sc u)) → y.map a.eval = some u := fun {y u} hy => by
      cases y with
      | none => simp at hy
      | some y => simp at hy; simp [(ev_sound hgl ht hy).sc_inv]
    have non : ∀ {y : Option Operand}, y.map (ev E tm) = none → y = none := fun {y} hy => by cases y <;> simp_all
    split at hx
    · rename_i e1 e2 e3
      obtain rfl := Option.some.inj hx
      have f1 := non e1; have f2 := non e2; have f3 := non e3
      refine done _ none none (by rw [f2]; rfl) (by rw [f3]; rfl) f1 ?_ hK
      simp [Instr.slice, run_underlying hu, Instr.sliceBounds]
    · rename_i l e1 e2 e3
      rw [Option.map_eq_some_iff] at hx
      obtain ⟨z, hz, rfl⟩ := hx
      have f1 := non e1; have f2 := lom e2; have f3 := non e3
      exact done z _ none f2 (by rw [f3]; rfl) f1 (reck_run _ hz w) hK
    · rename_i l e1 e2 e3
      rw [Option.map_eq_some_iff] at hx
      obtain ⟨z, hz, rfl⟩ := hx
      have f1 := non e1; have f2 := non e2; have f3 := lom e3
      exact done z none _ (by rw [f2]; rfl) f3 f1 (reck_run _ hz w) hK
    · rename_i l h e1 e2 e3
      rw [Option.map_eq_some_iff] at hx
      obtain ⟨z, hz, rfl⟩ := hx
      have f1 := non e1; have f2 := lom e2; have f3 := lom e3
      exact done z _ _ f2 f3 f1 (reck_run _ hz w) hK
    · cases hx
  · cases hx
end
end Go.Proofs.YtojbkakdhfmjmaaDoor.Vm
