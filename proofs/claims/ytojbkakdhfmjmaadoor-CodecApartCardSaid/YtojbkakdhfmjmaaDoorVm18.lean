/- Proved here: more rounds and calls give the same answer; all of them at once (the limit) answer what some number of them answers. Conditions: none. -/
import Derived.Test.YtojbkakdhfmjmaaDoorVm17
set_option linter.unusedVariables false
set_option linter.unusedSimpArgs false
namespace Go.Proofs.YtojbkakdhfmjmaaDoor.Vm
open Go.RowKit
structure Env.le (E E' : Env) : Prop where
  hm : E'.hm = E.hm
  gl : E'.gl = E.gl
  pl : ∀ f as r, E.pl f as = some r → E'.pl f as = some r
  hp : ∀ f as st nx r, E.hp f as st nx = some r → E'.hp f as st nx = some r
section
variable {P : Program} {E E' : Env} {tm : Nat → V} {st : St} {i0 nx N k k' : Nat} {o : Oper} {ops : Array Oper}
theorem ev_le (h : E.le E') : ev E' tm = ev E tm := by funext x; cases x <;> simp [ev, h.gl]
theorem xcall_le (h : E.le E') {f : FuncId} {as : List V} {r : R} (hx : xcall P E i0 nx st f as = some r) : xcall P E' i0 nx st f as = some r := by
  unfold xcall at hx ⊢
  split at hx
  · rename_i hn; rw [if_pos hn]; exact hx
  · rename_i hn
    rw [if_neg hn, h.hm]
    split at hx
    · rename_i hm
      rw [if_pos hm]
      split at hx <;> rename_i he
      · rw [h.hp _ _ _ _ _ he]; exact hx
      · rw [h.hp _ _ _ _ _ he]; exact hx
      · cases hx
    · rename_i hm
      rw [if_neg hm]
      rw [Option.bind_eq_some_iff] at hx ⊢
      obtain ⟨bs, hb, hx⟩ := hx
      refine ⟨bs, hb, ?_⟩
      split at hx <;> rename_i he
      · rw [h.pl _ _ _ he]; exact hx
      · rw [h.pl _ _ _ he]; exact hx
      · cases hx
theorem xop_le (h : E.le E') {r : R} (hx : xop P E tm st i0 nx o = some r) : xop P E' tm st i0 nx o = some r := by
  cases ho : o.op with
  | call c =>
    simp only [xop, ho, ev_le h, Option.bind_eq_some_iff] at hx ⊢
    obtain ⟨args, ha, hx⟩ := hx
    refine ⟨args, ha, ?_⟩
    split at hx
    · exact hx
    · rw [Option.bind_eq_some_iff] at hx ⊢
      obtain ⟨fv, hf, hx⟩ := hx
      refine ⟨fv, hf, ?_⟩
      split at hx
      · exact xcall_le h hx
      · cases hx
    · cases hx
  | makeMap t y => cases y <;> simp only [xop, ho, ev_le h] at hx ⊢ <;> exact hx
  | next x b => cases b <;> simp only [xop, ho, ev_le h] at hx ⊢ <;> exact hx
  | _ => (simp only [xop, ho, ev_le h] at hx ⊢; exact hx)
theorem xops_le (h : E.le E') : ∀ {rest : List Oper} {i : Nat} {n0 : Nat} {tm : Nat → V} {st : St} {nx : Nat} {rr : RR}, xops P E ops N n0 i rest tm st nx = some rr → xops P E' ops N n0 i rest tm st nx = some rr
  | [], _, _, _, _, _, _, hx => hx
  | o :: rest, i, n0, tm, st, nx, rr, hx => by
    unfold xops at hx ⊢
    split at hx
    · rename_i hd
      rw [if_pos hd]
      split at hx <;> rename_i hw
      · split at hx <;> rename_i ho
        · rw [xop_le h ho]
          dsimp only
          split at hx <;> rename_i hr
          · rw [xops_le h hr]; exact hx
          · rw [xops_le h hx]
            split
            · rename_i hq; obtain rfl := Option.some.inj hq; exact absurd hx (hr _ _ _ _)
            · rfl
        · rw [xop_le h ho]
          dsimp only
          split at hx <;> rename_i hr
          · rw [xops_le h hr]; exact hx
          · rw [xops_le h hx]
            split
            · rename_i hq; obtain rfl := Option.some.inj hq; exact absurd hx (hr _ _ _ _)
            · rfl
        · rw [xop_le h ho]; exact hx
        · rw [xop_le h ho]; exact hx
        · cases hx
      · split at hx <;> rename_i hr
        · rw [xops_le h hr]; exact hx
        · rw [xops_le h hx]
          split
          · rename_i hq; obtain rfl := Option.some.inj hq; exact absurd hx (hr _ _ _ _)
          · rfl
      · cases hx
    · cases hx
theorem xregion_le (h : E.le E') {draw : Bool} {fr : Fr} {res : Ex × Fr} (hx : xregion P E N ops draw fr = some res) : xregion P E' N ops draw fr = some res := by
  unfold xregion at hx ⊢
  split at hx <;> rename_i hr
  · rw [xops_le h hr]; exact hx
  · rw [xops_le h hr]; exact hx
  · cases hx
theorem iter_le {f g : Fr → Option (Ex × Fr)} (h : ∀ fr r, f fr = some r → g fr = some r) : ∀ {k k' : Nat} {fr : Fr} {r : Ex × Fr}, k ≤ k' → iter f k fr = some r → iter g k' fr = some r
  | 0, _, _, _, _, hx => by simp [iter] at hx
  | k + 1, 0, _, _, hk, _ => by omega
  | k + 1, k' + 1, fr, r, hk, hx => by
    unfold iter at hx ⊢
    split at hx <;> rename_i hr
    · rw [h _ _ hr]; exact iter_le h (by omega) hx
    · rw [h _ _ hx]
      split
      · rename_i hq; obtain rfl := Option.some.inj hq; exact absurd hx (hr _)
      · rfl
theorem xcode_le (h : E.le E') (hk : k ≤ k') : ∀ (c : Code) {fr : Fr} {res : Ex × Fr}, xcode P E N k c fr = some res → xcode P E' N k' c fr = some res := by
  intro c
  induction c with
  | region id ops draw => intro fr res hx; exact xregion_le h (by simpa only [xcode] using hx)
  | seq x y ihx ihy =>
    intro fr res hx
    simp only [xcode] at hx ⊢
    split at hx <;> rename_i hr
    · rw [ihx hr]; exact ihy hx
    · rw [ihx hx]
      split
      · rename_i hq; obtain rfl := Option.some.inj hq; exact absurd hx (hr _)
      · rfl
  | cond c x y ihx ihy =>
    intro fr res hx
    simp only [xcode, ev_le h] at hx ⊢
    split at hx <;> rename_i hr
    · rename_i b
      cases b
      · exact ihy hx
      · exact ihx hx
    · cases hx
  | block id b ih =>
    intro fr res hx
    simp only [xcode] at hx ⊢
    split at hx <;> rename_i hr
    · rw [ih hr]; exact hx
    · rw [ih hx]
      split
      · rename_i hq; obtain rfl := Option.some.inj hq; exact absurd hx (hr _ _)
      · rfl
  | loop b ih =>
    intro fr res hx
    simp only [xcode] at hx ⊢
    exact iter_le (fun fr r => ih) hk hx
  | _ => intro fr res hx; first | (simp only [xcode] at hx ⊢; exact hx) | simp [xcode] at hx
theorem xrun_le (h : E.le E') (hk : k ≤ k') {fn : Func} {as : List V} {r : HR} (hx : xrun P E k fn as st nx = some r) : xrun P E' k' fn as st nx = some r := by
  unfold xrun at hx ⊢
  split at hx
  · cases hx
  · split at hx <;> rename_i hr
    · simp only [xcode_le h hk _ hr]; exact hx
    · simp only [xcode_le h hk _ hr]; exact hx
    · simp only [xcode_le h hk _ hr]; exact hx
    · cases hx
theorem xplain_le (h : E.le E') (hk : k ≤ k') {fn : Func} {as : List V} {r : CR} (hx : xplain P E k fn as = some r) : xplain P E' k' fn as = some r := by
  unfold xplain at hx ⊢
  split at hx <;> rename_i hr
  · rw [xrun_le h hk hr]; exact hx
  · rw [xrun_le h hk hr]; exact hx
  · cases hx
end
section
variable (P : Program) (ext : FuncId → Option (List V → Option V)) (hm : FuncId → Bool) (gl : Nat → Option V)
theorem env_step : ∀ n, (env P ext hm gl n).le (env P ext hm gl (n + 1))
  | 0 => by
    refine ⟨rfl, rfl, fun f as r hx => ?_, fun f as st nx r hx => by simp [env] at hx⟩
    simp only [env, Option.bind_eq_some_iff] at hx ⊢
    obtain ⟨g, hg, hx⟩ := hx
    simp only [hg]; exact hx
  | n + 1 => by
    have ih := env_step n
    refine ⟨rfl, rfl, fun f as r hx => ?_, fun f as st nx r hx => ?_⟩
    · rw [env] at hx ⊢
      dsimp only at hx ⊢
      split at hx
      · exact hx
      · rw [Option.bind_eq_some_iff] at hx ⊢
        obtain ⟨fn, hf, hx⟩ := hx
        exact ⟨fn, hf, xplain_le ih (by omega) hx⟩
    · rw [env] at hx ⊢
      dsimp only at hx ⊢
      rw [Option.bind_eq_some_iff] at hx ⊢
      obtain ⟨fn, hf, hx⟩ := hx
      exact ⟨fn, hf, xrun_le ih (by omega) hx⟩
theorem Env.le.refl (E : Env) : E.le E := ⟨rfl, rfl, fun _ _ _ h => h, fun _ _ _ _ _ h => h⟩
theorem Env.le.trans {E E' E'' : Env} (h : E.le E') (k : E'.le E'') : E.le E'' := ⟨k.hm.trans h.hm, k.gl.trans h.gl, fun f as r q => k.pl f as r (h.pl f as r q), fun f as st nx r q => k.hp f as st nx r (h.hp f as st nx r q)⟩
theorem env_le {n m : Nat} (h : n ≤ m) : (env P ext hm gl n).le (env P ext hm gl m) := by
  induction m with
  | zero => have : n = 0 := by omega
            subst this; exact .refl _
  | succ m ih =>
    rcases Nat.lt_or_ge n (m + 1) with h1 | h1
    · exact (ih (by omega)).trans (env_step P ext hm gl m)
    · have : n = m + 1 := by omega
      subst this; exact .refl _
open Classical in
/-- All numbers of rounds at once. -/
noncomputable def lim : Env :=
  ⟨fun f as => if h : ∃ r n, (env P ext hm gl n).pl f as = some r then some (Classical.choose h) else none,
   fun f as st nx => if h : ∃ r n, (env P ext hm gl n).hp f as st nx = some r then some (Classical.choose h) else none, hm, gl⟩
theorem lim_pl {f : FuncId} {as : List V} {r : CR} : (lim P ext hm gl).pl f as = some r ↔ ∃ n, (env P ext hm gl n).pl f as = some r := by
  have uniq : ∀ {r r' : CR} {n n' : Nat}, (env P ext hm gl n).pl f as = some r → (env P ext hm gl n').pl f as = some r' → r = r' := fun {r r' n n'} h1 h2 => by
    have h3 := (env_le P ext hm gl (Nat.le_max_left n n')).pl _ _ _ h1
    have h4 := (env_le P ext hm gl (Nat.le_max_right n n')).pl _ _ _ h2
    rw [h3] at h4; exact Option.some.inj h4
  simp only [lim]
  constructor
  · intro h
    split at h
    · rename_i hh
      obtain rfl := Option.some.inj h
      exact Classical.choose_spec hh
    · cases h
  · rintro ⟨n, hn⟩
    have hh : ∃ r n, (env P ext hm gl n).pl f as = some r := ⟨r, n, hn⟩
    rw [dif_pos hh]
    obtain ⟨m, hm'⟩ := Classical.choose_spec hh
    rw [uniq hm' hn]
theorem lim_hp {f : FuncId} {as : List V} {st : St} {nx : Nat} {r : HR} : (lim P ext hm gl).hp f as st nx = some r ↔ ∃ n, (env P ext hm gl n).hp f as st nx = some r := by
  have uniq : ∀ {r r' : HR} {n n' : Nat}, (env P ext hm gl n).hp f as st nx = some r → (env P ext hm gl n').hp f as st nx = some r' → r = r' := fun {r r' n n'} h1 h2 => by
    have h3 := (env_le P ext hm gl (Nat.le_max_left n n')).hp _ _ _ _ _ h1
    have h4 := (env_le P ext hm gl (Nat.le_max_right n n')).hp _ _ _ _ _ h2
    rw [h3] at h4; exact Option.some.inj h4
  simp only [lim]
  constructor
  · intro h
    split at h
    · rename_i hh
      obtain rfl := Option.some.inj h
      exact Classical.choose_spec hh
    · cases h
  · rintro ⟨n, hn⟩
    have hh : ∃ r n, (env P ext hm gl n).hp f as st nx = some r := ⟨r, n, hn⟩
    rw [dif_pos hh]
    obtain ⟨m, hm'⟩ := Classical.choose_spec hh
    rw [uniq hm' hn]
end
end Go.Proofs.YtojbkakdhfmjmaaDoor.Vm
