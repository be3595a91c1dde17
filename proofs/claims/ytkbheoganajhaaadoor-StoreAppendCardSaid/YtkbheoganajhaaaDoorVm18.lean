/- Proved here: more rounds and calls give the same answer; all of them at once (the limit) answer what some number of them answers. Conditions: none. -/
import Derived.Test.YtkbheoganajhaaaDoorVm14
set_option linter.unusedVariables false
set_option linter.unusedSimpArgs false
namespace Go.Proofs.YtkbheoganajhaaaDoor.Vm
open Go.RowKit
structure Env.le (E E' : Env) : Prop where
  hm : E'.hm = E.hm
  gl : E'.gl = E.gl
  pl : ∀ f as r, E.pl f as = some r → E'.pl f as = some r
  hp : ∀ f as st nx r, E.hp f as st nx = some r → E'.hp f as st nx = some r
  md : E'.md = E.md
theorem Env.le.at {E E' : Env} (h : E.le E') (m : Nat) : (E.at m).le (E'.at m) := ⟨h.hm, h.gl, h.pl, h.hp, rfl⟩
section
variable {P : Program} {E E' : Env} {tm : Nat → V} {st : St} {i0 nx N k k' : Nat} {o : Oper} {ops : Array Oper}
theorem ev_le (h : E.le E') : ev E' tm = ev E tm := by funext x; cases x <;> simp [ev, h.gl]
theorem xcall_le (h : E.le E') {f : FuncId} {as : List V} {r : R} (hx : xcall P E i0 nx st f as = some r) : xcall P E' i0 nx st f as = some r := by
  unfold xcall at hx ⊢
  split at hx
  · rename_i hn; rw [if_pos hn]; exact hx
  · rename_i hn
    rw [if_neg hn, h.hm]
    split at hx
    · rename_i hm
      rw [if_pos hm]
      split at hx <;> rename_i he
      · rw [h.hp _ _ _ _ _ he]; exact hx
      · rw [h.hp _ _ _ _ _ he]; exact hx
      · cases hx
    · rename_i hm
      rw [if_neg hm]
      rw [Option.bind_eq_some_iff] at hx ⊢
      obtain ⟨bs, hb, hx⟩ := hx
      refine ⟨bs, hb, ?_⟩
      split at hx <;> rename_i he
      · rw [h.pl _ _ _ he]; exact hx
      · rw [h.pl _ _ _ he]; exact hx
      · cases hx
theorem xop0_le (h : E.le E') {r : R} (hx : xop0 P E tm st i0 nx o = some r) : xop0 P E' tm st i0 nx o = some r := by
  cases ho : o.op with
  | call c =>
    simp only [xop0, ho, ev_le h, Option.bind_eq_some_iff] at hx ⊢
    obtain ⟨args, ha, hx⟩ := hx
    refine ⟨args, ha, ?_⟩
    split at hx
    · exact hx
    · rw [Option.bind_eq_some_iff] at hx ⊢
      obtain ⟨fv, hf, hx⟩ := hx
      refine ⟨fv, hf, ?_⟩
      split at hx
      · exact xcall_le h hx
      · cases hx
    · cases hx
  | makeMap t y => cases y <;> simp only [xop0, ho, ev_le h] at hx ⊢ <;> exact hx
  | next x b => cases b <;> simp only [xop0, ho, ev_le h] at hx ⊢ <;> exact hx
  | _ => (simp only [xop0, ho, ev_le h] at hx ⊢; exact hx)
theorem kopx_le (h : E.le E') {kx : KX} {r : R} (hx : kopx E tm st i0 kx = some (some r)) : kopx E' tm st i0 kx = some (some r) := by
  cases kx with
  | pl f as =>
    simp only [kopx] at hx ⊢
    split at hx
    · rename_i hc
      rw [if_pos hc]
      have h2 := Option.some.inj hx
      congr 1
      rw [Option.bind_eq_some_iff] at h2 ⊢
      obtain ⟨p, hp, h2⟩ := h2
      refine ⟨p, hp, ?_⟩
      split at h2
      · rename_i y he; rw [h.pl _ _ _ he]; exact h2
      · cases h2
    · cases hx
  | _ => exact hx
theorem kopx_le0 {kx : KX} (hx : kopx E tm st i0 kx = none) : kopx E' tm st i0 kx = none := by
  cases kx with
  | pl f as =>
    simp only [kopx] at hx ⊢
    split at hx
    · cases hx
    · rename_i hc; rw [if_neg hc]
  | _ => exact hx
theorem yop_le (h : E.le E') {r : R} (hx : yop P E tm st i0 o = some (some r)) : yop P E' tm st i0 o = some (some r) := by
  unfold yop at hx ⊢
  rw [h.md, h.hm, h.gl]
  split at hx
  · cases hx
  · rename_i hm
    rw [if_neg hm]
    rw [Option.bind_eq_some_iff] at hx ⊢
    obtain ⟨kx, hk, hx⟩ := hx
    exact ⟨kx, hk, kopx_le h hx⟩
theorem yop_le0 (hm : E'.hm = E.hm) (hg : E'.gl = E.gl) (hmd : E'.md = E.md) (hx : yop P E tm st i0 o = none) : yop P E' tm st i0 o = none := by
  unfold yop at hx ⊢
  rw [hmd, hm, hg]
  split at hx
  · rename_i hm; rw [if_pos hm]
  · rename_i hm
    rw [if_neg hm]
    cases hc : ckx P E.hm E.gl o.op with
    | none => rfl
    | some kx =>
      rw [hc] at hx
      exact kopx_le0 hx
theorem xop_le (h : E.le E') {r : R} (hx : xop P E tm st i0 nx o = some r) : xop P E' tm st i0 nx o = some r := by
  unfold xop at hx ⊢
  split at hx
  · rename_i q hq
    subst hx
    rw [yop_le h hq]
  · rename_i hq
    rw [yop_le0 h.hm h.gl h.md hq]
    exact xop0_le h hx
theorem xops_le (h : E.le E') : ∀ {rest : List Oper} {i : Nat} {n0 : Nat} {tm : Nat → V} {st : St} {nx : Nat} {rr : RR}, xops P E ops N n0 i rest tm st nx = some rr → xops P E' ops N n0 i rest tm st nx = some rr
  | [], _, _, _, _, _, _, hx => hx
  | o :: rest, i, n0, tm, st, nx, rr, hx => by
    unfold xops at hx ⊢
    split at hx
    · rename_i hd
      rw [if_pos hd]
      split at hx <;> rename_i hw
      · split at hx <;> rename_i ho
        · rw [xop_le h ho]
          dsimp only
          split at hx <;> rename_i hr
          · rw [xops_le h hr]; exact hx
          · rw [xops_le h hx]
            split
            · rename_i hq; obtain rfl := Option.some.inj hq; exact absurd hx (hr _ _ _ _)
            · rfl
        · rw [xop_le h ho]
          dsimp only
          split at hx <;> rename_i hr
          · rw [xops_le h hr]; exact hx
          · rw [xops_le h hx]
            split
            · rename_i hq; obtain rfl := Option.some.inj hq; exact absurd hx (hr _ _ _ _)
            · rfl
        · rw [xop_le h ho]; exact hx
        · rw [xop_le h ho]; exact hx
        · cases hx
      · split at hx <;> rename_i hr
        · rw [xops_le h hr]; exact hx
        · rw [xops_le h hx]
          split
          · rename_i hq; obtain rfl := Option.some.inj hq; exact absurd hx (hr _ _ _ _)
          · rfl
      · cases hx
    · cases hx
theorem PanAt_le (h : E.le E') {fr : Fr} {v : V} {st : St} {nx : Nat} (hx : PanAt P E N ops fr v st nx) : PanAt P E' N ops fr v st nx := by
  obtain ⟨i, o, tm, s, n, recs, e1, e2, e3, e4, e5, e6⟩ := hx
  refine ⟨i, o, tm, s, n, recs, e1, e2, xops_le h e3, e4, ?_, e6⟩
  rcases e5 with e5 | ⟨e5, e7⟩
  · exact .inl (xop_le h e5)
  · exact .inr ⟨xop_le h e5, e7⟩
theorem xregion_le (h : E.le E') {draw : Bool} {fr : Fr} {res : Ex × Fr} (hx : xregion P E N ops draw fr = some res) : xregion P E' N ops draw fr = some res := by
  unfold xregion at hx ⊢
  split at hx <;> rename_i hr
  · rw [xops_le h hr]; exact hx
  · rw [xops_le h hr]
    simp only at hx ⊢
    split at hx
    · rename_i hd
      rw [if_pos hd]
      split at hx
      · rename_i hp
        rw [if_pos (PanAt_le h hp)]; exact hx
      · cases hx
    · rename_i hd
      rw [if_neg hd]; exact hx
  · cases hx
theorem iter_le {f g : Fr → Option (Ex × Fr)} (h : ∀ fr r, f fr = some r → g fr = some r) : ∀ {k k' : Nat} {fr : Fr} {r : Ex × Fr}, k ≤ k' → iter f k fr = some r → iter g k' fr = some r
  | 0, _, _, _, _, hx => by simp [iter] at hx
  | k + 1, 0, _, _, hk, _ => by omega
  | k + 1, k' + 1, fr, r, hk, hx => by
    unfold iter at hx ⊢
    split at hx <;> rename_i hr
    · rw [h _ _ hr]; exact iter_le h (by omega) hx
    · rw [h _ _ hx]
      split
      · rename_i hq; obtain rfl := Option.some.inj hq; exact absurd hx (hr _)
      · rfl
theorem xcode_le (h : E.le E') (hk : k ≤ k') : ∀ (c : Code) {fr : Fr} {res : Ex × Fr}, xcode P E N k c fr = some res → xcode P E' N k' c fr = some res := by
  intro c
  induction c with
  | region id ops draw => intro fr res hx; exact xregion_le h (by simpa only [xcode] using hx)
  | seq x y ihx ihy =>
    intro fr res hx
    simp only [xcode] at hx ⊢
    split at hx <;> rename_i hr
    · rw [ihx hr]; exact ihy hx
    · rw [ihx hx]
      split
      · rename_i hq; obtain rfl := Option.some.inj hq; exact absurd hx (hr _)
      · rfl
  | cond c x y ihx ihy =>
    intro fr res hx
    simp only [xcode, ev_le h] at hx ⊢
    split at hx <;> rename_i hr
    · rename_i b
      cases b
      · exact ihy hx
      · exact ihx hx
    · cases hx
  | block id b ih =>
    intro fr res hx
    simp only [xcode] at hx ⊢
    split at hx <;> rename_i hr
    · rw [ih hr]; exact hx
    · rw [ih hx]
      split
      · rename_i hq; obtain rfl := Option.some.inj hq; exact absurd hx (hr _ _)
      · rfl
  | loop b ih =>
    intro fr res hx
    simp only [xcode] at hx ⊢
    exact iter_le (fun fr r => ih) hk hx
  | _ => intro fr res hx; first | (simp only [xcode] at hx ⊢; exact hx) | simp [xcode] at hx
theorem xrun0_le (h : E.le E') (hk : k ≤ k') {fn : Func} {as : List V} {r : HR} (hx : xrun0 P E k fn as st nx = some r) : xrun0 P E' k' fn as st nx = some r := by
  unfold xrun0 at hx ⊢
  split at hx
  · cases hx
  · split at hx <;> rename_i hr
    · simp only [xcode_le h hk _ hr]; exact hx
    · simp only [xcode_le h hk _ hr]; exact hx
    · simp only [xcode_le h hk _ hr]; exact hx
    · cases hx
theorem xclos_le (h : E.le E') (hk : k ≤ k') {g : FuncId} {cs : List V} {rv : V} {fr : Fr} (hx : xclos P E k g cs rv st nx = some fr) : xclos P E' k' g cs rv st nx = some fr := by
  unfold xclos at hx ⊢
  split at hx
  · rename_i hn
    rw [if_pos hn]
    rw [Option.bind_eq_some_iff] at hx ⊢
    obtain ⟨fn, hfn, hx⟩ := hx
    refine ⟨fn, hfn, ?_⟩
    rw [Option.bind_eq_some_iff] at hx ⊢
    obtain ⟨q, hq, hx⟩ := hx
    refine ⟨q, hq, ?_⟩
    split at hx
    · rename_i hc
      rw [if_pos hc]
      rw [Option.bind_eq_some_iff] at hx ⊢
      obtain ⟨tv, ht, hx⟩ := hx
      refine ⟨tv, ht, ?_⟩
      split at hx
      · rename_i tm st' nx' recs hr
        simp only [xops_le h hr]
        split at hx
        · rename_i hr2; simp only [xcode_le h hk _ hr2]; exact hx
        · rename_i hr2; simp only [xcode_le h hk _ hr2]; exact hx
        · cases hx
      · cases hx
    · cases hx
  · cases hx
theorem xrunD_le (h : E.le E') (hk : k ≤ k') {fn : Func} {q : Code × FuncId × List Operand × Tmp × Oper × Oper × Array Oper × Code} {as : List V} {r : HR} (hx : xrunD P E k fn q as st nx = some r) : xrunD P E' k' fn q as st nx = some r := by
  unfold xrunD at hx ⊢
  split at hx
  · rename_i fr1 hr1
    simp only [xcode_le h hk _ hr1]
    split at hx
    · rename_i hc
      rw [if_pos hc]
      rw [Option.bind_eq_some_iff] at hx ⊢
      obtain ⟨cs, hcs, hx⟩ := hx
      refine ⟨cs, by rw [ev_le h]; exact hcs, ?_⟩
      split at hx
      · rename_i fr hr2
        simp only [xcode_le h hk _ hr2]
        rw [Option.bind_eq_some_iff] at hx ⊢
        obtain ⟨fr', hc', hx⟩ := hx
        exact ⟨fr', xclos_le h hk hc', hx⟩
      · rename_i fr hr2
        simp only [xcode_le h hk _ hr2]
        rw [Option.bind_eq_some_iff] at hx ⊢
        obtain ⟨fr', hc', hx⟩ := hx
        exact ⟨fr', xclos_le h hk hc', hx⟩
      · rename_i v fr hr2
        simp only [xcode_le h hk _ hr2]
        split at hx
        · rw [Option.bind_eq_some_iff] at hx ⊢
          obtain ⟨fr', hc', hx⟩ := hx
          exact ⟨fr', xclos_le h hk hc', hx⟩
        · cases hx
      · cases hx
    · cases hx
  · cases hx
theorem xrun_le (h : E.le E') (hk : k ≤ k') {fn : Func} {as : List V} {r : HR} (hx : xrun P E k fn as st nx = some r) : xrun P E' k' fn as st nx = some r := by
  unfold xrun at hx ⊢
  split at hx
  · exact xrun0_le h hk hx
  · exact xrunD_le h hk hx
theorem xplain_le (h : E.le E') (hk : k ≤ k') {fn : Func} {as : List V} {r : CR} (hx : xplain P E k fn as = some r) : xplain P E' k' fn as = some r := by
  unfold xplain at hx ⊢
  split at hx <;> rename_i hr
  · rw [xrun_le h hk hr]; simp only [finE, h.md] at hx ⊢; exact hx
  · rw [xrun_le h hk hr]; exact hx
  · cases hx
end
section
variable (P : Program) (ext : Exts) (hm : FuncId → Nat) (gl : Nat → Option V)
theorem env_step : ∀ n, (env P ext hm gl n).le (env P ext hm gl (n + 1))
  | 0 => by
    refine ⟨rfl, rfl, fun f as r hx => ?_, fun f as st nx r hx => ?_, rfl⟩
    · simp only [env, Option.bind_eq_some_iff] at hx ⊢
      obtain ⟨g, hg, hx⟩ := hx
      simp only [hg]; exact hx
    · simp only [env, Option.bind_eq_some_iff] at hx ⊢
      obtain ⟨g, hg, hx⟩ := hx
      simp only [hg]; exact hx
  | n + 1 => by
    have ih := env_step n
    refine ⟨rfl, rfl, fun f as r hx => ?_, fun f as st nx r hx => ?_, rfl⟩
    · rw [env] at hx ⊢
      dsimp only at hx ⊢
      split at hx
      · exact hx
      · rw [Option.bind_eq_some_iff] at hx ⊢
        obtain ⟨fn, hf, hx⟩ := hx
        exact ⟨fn, hf, xplain_le (ih.at _) (by omega) hx⟩
    · rw [env] at hx ⊢
      dsimp only at hx ⊢
      split at hx
      · exact hx
      · rw [Option.bind_eq_some_iff] at hx ⊢
        obtain ⟨fn, hf, hx⟩ := hx
        refine ⟨fn, hf, ?_⟩
        split at hx
        · rename_i h5
          rw [if_pos h5]
          rw [Option.bind_eq_some_iff] at hx ⊢
          obtain ⟨p, hp, hx⟩ := hx
          exact ⟨p, hp, xrun_le (ih.at _) (by omega) hx⟩
        · rename_i h5
          rw [if_neg h5]
          exact xrun_le (ih.at _) (by omega) hx
theorem Env.le.refl (E : Env) : E.le E := ⟨rfl, rfl, fun _ _ _ h => h, fun _ _ _ _ _ h => h, rfl⟩
theorem Env.le.trans {E E' E'' : Env} (h : E.le E') (k : E'.le E'') : E.le E'' := ⟨k.hm.trans h.hm, k.gl.trans h.gl, fun f as r q => k.pl f as r (h.pl f as r q), fun f as st nx r q => k.hp f as st nx r (h.hp f as st nx r q), k.md.trans h.md⟩
theorem env_le {n m : Nat} (h : n ≤ m) : (env P ext hm gl n).le (env P ext hm gl m) := by
  induction m with
  | zero => have : n = 0 := by omega
            subst this; exact .refl _
  | succ m ih =>
    rcases Nat.lt_or_ge n (m + 1) with h1 | h1
    · exact (ih (by omega)).trans (env_step P ext hm gl m)
    · have : n = m + 1 := by omega
      subst this; exact .refl _
open Classical in
/-- All numbers of rounds at once. -/
noncomputable def lim : Env :=
  ⟨fun f as => if h : ∃ r n, (env P ext hm gl n).pl f as = some r then some (Classical.choose h) else none,
   fun f as st nx => if h : ∃ r n, (env P ext hm gl n).hp f as st nx = some r then some (Classical.choose h) else none, hm, gl, 0⟩
theorem lim_pl {f : FuncId} {as : List V} {r : CR} : (lim P ext hm gl).pl f as = some r ↔ ∃ n, (env P ext hm gl n).pl f as = some r := by
  have uniq : ∀ {r r' : CR} {n n' : Nat}, (env P ext hm gl n).pl f as = some r → (env P ext hm gl n').pl f as = some r' → r = r' := fun {r r' n n'} h1 h2 => by
    have h3 := (env_le P ext hm gl (Nat.le_max_left n n')).pl _ _ _ h1
    have h4 := (env_le P ext hm gl (Nat.le_max_right n n')).pl _ _ _ h2
    rw [h3] at h4; exact Option.some.inj h4
  simp only [lim]
  constructor
  · intro h
    split at h
    · rename_i hh
      obtain rfl := Option.some.inj h
      exact Classical.choose_spec hh
    · cases h
  · rintro ⟨n, hn⟩
    have hh : ∃ r n, (env P ext hm gl n).pl f as = some r := ⟨r, n, hn⟩
    rw [dif_pos hh]
    obtain ⟨m, hm'⟩ := Classical.choose_spec hh
    rw [uniq hm' hn]
theorem lim_hp {f : FuncId} {as : List V} {st : St} {nx : Nat} {r : HR} : (lim P ext hm gl).hp f as st nx = some r ↔ ∃ n, (env P ext hm gl n).hp f as st nx = some r := by
  have uniq : ∀ {r r' : HR} {n n' : Nat}, (env P ext hm gl n).hp f as st nx = some r → (env P ext hm gl n').hp f as st nx = some r' → r = r' := fun {r r' n n'} h1 h2 => by
    have h3 := (env_le P ext hm gl (Nat.le_max_left n n')).hp _ _ _ _ _ h1
    have h4 := (env_le P ext hm gl (Nat.le_max_right n n')).hp _ _ _ _ _ h2
    rw [h3] at h4; exact Option.some.inj h4
  simp only [lim]
  constructor
  · intro h
    split at h
    · rename_i hh
      obtain rfl := Option.some.inj h
      exact Classical.choose_spec hh
    · cases h
  · rintro ⟨n, hn⟩
    have hh : ∃ r n, (env P ext hm gl n).hp f as st nx = some r := ⟨r, n, hn⟩
    rw [dif_pos hh]
    obtain ⟨m, hm'⟩ := Classical.choose_spec hh
    rw [uniq hm' hn]
end
end Go.Proofs.YtkbheoganajhaaaDoor.Vm
set_option linter.unusedVariables false
set_option linter.unusedSimpArgs false
namespace Go.Proofs.YtkbheoganajhaaaDoor.Vm
open Go.RowKit
section
variable {P : Program} {ext : Exts} {hm : FuncId → Nat} {gl : Nat → Option V} {tm : Nat → V} {st : St} {i0 nx N k m0 : Nat} {o : Oper} {ops : Array Oper}
theorem ev_lim (m0 n : Nat) : ev ((env P ext hm gl n).at m0) tm = ev ((lim P ext hm gl).at m0) tm := by
  have h : ((env P ext hm gl n).at m0).gl = ((lim P ext hm gl).at m0).gl := by show (env P ext hm gl n).gl = gl; rw [env_gl]
  funext x; cases x <;> simp only [ev, h]
theorem env_hm (m0 n : Nat) : ((env P ext hm gl n).at m0).hm = hm := by cases n <;> rfl
theorem xcall_lim {f : FuncId} {as : List V} {r : R} (hx : xcall P ((lim P ext hm gl).at m0) i0 nx st f as = some r) : ∃ n, xcall P ((env P ext hm gl n).at m0) i0 nx st f as = some r := by
  unfold xcall at hx ⊢
  split at hx
  · rename_i hn; exact ⟨0, by rw [if_pos hn]; exact hx⟩
  · rename_i hn
    split at hx
    · rename_i hh
      have hh : isM (hm f) = true := hh
      split at hx <;> rename_i he
      · obtain ⟨n, hn'⟩ := (lim_hp P ext hm gl).1 he
        exact ⟨n, by rw [if_neg hn, env_hm, if_pos hh, show ((env P ext hm gl n).at m0).hp = (env P ext hm gl n).hp from rfl, hn']; exact hx⟩
      · obtain ⟨n, hn'⟩ := (lim_hp P ext hm gl).1 he
        exact ⟨n, by rw [if_neg hn, env_hm, if_pos hh, show ((env P ext hm gl n).at m0).hp = (env P ext hm gl n).hp from rfl, hn']; exact hx⟩
      · cases hx
    · rename_i hh
      have hh : ¬ isM (hm f) = true := hh
      rw [Option.bind_eq_some_iff] at hx
      obtain ⟨bs, hb, hx⟩ := hx
      split at hx <;> rename_i he
      · obtain ⟨n, hn'⟩ := (lim_pl P ext hm gl).1 he
        exact ⟨n, by rw [if_neg hn, env_hm, if_neg hh, hb, show ((env P ext hm gl n).at m0).pl = (env P ext hm gl n).pl from rfl]; simp only [Option.bind_some, hn']; exact hx⟩
      · obtain ⟨n, hn'⟩ := (lim_pl P ext hm gl).1 he
        exact ⟨n, by rw [if_neg hn, env_hm, if_neg hh, hb, show ((env P ext hm gl n).at m0).pl = (env P ext hm gl n).pl from rfl]; simp only [Option.bind_some, hn']; exact hx⟩
      · cases hx
theorem xop0_lim {r : R} (hx : xop0 P ((lim P ext hm gl).at m0) tm st i0 nx o = some r) : ∃ n, xop0 P ((env P ext hm gl n).at m0) tm st i0 nx o = some r := by
  cases ho : o.op with
  | call c =>
    simp only [xop0, ho, Option.bind_eq_some_iff] at hx
    obtain ⟨args, ha, hx⟩ := hx
    cases hc : c.callee with
    | builtin b =>
      simp only [hc] at hx
      exact ⟨0, by simp only [xop0, ho, ev_lim, ha, hc, Option.bind_some]; exact hx⟩
    | value f =>
      simp only [hc, Option.bind_eq_some_iff] at hx
      obtain ⟨fv, hf, hx⟩ := hx
      split at hx
      · obtain ⟨n, hn⟩ := xcall_lim hx
        exact ⟨n, by simp only [xop0, ho, ev_lim, ha, hc, hf, Option.bind_some]; exact hn⟩
      · cases hx
    | invoke a b => simp only [hc] at hx; cases hx
  | makeMap t y => refine ⟨0, ?_⟩; cases y <;> simp only [xop0, ho, ev_lim] at hx ⊢ <;> exact hx
  | next x b => refine ⟨0, ?_⟩; cases b <;> simp only [xop0, ho, ev_lim] at hx ⊢ <;> exact hx
  | _ => (refine ⟨0, ?_⟩; simp only [xop0, ho, ev_lim] at hx ⊢; exact hx)
theorem kopx_lim {kx : KX} {r : R} (hx : kopx ((lim P ext hm gl).at m0) tm st i0 kx = some (some r)) : ∃ n, kopx ((env P ext hm gl n).at m0) tm st i0 kx = some (some r) := by
  cases kx with
  | pl f as =>
    simp only [kopx] at hx ⊢
    split at hx
    · rename_i hc
      have h2 := Option.some.inj hx
      rw [Option.bind_eq_some_iff] at h2
      obtain ⟨p, hp, h2⟩ := h2
      split at h2
      · rename_i y he
        obtain ⟨n, hn⟩ := (lim_pl P ext hm gl).1 he
        refine ⟨n, ?_⟩
        rw [if_pos hc, hp, show ((env P ext hm gl n).at m0).pl = (env P ext hm gl n).pl from rfl]
        simp only [Option.bind_some, hn]
        rw [h2]
      · cases h2
    · cases hx
  | _ => exact ⟨0, hx⟩
theorem xop_lim {r : R} (hx : xop P ((lim P ext hm gl).at m0) tm st i0 nx o = some r) : ∃ n, xop P ((env P ext hm gl n).at m0) tm st i0 nx o = some r := by
  have hgl : ∀ n, ((env P ext hm gl n).at m0).gl = ((lim P ext hm gl).at m0).gl := fun n => by show (env P ext hm gl n).gl = gl; rw [env_gl]
  unfold xop at hx ⊢
  split at hx
  · rename_i q hq
    subst hx
    unfold yop at hq
    split at hq
    · cases hq
    · rename_i hm0
      rw [Option.bind_eq_some_iff] at hq
      obtain ⟨kx, hk, hq⟩ := hq
      obtain ⟨n, hn⟩ := kopx_lim hq
      refine ⟨n, ?_⟩
      have : yop P ((env P ext hm gl n).at m0) tm st i0 o = some (some r) := by
        unfold yop
        rw [if_neg (show ¬ ((env P ext hm gl n).at m0).md < 1 from hm0), env_hm, hgl n]
        rw [Option.bind_eq_some_iff]
        exact ⟨kx, hk, hn⟩
      rw [this]
  · rename_i hq
    obtain ⟨n, hn⟩ := xop0_lim hx
    refine ⟨n, ?_⟩
    rw [yop_le0 (E' := (env P ext hm gl n).at m0) (by rw [env_hm]; rfl) (hgl n) rfl hq]
    exact hn
theorem both {n m n0 i1 nx1 : Nat} {rest : List Oper} {tm1 : Nat → V} {st1 : St} {r : R} {rr : RR} (h : xop P ((env P ext hm gl n).at m0) tm st i0 nx o = some r) (h' : xops P ((env P ext hm gl m).at m0) ops N n0 i1 rest tm1 st1 nx1 = some rr) :
    ∃ q, xop P ((env P ext hm gl q).at m0) tm st i0 nx o = some r ∧ xops P ((env P ext hm gl q).at m0) ops N n0 i1 rest tm1 st1 nx1 = some rr :=
  ⟨max n m, xop_le ((env_le P ext hm gl (Nat.le_max_left n m)).at m0) h, xops_le ((env_le P ext hm gl (Nat.le_max_right n m)).at m0) h'⟩
theorem xops_lim : ∀ {rest : List Oper} {i : Nat} {n0 : Nat} {tm : Nat → V} {st : St} {nx : Nat} {rr : RR}, xops P ((lim P ext hm gl).at m0) ops N n0 i rest tm st nx = some rr → ∃ n, xops P ((env P ext hm gl n).at m0) ops N n0 i rest tm st nx = some rr
  | [], _, _, _, _, _, _, hx => ⟨0, hx⟩
  | o :: rest, i, n0, tm, st, nx, rr, hx => by
    unfold xops at hx
    split at hx
    · rename_i hd
      split at hx <;> rename_i hw
      · split at hx <;> rename_i ho
        · obtain ⟨n, hn⟩ := xop_lim ho
          split at hx <;> rename_i hr
          · obtain ⟨m', hm'⟩ := xops_lim hr
            obtain ⟨m, h1, h2⟩ := both hn hm'
            exact ⟨m, by unfold xops; simp only [hd, if_true, hw, h1, h2]; exact hx⟩
          · obtain ⟨m', hm'⟩ := xops_lim hx
            obtain ⟨m, h1, h2⟩ := both hn hm'
            refine ⟨m, ?_⟩
            unfold xops
            simp only [hd, if_true, hw, h1, h2]
            split
            · rename_i hq; obtain rfl := Option.some.inj hq; exact absurd hx (hr _ _ _ _)
            · rfl
        · obtain ⟨n, hn⟩ := xop_lim ho
          split at hx <;> rename_i hr
          · obtain ⟨m', hm'⟩ := xops_lim hr
            obtain ⟨m, h1, h2⟩ := both hn hm'
            exact ⟨m, by unfold xops; simp only [hd, if_true, hw, h1, h2]; exact hx⟩
          · obtain ⟨m', hm'⟩ := xops_lim hx
            obtain ⟨m, h1, h2⟩ := both hn hm'
            refine ⟨m, ?_⟩
            unfold xops
            simp only [hd, if_true, hw, h1, h2]
            split
            · rename_i hq; obtain rfl := Option.some.inj hq; exact absurd hx (hr _ _ _ _)
            · rfl
        · obtain ⟨n, hn⟩ := xop_lim ho
          exact ⟨n, by unfold xops; simp only [hd, if_true, hw, hn]; exact hx⟩
        · obtain ⟨n, hn⟩ := xop_lim ho
          exact ⟨n, by unfold xops; simp only [hd, if_true, hw, hn]; exact hx⟩
        · cases hx
      · split at hx <;> rename_i hr
        · obtain ⟨m, h2⟩ := xops_lim hr
          exact ⟨m, by unfold xops; simp only [hd, if_true, hw, h2]; exact hx⟩
        · obtain ⟨m, h2⟩ := xops_lim hx
          refine ⟨m, ?_⟩
          unfold xops
          simp only [hd, if_true, hw, h2]
          split
          · rename_i hq; obtain rfl := Option.some.inj hq; exact absurd hx (hr _ _ _ _)
          · rfl
      · cases hx
    · cases hx
theorem PanAt_lim {fr : Fr} {v : V} {st : St} {nx : Nat} (hx : PanAt P ((lim P ext hm gl).at m0) N ops fr v st nx) : ∃ n, PanAt P ((env P ext hm gl n).at m0) N ops fr v st nx := by
  obtain ⟨i, o, tm, s, n, recs, e1, e2, e3, e4, e5, e6⟩ := hx
  obtain ⟨a, ha⟩ := xops_lim e3
  rcases e5 with e5 | ⟨e5, e7⟩
  · obtain ⟨b, hb⟩ := xop_lim e5
    exact ⟨max a b, i, o, tm, s, n, recs, e1, e2, xops_le ((env_le P ext hm gl (Nat.le_max_left a b)).at m0) ha, e4, .inl (xop_le ((env_le P ext hm gl (Nat.le_max_right a b)).at m0) hb), e6⟩
  · obtain ⟨b, hb⟩ := xop_lim e5
    exact ⟨max a b, i, o, tm, s, n, recs, e1, e2, xops_le ((env_le P ext hm gl (Nat.le_max_left a b)).at m0) ha, e4, .inr ⟨xop_le ((env_le P ext hm gl (Nat.le_max_right a b)).at m0) hb, e7⟩, e6⟩
theorem xregion_lim {draw : Bool} {fr : Fr} {res : Ex × Fr} (hx : xregion P ((lim P ext hm gl).at m0) N ops draw fr = some res) : ∃ n, xregion P ((env P ext hm gl n).at m0) N ops draw fr = some res := by
  unfold xregion at hx
  split at hx <;> rename_i hr
  · obtain ⟨n, hn⟩ := xops_lim hr
    exact ⟨n, by unfold xregion; rw [hn]; exact hx⟩
  · obtain ⟨n, hn⟩ := xops_lim hr
    split at hx
    · rename_i hd
      split at hx
      · rename_i hp
        obtain ⟨m, hm'⟩ := PanAt_lim hp
        exact ⟨max n m, by unfold xregion; rw [xops_le ((env_le P ext hm gl (Nat.le_max_left n m)).at m0) hn]; simp only; rw [if_pos hd, if_pos (PanAt_le ((env_le P ext hm gl (Nat.le_max_right n m)).at m0) hm')]; exact hx⟩
      · cases hx
    · rename_i hd
      exact ⟨n, by unfold xregion; rw [hn]; simp only; rw [if_neg hd]; exact hx⟩
  · cases hx
theorem iter_lim {c : Code} (h : ∀ fr r, xcode P ((lim P ext hm gl).at m0) N k c fr = some r → ∃ n, xcode P ((env P ext hm gl n).at m0) N k c fr = some r) : ∀ {j : Nat} {fr : Fr} {r : Ex × Fr}, iter (xcode P ((lim P ext hm gl).at m0) N k c) j fr = some r → ∃ n, iter (xcode P ((env P ext hm gl n).at m0) N k c) j fr = some r
  | 0, _, _, hx => by simp [iter] at hx
  | j + 1, fr, r, hx => by
    unfold iter at hx
    split at hx <;> rename_i hr
    · obtain ⟨n, hn⟩ := h _ _ hr
      obtain ⟨m, hm'⟩ := iter_lim h hx
      refine ⟨max n m, ?_⟩
      unfold iter
      rw [xcode_le ((env_le P ext hm gl (Nat.le_max_left n m)).at m0) (Nat.le_refl _) _ hn]
      exact iter_le (fun fr r q => xcode_le ((env_le P ext hm gl (Nat.le_max_right n m)).at m0) (Nat.le_refl _) _ q) (Nat.le_refl _) hm'
    · obtain ⟨n, hn⟩ := h _ _ hx
      refine ⟨n, ?_⟩
      unfold iter
      rw [hn]
      split
      · rename_i hq; obtain rfl := Option.some.inj hq; exact absurd hx (hr _)
      · rfl
theorem xcode_lim : ∀ (c : Code) {fr : Fr} {res : Ex × Fr}, xcode P ((lim P ext hm gl).at m0) N k c fr = some res → ∃ n, xcode P ((env P ext hm gl n).at m0) N k c fr = some res := by
  intro c
  induction c with
  | region id ops draw => intro fr res hx; simp only [xcode] at hx ⊢; exact xregion_lim hx
  | seq x y ihx ihy =>
    intro fr res hx
    simp only [xcode] at hx
    split at hx <;> rename_i hr
    · obtain ⟨n, hn⟩ := ihx hr
      obtain ⟨m, hm'⟩ := ihy hx
      refine ⟨max n m, ?_⟩
      simp only [xcode, xcode_le ((env_le P ext hm gl (Nat.le_max_left n m)).at m0) (Nat.le_refl _) _ hn]
      exact xcode_le ((env_le P ext hm gl (Nat.le_max_right n m)).at m0) (Nat.le_refl _) _ hm'
    · obtain ⟨n, hn⟩ := ihx hx
      refine ⟨n, ?_⟩
      simp only [xcode, hn]
      split
      · rename_i hq; obtain rfl := Option.some.inj hq; exact absurd hx (hr _)
      · rfl
  | cond c x y ihx ihy =>
    intro fr res hx
    simp only [xcode] at hx
    split at hx <;> rename_i hr
    · rename_i b
      cases b
      · obtain ⟨n, hn⟩ := ihy hx; exact ⟨n, by simp only [xcode, ev_lim, hr]; exact hn⟩
      · obtain ⟨n, hn⟩ := ihx hx; exact ⟨n, by simp only [xcode, ev_lim, hr]; exact hn⟩
    · cases hx
  | block id b ih =>
    intro fr res hx
    simp only [xcode] at hx
    split at hx <;> rename_i hr
    · obtain ⟨n, hn⟩ := ih hr; exact ⟨n, by simp only [xcode, hn]; exact hx⟩
    · obtain ⟨n, hn⟩ := ih hx
      refine ⟨n, ?_⟩
      simp only [xcode, hn]
      split
      · rename_i hq; obtain rfl := Option.some.inj hq; exact absurd hx (hr _ _)
      · rfl
  | loop b ih =>
    intro fr res hx
    simp only [xcode] at hx ⊢
    exact iter_lim (fun fr r => ih) hx
  | _ => intro fr res hx; first | (exact ⟨0, by simp only [xcode] at hx ⊢; exact hx⟩) | (simp [xcode] at hx)
theorem xrun0_lim {fn : Func} {as : List V} {r : HR} (hx : xrun0 P ((lim P ext hm gl).at m0) k fn as st nx = some r) : ∃ n, xrun0 P ((env P ext hm gl n).at m0) k fn as st nx = some r := by
  unfold xrun0 at hx ⊢
  split at hx
  · cases hx
  · split at hx <;> rename_i hr
    · obtain ⟨n, hn⟩ := xcode_lim _ hr; exact ⟨n, by simp only [hn]; exact hx⟩
    · obtain ⟨n, hn⟩ := xcode_lim _ hr; exact ⟨n, by simp only [hn]; exact hx⟩
    · obtain ⟨n, hn⟩ := xcode_lim _ hr; exact ⟨n, by simp only [hn]; exact hx⟩
    · cases hx
theorem up1 {n m : Nat} (h : n ≤ m) {c : Code} {fr : Fr} {res : Ex × Fr} (hx : xcode P ((env P ext hm gl n).at m0) N k c fr = some res) : xcode P ((env P ext hm gl m).at m0) N k c fr = some res := xcode_le ((env_le P ext hm gl h).at m0) (Nat.le_refl _) _ hx
theorem xclos_lim {g : FuncId} {cs : List V} {rv : V} {fr : Fr} (hx : xclos P ((lim P ext hm gl).at m0) k g cs rv st nx = some fr) : ∃ n, xclos P ((env P ext hm gl n).at m0) k g cs rv st nx = some fr := by
  unfold xclos at hx ⊢
  split at hx
  · rename_i hn
    simp only [hn, if_true]
    rw [Option.bind_eq_some_iff] at hx
    obtain ⟨fn, hfn, hx⟩ := hx
    simp only [hfn, Option.bind_some]
    rw [Option.bind_eq_some_iff] at hx
    obtain ⟨q, hq, hx⟩ := hx
    simp only [hq, Option.bind_some]
    split at hx
    · rename_i hc
      rw [Option.bind_eq_some_iff] at hx
      obtain ⟨tv, ht, hx⟩ := hx
      split at hx
      · rename_i tm st' nx' recs hr
        obtain ⟨n, hn'⟩ := xops_lim hr
        split at hx
        · rename_i hr2
          obtain ⟨m, hm'⟩ := xcode_lim _ hr2
          exact ⟨max n m, by rw [if_pos hc, ht]; simp only [Option.bind_some, xops_le ((env_le P ext hm gl (Nat.le_max_left n m)).at m0) hn', up1 (Nat.le_max_right n m) hm']; exact hx⟩
        · rename_i hr2
          obtain ⟨m, hm'⟩ := xcode_lim _ hr2
          exact ⟨max n m, by rw [if_pos hc, ht]; simp only [Option.bind_some, xops_le ((env_le P ext hm gl (Nat.le_max_left n m)).at m0) hn', up1 (Nat.le_max_right n m) hm']; exact hx⟩
        · cases hx
      · cases hx
    · cases hx
  · cases hx
theorem xrunD_lim {fn : Func} {q : Code × FuncId × List Operand × Tmp × Oper × Oper × Array Oper × Code} {as : List V} {r : HR} (hx : xrunD P ((lim P ext hm gl).at m0) k fn q as st nx = some r) : ∃ n, xrunD P ((env P ext hm gl n).at m0) k fn q as st nx = some r := by
  unfold xrunD at hx
  split at hx
  · rename_i fr1 hr1
    obtain ⟨n, hn1⟩ := xcode_lim _ hr1
    split at hx
    · rename_i hc
      rw [Option.bind_eq_some_iff] at hx
      obtain ⟨cs, hcs, hx⟩ := hx
      have hcs' : ∀ j, q.2.2.1.mapM (ev ((env P ext hm gl j).at m0) fr1.tm) = some cs := fun j => by rw [ev_lim]; exact hcs
      split at hx
      · rename_i fr hr2
        obtain ⟨m, hm2⟩ := xcode_lim _ hr2
        rw [Option.bind_eq_some_iff] at hx
        obtain ⟨fr', hc', hx⟩ := hx
        obtain ⟨l, hl⟩ := xclos_lim hc'
        refine ⟨max n (max m l), ?_⟩
        unfold xrunD
        simp only [up1 (by omega : n ≤ max n (max m l)) hn1, hc, if_true, hcs', Option.bind_some, up1 (by omega : m ≤ max n (max m l)) hm2, xclos_le ((env_le P ext hm gl (by omega : l ≤ max n (max m l))).at m0) (Nat.le_refl _) hl]
        exact hx
      · rename_i fr hr2
        obtain ⟨m, hm2⟩ := xcode_lim _ hr2
        rw [Option.bind_eq_some_iff] at hx
        obtain ⟨fr', hc', hx⟩ := hx
        obtain ⟨l, hl⟩ := xclos_lim hc'
        refine ⟨max n (max m l), ?_⟩
        unfold xrunD
        simp only [up1 (by omega : n ≤ max n (max m l)) hn1, hc, if_true, hcs', Option.bind_some, up1 (by omega : m ≤ max n (max m l)) hm2, xclos_le ((env_le P ext hm gl (by omega : l ≤ max n (max m l))).at m0) (Nat.le_refl _) hl]
        exact hx
      · rename_i v fr hr2
        obtain ⟨m, hm2⟩ := xcode_lim _ hr2
        split at hx
        · rw [Option.bind_eq_some_iff] at hx
          obtain ⟨fr', hc', hx⟩ := hx
          obtain ⟨l, hl⟩ := xclos_lim hc'
          refine ⟨max n (max m l), ?_⟩
          unfold xrunD
          simp only [up1 (by omega : n ≤ max n (max m l)) hn1, hc, if_true, hcs', Option.bind_some, up1 (by omega : m ≤ max n (max m l)) hm2, xclos_le ((env_le P ext hm gl (by omega : l ≤ max n (max m l))).at m0) (Nat.le_refl _) hl]
          exact hx
        · cases hx
      · cases hx
    · cases hx
  · cases hx
theorem xrun_lim {fn : Func} {as : List V} {r : HR} (hx : xrun P ((lim P ext hm gl).at m0) k fn as st nx = some r) : ∃ n, xrun P ((env P ext hm gl n).at m0) k fn as st nx = some r := by
  unfold xrun at hx ⊢
  split at hx
  · exact xrun0_lim hx
  · exact xrunD_lim hx
theorem xplain_lim {fn : Func} {as : List V} {r : CR} (hx : xplain P ((lim P ext hm gl).at m0) k fn as = some r) : ∃ n, xplain P ((env P ext hm gl n).at m0) k fn as = some r := by
  unfold xplain at hx ⊢
  split at hx <;> rename_i hr
  · obtain ⟨n, hn⟩ := xrun_lim hr; exact ⟨n, by simp only [hn]; exact hx⟩
  · obtain ⟨n, hn⟩ := xrun_lim hr; exact ⟨n, by simp only [hn]; exact hx⟩
  · cases hx
/-- A function on pure data, by its text. -/
theorem pl_intro {f : FuncId} {fn : Func} {as : List V} {r : CR} (k : Nat) (he : ext.pl f = none) (hf : P.funcs[f]? = some fn) (h : xplain P ((lim P ext hm gl).at (hm f / 2)) k fn as = some r) : (lim P ext hm gl).pl f as = some r := by
  obtain ⟨n, hn⟩ := xplain_lim h
  refine (lim_pl P ext hm gl).2 ⟨max n k + 1, ?_⟩
  rw [env]
  simp only [he, hf, Option.bind_some]
  exact xplain_le ((env_le P ext hm gl (Nat.le_max_left n k)).at _) (Nat.le_max_right n k) hn
/-- A function on memory, by its text. -/
theorem hp_intro {f : FuncId} {fn : Func} {as : List V} {r : HR} (k : Nat) (he : ext.hp f = none) (h5 : ¬ hm f = 5) (hf : P.funcs[f]? = some fn) (h : xrun P ((lim P ext hm gl).at (hm f / 2)) k fn as st nx = some r) : (lim P ext hm gl).hp f as st nx = some r := by
  obtain ⟨n, hn⟩ := xrun_lim h
  refine (lim_hp P ext hm gl).2 ⟨max n k + 1, ?_⟩
  rw [env]
  simp only [he, hf, Option.bind_some]
  rw [if_neg h5]
  exact xrun_le ((env_le P ext hm gl (Nat.le_max_left n k)).at _) (Nat.le_max_right n k) hn
/-- The same where the arguments are made pure first. -/
theorem hp_introz {f : FuncId} {fn : Func} {as : List V} {p : List V × List (Nat × Option Ob)} {r : HR} (k : Nat) (he : ext.hp f = none) (h5 : hm f = 5) (hp : frzH st as = some p) (hf : P.funcs[f]? = some fn) (h : xrun P ((lim P ext hm gl).at 0) k fn p.1 (upds p.2 st) nx = some r) : (lim P ext hm gl).hp f as st nx = some r := by
  obtain ⟨n, hn⟩ := xrun_lim h
  refine (lim_hp P ext hm gl).2 ⟨max n k + 1, ?_⟩
  rw [env]
  simp only [he, hf, Option.bind_some]
  rw [if_pos h5]
  simp only [hp, Option.bind_some]
  exact xrun_le ((env_le P ext hm gl (Nat.le_max_left n k)).at _) (Nat.le_max_right n k) hn
/-- A function that is known otherwise. -/
theorem pl_ext {f : FuncId} {g : List V → Option V} {as : List V} {y : V} (he : ext.pl f = some g) (h : g as = some y) : (lim P ext hm gl).pl f as = some (.ret y) := by
  refine (lim_pl P ext hm gl).2 ⟨0, ?_⟩
  rw [env]
  simp only [he, Option.bind_some, h, Option.map_some]
theorem hp_ext {f : FuncId} {g : List V → St → Nat → Option HR} {as : List V} {r : HR} (he : ext.hp f = some g) (h : g as st nx = some r) : (lim P ext hm gl).hp f as st nx = some r := by
  refine (lim_hp P ext hm gl).2 ⟨0, ?_⟩
  rw [env]
  simp only [he, Option.bind_some, h]
/-- Reckoned out. -/
theorem pl_calc {f : FuncId} {as : List V} {r : CR} (n : Nat) (h : (env P ext hm gl n).pl f as = some r) : (lim P ext hm gl).pl f as = some r := (lim_pl P ext hm gl).2 ⟨n, h⟩
theorem lim_bool (hP : ProgOK P) (hext : ExtOK P gl ext) {f : FuncId} (hf : nobody P f = false) {as : List V} {b : Bool} (hx : (lim P ext hm gl).pl f as = some (.ret (.sc (.bool b))))
    {p : Pr} {vs : List Value} {w : World} (hgl : GlOK P gl p) (hp : ∀ c o v, p c o = some v → w.cell? ⟨c, o, none⟩ = some v) (has : All2 (RepP P p) as vs) : Calls P f vs.toArray w fun e w' => e = .returned (.bool b) ∧ Below w.heap.size w w' := by
  obtain ⟨n, hn⟩ := (lim_pl P ext hm gl).1 hx
  exact calls_bool hP hext hf hn hgl hp has
end
end Go.Proofs.YtkbheoganajhaaaDoor.Vm
set_option linter.unusedVariables false
set_option linter.unusedSimpArgs false
namespace Go.Proofs.YtkbheoganajhaaaDoor.Vm
open Go.RowKit
/-! ### Operations whose types are looked up -/
inductive K where
  | mov (a : A)
  | pick (c a b : A)
  | new (cs : List V)
  | box (a : A)
  | build (pl : List (Nat × Nat)) (zc : List V) (ps : List (Nat × A))
  | mk (e s : Nat) (as : List A)
  | ld (s : Option Nat) (a : A)
  | sto (n : Nat) (a b : A)
  | nilc (a : A)
  | bin (b : Bool) (op : BinOp) (x y : A)
  | un (op : UnOp) (x : A)
  | fa (off : Nat) (a : A)
  | fld (s : Option Nat) (off : Nat) (a : A)
  | ixl (el : Nat) (a i : A)
  | ixa (n s : Nat) (a i : A)
  | ixs (a i : A)
  | b2s (e : Nat) (a : A)
  | s2b (e : Nat) (a : A)
  | i2i (k : IntKind) (a : A)
  | len (a : A)
  | lenS (a : A)
  | app (el by_ : Nat) (i : Bool) (a b : A)
  | sll (el : Nat) (a : A) (lo hi : Option A)
  | sls (a : A) (lo hi : Option A)
  | ext (a : A) (i : Nat)
  | min (a b : A)


  | no (f : FuncId) (as : List A)
  | pl (f : FuncId) (as : List A)
  | hp (f : FuncId) (as : List A)
  | dyn (f : A) (as : List A)
  | eqs (neg : Bool) (offs : List (Nat × Nat)) (a b : A)
  | isn (neg : Bool) (a : A)
  | rng (a : A)
  | nxt (a : A)
  | mkf (f : Fn) (as bs : List A)
  | mkm
  | lku (kd : Nat) (z : V) (ok : Bool) (a k : A)
  | mup (kd : Nat) (a k y : A)
  | ifc (t : TypeId) (a : A)
  | pan (a : A)
  | gen (op : Op) (ty : TypeId)
  | two (x : KX) (k : K)
structure KO where
  d : Option Nat
  g : Option (Nat × Bool)
  k : K
def kbin (op : BinOp) (x y : Value) : Option Value :=
  match op, x, y with
  | .shl, .int k a, .int _ b => if b < 0 then none else some (.int k (k.wrap (a * 2 ^ (Nat.min b.toNat k.bits))))
  | .shr, .int k a, .int _ b => if b < 0 then none else some (.int k (a.fdiv (2 ^ (Nat.min b.toNat k.bits))))
  | op, .int k a, .int k' b =>
    if k ≠ k' then none else
    match op with
    | .add => some (.int k (k.wrap (a + b)))
    | .sub => some (.int k (k.wrap (a - b)))
    | .mul => some (.int k (k.wrap (a * b)))
    | .quo => if b = 0 then none else some (.int k (k.wrap (a.tdiv b)))
    | .rem => if b = 0 then none else some (.int k (a.tmod b))
    | .and => some (.int k (k.wrap (BitVec.ofInt k.bits a &&& BitVec.ofInt k.bits b).toNat))
    | .or => some (.int k (k.wrap (BitVec.ofInt k.bits a ||| BitVec.ofInt k.bits b).toNat))
    | .xor => some (.int k (k.wrap (BitVec.ofInt k.bits a ^^^ BitVec.ofInt k.bits b).toNat))
    | .eql => some (.bool (decide (a = b)))
    | .neq => some (.bool (!decide (a = b)))
    | .lss => some (.bool (decide (a < b)))
    | .leq => some (.bool (decide (a ≤ b)))
    | .gtr => some (.bool (decide (b < a)))
    | .geq => some (.bool (decide (b ≤ a)))
    | _ => none
  | .eql, .string a, .string b => some (.bool (decide (a = b)))
  | .neq, .string a, .string b => some (.bool (!decide (a = b)))
  | .lss, .string a, .string b => some (.bool (Op.bytesLess a.data.toList b.data.toList))
  | .leq, .string a, .string b => some (.bool (Op.bytesLess a.data.toList b.data.toList || decide (a = b)))
  | .gtr, .string a, .string b => some (.bool !(Op.bytesLess a.data.toList b.data.toList || decide (a = b)))
  | .geq, .string a, .string b => some (.bool !(Op.bytesLess a.data.toList b.data.toList))
  | .add, .string a, .string b => if a.size + b.size ≤ 9223372036854775807 then some (.string (a ++ b)) else none
  | .eql, .bool a, .bool b => some (.bool (a == b))
  | .neq, .bool a, .bool b => some (.bool !(a == b))
  | _, _, _ => none
def isBool (P : Program) (t : TypeId) : Bool := match P.underlying t with | some .bool => true | _ => false
/-- Two truth values are compared at the type bool only; all else of K.bin asks no type. -/
def boolOk (P : Program) (op : BinOp) (t : TypeId) : Bool := isBool P t
theorem ba_inj {a b : ByteArray} (h : a.data.toList = b.data.toList) : a = b := by
  cases a with | mk a => cases b with | mk b => exact congrArg ByteArray.mk (Array.toList_inj.mp h)
theorem ba_tl (a b : ByteArray) : (a.toList == b.toList) = decide (a = b) := by
  rw [ByteArray.toList_eq, ByteArray.toList_eq]
  by_cases h : a = b
  · subst h; simp
  · have h2 : ¬ a.data.toList = b.data.toList := fun e => h (ba_inj e)
    rw [decide_eq_false h]; exact beq_eq_false_iff_ne.mpr h2
def plainV : Value → Bool
  | .int .. | .string _ | .bool _ => true
  | _ => false
theorem eqGuard_plain {op : BinOp} {t : TypeId} {x y : Operand} {u v : Value} (h : plainV u = true) : eqGuard op t x y u v = pure () := by
  cases op <;> cases u <;> simp [plainV] at h <;> rfl
theorem kbin_plain {op : BinOp} {u v z : Value} (h : kbin op u v = some z) : plainV u = true := by
  cases u <;> first | rfl | (exfalso; revert h; cases op <;> simp [kbin])
theorem reck_bind {P : Program} {α β : Type} {f : α → Sem β} : ∀ (s : Sem α) {a : α}, reck P s = some a → reck P (s >>= f) = reck P (f a)
  | .pure a, b, h => by simp only [reck, Option.some.injEq] at h; subst h; rfl
  | .program k, b, h => by simp only [reck] at h; show reck P (k P >>= f) = _; exact reck_bind _ h
  | .mark m k, b, h => by simp only [reck] at h; show reck P (k >>= f) = _; exact reck_bind _ h
  | .load .., _, h => by simp [reck] at h
  | .store .., _, h => by simp [reck] at h
  | .new .., _, h => by simp [reck] at h
  | .shape .., _, h => by simp [reck] at h
  | .freeze .., _, h => by simp [reck] at h
  | .frozen .., _, h => by simp [reck] at h
  | .getObj .., _, h => by simp [reck] at h
  | .setObj .., _, h => by simp [reck] at h
  | .choose .., _, h => by simp [reck] at h
  | .sys .., _, h => by simp [reck] at h
  | .halt .., _, h => by simp [reck] at h
theorem reck_underlying {P : Program} {t : TypeId} {d : TypeDesc} (hu : P.underlying t = some d) : reck P (underlying t) = some d := by
  show reck P (match P.underlying t with | some d => pure d | none => stuck "no such type") = _
  rw [hu]; rfl
theorem reck_eqIn (P : Program) {t : TypeId} (d : Nat) (hu : P.underlying t = some .bool) (a b : Bool) : reck P (Op.equalIn (d + 1) t (.bool a) (.bool b)) = some (a == b) := by
  simp only [Op.equalIn]
  rw [reck_bind _ (reck_underlying hu)]
  rfl
theorem reck_eqb {P : Program} {t : TypeId} (hu : P.underlying t = some .bool) {a b : Bool} : reck P (binOp .eql t (.bool a) (.bool b)) = some (.bool (a == b)) := by
  show reck P (Op.equal t (.bool a) (.bool b) >>= fun r => (pure (Value.bool r) : Sem Value)) = _
  rw [reck_bind _ (show reck P (Op.equal t (.bool a) (.bool b)) = some (a == b) from reck_eqIn P 9999 hu a b)]; rfl
theorem reck_neb {P : Program} {t : TypeId} (hu : P.underlying t = some .bool) {a b : Bool} : reck P (binOp .neq t (.bool a) (.bool b)) = some (.bool !(a == b)) := by
  show reck P (Op.equal t (.bool a) (.bool b) >>= fun r => (pure (Value.bool !r) : Sem Value)) = _
  rw [reck_bind _ (show reck P (Op.equal t (.bool a) (.bool b)) = some (a == b) from reck_eqIn P 9999 hu a b)]; rfl
theorem kbin_binOp (P : Program) {op : BinOp} {t : TypeId} {u v z : Value} (hb : (∀ b, u ≠ .bool b) ∨ isBool P t = true) (h : kbin op u v = some z) : reck P (binOp op t u v) = some z := by
  have hp := kbin_plain h
  cases u <;> simp only [plainV, Bool.false_eq_true] at hp
  · rename_i b
    rcases hb with hb | hb
    · exact absurd rfl (hb b)
    · unfold isBool at hb
      split at hb
      · rename_i hu
        cases op <;> cases v <;> simp only [kbin, reduceCtorEq, Option.some.injEq] at h <;> subst h
        · exact reck_eqb hu
        · exact reck_neb hu
      · cases hb
  · rename_i k a
    cases v with
    | int k' b =>
      cases op <;> simp only [kbin] at h <;> first
        | (cases h; done)
        | (split at h <;> first
            | (cases h; done)
            | (rename_i hk; simp only [Option.some.injEq] at h; subst h; simp [binOp, Op.shift, hk]; rfl)
            | (rename_i hk; have hk := Classical.not_not.mp hk; subst hk; simp only [Option.some.injEq] at h; subst h; simp [binOp, Op.intArith, Op.intBits, Op.intCmp]; rfl)
            | (rename_i hk; have hk := Classical.not_not.mp hk; subst hk; cases h; done)
            | (rename_i hk; have hk := Classical.not_not.mp hk; subst hk; split at h <;> first | (cases h; done) | (rename_i hz; simp only [Option.some.injEq] at h; subst h; simp [binOp, Op.intDiv, hz]; rfl)))
    | _ => cases op <;> simp [kbin] at h
  · rename_i a
    cases v with
    | string b =>
      cases op <;> simp only [kbin, reduceCtorEq, Option.some.injEq] at h <;> first
        | (subst h; rw [← ba_tl]; rfl)
        | (subst h; rw [← ba_tl, ← ByteArray.toList_eq, ← ByteArray.toList_eq]; rfl)
        | (subst h; rw [← ByteArray.toList_eq, ← ByteArray.toList_eq]; rfl)
        | (split at h
           · rename_i hz
             simp only [Option.some.injEq] at h; subst h
             have h3 : ¬ ((a.size + b.size : Nat) : Int) > IntKind.i64.max := fun e => by
               have h4 : IntKind.i64.max = 9223372036854775807 := rfl
               rw [h4] at e; omega
             simp only [binOp, Op.stringOp, h3, if_false]; rfl
           · cases h)
    | _ => cases op <;> simp [kbin] at h
theorem kbin_eq (P : Program) {op : BinOp} {t : TypeId} {x y : Operand} {u v z : Value} (hb : (∀ b, u ≠ .bool b) ∨ isBool P t = true) (h : kbin op u v = some z) : reck P (do eqGuard op t x y u v; binOp op t u v) = some z := by
  rw [eqGuard_plain (kbin_plain h)]
  exact kbin_binOp P hb h
end Go.Proofs.YtkbheoganajhaaaDoor.Vm
set_option linter.unusedVariables false
set_option linter.unusedSimpArgs false
namespace Go.Proofs.YtkbheoganajhaaaDoor.Vm
open Go.RowKit
def kbin' (b : Bool) (op : BinOp) (u v : Value) : Option Value :=
  match u with
  | .bool x => if b then kbin op (.bool x) v else none
  | u => kbin op u v
def ksrc (l : Bool) (el : Nat) : V → Option (List V)
  | .list e' ys _ => if l = true ∧ (e' = el ∨ ys.isEmpty = true) then some ys else none
  | .sc (.string s) => if l then none else some (bytesV s)
  | _ => none
def ksub (s : ByteArray) (l h : Int) : Option V := if 0 ≤ l ∧ l ≤ h ∧ h ≤ s.size then some (.sc (.string (s.extract l.toNat h.toNat))) else none
def kok : Nat → Value → Bool
  | 0, .int .. => true
  | 1, .string _ => true
  | 2, .bool _ => true
  | _, _ => false
def keqs (xs ys : List V) : List (Nat × Nat) → Option Bool
  | [] => some true
  | (o, kd) :: os => match xs[o]?, ys[o]? with
    | some (.sc u), some (.sc v) => if kok kd u then (match kbin .eql u v with
      | some (.bool r) => (keqs xs ys os).map fun q => r && q
      | _ => none) else none
    | _, _ => none
section
variable (P : Program) (E : Env) (tm : Nat → V) (st : St) (i0 nx : Nat)
def kop : K → Option R
  | .mov a => some (.val (av tm a) [] [])
  | .pick c a b => match av tm c with
    | .sc (.bool t) => some (.val (if t then av tm a else av tm b) [] [])
    | _ => none
  | .new cs => some (.val (.ptr i0 0) [(i0, some (.cells cs))] [])
  | .box a => if ones (av tm a).cells then some (.val (.ptr i0 0) [(i0, some (.cells (av tm a).cells))] []) else none
  | .build pl zc ps => (xfill (fun i => pl[i]?) zc (ps.map fun p => (p.1, av tm p.2))).bind fun cs => if (ps.all fun p => ones (av tm p.2).cells) && ones cs then some (.val (.agg cs) [] []) else none
  | .mk e s as => if (as.all fun a => (av tm a).cells.length == s && ones (av tm a).cells && ((av tm a).pur?).isSome) then ((as.map (av tm)).mapM V.pur?).bind fun xs => some (.val (.list e xs i0) [(i0, some (.tok as.length e))] []) else none
  | .ld s a => match av tm a with
    | .ptr id off => match st id with
      | some (.cells cs) => (kld s cs off).map fun v => .val v [] [id]
      | _ => none
    | .cp cs => (kld s cs 0).map fun v => .val v [] []
    | _ => none
  | .sto n a b => match av tm a with
    | .ptr id off => match st id with
      | some (.cells cs) => if n = (av tm b).cells.length ∧ off + (av tm b).cells.length ≤ cs.length ∧ ones (av tm b).cells = true then some (.val (.sc undef) [(id, some (.cells (cs.take off ++ (av tm b).cells ++ cs.drop (off + (av tm b).cells.length))))] [id]) else none
      | _ => none
    | _ => none
  | .nilc a => match av tm a with
    | .ptr i o => some (.val (.ptr i o) [] [])
    | .cp c => some (.val (.cp c) [] [])
    | .fn (.func f) a b => some (.val (.fn (.func f) a b) [] [])
    | _ => none
  | .bin b op x y => match av tm x, av tm y with
    | .sc u, .sc v => (kbin' b op u v).map fun v => .val (.sc v) [] []
    | _, _ => none
  | .un op x => match av tm x with
    | .sc u => (reck P (Op.unary op u)).map fun v => .val (.sc v) [] []
    | _ => none
  | .fa off a => match av tm a with
    | .ptr id o => some (.val (.ptr id (o + off)) [] [])
    | .cp cs => if off < cs.length then some (.val (.cp (cs.drop off)) [] []) else none
    | _ => none
  | .fld s off a => match av tm a with
    | .agg cs => (kld s cs off).map fun v => .val v [] []
    | _ => none
  | .ixl el a i => match av tm a, av tm i with
    | .list e xs _, .sc (.int _ i) => if 0 ≤ i ∧ e = el then (xs[i.toNat]?).map fun x => .val (.cp x.cells) [] [] else none
    | _, _ => none
  | .ixa n s a i => match av tm a, av tm i with
    | .cp cs, .sc (.int _ i) => if 0 ≤ i ∧ i < n ∧ i.toNat * s < cs.length then some (.val (.cp (cs.drop (i.toNat * s))) [] []) else none
    | .ptr id off, .sc (.int _ i) => if 0 ≤ i ∧ i < n then some (.val (.ptr id (off + i.toNat * s)) [] []) else none
    | _, _ => none
  | .ixs a i => match av tm a, av tm i with
    | .sc (.string s), .sc (.int _ i) => if 0 ≤ i then (s.data.toList[i.toNat]?).map fun b => .val (.sc (.int .u8 b.toNat)) [] [] else none
    | _, _ => none
  | .b2s e a => match av tm a with
    | .list e' xs _ => if e' = e ∨ xs.isEmpty = true then (bytesOfV xs).map fun l => .val (.sc (.string ⟨l.toArray⟩)) [] [] else none
    | _ => none
  | .s2b e a => match av tm a with
    | .sc (.string t) => some (.val (.list e (bytesV t) 0) [] [])
    | _ => none
  | .i2i k a => match av tm a with
    | .sc (.int _ n) => some (.val (.sc (.int k (k.wrap n))) [] [])
    | _ => none
  | .len a => match av tm a with
    | .list _ xs _ => some (.val (.i64 xs.length) [] [])
    | _ => none
  | .lenS a => match av tm a with
    | .sc (.string s) => some (.val (.i64 s.size) [] [])
    | _ => none
  | .app el by_ l a b => match av tm a with
    | .list e xs r => (ksrc l el (av tm b)).bind fun ys =>
      if (xs.length + ys.length) * by_ ≤ 140737488355328 ∧ xs.length + ys.length ≤ 9223372036854775807 then
        if r = 1 then (if xs.isEmpty then some (.val (.list el ys i0) [(i0, some (.tok ys.length el))] []) else none)
        else if r = 0 then none
        else match st r with
          | some (.tok n e') => if n = xs.length ∧ e' = e ∧ e = el then some (.val (.list el (xs ++ ys) r) [(r, some (.tok (xs.length + ys.length) el))] [r]) else none
          | _ => none
      else none
    | _ => none
  | .sll el a lo hi => match av tm a with
    | .list e xs r => (kint tm lo 0).bind fun l => (kint tm hi xs.length).bind fun h =>
      if 0 ≤ l ∧ l ≤ h ∧ h ≤ xs.length ∧ (e = el ∨ xs.isEmpty = true) then some (.val (.list e ((xs.take h.toNat).drop l.toNat) 0) [] []) else none
    | _ => none
  | .sls a lo hi => match av tm a with
    | .sc (.string s) => (kint tm lo 0).bind fun l => (kint tm hi s.size).bind fun h => (ksub s l h).map fun v => .val v [] []
    | _ => none
  | .ext a i => match av tm a with
    | .tup vs => (vs[i]?).map fun v => .val v [] []
    | _ => none
  | .min a b => match av tm a, av tm b with
    | .sc (.int k x), .sc (.int _ y) => some (.val (.sc (.int k (if y < x then y else x))) [] [])
    | _, _ => none
  | .no f as => ((as.map (av tm)).mapM V.val1?).bind fun vs => match reck P (callFunc f vs.toArray) with
    | some (.value v) => some (.val (ofRes v) [] [])
    | _ => none
  | .pl f as => ((as.map (av tm)).mapM V.pur?).bind fun as =>
    match E.pl f as with
    | some (.ret y) => some (.val (own i0 y).1 (own i0 y).2 [])
    | some (.pan y) => some (.pan y)
    | none => none
  | .hp f as => match E.hp f (as.map (av tm)) st nx with
    | some (.ret v st' n) => some (.big v st' n)
    | some (.pan v st' n) => some (.bpan v st' n)
    | none => none
  | .dyn f as => match av tm f with
    | .fn (.func g) first cap => xcall P E i0 nx st g (first ++ as.map (av tm) ++ cap)
    | _ => none
  | .eqs neg offs a b => match av tm a, av tm b with
    | .agg xs, .agg ys => (xs.mapM V.val1?).bind fun _ => (ys.mapM V.val1?).bind fun _ => (keqs xs ys offs).map fun r => .val (.bool (r != neg)) [] []
    | _, _ => none
  | .isn neg a => match av tm a with
    | .ptr _ _ => some (.val (.bool neg) [] [])
    | .sc (.pointer none) => some (.val (.bool !neg) [] [])
    | _ => none
  | .rng a => match av tm a with
    | .sc (.string s) => some (.val (.ptr i0 0) [(i0, some (.iter s 0))] [])
    | _ => none
  | .nxt a => match av tm a with
    | .ptr id 0 => match st id with
      | some (.iter s pos) => if pos < s.size then some (.val (.tup [.bool true, .i64 pos, .sc (.int .i32 (Utf8.decode s pos).1)]) [(id, some (.iter s (pos + (Utf8.decode s pos).2)))] [id]) else some (.val (.tup [.bool false]) [] [id])
      | _ => none
    | _ => none
  | .mkf f l r => some (.val (.fn f (l.map (av tm)) (r.map (av tm))) [] [])
  | .mkm => some (.val (.map i0) [(i0, some (.map []))] [])
  | .lku kd z ok a k => match av tm a, av tm k with
    | .map id, .sc k => if kok kd k then
        match st id with
        | some (.map es) => (mfind k es 0).bind fun r => match r with
          | some (_, v) => some (.val (if ok then .tup [v, .bool true] else v) [] [id])
          | none => some (.val (if ok then .tup [z, .bool false] else z) [] [id])
        | _ => none
      else none
    | _, _ => none
  | .mup kd a k y => match av tm a, av tm k with
    | .map id, .sc k => if kok kd k then
        match st id with
        | some (.map es) => (mfind k es 0).bind fun r => match r with
          | some (i, _) => some (.val (.sc undef) [(id, some (.map (es.set i (.sc k, av tm y))))] [id])
          | none => some (.val (.sc undef) [(id, some (.map (es ++ [(.sc k, av tm y)])))] [id])
        | _ => none
      else none
    | _, _ => none
  | .ifc t a => some (.val (.ifc t (av tm a)) [] [])
  | .pan a => match av tm a with
    | .ifc t v => some (.pan (.ifc t v))
    | _ => none
  | .gen op ty => xop0 P E tm st i0 nx ⟨none, op, ty, "", #[], none⟩
  | .two x k => match kopx E tm st i0 x with
    | some r => r
    | none => kop k
end
/-! ### Looking the types up -/
section
variable (P : Program) (hm : FuncId → Nat) (gl : Nat → Option V)
def plainT (t : TypeId) : Bool := match P.underlying t with | some .bool | some (.int _) | some .string => true | _ => false
def cap (i : List (Nat × Operand)) : Option (List (Nat × A)) := i.mapM fun p => (ca gl p.2).map fun a => (p.1, a)
def kdOf (t : TypeId) : Nat := match P.underlying t with | some (.int _) => 0 | some .string => 1 | some .bool => 2 | _ => 3
def isPtr (t : TypeId) : Bool := match P.underlying t with | some (.pointer _) => true | _ => false
def isNilC : Operand → Bool
  | .const (.pointer none) => true
  | _ => false
def eqsOk (t : TypeId) (fs : Array Field) : Bool := fs.toList.all (fun f => f.name != "_" && plainT P f.type && (usz P f.type == some 1) && (uagg P f.type == some false)) && !P.stoodInHeld t && !P.eqGuardType P.depth t
def ckApp (t t' : TypeId) (a b : A) : Option K :=
  match uel P t with
  | some el => match P.info? el with
    | some i => match i.zero with
      | some z => if z.cells.size = i.size ∧ 0 < i.size then
          (if t' == t then some (.app el i.bytes true a b) else if isStr P t' && isU8 P el && (usz P el == some 1) then some (.app el i.bytes false a b) else none)
        else none
      | none => none
    | none => none
  | none => none
def ck? (op : Op) (ty : TypeId) : Option K :=
  match op with
  | .move x | .assign x => (ca gl x).map .mov
  | .pick c a b => (ca gl c).bind fun c => (ca gl a).bind fun a => (ca gl b).map fun b => .pick c a b
  | .alloc e => (uzero P e).bind fun z => if ones (V.ofV z).cells then some (.new (V.ofV z).cells) else none
  | .box e x => (ca gl x).map .box
  | .build t ps => (cap gl ps.toList).bind fun ps =>
    match uzero P t, P.underlying t with
    | some z, some (.struct fs) => if fs.all (fun f => (usz P f.type).isSome) && ones (V.ofV z).cells then some (.build (fs.toList.map fun f => (f.offset, (usz P f.type).getD 0)) (V.ofV z).cells ps) else none
    | _, _ => none
  | .buildSlice t n ps => (cap gl ps.toList).bind fun ps =>
    match uel P t with
    | some e => (usz P e).bind fun s => if ps.map (·.1) = List.range n ∧ n ≤ 1000 ∧ s ≤ 1000 ∧ 0 < s ∧ (uzero P e).isSome = true then some (.mk e s (ps.map (·.2))) else none
    | none => none
  | .load t x => (ca gl x).bind fun a => (kty P t).map fun s => .ld s a
  | .store t x y => (ca gl x).bind fun a => (ca gl y).bind fun b => (usz P t).map fun n => .sto n a b
  | .nilCheck x => (ca gl x).map .nilc
  | .binOp op t x y _ => if plainT P t then (ca gl x).bind fun a => (ca gl y).map fun b => .bin (isBool P t) op a b
    else if isPtr P t && isNilC y then (match op with
      | .eql => (ca gl x).map fun a => .isn false a
      | .neq => (ca gl x).map fun a => .isn true a
      | _ => none)
    else match P.underlying t with
      | some (.struct fs) => if eqsOk P t fs then (match op with
        | .eql => (ca gl x).bind fun a => (ca gl y).map fun b => .eqs false (fs.toList.map fun f => (f.offset, kdOf P f.type)) a b
        | .neq => (ca gl x).bind fun a => (ca gl y).map fun b => .eqs true (fs.toList.map fun f => (f.offset, kdOf P f.type)) a b
        | _ => none) else none
      | _ => none
  | .unOp op _ x => (ca gl x).map fun a => .un op a
  | .convert s d x => (ca gl x).bind fun a =>
    match P.underlying s, P.underlying d with
    | some (.slice e), some .string => if isU8 P e && (usz P e == some 1) then some (.b2s e a) else none
    | some .string, some (.slice e) => if isU8 P e && (usz P e == some 1) then some (.s2b e a) else none
    | some (.int _), some (.int k) => some (.i2i k a)
    | _, _ => none
  | .slice t x lo hi none => (ca gl x).bind fun a => (cao gl lo).bind fun lo => (cao gl hi).bind fun hi =>
    match P.underlying t with
    | some (.slice el) => if (usz P el).isSome then some (.sll el a lo hi) else none
    | some .string => some (.sls a lo hi)
    | _ => none
  | .fieldAddr s x f => (ca gl x).bind fun a => match P.underlying s with
    | some (.struct fs) => (fs[f]?).bind fun fd => match usz P fd.type with
      | some (n + 1) => some (.fa fd.offset a)
      | _ => none
    | _ => none
  | .field t x f => (ca gl x).bind fun a => match P.underlying t with
    | some (.struct fs) => (fs[f]?).bind fun fd => (kty P fd.type).map fun s => .fld s fd.offset a
    | _ => none
  | .indexAddr t x i => (ca gl x).bind fun a => (ca gl i).bind fun i => match P.underlying t with
    | some (.slice el) => (usz P el).bind fun s => if 0 < s then some (.ixl el a i) else none
    | some (.array n el) => (usz P el).bind fun s => if 0 < s then some (.ixa n s a i) else none
    | _ => none
  | .index t x i => (ca gl x).bind fun a => (ca gl i).bind fun i => if isStr P t then some (.ixs a i) else none
  | .extract x i => (ca gl x).map fun a => .ext a i
  | .range t x => if isStr P t then (ca gl x).map .rng else none
  | .next x true => (ca gl x).map .nxt
  | .makeFunc f l r => (l.toList.mapM (ca gl)).bind fun l => (r.toList.mapM (ca gl)).map fun r => .mkf f l r
  | .makeMap t none => some .mkm
  | .lookup t x k ok => (ca gl x).bind fun a => (ca gl k).bind fun k => match P.underlying t with
    | some (.map kt et) => (uzero P et).bind fun z => if ones (V.ofV z).cells then some (.lku (kdOf P kt) (V.ofV z) ok a k) else none
    | _ => none
  | .mapUpdate t x k y => (ca gl x).bind fun a => (ca gl k).bind fun k => (ca gl y).bind fun y => match P.underlying t with
    | some (.map kt et) => some (.mup (kdOf P kt) a k y)
    | _ => none
  | .makeInterface t x => match P.underlying t with
    | some (.interface _) | none => none
    | _ => (ca gl x).map fun a => .ifc t a
  | .panic x => (ca gl x).map .pan
  | .call c => (c.args.toList.mapM (ca gl)).bind fun as => match c.callee with
    | .builtin .append => match as, c.argTypes.toList with
      | [a, b], [t, t'] => ckApp P t t' a b
      | _, _ => none
    | .builtin .len => match as, c.argTypes.toList with
      | [a], [t] => match P.underlying t with
        | some (.slice _) => some (.len a)
        | some .string => some (.lenS a)
        | _ => none
      | _, _ => none
    | .builtin .min => match as with
      | [a, b] => some (.min a b)
      | _ => none
    | .value (.func f) => if nobody P f then some (.no f as) else if isM (hm f) then some (.hp f as) else some (.pl f as)
    | .value x => (ca gl x).map fun a => .dyn a as
    | _ => none
  | _ => none
def ck0 (op : Op) (ty : TypeId) : K := (ck? P hm gl op ty).getD (.gen op ty)
def ck (md : Nat) (op : Op) (ty : TypeId) : K := if md < 1 then ck0 P hm gl op ty else match ckx P hm gl op with
  | some x => .two x (ck0 P hm gl op ty)
  | none => ck0 P hm gl op ty
end
section
variable {P : Program} {E : Env} {tm : Nat → V} {st : St} {i0 nx : Nat} {hm : FuncId → Nat} {gl : Nat → Option V}
theorem ca_ev (hg : E.gl = gl) {x : Operand} {a : A} (h : ca gl x = some a) : ev E tm x = some (av tm a) := by
  cases x <;> simp only [ca, Option.some.injEq] at h
  · subst h; rfl
  · split at h
    · rename_i hq; simp only [Option.some.injEq] at h; subst h; simp [ev, hq, av]
    · cases h
  · subst hg; simp only [Option.map_eq_some_iff] at h; obtain ⟨v, hv, rfl⟩ := h; simp [ev, hv, av]
  · subst h; rfl
theorem caL_ev (hg : E.gl = gl) : ∀ {xs : List Operand} {as : List A}, xs.mapM (ca gl) = some as → xs.mapM (ev E tm) = some (as.map (av tm))
  | [], as, h => by simp at h; subst h; rfl
  | x :: xs, as, h => by
    simp only [List.mapM_cons, Option.bind_eq_bind, Option.bind_eq_some_iff, Option.pure_def, Option.some.injEq] at h
    obtain ⟨a, ha, bs, hb, rfl⟩ := h
    simp [List.mapM_cons, ca_ev hg ha, caL_ev hg hb]
theorem cap_ev (hg : E.gl = gl) : ∀ {xs : List (Nat × Operand)} {as : List (Nat × A)}, cap gl xs = some as → (xs.mapM fun (p : Nat × Operand) => (ev E tm p.2).map fun v => (p.1, v)) = some (as.map fun p => (p.1, av tm p.2))
  | [], as, h => by simp [cap] at h; subst h; rfl
  | x :: xs, as, h => by
    simp only [cap, List.mapM_cons, Option.bind_eq_bind, Option.bind_eq_some_iff, Option.pure_def, Option.some.injEq, Option.map_eq_some_iff] at h
    obtain ⟨a, ⟨a', ha, rfl⟩, bs, hb, rfl⟩ := h
    have := cap_ev hg (show cap gl xs = some bs from hb)
    simp [List.mapM_cons, ca_ev hg ha, this]
end
end Go.Proofs.YtkbheoganajhaaaDoor.Vm
