/- Proved here: the law, on a machine over pure data, and what it needs, part 3. Conditions: none. -/
import Derived.Laws.Bits64
import Derived.Shelf.Sort.Plain
import Derived.Shelf.Slices.In.SortNone
import Derived.Test.YthgmhlpjbednpaaDoorZ2
set_option linter.unusedVariables false
set_option linter.unusedSimpArgs false
namespace Go.Proofs.YthgmhlpjbednpaaDoor.Vm
open Go.RowKit
structure Env.le (E E' : Env) : Prop where
  hm : E'.hm = E.hm
  gl : E'.gl = E.gl
  pl : ∀ f zas r, E.pl f zas = some r → E'.pl f zas = some r
  hp : ∀ f zas st nx r, E.hp f zas st nx = some r → E'.hp f zas st nx = some r
  md : E'.md = E.md
theorem Env.le.at {E E' : Env} (h : E.le E') (m : Nat) : (E.at m).le (E'.at m) := ⟨h.hm, h.gl, h.pl, h.hp, rfl⟩
section
variable {P : Program} {E E' : Env} {tm : Nat → V} {st : St} {i0 nx N k k' : Nat} {o : Oper} {ops : Array Oper}
theorem ev_le (h : E.le E') : ev E' tm = ev E tm := by funext x; cases x <;> simp [ev, h.gl]
theorem xcall_le (h : E.le E') {f : FuncId} {zas : List V} {r : R} (hx : xcall P E i0 nx st f zas = some r) : xcall P E' i0 nx st f zas = some r := by
  unfold xcall at hx ⊢
  split at hx
  · rename_i hn; rw [if_pos hn]; exact hx
  · rename_i hn
    rw [if_neg hn, h.hm]
    split at hx
    · rename_i hm
      rw [if_pos hm]
      split at hx <;> rename_i he
      · rw [h.hp _ _ _ _ _ he]; exact hx
      · rw [h.hp _ _ _ _ _ he]; exact hx
      · cases hx
    · rename_i hm
      rw [if_neg hm]
      rw [Option.bind_eq_some_iff] at hx ⊢
      obtain ⟨bs, hb, hx⟩ := hx
      refine ⟨bs, hb, ?_⟩
      split at hx <;> rename_i he
      · rw [h.pl _ _ _ he]; exact hx
      · rw [h.pl _ _ _ he]; exact hx
      · cases hx
theorem xop0_le (h : E.le E') {r : R} (hx : xop0 P E tm st i0 nx o = some r) : xop0 P E' tm st i0 nx o = some r := by
  cases ho : o.op with
  | call c =>
    simp only [xop0, ho, ev_le h, Option.bind_eq_some_iff] at hx ⊢
    obtain ⟨args, ha, hx⟩ := hx
    refine ⟨args, ha, ?_⟩
    split at hx
    · exact hx
    · rw [Option.bind_eq_some_iff] at hx ⊢
      obtain ⟨fv, hf, hx⟩ := hx
      refine ⟨fv, hf, ?_⟩
      split at hx
      · exact xcall_le h hx
      · cases hx
    · cases hx
  | makeMap t y => cases y <;> simp only [xop0, ho, ev_le h] at hx ⊢ <;> exact hx
  | next x b => cases b <;> simp only [xop0, ho, ev_le h] at hx ⊢ <;> exact hx
  | _ => (simp only [xop0, ho, ev_le h] at hx ⊢; exact hx)
theorem kopx_le (h : E.le E') {kx : KX} {r : R} (hx : kopx E tm st i0 kx = some (some r)) : kopx E' tm st i0 kx = some (some r) := by
  cases kx with
  | pl f zas =>
    simp only [kopx] at hx ⊢
    split at hx
    · rename_i hc
      rw [if_pos hc]
      have h2 := Option.some.inj hx
      congr 1
      rw [Option.bind_eq_some_iff] at h2 ⊢
      obtain ⟨p, hp, h2⟩ := h2
      refine ⟨p, hp, ?_⟩
      split at h2
      · rename_i y he; rw [h.pl _ _ _ he]; exact h2
      · cases h2
    · cases hx
  | _ => exact hx
theorem kopx_le0 {kx : KX} (hx : kopx E tm st i0 kx = none) : kopx E' tm st i0 kx = none := by
  cases kx with
  | pl f zas =>
    simp only [kopx] at hx ⊢
    split at hx
    · cases hx
    · rename_i hc; rw [if_neg hc]
  | _ => exact hx
theorem yop_le (h : E.le E') {r : R} (hx : yop P E tm st i0 o = some (some r)) : yop P E' tm st i0 o = some (some r) := by
  unfold yop at hx ⊢
  rw [h.md, h.hm, h.gl]
  split at hx
  · cases hx
  · rename_i hm
    rw [if_neg hm]
    rw [Option.bind_eq_some_iff] at hx ⊢
    obtain ⟨kx, hk, hx⟩ := hx
    exact ⟨kx, hk, kopx_le h hx⟩
theorem yop_le0 (hm : E'.hm = E.hm) (hg : E'.gl = E.gl) (hmd : E'.md = E.md) (hx : yop P E tm st i0 o = none) : yop P E' tm st i0 o = none := by
  unfold yop at hx ⊢
  rw [hmd, hm, hg]
  split at hx
  · rename_i hm; rw [if_pos hm]
  · rename_i hm
    rw [if_neg hm]
    cases hc : ckx P E.hm E.gl o.op with
    | none => rfl
    | some kx =>
      rw [hc] at hx
      exact kopx_le0 hx
theorem xop_le (h : E.le E') {r : R} (hx : xop P E tm st i0 nx o = some r) : xop P E' tm st i0 nx o = some r := by
  unfold xop at hx ⊢
  split at hx
  · rename_i q hq
    subst hx
    rw [yop_le h hq]
  · rename_i hq
    rw [yop_le0 h.hm h.gl h.md hq]
    exact xop0_le h hx
theorem xops_le (h : E.le E') : ∀ {rest : List Oper} {i : Nat} {n0 : Nat} {tm : Nat → V} {st : St} {nx : Nat} {rr : RR}, xops P E ops N n0 i rest tm st nx = some rr → xops P E' ops N n0 i rest tm st nx = some rr
  | [], _, _, _, _, _, _, hx => hx
  | o :: rest, i, n0, tm, st, nx, rr, hx => by
    unfold xops at hx ⊢
    split at hx
    · rename_i hd
      rw [if_pos hd]
      split at hx <;> rename_i hw
      · split at hx <;> rename_i ho
        · rw [xop_le h ho]
          dsimp only
          split at hx <;> rename_i hr
          · rw [xops_le h hr]; exact hx
          · rw [xops_le h hx]
            split
            · rename_i hq; obtain rfl := Option.some.inj hq; exact absurd hx (hr _ _ _ _)
            · rfl
        · rw [xop_le h ho]
          dsimp only
          split at hx <;> rename_i hr
          · rw [xops_le h hr]; exact hx
          · rw [xops_le h hx]
            split
            · rename_i hq; obtain rfl := Option.some.inj hq; exact absurd hx (hr _ _ _ _)
            · rfl
        · rw [xop_le h ho]; exact hx
        · rw [xop_le h ho]; exact hx
        · cases hx
      · split at hx <;> rename_i hr
        · rw [xops_le h hr]; exact hx
        · rw [xops_le h hx]
          split
          · rename_i hq; obtain rfl := Option.some.inj hq; exact absurd hx (hr _ _ _ _)
          · rfl
      · cases hx
    · cases hx
theorem PanAt_le (h : E.le E') {fr : Fr} {v : V} {st : St} {nx : Nat} (hx : PanAt P E N ops fr v st nx) : PanAt P E' N ops fr v st nx := by
  obtain ⟨i, o, tm, s, n, recs, e1, e2, e3, e4, e5, e6⟩ := hx
  refine ⟨i, o, tm, s, n, recs, e1, e2, xops_le h e3, e4, ?_, e6⟩
  rcases e5 with e5 | ⟨e5, e7⟩
  · exact .inl (xop_le h e5)
  · exact .inr ⟨xop_le h e5, e7⟩
theorem xregion_le (h : E.le E') {draw : Bool} {fr : Fr} {res : Ex × Fr} (hx : xregion P E N ops draw fr = some res) : xregion P E' N ops draw fr = some res := by
  unfold xregion at hx ⊢
  split at hx <;> rename_i hr
  · rw [xops_le h hr]; exact hx
  · rw [xops_le h hr]
    simp only at hx ⊢
    split at hx
    · rename_i hd
      rw [if_pos hd]
      split at hx
      · rename_i hp
        rw [if_pos (PanAt_le h hp)]; exact hx
      · cases hx
    · rename_i hd
      rw [if_neg hd]; exact hx
  · cases hx
theorem iter_le {f g : Fr → Option (Ex × Fr)} (h : ∀ fr r, f fr = some r → g fr = some r) : ∀ {k k' : Nat} {fr : Fr} {r : Ex × Fr}, k ≤ k' → iter f k fr = some r → iter g k' fr = some r
  | 0, _, _, _, _, hx => by simp [iter] at hx
  | k + 1, 0, _, _, hk, _ => by omega
  | k + 1, k' + 1, fr, r, hk, hx => by
    unfold iter at hx ⊢
    split at hx <;> rename_i hr
    · rw [h _ _ hr]; exact iter_le h (by omega) hx
    · rw [h _ _ hx]
      split
      · rename_i hq; obtain rfl := Option.some.inj hq; exact absurd hx (hr _)
      · rfl
theorem xcode_le (h : E.le E') (hk : k ≤ k') : ∀ (c : Code) {fr : Fr} {res : Ex × Fr}, xcode P E N k c fr = some res → xcode P E' N k' c fr = some res := by
  intro c
  induction c with
  | region id ops draw => intro fr res hx; exact xregion_le h (by simpa only [xcode] using hx)
  | seq x y ihx ihy =>
    intro fr res hx
    simp only [xcode] at hx ⊢
    split at hx <;> rename_i hr
    · rw [ihx hr]; exact ihy hx
    · rw [ihx hx]
      split
      · rename_i hq; obtain rfl := Option.some.inj hq; exact absurd hx (hr _)
      · rfl
  | cond c x y ihx ihy =>
    intro fr res hx
    simp only [xcode, ev_le h] at hx ⊢
    split at hx <;> rename_i hr
    · rename_i b
      cases b
      · exact ihy hx
      · exact ihx hx
    · cases hx
  | block id b ih =>
    intro fr res hx
    simp only [xcode] at hx ⊢
    split at hx <;> rename_i hr
    · rw [ih hr]; exact hx
    · rw [ih hx]
      split
      · rename_i hq; obtain rfl := Option.some.inj hq; exact absurd hx (hr _ _)
      · rfl
  | loop b ih =>
    intro fr res hx
    simp only [xcode] at hx ⊢
    exact iter_le (fun fr r => ih) hk hx
  | _ => intro fr res hx; first | (simp only [xcode] at hx ⊢; exact hx) | simp [xcode] at hx
theorem xrun0_le (h : E.le E') (hk : k ≤ k') {fn : Func} {zas : List V} {r : HR} (hx : xrun0 P E k fn zas st nx = some r) : xrun0 P E' k' fn zas st nx = some r := by
  unfold xrun0 at hx ⊢
  split at hx
  · cases hx
  · split at hx <;> rename_i hr
    · simp only [xcode_le h hk _ hr]; exact hx
    · simp only [xcode_le h hk _ hr]; exact hx
    · simp only [xcode_le h hk _ hr]; exact hx
    · cases hx
theorem xclos_le (h : E.le E') (hk : k ≤ k') {g : FuncId} {cs : List V} {rv : V} {fr : Fr} (hx : xclos P E k g cs rv st nx = some fr) : xclos P E' k' g cs rv st nx = some fr := by
  unfold xclos at hx ⊢
  split at hx
  · rename_i hn
    rw [if_pos hn]
    rw [Option.bind_eq_some_iff] at hx ⊢
    obtain ⟨fn, hfn, hx⟩ := hx
    refine ⟨fn, hfn, ?_⟩
    rw [Option.bind_eq_some_iff] at hx ⊢
    obtain ⟨q, hq, hx⟩ := hx
    refine ⟨q, hq, ?_⟩
    split at hx
    · rename_i hc
      rw [if_pos hc]
      rw [Option.bind_eq_some_iff] at hx ⊢
      obtain ⟨tv, ht, hx⟩ := hx
      refine ⟨tv, ht, ?_⟩
      split at hx
      · rename_i tm st' nx' recs hr
        simp only [xops_le h hr]
        split at hx
        · rename_i hr2; simp only [xcode_le h hk _ hr2]; exact hx
        · rename_i hr2; simp only [xcode_le h hk _ hr2]; exact hx
        · cases hx
      · cases hx
    · cases hx
  · cases hx
theorem xrunD_le (h : E.le E') (hk : k ≤ k') {fn : Func} {q : Code × FuncId × List Operand × Tmp × Oper × Oper × Array Oper × Code} {zas : List V} {r : HR} (hx : xrunD P E k fn q zas st nx = some r) : xrunD P E' k' fn q zas st nx = some r := by
  unfold xrunD at hx ⊢
  split at hx
  · rename_i fr1 hr1
    simp only [xcode_le h hk _ hr1]
    split at hx
    · rename_i hc
      rw [if_pos hc]
      rw [Option.bind_eq_some_iff] at hx ⊢
      obtain ⟨cs, hcs, hx⟩ := hx
      refine ⟨cs, by rw [ev_le h]; exact hcs, ?_⟩
      split at hx
      · rename_i fr hr2
        simp only [xcode_le h hk _ hr2]
        rw [Option.bind_eq_some_iff] at hx ⊢
        obtain ⟨fr', hc', hx⟩ := hx
        exact ⟨fr', xclos_le h hk hc', hx⟩
      · rename_i fr hr2
        simp only [xcode_le h hk _ hr2]
        rw [Option.bind_eq_some_iff] at hx ⊢
        obtain ⟨fr', hc', hx⟩ := hx
        exact ⟨fr', xclos_le h hk hc', hx⟩
      · rename_i v fr hr2
        simp only [xcode_le h hk _ hr2]
        split at hx
        · rw [Option.bind_eq_some_iff] at hx ⊢
          obtain ⟨fr', hc', hx⟩ := hx
          exact ⟨fr', xclos_le h hk hc', hx⟩
        · cases hx
      · cases hx
    · cases hx
  · cases hx
theorem xrun_le (h : E.le E') (hk : k ≤ k') {fn : Func} {zas : List V} {r : HR} (hx : xrun P E k fn zas st nx = some r) : xrun P E' k' fn zas st nx = some r := by
  unfold xrun at hx ⊢
  split at hx
  · exact xrun0_le h hk hx
  · exact xrunD_le h hk hx
theorem xplain_le (h : E.le E') (hk : k ≤ k') {fn : Func} {zas : List V} {r : CR} (hx : xplain P E k fn zas = some r) : xplain P E' k' fn zas = some r := by
  unfold xplain at hx ⊢
  split at hx <;> rename_i hr
  · rw [xrun_le h hk hr]; simp only [finE, h.md] at hx ⊢; exact hx
  · rw [xrun_le h hk hr]; exact hx
  · cases hx
end
section
variable (P : Program) (ext : Exts) (hm : FuncId → Nat) (gl : Nat → Option V)
theorem env_step : ∀ n, (env P ext hm gl n).le (env P ext hm gl (n + 1))
  | 0 => by
    refine ⟨rfl, rfl, fun f zas r hx => ?_, fun f zas st nx r hx => ?_, rfl⟩
    · simp only [env, Option.bind_eq_some_iff] at hx ⊢
      obtain ⟨g, hg, hx⟩ := hx
      simp only [hg]; exact hx
    · simp only [env, Option.bind_eq_some_iff] at hx ⊢
      obtain ⟨g, hg, hx⟩ := hx
      simp only [hg]; exact hx
  | n + 1 => by
    have ih := env_step n
    refine ⟨rfl, rfl, fun f zas r hx => ?_, fun f zas st nx r hx => ?_, rfl⟩
    · rw [env] at hx ⊢
      dsimp only at hx ⊢
      split at hx
      · exact hx
      · rw [Option.bind_eq_some_iff] at hx ⊢
        obtain ⟨fn, hf, hx⟩ := hx
        exact ⟨fn, hf, xplain_le (ih.at _) (by omega) hx⟩
    · rw [env] at hx ⊢
      dsimp only at hx ⊢
      split at hx
      · exact hx
      · rw [Option.bind_eq_some_iff] at hx ⊢
        obtain ⟨fn, hf, hx⟩ := hx
        refine ⟨fn, hf, ?_⟩
        split at hx
        · rename_i h5
          rw [if_pos h5]
          rw [Option.bind_eq_some_iff] at hx ⊢
          obtain ⟨p, hp, hx⟩ := hx
          exact ⟨p, hp, xrun_le (ih.at _) (by omega) hx⟩
        · rename_i h5
          rw [if_neg h5]
          exact xrun_le (ih.at _) (by omega) hx
theorem Env.le.refl (E : Env) : E.le E := ⟨rfl, rfl, fun _ _ _ h => h, fun _ _ _ _ _ h => h, rfl⟩
theorem Env.le.trans {E E' E'' : Env} (h : E.le E') (k : E'.le E'') : E.le E'' := ⟨k.hm.trans h.hm, k.gl.trans h.gl, fun f zas r q => k.pl f zas r (h.pl f zas r q), fun f zas st nx r q => k.hp f zas st nx r (h.hp f zas st nx r q), k.md.trans h.md⟩
theorem env_le {n m : Nat} (h : n ≤ m) : (env P ext hm gl n).le (env P ext hm gl m) := by
  induction m with
  | zero => have : n = 0 := by omega
            subst this; exact .refl _
  | succ m ih =>
    rcases Nat.lt_or_ge n (m + 1) with h1 | h1
    · exact (ih (by omega)).trans (env_step P ext hm gl m)
    · have : n = m + 1 := by omega
      subst this; exact .refl _
open Classical in
noncomputable def lim : Env :=
  ⟨fun f zas => if h : ∃ r n, (env P ext hm gl n).pl f zas = some r then some (Classical.choose h) else none,
   fun f zas st nx => if h : ∃ r n, (env P ext hm gl n).hp f zas st nx = some r then some (Classical.choose h) else none, hm, gl, 0⟩
theorem lim_pl {f : FuncId} {zas : List V} {r : CR} : (lim P ext hm gl).pl f zas = some r ↔ ∃ n, (env P ext hm gl n).pl f zas = some r := by
  have uniq : ∀ {r r' : CR} {n n' : Nat}, (env P ext hm gl n).pl f zas = some r → (env P ext hm gl n').pl f zas = some r' → r = r' := fun {r r' n n'} h1 h2 => by
    have h3 := (env_le P ext hm gl (Nat.le_max_left n n')).pl _ _ _ h1
    have h4 := (env_le P ext hm gl (Nat.le_max_right n n')).pl _ _ _ h2
    rw [h3] at h4; exact Option.some.inj h4
  simp only [lim]
  constructor
  · intro h
    split at h
    · rename_i hh
      obtain rfl := Option.some.inj h
      exact Classical.choose_spec hh
    · cases h
  · rintro ⟨n, hn⟩
    have hh : ∃ r n, (env P ext hm gl n).pl f zas = some r := ⟨r, n, hn⟩
    rw [dif_pos hh]
    obtain ⟨m, hm'⟩ := Classical.choose_spec hh
    rw [uniq hm' hn]
theorem lim_hp {f : FuncId} {zas : List V} {st : St} {nx : Nat} {r : HR} : (lim P ext hm gl).hp f zas st nx = some r ↔ ∃ n, (env P ext hm gl n).hp f zas st nx = some r := by
  have uniq : ∀ {r r' : HR} {n n' : Nat}, (env P ext hm gl n).hp f zas st nx = some r → (env P ext hm gl n').hp f zas st nx = some r' → r = r' := fun {r r' n n'} h1 h2 => by
    have h3 := (env_le P ext hm gl (Nat.le_max_left n n')).hp _ _ _ _ _ h1
    have h4 := (env_le P ext hm gl (Nat.le_max_right n n')).hp _ _ _ _ _ h2
    rw [h3] at h4; exact Option.some.inj h4
  simp only [lim]
  constructor
  · intro h
    split at h
    · rename_i hh
      obtain rfl := Option.some.inj h
      exact Classical.choose_spec hh
    · cases h
  · rintro ⟨n, hn⟩
    have hh : ∃ r n, (env P ext hm gl n).hp f zas st nx = some r := ⟨r, n, hn⟩
    rw [dif_pos hh]
    obtain ⟨m, hm'⟩ := Classical.choose_spec hh
    rw [uniq hm' hn]
end
end Go.Proofs.YthgmhlpjbednpaaDoor.Vm
set_option linter.unusedVariables false
set_option linter.unusedSimpArgs false
namespace Go.Proofs.YthgmhlpjbednpaaDoor.Vm
open Go.RowKit
section
variable {P : Program} {ext : Exts} {hm : FuncId → Nat} {gl : Nat → Option V} {tm : Nat → V} {st : St} {i0 nx N k m0 : Nat} {o : Oper} {ops : Array Oper}
theorem ev_lim (m0 n : Nat) : ev ((env P ext hm gl n).at m0) tm = ev ((lim P ext hm gl).at m0) tm := by
  have h : ((env P ext hm gl n).at m0).gl = ((lim P ext hm gl).at m0).gl := by show (env P ext hm gl n).gl = gl; rw [env_gl]
  funext x; cases x <;> simp only [ev, h]
theorem env_hm (m0 n : Nat) : ((env P ext hm gl n).at m0).hm = hm := by cases n <;> rfl
theorem xcall_lim {f : FuncId} {zas : List V} {r : R} (hx : xcall P ((lim P ext hm gl).at m0) i0 nx st f zas = some r) : ∃ n, xcall P ((env P ext hm gl n).at m0) i0 nx st f zas = some r := by
  unfold xcall at hx ⊢
  split at hx
  · rename_i hn; exact ⟨0, by rw [if_pos hn]; exact hx⟩
  · rename_i hn
    split at hx
    · rename_i hh
      have hh : isM (hm f) = true := hh
      split at hx <;> rename_i he
      · obtain ⟨n, hn'⟩ := (lim_hp P ext hm gl).1 he
        exact ⟨n, by rw [if_neg hn, env_hm, if_pos hh, show ((env P ext hm gl n).at m0).hp = (env P ext hm gl n).hp from rfl, hn']; exact hx⟩
      · obtain ⟨n, hn'⟩ := (lim_hp P ext hm gl).1 he
        exact ⟨n, by rw [if_neg hn, env_hm, if_pos hh, show ((env P ext hm gl n).at m0).hp = (env P ext hm gl n).hp from rfl, hn']; exact hx⟩
      · cases hx
    · rename_i hh
      have hh : ¬ isM (hm f) = true := hh
      rw [Option.bind_eq_some_iff] at hx
      obtain ⟨bs, hb, hx⟩ := hx
      split at hx <;> rename_i he
      · obtain ⟨n, hn'⟩ := (lim_pl P ext hm gl).1 he
        exact ⟨n, by rw [if_neg hn, env_hm, if_neg hh, hb, show ((env P ext hm gl n).at m0).pl = (env P ext hm gl n).pl from rfl]; simp only [Option.bind_some, hn']; exact hx⟩
      · obtain ⟨n, hn'⟩ := (lim_pl P ext hm gl).1 he
        exact ⟨n, by rw [if_neg hn, env_hm, if_neg hh, hb, show ((env P ext hm gl n).at m0).pl = (env P ext hm gl n).pl from rfl]; simp only [Option.bind_some, hn']; exact hx⟩
      · cases hx
theorem xop0_lim {r : R} (hx : xop0 P ((lim P ext hm gl).at m0) tm st i0 nx o = some r) : ∃ n, xop0 P ((env P ext hm gl n).at m0) tm st i0 nx o = some r := by
  cases ho : o.op with
  | call c =>
    simp only [xop0, ho, Option.bind_eq_some_iff] at hx
    obtain ⟨args, ha, hx⟩ := hx
    cases hc : c.callee with
    | builtin b =>
      simp only [hc] at hx
      exact ⟨0, by simp only [xop0, ho, ev_lim, ha, hc, Option.bind_some]; exact hx⟩
    | value f =>
      simp only [hc, Option.bind_eq_some_iff] at hx
      obtain ⟨fv, hf, hx⟩ := hx
      split at hx
      · obtain ⟨n, hn⟩ := xcall_lim hx
        exact ⟨n, by simp only [xop0, ho, ev_lim, ha, hc, hf, Option.bind_some]; exact hn⟩
      · cases hx
    | invoke a b => simp only [hc] at hx; cases hx
  | makeMap t y => refine ⟨0, ?_⟩; cases y <;> simp only [xop0, ho, ev_lim] at hx ⊢ <;> exact hx
  | next x b => refine ⟨0, ?_⟩; cases b <;> simp only [xop0, ho, ev_lim] at hx ⊢ <;> exact hx
  | _ => (refine ⟨0, ?_⟩; simp only [xop0, ho, ev_lim] at hx ⊢; exact hx)
theorem kopx_lim {kx : KX} {r : R} (hx : kopx ((lim P ext hm gl).at m0) tm st i0 kx = some (some r)) : ∃ n, kopx ((env P ext hm gl n).at m0) tm st i0 kx = some (some r) := by
  cases kx with
  | pl f zas =>
    simp only [kopx] at hx ⊢
    split at hx
    · rename_i hc
      have h2 := Option.some.inj hx
      rw [Option.bind_eq_some_iff] at h2
      obtain ⟨p, hp, h2⟩ := h2
      split at h2
      · rename_i y he
        obtain ⟨n, hn⟩ := (lim_pl P ext hm gl).1 he
        refine ⟨n, ?_⟩
        rw [if_pos hc, hp, show ((env P ext hm gl n).at m0).pl = (env P ext hm gl n).pl from rfl]
        simp only [Option.bind_some, hn]
        rw [h2]
      · cases h2
    · cases hx
  | _ => exact ⟨0, hx⟩
theorem xop_lim {r : R} (hx : xop P ((lim P ext hm gl).at m0) tm st i0 nx o = some r) : ∃ n, xop P ((env P ext hm gl n).at m0) tm st i0 nx o = some r := by
  have hgl : ∀ n, ((env P ext hm gl n).at m0).gl = ((lim P ext hm gl).at m0).gl := fun n => by show (env P ext hm gl n).gl = gl; rw [env_gl]
  unfold xop at hx ⊢
  split at hx
  · rename_i q hq
    subst hx
    unfold yop at hq
    split at hq
    · cases hq
    · rename_i hm0
      rw [Option.bind_eq_some_iff] at hq
      obtain ⟨kx, hk, hq⟩ := hq
      obtain ⟨n, hn⟩ := kopx_lim hq
      refine ⟨n, ?_⟩
      have : yop P ((env P ext hm gl n).at m0) tm st i0 o = some (some r) := by
        unfold yop
        rw [if_neg (show ¬ ((env P ext hm gl n).at m0).md < 1 from hm0), env_hm, hgl n]
        rw [Option.bind_eq_some_iff]
        exact ⟨kx, hk, hn⟩
      rw [this]
  · rename_i hq
    obtain ⟨n, hn⟩ := xop0_lim hx
    refine ⟨n, ?_⟩
    rw [yop_le0 (E' := (env P ext hm gl n).at m0) (by rw [env_hm]; rfl) (hgl n) rfl hq]
    exact hn
theorem both {n m n0 i1 nx1 : Nat} {rest : List Oper} {tm1 : Nat → V} {st1 : St} {r : R} {rr : RR} (h : xop P ((env P ext hm gl n).at m0) tm st i0 nx o = some r) (h' : xops P ((env P ext hm gl m).at m0) ops N n0 i1 rest tm1 st1 nx1 = some rr) :
    ∃ q, xop P ((env P ext hm gl q).at m0) tm st i0 nx o = some r ∧ xops P ((env P ext hm gl q).at m0) ops N n0 i1 rest tm1 st1 nx1 = some rr :=
  ⟨max n m, xop_le ((env_le P ext hm gl (Nat.le_max_left n m)).at m0) h, xops_le ((env_le P ext hm gl (Nat.le_max_right n m)).at m0) h'⟩
theorem xops_lim : ∀ {rest : List Oper} {i : Nat} {n0 : Nat} {tm : Nat → V} {st : St} {nx : Nat} {rr : RR}, xops P ((lim P ext hm gl).at m0) ops N n0 i rest tm st nx = some rr → ∃ n, xops P ((env P ext hm gl n).at m0) ops N n0 i rest tm st nx = some rr
  | [], _, _, _, _, _, _, hx => ⟨0, hx⟩
  | o :: rest, i, n0, tm, st, nx, rr, hx => by
    unfold xops at hx
    split at hx
    · rename_i hd
      split at hx <;> rename_i hw
      · split at hx <;> rename_i ho
        · obtain ⟨n, hn⟩ := xop_lim ho
          split at hx <;> rename_i hr
          · obtain ⟨m', hm'⟩ := xops_lim hr
            obtain ⟨m, h1, h2⟩ := both hn hm'
            exact ⟨m, by unfold xops; simp only [hd, if_true, hw, h1, h2]; exact hx⟩
          · obtain ⟨m', hm'⟩ := xops_lim hx
            obtain ⟨m, h1, h2⟩ := both hn hm'
            refine ⟨m, ?_⟩
            unfold xops
            simp only [hd, if_true, hw, h1, h2]
            split
            · rename_i hq; obtain rfl := Option.some.inj hq; exact absurd hx (hr _ _ _ _)
            · rfl
        · obtain ⟨n, hn⟩ := xop_lim ho
          split at hx <;> rename_i hr
          · obtain ⟨m', hm'⟩ := xops_lim hr
            obtain ⟨m, h1, h2⟩ := both hn hm'
            exact ⟨m, by unfold xops; simp only [hd, if_true, hw, h1, h2]; exact hx⟩
          · obtain ⟨m', hm'⟩ := xops_lim hx
            obtain ⟨m, h1, h2⟩ := both hn hm'
            refine ⟨m, ?_⟩
            unfold xops
            simp only [hd, if_true, hw, h1, h2]
            split
            · rename_i hq; obtain rfl := Option.some.inj hq; exact absurd hx (hr _ _ _ _)
            · rfl
        · obtain ⟨n, hn⟩ := xop_lim ho
          exact ⟨n, by unfold xops; simp only [hd, if_true, hw, hn]; exact hx⟩
        · obtain ⟨n, hn⟩ := xop_lim ho
          exact ⟨n, by unfold xops; simp only [hd, if_true, hw, hn]; exact hx⟩
        · cases hx
      · split at hx <;> rename_i hr
        · obtain ⟨m, h2⟩ := xops_lim hr
          exact ⟨m, by unfold xops; simp only [hd, if_true, hw, h2]; exact hx⟩
        · obtain ⟨m, h2⟩ := xops_lim hx
          refine ⟨m, ?_⟩
          unfold xops
          simp only [hd, if_true, hw, h2]
          split
          · rename_i hq; obtain rfl := Option.some.inj hq; exact absurd hx (hr _ _ _ _)
          · rfl
      · cases hx
    · cases hx
theorem PanAt_lim {fr : Fr} {v : V} {st : St} {nx : Nat} (hx : PanAt P ((lim P ext hm gl).at m0) N ops fr v st nx) : ∃ n, PanAt P ((env P ext hm gl n).at m0) N ops fr v st nx := by
  obtain ⟨i, o, tm, s, n, recs, e1, e2, e3, e4, e5, e6⟩ := hx
  obtain ⟨a, ha⟩ := xops_lim e3
  rcases e5 with e5 | ⟨e5, e7⟩
  · obtain ⟨b, hb⟩ := xop_lim e5
    exact ⟨max a b, i, o, tm, s, n, recs, e1, e2, xops_le ((env_le P ext hm gl (Nat.le_max_left a b)).at m0) ha, e4, .inl (xop_le ((env_le P ext hm gl (Nat.le_max_right a b)).at m0) hb), e6⟩
  · obtain ⟨b, hb⟩ := xop_lim e5
    exact ⟨max a b, i, o, tm, s, n, recs, e1, e2, xops_le ((env_le P ext hm gl (Nat.le_max_left a b)).at m0) ha, e4, .inr ⟨xop_le ((env_le P ext hm gl (Nat.le_max_right a b)).at m0) hb, e7⟩, e6⟩
theorem xregion_lim {draw : Bool} {fr : Fr} {res : Ex × Fr} (hx : xregion P ((lim P ext hm gl).at m0) N ops draw fr = some res) : ∃ n, xregion P ((env P ext hm gl n).at m0) N ops draw fr = some res := by
  unfold xregion at hx
  split at hx <;> rename_i hr
  · obtain ⟨n, hn⟩ := xops_lim hr
    exact ⟨n, by unfold xregion; rw [hn]; exact hx⟩
  · obtain ⟨n, hn⟩ := xops_lim hr
    split at hx
    · rename_i hd
      split at hx
      · rename_i hp
        obtain ⟨m, hm'⟩ := PanAt_lim hp
        exact ⟨max n m, by unfold xregion; rw [xops_le ((env_le P ext hm gl (Nat.le_max_left n m)).at m0) hn]; simp only; rw [if_pos hd, if_pos (PanAt_le ((env_le P ext hm gl (Nat.le_max_right n m)).at m0) hm')]; exact hx⟩
      · cases hx
    · rename_i hd
      exact ⟨n, by unfold xregion; rw [hn]; simp only; rw [if_neg hd]; exact hx⟩
  · cases hx
theorem iter_lim {c : Code} (h : ∀ fr r, xcode P ((lim P ext hm gl).at m0) N k c fr = some r → ∃ n, xcode P ((env P ext hm gl n).at m0) N k c fr = some r) : ∀ {j : Nat} {fr : Fr} {r : Ex × Fr}, iter (xcode P ((lim P ext hm gl).at m0) N k c) j fr = some r → ∃ n, iter (xcode P ((env P ext hm gl n).at m0) N k c) j fr = some r
  | 0, _, _, hx => by simp [iter] at hx
  | j + 1, fr, r, hx => by
    unfold iter at hx
    split at hx <;> rename_i hr
    · obtain ⟨n, hn⟩ := h _ _ hr
      obtain ⟨m, hm'⟩ := iter_lim h hx
      refine ⟨max n m, ?_⟩
      unfold iter
      rw [xcode_le ((env_le P ext hm gl (Nat.le_max_left n m)).at m0) (Nat.le_refl _) _ hn]
      exact iter_le (fun fr r q => xcode_le ((env_le P ext hm gl (Nat.le_max_right n m)).at m0) (Nat.le_refl _) _ q) (Nat.le_refl _) hm'
    · obtain ⟨n, hn⟩ := h _ _ hx
      refine ⟨n, ?_⟩
      unfold iter
      rw [hn]
      split
      · rename_i hq; obtain rfl := Option.some.inj hq; exact absurd hx (hr _)
      · rfl
theorem xcode_lim : ∀ (c : Code) {fr : Fr} {res : Ex × Fr}, xcode P ((lim P ext hm gl).at m0) N k c fr = some res → ∃ n, xcode P ((env P ext hm gl n).at m0) N k c fr = some res := by
  intro c
  induction c with
  | region id ops draw => intro fr res hx; simp only [xcode] at hx ⊢; exact xregion_lim hx
  | seq x y ihx ihy =>
    intro fr res hx
    simp only [xcode] at hx
    split at hx <;> rename_i hr
    · obtain ⟨n, hn⟩ := ihx hr
      obtain ⟨m, hm'⟩ := ihy hx
      refine ⟨max n m, ?_⟩
      simp only [xcode, xcode_le ((env_le P ext hm gl (Nat.le_max_left n m)).at m0) (Nat.le_refl _) _ hn]
      exact xcode_le ((env_le P ext hm gl (Nat.le_max_right n m)).at m0) (Nat.le_refl _) _ hm'
    · obtain ⟨n, hn⟩ := ihx hx
      refine ⟨n, ?_⟩
      simp only [xcode, hn]
      split
      · rename_i hq; obtain rfl := Option.some.inj hq; exact absurd hx (hr _)
      · rfl
  | cond c x y ihx ihy =>
    intro fr res hx
    simp only [xcode] at hx
    split at hx <;> rename_i hr
    · rename_i b
      cases b
      · obtain ⟨n, hn⟩ := ihy hx; exact ⟨n, by simp only [xcode, ev_lim, hr]; exact hn⟩
      · obtain ⟨n, hn⟩ := ihx hx; exact ⟨n, by simp only [xcode, ev_lim, hr]; exact hn⟩
    · cases hx
  | block id b ih =>
    intro fr res hx
    simp only [xcode] at hx
    split at hx <;> rename_i hr
    · obtain ⟨n, hn⟩ := ih hr; exact ⟨n, by simp only [xcode, hn]; exact hx⟩
    · obtain ⟨n, hn⟩ := ih hx
      refine ⟨n, ?_⟩
      simp only [xcode, hn]
      split
      · rename_i hq; obtain rfl := Option.some.inj hq; exact absurd hx (hr _ _)
      · rfl
  | loop b ih =>
    intro fr res hx
    simp only [xcode] at hx ⊢
    exact iter_lim (fun fr r => ih) hx
  | _ => intro fr res hx; first | (exact ⟨0, by simp only [xcode] at hx ⊢; exact hx⟩) | (simp [xcode] at hx)
theorem xrun0_lim {fn : Func} {zas : List V} {r : HR} (hx : xrun0 P ((lim P ext hm gl).at m0) k fn zas st nx = some r) : ∃ n, xrun0 P ((env P ext hm gl n).at m0) k fn zas st nx = some r := by
  unfold xrun0 at hx ⊢
  split at hx
  · cases hx
  · split at hx <;> rename_i hr
    · obtain ⟨n, hn⟩ := xcode_lim _ hr; exact ⟨n, by simp only [hn]; exact hx⟩
    · obtain ⟨n, hn⟩ := xcode_lim _ hr; exact ⟨n, by simp only [hn]; exact hx⟩
    · obtain ⟨n, hn⟩ := xcode_lim _ hr; exact ⟨n, by simp only [hn]; exact hx⟩
    · cases hx
theorem up1 {n m : Nat} (h : n ≤ m) {c : Code} {fr : Fr} {res : Ex × Fr} (hx : xcode P ((env P ext hm gl n).at m0) N k c fr = some res) : xcode P ((env P ext hm gl m).at m0) N k c fr = some res := xcode_le ((env_le P ext hm gl h).at m0) (Nat.le_refl _) _ hx
theorem xclos_lim {g : FuncId} {cs : List V} {rv : V} {fr : Fr} (hx : xclos P ((lim P ext hm gl).at m0) k g cs rv st nx = some fr) : ∃ n, xclos P ((env P ext hm gl n).at m0) k g cs rv st nx = some fr := by
  unfold xclos at hx ⊢
  split at hx
  · rename_i hn
    simp only [hn, if_true]
    rw [Option.bind_eq_some_iff] at hx
    obtain ⟨fn, hfn, hx⟩ := hx
    simp only [hfn, Option.bind_some]
    rw [Option.bind_eq_some_iff] at hx
    obtain ⟨q, hq, hx⟩ := hx
    simp only [hq, Option.bind_some]
    split at hx
    · rename_i hc
      rw [Option.bind_eq_some_iff] at hx
      obtain ⟨tv, ht, hx⟩ := hx
      split at hx
      · rename_i tm st' nx' recs hr
        obtain ⟨n, hn'⟩ := xops_lim hr
        split at hx
        · rename_i hr2
          obtain ⟨m, hm'⟩ := xcode_lim _ hr2
          exact ⟨max n m, by rw [if_pos hc, ht]; simp only [Option.bind_some, xops_le ((env_le P ext hm gl (Nat.le_max_left n m)).at m0) hn', up1 (Nat.le_max_right n m) hm']; exact hx⟩
        · rename_i hr2
          obtain ⟨m, hm'⟩ := xcode_lim _ hr2
          exact ⟨max n m, by rw [if_pos hc, ht]; simp only [Option.bind_some, xops_le ((env_le P ext hm gl (Nat.le_max_left n m)).at m0) hn', up1 (Nat.le_max_right n m) hm']; exact hx⟩
        · cases hx
      · cases hx
    · cases hx
  · cases hx
theorem xrunD_lim {fn : Func} {q : Code × FuncId × List Operand × Tmp × Oper × Oper × Array Oper × Code} {zas : List V} {r : HR} (hx : xrunD P ((lim P ext hm gl).at m0) k fn q zas st nx = some r) : ∃ n, xrunD P ((env P ext hm gl n).at m0) k fn q zas st nx = some r := by
  unfold xrunD at hx
  split at hx
  · rename_i fr1 hr1
    obtain ⟨n, hn1⟩ := xcode_lim _ hr1
    split at hx
    · rename_i hc
      rw [Option.bind_eq_some_iff] at hx
      obtain ⟨cs, hcs, hx⟩ := hx
      have hcs' : ∀ j, q.2.2.1.mapM (ev ((env P ext hm gl j).at m0) fr1.tm) = some cs := fun j => by rw [ev_lim]; exact hcs
      split at hx
      · rename_i fr hr2
        obtain ⟨m, hm2⟩ := xcode_lim _ hr2
        rw [Option.bind_eq_some_iff] at hx
        obtain ⟨fr', hc', hx⟩ := hx
        obtain ⟨l, hl⟩ := xclos_lim hc'
        refine ⟨max n (max m l), ?_⟩
        unfold xrunD
        simp only [up1 (by omega : n ≤ max n (max m l)) hn1, hc, if_true, hcs', Option.bind_some, up1 (by omega : m ≤ max n (max m l)) hm2, xclos_le ((env_le P ext hm gl (by omega : l ≤ max n (max m l))).at m0) (Nat.le_refl _) hl]
        exact hx
      · rename_i fr hr2
        obtain ⟨m, hm2⟩ := xcode_lim _ hr2
        rw [Option.bind_eq_some_iff] at hx
        obtain ⟨fr', hc', hx⟩ := hx
        obtain ⟨l, hl⟩ := xclos_lim hc'
        refine ⟨max n (max m l), ?_⟩
        unfold xrunD
        simp only [up1 (by omega : n ≤ max n (max m l)) hn1, hc, if_true, hcs', Option.bind_some, up1 (by omega : m ≤ max n (max m l)) hm2, xclos_le ((env_le P ext hm gl (by omega : l ≤ max n (max m l))).at m0) (Nat.le_refl _) hl]
        exact hx
      · rename_i v fr hr2
        obtain ⟨m, hm2⟩ := xcode_lim _ hr2
        split at hx
        · rw [Option.bind_eq_some_iff] at hx
          obtain ⟨fr', hc', hx⟩ := hx
          obtain ⟨l, hl⟩ := xclos_lim hc'
          refine ⟨max n (max m l), ?_⟩
          unfold xrunD
          simp only [up1 (by omega : n ≤ max n (max m l)) hn1, hc, if_true, hcs', Option.bind_some, up1 (by omega : m ≤ max n (max m l)) hm2, xclos_le ((env_le P ext hm gl (by omega : l ≤ max n (max m l))).at m0) (Nat.le_refl _) hl]
          exact hx
        · cases hx
      · cases hx
    · cases hx
  · cases hx
theorem xrun_lim {fn : Func} {zas : List V} {r : HR} (hx : xrun P ((lim P ext hm gl).at m0) k fn zas st nx = some r) : ∃ n, xrun P ((env P ext hm gl n).at m0) k fn zas st nx = some r := by
  unfold xrun at hx ⊢
  split at hx
  · exact xrun0_lim hx
  · exact xrunD_lim hx
theorem xplain_lim {fn : Func} {zas : List V} {r : CR} (hx : xplain P ((lim P ext hm gl).at m0) k fn zas = some r) : ∃ n, xplain P ((env P ext hm gl n).at m0) k fn zas = some r := by
  unfold xplain at hx ⊢
  split at hx <;> rename_i hr
  · obtain ⟨n, hn⟩ := xrun_lim hr; exact ⟨n, by simp only [hn]; exact hx⟩
  · obtain ⟨n, hn⟩ := xrun_lim hr; exact ⟨n, by simp only [hn]; exact hx⟩
  · cases hx
theorem pl_intro {f : FuncId} {fn : Func} {zas : List V} {r : CR} (k : Nat) (he : ext.pl f = none) (hf : P.funcs[f]? = some fn) (h : xplain P ((lim P ext hm gl).at (hm f / 2)) k fn zas = some r) : (lim P ext hm gl).pl f zas = some r := by
  obtain ⟨n, hn⟩ := xplain_lim h
  refine (lim_pl P ext hm gl).2 ⟨max n k + 1, ?_⟩
  rw [env]
  simp only [he, hf, Option.bind_some]
  exact xplain_le ((env_le P ext hm gl (Nat.le_max_left n k)).at _) (Nat.le_max_right n k) hn
theorem hp_intro {f : FuncId} {fn : Func} {zas : List V} {r : HR} (k : Nat) (he : ext.hp f = none) (h5 : ¬ hm f = 5) (hf : P.funcs[f]? = some fn) (h : xrun P ((lim P ext hm gl).at (hm f / 2)) k fn zas st nx = some r) : (lim P ext hm gl).hp f zas st nx = some r := by
  obtain ⟨n, hn⟩ := xrun_lim h
  refine (lim_hp P ext hm gl).2 ⟨max n k + 1, ?_⟩
  rw [env]
  simp only [he, hf, Option.bind_some]
  rw [if_neg h5]
  exact xrun_le ((env_le P ext hm gl (Nat.le_max_left n k)).at _) (Nat.le_max_right n k) hn
theorem hp_ext {f : FuncId} {g : List V → St → Nat → Option HR} {zas : List V} {r : HR} (he : ext.hp f = some g) (h : g zas st nx = some r) : (lim P ext hm gl).hp f zas st nx = some r := by
  refine (lim_hp P ext hm gl).2 ⟨0, ?_⟩
  rw [env]
  simp only [he, Option.bind_some, h]
theorem pl_calc {f : FuncId} {zas : List V} {r : CR} (n : Nat) (h : (env P ext hm gl n).pl f zas = some r) : (lim P ext hm gl).pl f zas = some r := (lim_pl P ext hm gl).2 ⟨n, h⟩
theorem lim_bool (hP : ProgOK P) (hext : ExtOK P gl ext) {f : FuncId} (hf : nobody P f = false) {zas : List V} {b : Bool} (hx : (lim P ext hm gl).pl f zas = some (.ret (.sc (.bool b))))
    {p : Pr} {vs : List Value} {w : World} (hgl : GlOK P gl p) (hp : ∀ c o v, p c o = some v → w.cell? ⟨c, o, none⟩ = some v) (has : All2 (RepP P p) zas vs) : Calls P f vs.toArray w fun e w' => e = .returned (.bool b) ∧ Below w.heap.size w w' := by
  obtain ⟨n, hn⟩ := (lim_pl P ext hm gl).1 hx
  exact calls_bool hP hext hf hn hgl hp has
end
end Go.Proofs.YthgmhlpjbednpaaDoor.Vm
set_option linter.unusedVariables false
set_option linter.unusedSimpArgs false
namespace Go.Proofs.YthgmhlpjbednpaaDoor.Vm
open Go.RowKit
inductive K where
  | mov (a : A)
  | pick (c a b : A)
  | new (cs : List V)
  | box (a : A)
  | build (pl : List (Nat × Nat)) (zc : List V) (ps : List (Nat × A))
  | mk (e s : Nat) (zas : List A)
  | ld (s : Option Nat) (a : A)
  | sto (n : Nat) (a b : A)
  | nilc (a : A)
  | bin (b : Bool) (op : BinOp) (x y : A)
  | un (op : UnOp) (x : A)
  | fa (off : Nat) (a : A)
  | fld (s : Option Nat) (off : Nat) (a : A)
  | ixl (el : Nat) (a i : A)
  | ixa (n s : Nat) (a i : A)
  | ixs (a i : A)
  | b2s (e : Nat) (a : A)
  | s2b (e : Nat) (a : A)
  | i2i (k : IntKind) (a : A)
  | len (a : A)
  | lenS (a : A)
  | app (el by_ : Nat) (i : Bool) (a b : A)
  | sll (el : Nat) (a : A) (lo hi : Option A)
  | sls (a : A) (lo hi : Option A)
  | ext (a : A) (i : Nat)
  | min (a b : A)
  | no (f : FuncId) (zas : List A)
  | pl (f : FuncId) (zas : List A)
  | hp (f : FuncId) (zas : List A)
  | dyn (f : A) (zas : List A)
  | eqs (neg : Bool) (offs : List (Nat × Nat)) (a b : A)
  | isn (neg : Bool) (a : A)
  | rng (a : A)
  | nxt (a : A)
  | mkf (f : Fn) (zas bs : List A)
  | mkm
  | lku (kd : Nat) (z : V) (ok : Bool) (a k : A)
  | mup (kd : Nat) (a k y : A)
  | ifc (t : TypeId) (a : A)
  | pan (a : A)
  | gen (op : Op) (ty : TypeId)
  | two (x : KX) (k : K)
  | del (kd : Nat) (a k : A)
  | nils (neg : Bool) (a : A)
structure KO where
  d : Option Nat
  g : Option (Nat × Bool)
  k : K
def kbin (op : BinOp) (x y : Value) : Option Value :=
  match op, x, y with
  | .shl, .int k a, .int _ b => if b < 0 then none else some (.int k (k.wrap (a * 2 ^ (Nat.min b.toNat k.bits))))
  | .shr, .int k a, .int _ b => if b < 0 then none else some (.int k (a.fdiv (2 ^ (Nat.min b.toNat k.bits))))
  | op, .int k a, .int k' b =>
    if k ≠ k' then none else
    match op with
    | .add => some (.int k (k.wrap (a + b)))
    | .sub => some (.int k (k.wrap (a - b)))
    | .mul => some (.int k (k.wrap (a * b)))
    | .quo => if b = 0 then none else some (.int k (k.wrap (a.tdiv b)))
    | .rem => if b = 0 then none else some (.int k (a.tmod b))
    | .and => some (.int k (k.wrap (BitVec.ofInt k.bits a &&& BitVec.ofInt k.bits b).toNat))
    | .or => some (.int k (k.wrap (BitVec.ofInt k.bits a ||| BitVec.ofInt k.bits b).toNat))
    | .xor => some (.int k (k.wrap (BitVec.ofInt k.bits a ^^^ BitVec.ofInt k.bits b).toNat))
    | .eql => some (.bool (decide (a = b)))
    | .neq => some (.bool (!decide (a = b)))
    | .lss => some (.bool (decide (a < b)))
    | .leq => some (.bool (decide (a ≤ b)))
    | .gtr => some (.bool (decide (b < a)))
    | .geq => some (.bool (decide (b ≤ a)))
    | _ => none
  | .eql, .string a, .string b => some (.bool (decide (a = b)))
  | .neq, .string a, .string b => some (.bool (!decide (a = b)))
  | .lss, .string a, .string b => some (.bool (Op.bytesLess a.data.toList b.data.toList))
  | .leq, .string a, .string b => some (.bool (Op.bytesLess a.data.toList b.data.toList || decide (a = b)))
  | .gtr, .string a, .string b => some (.bool !(Op.bytesLess a.data.toList b.data.toList || decide (a = b)))
  | .geq, .string a, .string b => some (.bool !(Op.bytesLess a.data.toList b.data.toList))
  | .add, .string a, .string b => if a.size + b.size ≤ 9223372036854775807 then some (.string (a ++ b)) else none
  | .eql, .bool a, .bool b => some (.bool (a == b))
  | .neq, .bool a, .bool b => some (.bool !(a == b))
  | _, _, _ => none
def isBool (P : Program) (t : TypeId) : Bool := match P.underlying t with | some .bool => true | _ => false
theorem ba_inj {a b : ByteArray} (h : a.data.toList = b.data.toList) : a = b := by
  cases a with | mk a => cases b with | mk b => exact congrArg ByteArray.mk (Array.toList_inj.mp h)
theorem ba_tl (a b : ByteArray) : (a.toList == b.toList) = decide (a = b) := by
  rw [ByteArray.toList_eq, ByteArray.toList_eq]
  by_cases h : a = b
  · subst h; simp
  · have h2 : ¬ a.data.toList = b.data.toList := fun e => h (ba_inj e)
    rw [decide_eq_false h]; exact beq_eq_false_iff_ne.mpr h2
def plainV : Value → Bool
  | .int .. | .string _ | .bool _ => true
  | _ => false
theorem eqGuard_plain {op : BinOp} {t : TypeId} {x y : Operand} {u v : Value} (h : plainV u = true) : eqGuard op t x y u v = pure () := by
  cases op <;> cases u <;> simp [plainV] at h <;> rfl
theorem kbin_plain {op : BinOp} {u v z : Value} (h : kbin op u v = some z) : plainV u = true := by
  cases u <;> first | rfl | (exfalso; revert h; cases op <;> simp [kbin])
theorem reck_bind {P : Program} {α β : Type} {f : α → Sem β} : ∀ (s : Sem α) {a : α}, reck P s = some a → reck P (s >>= f) = reck P (f a)
  | .pure a, b, h => by simp only [reck, Option.some.injEq] at h; subst h; rfl
  | .program k, b, h => by simp only [reck] at h; show reck P (k P >>= f) = _; exact reck_bind _ h
  | .mark m k, b, h => by simp only [reck] at h; show reck P (k >>= f) = _; exact reck_bind _ h
  | .load .., _, h => by simp [reck] at h
  | .store .., _, h => by simp [reck] at h
  | .new .., _, h => by simp [reck] at h
  | .shape .., _, h => by simp [reck] at h
  | .freeze .., _, h => by simp [reck] at h
  | .frozen .., _, h => by simp [reck] at h
  | .getObj .., _, h => by simp [reck] at h
  | .setObj .., _, h => by simp [reck] at h
  | .choose .., _, h => by simp [reck] at h
  | .sys .., _, h => by simp [reck] at h
  | .halt .., _, h => by simp [reck] at h
theorem reck_underlying {P : Program} {t : TypeId} {d : TypeDesc} (hu : P.underlying t = some d) : reck P (underlying t) = some d := by
  show reck P (match P.underlying t with | some d => pure d | none => stuck "no such type") = _
  rw [hu]; rfl
theorem reck_eqIn (P : Program) {t : TypeId} (d : Nat) (hu : P.underlying t = some .bool) (a b : Bool) : reck P (Op.equalIn (d + 1) t (.bool a) (.bool b)) = some (a == b) := by
  simp only [Op.equalIn]
  rw [reck_bind _ (reck_underlying hu)]
  rfl
theorem reck_eqb {P : Program} {t : TypeId} (hu : P.underlying t = some .bool) {a b : Bool} : reck P (binOp .eql t (.bool a) (.bool b)) = some (.bool (a == b)) := by
  show reck P (Op.equal t (.bool a) (.bool b) >>= fun r => (pure (Value.bool r) : Sem Value)) = _
  rw [reck_bind _ (show reck P (Op.equal t (.bool a) (.bool b)) = some (a == b) from reck_eqIn P 9999 hu a b)]; rfl
theorem reck_neb {P : Program} {t : TypeId} (hu : P.underlying t = some .bool) {a b : Bool} : reck P (binOp .neq t (.bool a) (.bool b)) = some (.bool !(a == b)) := by
  show reck P (Op.equal t (.bool a) (.bool b) >>= fun r => (pure (Value.bool !r) : Sem Value)) = _
  rw [reck_bind _ (show reck P (Op.equal t (.bool a) (.bool b)) = some (a == b) from reck_eqIn P 9999 hu a b)]; rfl
theorem kbin_binOp (P : Program) {op : BinOp} {t : TypeId} {u v z : Value} (hb : (∀ b, u ≠ .bool b) ∨ isBool P t = true) (h : kbin op u v = some z) : reck P (binOp op t u v) = some z := by
  have hp := kbin_plain h
  cases u <;> simp only [plainV, Bool.false_eq_true] at hp
  · rename_i b
    rcases hb with hb | hb
    · exact absurd rfl (hb b)
    · unfold isBool at hb
      split at hb
      · rename_i hu
        cases op <;> cases v <;> simp only [kbin, reduceCtorEq, Option.some.injEq] at h <;> subst h
        · exact reck_eqb hu
        · exact reck_neb hu
      · cases hb
  · rename_i k a
    cases v with
    | int k' b =>
      cases op <;> simp only [kbin] at h <;> first
        | (cases h; done)
        | (split at h <;> first
            | (cases h; done)
            | (rename_i hk; simp only [Option.some.injEq] at h; subst h; simp [binOp, Op.shift, hk]; rfl)
            | (rename_i hk; have hk := Classical.not_not.mp hk; subst hk; simp only [Option.some.injEq] at h; subst h; simp [binOp, Op.intArith, Op.intBits, Op.intCmp]; rfl)
            | (rename_i hk; have hk := Classical.not_not.mp hk; subst hk; cases h; done)
            | (rename_i hk; have hk := Classical.not_not.mp hk; subst hk; split at h <;> first | (cases h; done) | (rename_i hz; simp only [Option.some.injEq] at h; subst h; simp [binOp, Op.intDiv, hz]; rfl)))
    | _ => cases op <;> simp [kbin] at h
  · rename_i a
    cases v with
    | string b =>
      cases op <;> simp only [kbin, reduceCtorEq, Option.some.injEq] at h <;> first
        | (subst h; rw [← ba_tl]; rfl)
        | (subst h; rw [← ba_tl, ← ByteArray.toList_eq, ← ByteArray.toList_eq]; rfl)
        | (subst h; rw [← ByteArray.toList_eq, ← ByteArray.toList_eq]; rfl)
        | (split at h
           · rename_i hz
             simp only [Option.some.injEq] at h; subst h
             have h3 : ¬ ((a.size + b.size : Nat) : Int) > IntKind.i64.max := fun e => by
               have h4 : IntKind.i64.max = 9223372036854775807 := rfl
               rw [h4] at e; omega
             simp only [binOp, Op.stringOp, h3, if_false]; rfl
           · cases h)
    | _ => cases op <;> simp [kbin] at h
theorem kbin_eq (P : Program) {op : BinOp} {t : TypeId} {x y : Operand} {u v z : Value} (hb : (∀ b, u ≠ .bool b) ∨ isBool P t = true) (h : kbin op u v = some z) : reck P (do eqGuard op t x y u v; binOp op t u v) = some z := by
  rw [eqGuard_plain (kbin_plain h)]
  exact kbin_binOp P hb h
end Go.Proofs.YthgmhlpjbednpaaDoor.Vm
set_option linter.unusedVariables false
set_option linter.unusedSimpArgs false
namespace Go.Proofs.YthgmhlpjbednpaaDoor.Vm
open Go.RowKit
def kbin' (b : Bool) (op : BinOp) (u v : Value) : Option Value :=
  match u with
  | .bool x => if b then kbin op (.bool x) v else none
  | u => kbin op u v
def ksrc (l : Bool) (el : Nat) : V → Option (List V)
  | .list e' ys _ => if l = true ∧ (e' = el ∨ ys.isEmpty = true) then some ys else none
  | .sc (.string s) => if l then none else some (bytesV s)
  | _ => none
def ksub (s : ByteArray) (l h : Int) : Option V := if 0 ≤ l ∧ l ≤ h ∧ h ≤ s.size then some (.sc (.string (s.extract l.toNat h.toNat))) else none
def kok : Nat → Value → Bool
  | 0, .int .. => true
  | 1, .string _ => true
  | 2, .bool _ => true
  | _, _ => false
def keqs (xs ys : List V) : List (Nat × Nat) → Option Bool
  | [] => some true
  | (o, kd) :: os => match xs[o]?, ys[o]? with
    | some (.sc u), some (.sc v) => if kok kd u then (match kbin .eql u v with
      | some (.bool r) => (keqs xs ys os).map fun q => r && q
      | _ => none) else none
    | _, _ => none
section
variable (P : Program) (E : Env) (tm : Nat → V) (st : St) (i0 nx : Nat)
def kop : K → Option R
  | .mov a => some (.val (av tm a) [] [])
  | .pick c a b => match av tm c with
    | .sc (.bool t) => some (.val (if t then av tm a else av tm b) [] [])
    | _ => none
  | .new cs => some (.val (.ptr i0 0) [(i0, some (.cells cs))] [])
  | .box a => if ones (av tm a).cells then some (.val (.ptr i0 0) [(i0, some (.cells (av tm a).cells))] []) else none
  | .build pl zc ps => (xfill (fun i => pl[i]?) zc (ps.map fun p => (p.1, av tm p.2))).bind fun cs => if (ps.all fun p => ones (av tm p.2).cells) && ones cs then some (.val (.agg cs) [] []) else none
  | .mk e s zas => if (zas.all fun a => (av tm a).cells.length == s && ones (av tm a).cells && ((av tm a).pur?).isSome) then ((zas.map (av tm)).mapM V.pur?).bind fun xs => some (.val (.list e xs i0) [(i0, some (.tok zas.length e))] []) else none
  | .ld s a => match av tm a with
    | .ptr id off => match st id with
      | some (.cells cs) => (kld s cs off).map fun v => .val v [] [id]
      | _ => none
    | .cp cs => (kld s cs 0).map fun v => .val v [] []
    | _ => none
  | .sto n a b => match av tm a with
    | .ptr id off => match st id with
      | some (.cells cs) => if n = (av tm b).cells.length ∧ off + (av tm b).cells.length ≤ cs.length ∧ ones (av tm b).cells = true then some (.val (.sc undef) [(id, some (.cells (cs.take off ++ (av tm b).cells ++ cs.drop (off + (av tm b).cells.length))))] [id]) else none
      | _ => none
    | _ => none
  | .nilc a => match av tm a with
    | .ptr i o => some (.val (.ptr i o) [] [])
    | .cp c => some (.val (.cp c) [] [])
    | .fn (.func f) a b => some (.val (.fn (.func f) a b) [] [])
    | _ => none
  | .bin b op x y => match av tm x, av tm y with
    | .sc u, .sc v => (kbin' b op u v).map fun v => .val (.sc v) [] []
    | _, _ => none
  | .un op x => match av tm x with
    | .sc u => (reck P (Op.unary op u)).map fun v => .val (.sc v) [] []
    | _ => none
  | .fa off a => match av tm a with
    | .ptr id o => some (.val (.ptr id (o + off)) [] [])
    | .cp cs => if off < cs.length then some (.val (.cp (cs.drop off)) [] []) else none
    | _ => none
  | .fld s off a => match av tm a with
    | .agg cs => (kld s cs off).map fun v => .val v [] []
    | _ => none
  | .ixl el a i => match av tm a, av tm i with
    | .list e xs _, .sc (.int _ i) => if 0 ≤ i ∧ e = el then (xs[i.toNat]?).map fun x => .val (.cp x.cells) [] [] else none
    | _, _ => none
  | .ixa n s a i => match av tm a, av tm i with
    | .cp cs, .sc (.int _ i) => if 0 ≤ i ∧ i < n ∧ i.toNat * s < cs.length then some (.val (.cp (cs.drop (i.toNat * s))) [] []) else none
    | .ptr id off, .sc (.int _ i) => if 0 ≤ i ∧ i < n then some (.val (.ptr id (off + i.toNat * s)) [] []) else none
    | _, _ => none
  | .ixs a i => match av tm a, av tm i with
    | .sc (.string s), .sc (.int _ i) => if 0 ≤ i then (s.data.toList[i.toNat]?).map fun b => .val (.sc (.int .u8 b.toNat)) [] [] else none
    | _, _ => none
  | .b2s e a => match av tm a with
    | .list e' xs _ => if e' = e ∨ xs.isEmpty = true then (bytesOfV xs).map fun l => .val (.sc (.string ⟨l.toArray⟩)) [] [] else none
    | _ => none
  | .s2b e a => match av tm a with
    | .sc (.string t) => some (.val (.list e (bytesV t) 0) [] [])
    | _ => none
  | .i2i k a => match av tm a with
    | .sc (.int _ n) => some (.val (.sc (.int k (k.wrap n))) [] [])
    | _ => none
  | .len a => match av tm a with
    | .list _ xs _ => some (.val (.i64 xs.length) [] [])
    | _ => none
  | .lenS a => match av tm a with
    | .sc (.string s) => some (.val (.i64 s.size) [] [])
    | _ => none
  | .app el by_ l a b => match av tm a with
    | .list e xs r => (ksrc l el (av tm b)).bind fun ys =>
      if (xs.length + ys.length) * by_ ≤ 140737488355328 ∧ xs.length + ys.length ≤ 9223372036854775807 then
        if r = 1 then (if xs.isEmpty then some (.val (.list el ys i0) [(i0, some (.tok ys.length el))] []) else none)
        else if r = 0 then none
        else match st r with
          | some (.tok n e') => if n = xs.length ∧ e' = e ∧ e = el then some (.val (.list el (xs ++ ys) r) [(r, some (.tok (xs.length + ys.length) el))] [r]) else none
          | _ => none
      else none
    | _ => none
  | .sll el a lo hi => match av tm a with
    | .list e xs r => (kint tm lo 0).bind fun l => (kint tm hi xs.length).bind fun h =>
      if 0 ≤ l ∧ l ≤ h ∧ h ≤ xs.length ∧ (e = el ∨ xs.isEmpty = true) then some (.val (.list e ((xs.take h.toNat).drop l.toNat) 0) [] []) else none
    | _ => none
  | .sls a lo hi => match av tm a with
    | .sc (.string s) => (kint tm lo 0).bind fun l => (kint tm hi s.size).bind fun h => (ksub s l h).map fun v => .val v [] []
    | _ => none
  | .ext a i => match av tm a with
    | .tup vs => (vs[i]?).map fun v => .val v [] []
    | _ => none
  | .min a b => match av tm a, av tm b with
    | .sc (.int k x), .sc (.int _ y) => some (.val (.sc (.int k (if y < x then y else x))) [] [])
    | _, _ => none
  | .no f zas => ((zas.map (av tm)).mapM V.val1?).bind fun vs => match reck P (callFunc f vs.toArray) with
    | some (.value v) => some (.val (ofRes v) [] [])
    | _ => none
  | .pl f zas => ((zas.map (av tm)).mapM V.pur?).bind fun zas =>
    match E.pl f zas with
    | some (.ret y) => some (.val (own i0 y).1 (own i0 y).2 [])
    | some (.pan y) => some (.pan y)
    | none => none
  | .hp f zas => match E.hp f (zas.map (av tm)) st nx with
    | some (.ret v st' n) => some (.big v st' n)
    | some (.pan v st' n) => some (.bpan v st' n)
    | none => none
  | .dyn f zas => match av tm f with
    | .fn (.func g) first cap => xcall P E i0 nx st g (first ++ zas.map (av tm) ++ cap)
    | _ => none
  | .eqs neg offs a b => match av tm a, av tm b with
    | .agg xs, .agg ys => (xs.mapM V.val1?).bind fun _ => (ys.mapM V.val1?).bind fun _ => (keqs xs ys offs).map fun r => .val (.bool (r != neg)) [] []
    | _, _ => none
  | .isn neg a => match av tm a with
    | .ptr _ _ => some (.val (.bool neg) [] [])
    | .sc (.pointer none) => some (.val (.bool !neg) [] [])
    | _ => none
  | .rng a => match av tm a with
    | .sc (.string s) => some (.val (.ptr i0 0) [(i0, some (.iter s 0))] [])
    | _ => none
  | .nxt a => match av tm a with
    | .ptr id 0 => match st id with
      | some (.iter s pos) => if pos < s.size then some (.val (.tup [.bool true, .i64 pos, .sc (.int .i32 (Utf8.decode s pos).1)]) [(id, some (.iter s (pos + (Utf8.decode s pos).2)))] [id]) else some (.val (.tup [.bool false]) [] [id])
      | _ => none
    | _ => none
  | .mkf f l r => some (.val (.fn f (l.map (av tm)) (r.map (av tm))) [] [])
  | .mkm => some (.val (.map i0) [(i0, some (.map [] true))] [])
  | .lku kd z ok a k => match av tm a, av tm k with
    | .map id, .sc k => if kok kd k then
        match st id with
        | some (.map es _) => (mfind k es 0).bind fun r => match r with
          | some (_, v) => some (.val (if ok then .tup [v, .bool true] else v) [] [id])
          | none => some (.val (if ok then .tup [z, .bool false] else z) [] [id])
        | _ => none
      else none
    | _, _ => none
  | .mup kd a k y => match av tm a, av tm k with
    | .map id, .sc k => if kok kd k then
        match st id with
        | some (.map es d) => (mfind k es 0).bind fun r => match r with
          | some (i, _) => some (.val (.sc undef) [(id, some (.map (es.set i (.sc k, av tm y)) d))] [id])
          | none => some (.val (.sc undef) [(id, some (.map (es ++ [(.sc k, av tm y)]) d))] [id])
        | _ => none
      else none
    | _, _ => none
  | .ifc t a => some (.val (.ifc t (av tm a)) [] [])
  | .pan a => match av tm a with
    | .ifc t v => some (.pan (.ifc t v))
    | _ => none
  | .gen op ty => xop0 P E tm st i0 nx ⟨none, op, ty, "", #[], none⟩
  | .two x k => match kopx E tm st i0 x with
    | some r => r
    | none => kop k
  | .del kd a k => match av tm a, av tm k with
    | .map id, .sc k => if kok kd k then
        match st id with
        | some (.map es d) => (mfind k es 0).bind fun r => match r with
          | some (i, _) => some (.val (.tup []) [(id, some (.map (es.eraseIdx i) false))] [id])
          | none => some (.val (.tup []) [(id, some (.map es d))] [id])
        | _ => none
      else none
    | _, _ => none
  | .nils neg a => (niln (av tm a)).map fun q => .val (.bool (if neg then !q else q)) [] []
end
section
variable (P : Program) (hm : FuncId → Nat) (gl : Nat → Option V)
def plainT (t : TypeId) : Bool := match P.underlying t with | some .bool | some (.int _) | some .string => true | _ => false
def cap (i : List (Nat × Operand)) : Option (List (Nat × A)) := i.mapM fun p => (ca gl p.2).map fun a => (p.1, a)
def kdOf (t : TypeId) : Nat := match P.underlying t with | some (.int _) => 0 | some .string => 1 | some .bool => 2 | _ => 3
def isPtr (t : TypeId) : Bool := match P.underlying t with | some (.pointer _) => true | _ => false
def isNilC : Operand → Bool
  | .const (.pointer none) => true
  | _ => false
def eqsOk (t : TypeId) (fs : Array Field) : Bool := fs.toList.all (fun f => f.name != "_" && plainT P f.type && (usz P f.type == some 1) && (uagg P f.type == some false)) && !P.stoodInHeld t && !P.eqGuardType P.depth t
def eqOffs : Nat → TypeId → Option (List (Nat × Nat))
  | 0, _ => none
  | d + 1, t => if (plainT P t && (usz P t == some 1) && (uagg P t == some false)) = true then some [(0, kdOf P t)] else
    match P.underlying t with
    | some (.struct fs) => if P.stoodInHeld t = true then none else
      (fs.toList.mapM fun f => if f.name = "_" then none else (usz P t).bind fun s => (usz P f.type).bind fun k => if f.offset + k ≤ s then (eqOffs d f.type).map fun l => l.map fun p => (f.offset + p.1, p.2) else none).map List.flatten
    | some (.array n el) => (usz P t).bind fun s => (usz P el).bind fun k => if n * k ≤ s then (eqOffs d el).map fun l => (List.range n).flatMap fun i => l.map fun p => (i * k + p.1, p.2) else none
    | _ => none
def isNilS : Operand → Bool
  | .const (.slice none 0 0) => true
  | _ => false
def ckEq (op : BinOp) (t : TypeId) (x y : Operand) : Option K :=
  match eqOffs P 3 t with
  | some offs => if uagg P t = some true ∧ P.eqGuardType P.depth t = false then (match op with
    | .eql => (ca gl x).bind fun a => (ca gl y).map fun b => .eqs false offs a b
    | .neq => (ca gl x).bind fun a => (ca gl y).map fun b => .eqs true offs a b
    | _ => none) else none
  | none => none
def ckApp (t t' : TypeId) (a b : A) : Option K :=
  match uel P t with
  | some el => match P.info? el with
    | some i => match i.zero with
      | some z => if z.cells.size = i.size ∧ 0 < i.size then
          (if t' == t then some (.app el i.bytes true a b) else if isStr P t' && isU8 P el && (usz P el == some 1) then some (.app el i.bytes false a b) else none)
        else none
      | none => none
    | none => none
  | none => none
def ck? (op : Op) (ty : TypeId) : Option K :=
  match op with
  | .move x | .assign x => (ca gl x).map .mov
  | .pick c a b => (ca gl c).bind fun c => (ca gl a).bind fun a => (ca gl b).map fun b => .pick c a b
  | .alloc e => (uzero P e).bind fun z => if ones (V.ofV z).cells then some (.new (V.ofV z).cells) else none
  | .box e x => (ca gl x).map .box
  | .build t ps => (cap gl ps.toList).bind fun ps =>
    match uzero P t, P.underlying t with
    | some z, some (.struct fs) => if fs.all (fun f => (usz P f.type).isSome) && ones (V.ofV z).cells then some (.build (fs.toList.map fun f => (f.offset, (usz P f.type).getD 0)) (V.ofV z).cells ps) else none
    | some z, some (.array n el) => (usz P el).bind fun s => if ones (V.ofV z).cells then some (.build ((List.range n).map fun i => (i * s, s)) (V.ofV z).cells ps) else none
    | _, _ => none
  | .buildSlice t n ps => (cap gl ps.toList).bind fun ps =>
    match uel P t with
    | some e => (usz P e).bind fun s => if ps.map (·.1) = List.range n ∧ n ≤ 1000 ∧ s ≤ 1000 ∧ 0 < s ∧ (uzero P e).isSome = true then some (.mk e s (ps.map (·.2))) else none
    | none => none
  | .load t x => (ca gl x).bind fun a => (kty P t).map fun s => .ld s a
  | .store t x y => (ca gl x).bind fun a => (ca gl y).bind fun b => (usz P t).map fun n => .sto n a b
  | .nilCheck x => (ca gl x).map .nilc
  | .binOp op t x y _ => if plainT P t then (ca gl x).bind fun a => (ca gl y).map fun b => .bin (isBool P t) op a b
    else if isPtr P t && isNilC y then (match op with
      | .eql => (ca gl x).map fun a => .isn false a
      | .neq => (ca gl x).map fun a => .isn true a
      | _ => none)
    else match P.underlying t with
      | some (.struct fs) => if eqsOk P t fs then (match op with
        | .eql => (ca gl x).bind fun a => (ca gl y).map fun b => .eqs false (fs.toList.map fun f => (f.offset, kdOf P f.type)) a b
        | .neq => (ca gl x).bind fun a => (ca gl y).map fun b => .eqs true (fs.toList.map fun f => (f.offset, kdOf P f.type)) a b
        | _ => none) else ckEq P gl op t x y
      | some (.array _ _) => ckEq P gl op t x y
      | some (.slice _) => if isNilS y then (match op with
        | .eql => (ca gl x).map fun a => .nils false a
        | .neq => (ca gl x).map fun a => .nils true a
        | _ => none) else none
      | _ => none
  | .unOp op _ x => (ca gl x).map fun a => .un op a
  | .convert s d x => (ca gl x).bind fun a =>
    match P.underlying s, P.underlying d with
    | some (.slice e), some .string => if isU8 P e && (usz P e == some 1) then some (.b2s e a) else none
    | some .string, some (.slice e) => if isU8 P e && (usz P e == some 1) then some (.s2b e a) else none
    | some (.int _), some (.int k) => some (.i2i k a)
    | _, _ => none
  | .slice t x lo hi none => (ca gl x).bind fun a => (cao gl lo).bind fun lo => (cao gl hi).bind fun hi =>
    match P.underlying t with
    | some (.slice el) => if (usz P el).isSome then some (.sll el a lo hi) else none
    | some .string => some (.sls a lo hi)
    | _ => none
  | .fieldAddr s x f => (ca gl x).bind fun a => match P.underlying s with
    | some (.struct fs) => (fs[f]?).bind fun fd => match usz P fd.type with
      | some (n + 1) => some (.fa fd.offset a)
      | _ => none
    | _ => none
  | .field t x f => (ca gl x).bind fun a => match P.underlying t with
    | some (.struct fs) => (fs[f]?).bind fun fd => (kty P fd.type).map fun s => .fld s fd.offset a
    | _ => none
  | .indexAddr t x i => (ca gl x).bind fun a => (ca gl i).bind fun i => match P.underlying t with
    | some (.slice el) => (usz P el).bind fun s => if 0 < s then some (.ixl el a i) else none
    | some (.array n el) => (usz P el).bind fun s => if 0 < s then some (.ixa n s a i) else none
    | _ => none
  | .index t x i => (ca gl x).bind fun a => (ca gl i).bind fun i => if isStr P t then some (.ixs a i) else none
  | .extract x i => (ca gl x).map fun a => .ext a i
  | .range t x => if isStr P t then (ca gl x).map .rng else none
  | .next x true => (ca gl x).map .nxt
  | .makeFunc f l r => (l.toList.mapM (ca gl)).bind fun l => (r.toList.mapM (ca gl)).map fun r => .mkf f l r
  | .makeMap t none => some .mkm
  | .lookup t x k ok => (ca gl x).bind fun a => (ca gl k).bind fun k => match P.underlying t with
    | some (.map kt et) => (uzero P et).bind fun z => if ones (V.ofV z).cells then some (.lku (kdOf P kt) (V.ofV z) ok a k) else none
    | _ => none
  | .mapUpdate t x k y => (ca gl x).bind fun a => (ca gl k).bind fun k => (ca gl y).bind fun y => match P.underlying t with
    | some (.map kt et) => some (.mup (kdOf P kt) a k y)
    | _ => none
  | .makeInterface t x => match P.underlying t with
    | some (.interface _) | none => none
    | _ => (ca gl x).map fun a => .ifc t a
  | .panic x => (ca gl x).map .pan
  | .call c => (c.args.toList.mapM (ca gl)).bind fun zas => match c.callee with
    | .builtin .append => match zas, c.argTypes.toList with
      | [a, b], [t, t'] => ckApp P t t' a b
      | _, _ => none
    | .builtin .len => match zas, c.argTypes.toList with
      | [a], [t] => match P.underlying t with
        | some (.slice _) => some (.len a)
        | some .string => some (.lenS a)
        | _ => none
      | _, _ => none
    | .builtin .min => match zas with
      | [a, b] => some (.min a b)
      | _ => none
    | .builtin .delete => match zas, c.argTypes.toList with
      | [a, b], t :: _ => match P.underlying t with
        | some (.map kt _) => some (.del (kdOf P kt) a b)
        | _ => none
      | _, _ => none
    | .value (.func f) => if nobody P f then some (.no f zas) else if isM (hm f) then some (.hp f zas) else some (.pl f zas)
    | .value x => (ca gl x).map fun a => .dyn a zas
    | _ => none
  | _ => none
def ck0 (op : Op) (ty : TypeId) : K := (ck? P hm gl op ty).getD (.gen op ty)
def ck (md : Nat) (op : Op) (ty : TypeId) : K := if md < 1 then ck0 P hm gl op ty else match ckx P hm gl op with
  | some x => .two x (ck0 P hm gl op ty)
  | none => ck0 P hm gl op ty
end
section
variable {P : Program} {E : Env} {tm : Nat → V} {st : St} {i0 nx : Nat} {hm : FuncId → Nat} {gl : Nat → Option V}
theorem ca_ev (hg : E.gl = gl) {x : Operand} {a : A} (h : ca gl x = some a) : ev E tm x = some (av tm a) := by
  cases x <;> simp only [ca, Option.some.injEq] at h
  · subst h; rfl
  · split at h
    · rename_i hq; simp only [Option.some.injEq] at h; subst h; simp [ev, hq, av]
    · cases h
  · subst hg; simp only [Option.map_eq_some_iff] at h; obtain ⟨v, hv, rfl⟩ := h; simp [ev, hv, av]
  · subst h; rfl
theorem caL_ev (hg : E.gl = gl) : ∀ {xs : List Operand} {zas : List A}, xs.mapM (ca gl) = some zas → xs.mapM (ev E tm) = some (zas.map (av tm))
  | [], zas, h => by simp at h; subst h; rfl
  | x :: xs, zas, h => by
    simp only [List.mapM_cons, Option.bind_eq_bind, Option.bind_eq_some_iff, Option.pure_def, Option.some.injEq] at h
    obtain ⟨a, ha, bs, hb, rfl⟩ := h
    simp [List.mapM_cons, ca_ev hg ha, caL_ev hg hb]
theorem cap_ev (hg : E.gl = gl) : ∀ {xs : List (Nat × Operand)} {zas : List (Nat × A)}, cap gl xs = some zas → (xs.mapM fun (p : Nat × Operand) => (ev E tm p.2).map fun v => (p.1, v)) = some (zas.map fun p => (p.1, av tm p.2))
  | [], zas, h => by simp [cap] at h; subst h; rfl
  | x :: xs, zas, h => by
    simp only [cap, List.mapM_cons, Option.bind_eq_bind, Option.bind_eq_some_iff, Option.pure_def, Option.some.injEq, Option.map_eq_some_iff] at h
    obtain ⟨a, ⟨a', ha, rfl⟩, bs, hb, rfl⟩ := h
    have := cap_ev hg (show cap gl xs = some bs from hb)
    simp [List.mapM_cons, ca_ev hg ha, this]
end
end Go.Proofs.YthgmhlpjbednpaaDoor.Vm
set_option linter.unusedVariables false
set_option linter.unusedSimpArgs false
namespace Go.Proofs.YthgmhlpjbednpaaDoor.Vm
open Go.RowKit
section
variable {P : Program} {E : Env} {tm : Nat → V} {st : St} {i0 nx : Nat} {hm : FuncId → Nat} {gl : Nat → Option V} {o : Oper} {k : K} {r : R}
theorem k_mov (hg : E.gl = gl) {x : Operand} (ho : o.op = .move x ∨ o.op = .assign x) (h : (ca gl x).map .mov = some k) (hx : kop P E tm st i0 nx k = some r) : xop0 P E tm st i0 nx o = some r := by
  rw [Option.map_eq_some_iff] at h
  obtain ⟨a, ha, rfl⟩ := h
  rcases ho with ho | ho <;> simp only [xop0, ho, ca_ev hg ha, Option.map_some] <;> exact hx
theorem k_pick (hg : E.gl = gl) {c x y : Operand} {ty : TypeId} (ho : o.op = .pick c x y) (h : ck? P hm gl (.pick c x y) ty = some k) (hx : kop P E tm st i0 nx k = some r) : xop0 P E tm st i0 nx o = some r := by
  simp only [ck?, Option.bind_eq_some_iff, Option.map_eq_some_iff] at h
  obtain ⟨c', hc, a, ha, b, hb, rfl⟩ := h
  simp only [xop0, ho, ca_ev hg ha, ca_ev hg hb, ca_ev hg hc, Option.bind_some]
  exact hx
theorem k_alloc {e ty : TypeId} (ho : o.op = .alloc e) (h : ck? P hm gl (.alloc e) ty = some k) (hx : kop P E tm st i0 nx k = some r) : xop0 P E tm st i0 nx o = some r := by
  simp only [ck?, Option.bind_eq_some_iff] at h
  obtain ⟨z, hz, h⟩ := h
  split at h
  · rename_i h1
    simp only [Option.some.injEq] at h; subst h
    simp only [xop0, ho, hz, Option.bind_some, h1, if_true]; exact hx
  · cases h
theorem k_box (hg : E.gl = gl) {e ty : TypeId} {x : Operand} (ho : o.op = .box e x) (h : ck? P hm gl (.box e x) ty = some k) (hx : kop P E tm st i0 nx k = some r) : xop0 P E tm st i0 nx o = some r := by
  simp only [ck?, Option.map_eq_some_iff] at h
  obtain ⟨a, ha, rfl⟩ := h
  simp only [xop0, ho, ca_ev hg ha, Option.bind_some]; exact hx
theorem k_build (hg : E.gl = gl) {t ty : TypeId} {ps : Array (Nat × Operand)} (ho : o.op = .build t ps) (h : ck? P hm gl (.build t ps) ty = some k) (hx : kop P E tm st i0 nx k = some r) : xop0 P E tm st i0 nx o = some r := by
  simp only [ck?, Option.bind_eq_some_iff] at h
  obtain ⟨zas, ha, h⟩ := h
  split at h
  · rename_i z fs hz hu
    split at h
    · rename_i h1
      simp only [Bool.and_eq_true] at h1
      obtain ⟨h1, h2⟩ := h1
      simp only [Option.some.injEq] at h; subst h
      simp only [xop0, ho, cap_ev hg ha, Option.bind_some, hz, hu]
      simp only [kop] at hx
      have hp : (fun (i : Nat) => (fs[i]?).bind fun (f : Field) => (usz P f.type).map fun s => (f.offset, s)) = fun i => (fs.toList.map fun (f : Field) => (f.offset, (usz P f.type).getD 0))[i]? := by
        funext i
        simp only [List.getElem?_map, Array.getElem?_toList]
        cases hf : fs[i]? with
        | none => rfl
        | some f =>
          have h3 : (usz P f.type).isSome = true := by
            rw [Array.all_eq_true_iff_forall_mem] at h1
            exact h1 f (Array.mem_of_getElem? hf)
          obtain ⟨n, hn⟩ := Option.isSome_iff_exists.mp h3
          simp [hn]
      rw [hp]
      rw [Option.bind_eq_some_iff] at hx ⊢
      obtain ⟨cs, hcs, hx⟩ := hx
      refine ⟨cs, hcs, ?_⟩
      rw [h1, h2, List.all_map]
      simpa using hx
    · cases h
  · rename_i z n el hz hu
    rw [Option.bind_eq_some_iff] at h
    obtain ⟨s, hs, h⟩ := h
    split at h
    · rename_i h2
      simp only [Option.some.injEq] at h; subst h
      simp only [xop0, ho, cap_ev hg ha, Option.bind_some, hz, hu, hs]
      simp only [kop] at hx
      have hp : (fun (i : Nat) => if i < n then some (i * s, s) else none) = fun i => ((List.range n).map fun i => (i * s, s))[i]? := by
        funext i
        rw [List.getElem?_map]
        split
        · rename_i hi; rw [List.getElem?_range hi]; rfl
        · rename_i hi; rw [List.getElem?_eq_none (by simp; omega)]; rfl
      rw [hp]
      rw [Option.bind_eq_some_iff] at hx ⊢
      obtain ⟨cs, hcs, hx⟩ := hx
      refine ⟨cs, hcs, ?_⟩
      rw [h2, List.all_map]
      simpa using hx
    · cases h
  · cases h
theorem k_mk (hg : E.gl = gl) {t ty : TypeId} {n : Nat} {ps : Array (Nat × Operand)} (ho : o.op = .buildSlice t n ps) (h : ck? P hm gl (.buildSlice t n ps) ty = some k) (hx : kop P E tm st i0 nx k = some r) : xop0 P E tm st i0 nx o = some r := by
  simp only [ck?, Option.bind_eq_some_iff] at h
  obtain ⟨zas, ha, h⟩ := h
  split at h
  · rename_i e he
    rw [Option.bind_eq_some_iff] at h
    obtain ⟨s, hs, h⟩ := h
    split at h
    · rename_i h1
      simp only [Option.some.injEq] at h; subst h
      have hl : zas.length = n := by have := congrArg List.length h1.1; simpa using this
      have e1 : (List.map (fun (p : Nat × A) => (p.1, av tm p.2)) zas).map (fun p => p.1) = zas.map (fun p => p.1) := by simp [List.map_map, Function.comp_def]
      simp only [xop0, ho, cap_ev hg ha, Option.bind_some, he, hs, e1, h1, if_true, and_self]
      simp only [kop, List.map_map, List.all_map, List.mapM_map, List.length_map, hl, Function.comp_def] at hx ⊢
      exact hx
    · cases h
  · cases h
theorem k_ld (hg : E.gl = gl) {t ty : TypeId} {x : Operand} (ho : o.op = .load t x) (h : ck? P hm gl (.load t x) ty = some k) (hx : kop P E tm st i0 nx k = some r) : xop0 P E tm st i0 nx o = some r := by
  simp only [ck?, Option.bind_eq_some_iff, Option.map_eq_some_iff] at h
  obtain ⟨a, ha, s, hs, rfl⟩ := h
  simp only [xop0, ho, ca_ev hg ha, Option.bind_some, kty_ld hs]; exact hx
theorem k_sto (hg : E.gl = gl) {t ty : TypeId} {x y : Operand} (ho : o.op = .store t x y) (h : ck? P hm gl (.store t x y) ty = some k) (hx : kop P E tm st i0 nx k = some r) : xop0 P E tm st i0 nx o = some r := by
  simp only [ck?, Option.bind_eq_some_iff, Option.map_eq_some_iff] at h
  obtain ⟨a, ha, b, hb, n, hn, rfl⟩ := h
  simp only [xop0, ho, ca_ev hg ha, ca_ev hg hb, Option.bind_some, hn, Option.some.injEq]; exact hx
theorem k_nilc (hg : E.gl = gl) {ty : TypeId} {x : Operand} (ho : o.op = .nilCheck x) (h : ck? P hm gl (.nilCheck x) ty = some k) (hx : kop P E tm st i0 nx k = some r) : xop0 P E tm st i0 nx o = some r := by
  simp only [ck?, Option.map_eq_some_iff] at h
  obtain ⟨a, ha, rfl⟩ := h
  simp only [xop0, ho, ca_ev hg ha, Option.bind_some]
  simp only [kop] at hx
  cases hv : av tm a with
  | fn f x y => cases f <;> simp only [hv] at hx ⊢ <;> exact hx
  | _ => simp only [hv] at hx ⊢ <;> exact hx
theorem reck_part {t : TypeId} {us : List Value} {o : Nat} {u : Value} (ha : uagg P t = some false) (hu : us[o]? = some u) : reck P (part t us.toArray o) = some u := by
  have h1 : reck P (isAgg t) = some false := by
    unfold uagg at ha
    split at ha <;> first | (cases ha; done) | skip
    rename_i d h1 h2 h3
    unfold isAgg
    rw [reck_bind _ (reck_underlying h3)]
    split
    · rename_i fs; exact (h1 fs rfl).elim
    · rename_i n e; exact (h2 n e rfl).elim
    · rfl
  unfold part
  rw [reck_bind _ h1]
  simp only [Bool.false_eq_true, if_false]
  have : us.toArray[o]? = some u := by simpa using hu
  rw [this]; rfl
theorem kdOf_int {t : TypeId} (h : kdOf P t = 0) : ∃ k, P.underlying t = some (.int k) := by unfold kdOf at h; split at h <;> first | exact ⟨_, by assumption⟩ | cases h
theorem kdOf_str {t : TypeId} (h : kdOf P t = 1) : P.underlying t = some .string := by unfold kdOf at h; split at h <;> first | assumption | cases h
theorem kdOf_bool {t : TypeId} (h : kdOf P t = 2) : P.underlying t = some .bool := by unfold kdOf at h; split at h <;> first | assumption | cases h
theorem reck_eq1 {t : TypeId} {u v : Value} {q : Bool} (d : Nat) (hk : kok (kdOf P t) u = true) (h : kbin .eql u v = some (.bool q)) : reck P (Op.equalIn (d + 1) t u v) = some q := by
  unfold kok at hk
  split at hk
  · rename_i k a h0
    obtain ⟨k0, hu⟩ := kdOf_int h0
    cases v with
    | int k' b =>
      simp only [kbin] at h
      split at h
      · cases h
      · rename_i hk'
        have hk' := Classical.not_not.mp hk'
        subst hk'
        simp only [Option.some.injEq, Value.bool.injEq] at h; subst h
        simp only [Op.equalIn]
        rw [reck_bind _ (reck_underlying hu)]
        simp [reck]; rfl
    | _ => simp [kbin] at h
  · rename_i s h0
    have hu := kdOf_str h0
    cases v with
    | string b =>
      simp only [kbin, Option.some.injEq, Value.bool.injEq] at h; subst h
      simp only [Op.equalIn]
      rw [reck_bind _ (reck_underlying hu), ← ba_beq]; rfl
    | _ => simp [kbin] at h
  · rename_i s h0
    have hu := kdOf_bool h0
    cases v with
    | bool b =>
      simp only [kbin, Option.some.injEq, Value.bool.injEq] at h; subst h
      exact reck_eqIn P d hu _ _
    | _ => simp [kbin] at h
  · cases hk
theorem val1_get : ∀ {xs : List V} {us : List Value}, xs.mapM V.val1? = some us → ∀ {o : Nat} {u : Value}, xs[o]? = some (.sc u) → us[o]? = some u
  | [], us, h, o, u, hx => by simp at hx
  | x :: xs, us, h, o, u, hx => by
    simp only [List.mapM_cons, Option.bind_eq_bind, Option.bind_eq_some_iff, Option.pure_def, Option.some.injEq] at h
    obtain ⟨a, ha, bs, hb, rfl⟩ := h
    cases o with
    | zero => simp only [List.getElem?_cons_zero, Option.some.injEq] at hx ⊢; subst hx; simpa [V.val1?] using ha.symm
    | succ o => simp only [List.getElem?_cons_succ] at hx ⊢; exact val1_get hb hx
theorem reck_eqs {t : TypeId} {fs : Array Field} {xs ys : List V} {us vs : List Value} {r : Bool} (d : Nat) (hu : P.underlying t = some (.struct fs)) (hok : eqsOk P t fs = true) (hx : xs.mapM V.val1? = some us) (hy : ys.mapM V.val1? = some vs) (h : keqs xs ys (fs.toList.map fun f => (f.offset, kdOf P f.type)) = some r) :
    reck P (Op.equalIn (d + 2) t (.agg us.toArray) (.agg vs.toArray)) = some r := by
  unfold eqsOk at hok
  simp only [Bool.and_eq_true, Bool.not_eq_true'] at hok
  obtain ⟨⟨hok, hst⟩, _⟩ := hok
  rw [Op.equalIn]
  rw [reck_bind _ (reck_underlying hu)]
  rw [reck_bind (a := P) _ rfl]
  simp only [hst, Bool.false_eq_true, if_false]
  rw [← Array.forIn_toList]
  have main : ∀ (l : List Field) (r : Bool), l.all (fun f => f.name != "_" && plainT P f.type && (usz P f.type == some 1) && (uagg P f.type == some false)) = true → keqs xs ys (l.map fun f => (f.offset, kdOf P f.type)) = some r →
      ∃ s : Option Bool × Unit, reck P (forIn l ((none : Option Bool), ()) fun f __s => if f.name ≠ "_" then do
            let __do_lift ← part f.type us.toArray f.offset
            let __do_lift_1 ← part f.type vs.toArray f.offset
            let __do_lift ← Op.equalIn (d + 1) f.type __do_lift __do_lift_1
            if (!__do_lift) = true then pure (ForInStep.done (some false, ())) else pure (ForInStep.yield (none, ()))
          else pure (ForInStep.yield (none, ()))) = some s ∧ ((r = true ∧ s.1 = none) ∨ (r = false ∧ s.1 = some false)) := by
    intro l
    induction l with
    | nil => intro r _ h; simp only [List.map_nil, keqs, Option.some.injEq] at h; subst h; exact ⟨(none, ()), rfl, .inl ⟨rfl, rfl⟩⟩
    | cons f l ih =>
      intro r ha h
      simp only [List.all_cons, Bool.and_eq_true, bne_iff_ne, beq_iff_eq] at ha
      obtain ⟨⟨⟨⟨hn, _⟩, _⟩, hag⟩, ha⟩ := ha
      simp only [List.map_cons, keqs] at h
      split at h
      · rename_i u v hxu hyv
        split at h
        · rename_i hk
          split at h
          · rename_i q hq
            rw [Option.map_eq_some_iff] at h
            obtain ⟨q2, hq2, rfl⟩ := h
            rw [List.forIn_cons]
            have h1 := reck_part (P := P) hag (val1_get hx hxu)
            have h2 := reck_part (P := P) hag (val1_get hy hyv)
            have h3 := reck_eq1 (P := P) d hk hq
            have hb : reck P (if f.name ≠ "_" then do
                let __do_lift ← part f.type us.toArray f.offset
                let __do_lift_1 ← part f.type vs.toArray f.offset
                let __do_lift ← Op.equalIn (d + 1) f.type __do_lift __do_lift_1
                if (!__do_lift) = true then pure (ForInStep.done ((some false : Option Bool), ())) else pure (ForInStep.yield (none, ()))
              else pure (ForInStep.yield (none, ()))) = some (if q then ForInStep.yield (none, ()) else ForInStep.done (some false, ())) := by
              rw [if_pos hn, reck_bind _ h1, reck_bind _ h2, reck_bind _ h3]
              cases q <;> rfl
            rw [reck_bind _ hb]
            cases q with
            | false => exact ⟨(some false, ()), rfl, .inr ⟨rfl, rfl⟩⟩
            | true =>
              obtain ⟨s, hs, hr⟩ := ih q2 (by simpa using ha) hq2
              exact ⟨s, hs, by simpa using hr⟩
          · cases h
        · cases h
      · cases h
  obtain ⟨s, hs, hr⟩ := main fs.toList r hok h
  rw [reck_bind _ hs]
  rcases hr with ⟨rfl, h1⟩ | ⟨rfl, h1⟩ <;> rw [h1] <;> rfl
theorem eqGuard_agg {b : BinOp} {t : TypeId} {x y : Operand} {us vs : Array Value} (hg : P.eqGuardType P.depth t = false) : reck P (eqGuard b t x y (.agg us) (.agg vs)) = some () := by
  cases b <;> first | rfl | (unfold eqGuard; simp only [Bool.not_eq_true', Bool.not_true, Bool.false_eq_true, if_false]; rw [reck_bind (a := P) _ rfl, reck_bind (a := P) _ rfl]; simp only [hg, if_true]; rfl)
def xbin (P : Program) (op : BinOp) (t : TypeId) (x y : Operand) (a b : V) : Option R := match a, b with
    | .ptr .., .sc (.pointer none) => match op, P.underlying t with | .eql, some (.pointer _) => some (.val (.bool false) [] []) | .neq, some (.pointer _) => some (.val (.bool true) [] []) | _, _ => none
    | a, .list _ [] 1 => match op, P.underlying t with | .eql, some (.slice _) => (niln a).map fun q => .val (.bool q) [] [] | .neq, some (.slice _) => (niln a).map fun q => .val (.bool !q) [] [] | _, _ => none
    | _, _ => a.val?.bind fun u => b.val?.bind fun v => (reck P (do eqGuard op t x y u v; binOp op t u v)).map fun v => .val (.sc v) [] []
theorem all2_comp {α β γ : Type} {R : α → β → Prop} {S : β → γ → Prop} {T : α → γ → Prop} (ht : ∀ a b c, R a b → S b c → T a c) {zas : List α} {bs : List β} {cs : List γ} (h : All2 R zas bs) (k : All2 S bs cs) : All2 T zas cs := by
  induction h generalizing cs with
  | nil => cases k; exact .nil
  | cons h1 _ ih =>
    cases k with
    | cons k1 k2 => exact .cons (ht _ _ _ h1 k1) (ih k2)
theorem all2_map {α β : Type} (f : α → β) : ∀ l : List α, All2 (fun a b => f a = b) l (l.map f)
  | [] => .nil
  | a :: l => .cons rfl (all2_map f l)
def keqv (us vs : List Value) : List (Nat × Nat) → Option Bool
  | [] => some true
  | (o, kd) :: os => match us[o]?, vs[o]? with
    | some u, some v => if kok kd u then (match kbin .eql u v with
      | some (.bool r) => (keqv us vs os).map fun q => r && q
      | _ => none) else none
    | _, _ => none
theorem keqv_of {xs ys : List V} {us vs : List Value} (hx : xs.mapM V.val1? = some us) (hy : ys.mapM V.val1? = some vs) : ∀ {offs : List (Nat × Nat)} {r : Bool}, keqs xs ys offs = some r → keqv us vs offs = some r
  | [], r, h => h
  | (o, kd) :: os, r, h => by
    simp only [keqs] at h
    split at h
    · rename_i u v hxu hyv
      simp only [keqv, val1_get hx hxu, val1_get hy hyv]
      split at h
      · rename_i hk
        rw [if_pos hk]
        split at h
        · rename_i q hq
          rw [Option.map_eq_some_iff] at h
          obtain ⟨q2, h2, rfl⟩ := h
          simp only [hq, keqv_of hx hy h2, Option.map_some]
        · cases h
      · cases h
    · cases h
theorem keqv_app {us vs : List Value} : ∀ {l1 l2 : List (Nat × Nat)} {r : Bool}, keqv us vs (l1 ++ l2) = some r → ∃ q1 q2, keqv us vs l1 = some q1 ∧ keqv us vs l2 = some q2 ∧ r = (q1 && q2)
  | [], l2, r, h => ⟨true, r, rfl, h, by simp⟩
  | (o, kd) :: os, l2, r, h => by
    simp only [List.cons_append, keqv] at h ⊢
    split at h
    · rename_i u v hu hv
      split at h
      · rename_i hk
        split at h
        · rename_i q hq
          rw [Option.map_eq_some_iff] at h
          obtain ⟨q2, h2, rfl⟩ := h
          obtain ⟨a1, a2, b1, b2, rfl⟩ := keqv_app h2
          exact ⟨q && a1, a2, by rw [if_pos hk]; simp only [b1, Option.map_some], b2, by rw [Bool.and_assoc]⟩
        · cases h
      · cases h
    · cases h
theorem keqv_shift {us vs : List Value} {o k : Nat} : ∀ {l : List (Nat × Nat)} {r : Bool}, (∀ p ∈ l, p.1 < k) → keqv us vs (l.map fun p => (o + p.1, p.2)) = some r → keqv ((us.drop o).take k) ((vs.drop o).take k) l = some r
  | [], r, _, h => h
  | (i, kd) :: os, r, hl, h => by
    have hi : i < k := hl (i, kd) (by simp)
    have e : ∀ us : List Value, ((us.drop o).take k)[i]? = us[o + i]? := fun us => by rw [List.getElem?_take_of_lt hi, List.getElem?_drop]
    simp only [List.map_cons, keqv] at h ⊢
    rw [e, e]
    split at h
    · rename_i u v hu hv
      split at h
      · rename_i hk
        rw [if_pos hk]
        split at h
        · rename_i q hq
          rw [Option.map_eq_some_iff] at h
          obtain ⟨q2, h2, rfl⟩ := h
          simp only [hq, keqv_shift (fun p hp => hl p (List.mem_cons_of_mem _ hp)) h2, Option.map_some]
        · cases h
      · cases h
    · cases h
theorem eqOffs_lt : ∀ (d : Nat) {t : TypeId} {offs : List (Nat × Nat)} {s : Nat}, eqOffs P d t = some offs → usz P t = some s → ∀ p ∈ offs, p.1 < s
  | 0, _, _, _, h, _ => by simp [eqOffs] at h
  | d + 1, t, offs, s, h, hs => by
    unfold eqOffs at h
    split at h
    · rename_i hp
      simp only [Bool.and_eq_true, beq_iff_eq] at hp
      simp only [Option.some.injEq] at h; subst h
      rw [hp.1.2] at hs
      obtain rfl := Option.some.inj hs
      intro p hp; simp at hp; subst hp; exact Nat.zero_lt_one
    · split at h
      · rename_i fs hu
        split at h
        · cases h
        · rw [Option.map_eq_some_iff] at h
          obtain ⟨ls, hls, rfl⟩ := h
          intro p hp
          obtain ⟨l, hl, hpl⟩ := List.mem_flatten.1 hp
          obtain ⟨i, hi⟩ := List.getElem?_of_mem hl
          obtain ⟨f, hf, hfl⟩ := (mapM_some hls).get' hi
          split at hfl
          · cases hfl
          · simp only [Option.bind_eq_some_iff] at hfl
            obtain ⟨s', hs', k, hk, hfl⟩ := hfl
            rw [hs] at hs'; obtain rfl := Option.some.inj hs'
            split at hfl
            · rename_i hle
              rw [Option.map_eq_some_iff] at hfl
              obtain ⟨l0, hl0, rfl⟩ := hfl
              obtain ⟨p0, hp0, rfl⟩ := List.mem_map.1 hpl
              have := eqOffs_lt d hl0 hk p0 hp0
              show f.offset + p0.1 < s
              omega
            · cases hfl
      · rename_i n el hu
        simp only [Option.bind_eq_some_iff] at h
        obtain ⟨s', hs', k, hk, h⟩ := h
        rw [hs] at hs'; obtain rfl := Option.some.inj hs'
        split at h
        · rename_i hle
          rw [Option.map_eq_some_iff] at h
          obtain ⟨l0, hl0, rfl⟩ := h
          intro p hp
          obtain ⟨i, hi, hpl⟩ := List.mem_flatMap.1 hp
          obtain ⟨p0, hp0, rfl⟩ := List.mem_map.1 hpl
          have h1 := eqOffs_lt d hl0 hk p0 hp0
          have h2 : i + 1 ≤ n := List.mem_range.1 hi
          have h3 := Nat.mul_le_mul_right k h2
          rw [Nat.succ_mul] at h3
          show i * k + p0.1 < s
          omega
        · cases h
      · cases h
theorem reck_isAgg {t : TypeId} {g : Bool} (h : uagg P t = some g) : reck P (isAgg t) = some g := by
  unfold uagg at h
  split at h
  · rename_i hu; obtain rfl := Option.some.inj h; unfold isAgg; rw [reck_bind _ (reck_underlying hu)]; rfl
  · rename_i hu; obtain rfl := Option.some.inj h; unfold isAgg; rw [reck_bind _ (reck_underlying hu)]; rfl
  · rename_i d h1 h2 hu
    obtain rfl := Option.some.inj h
    unfold isAgg
    rw [reck_bind _ (reck_underlying hu)]
    split
    · rename_i fs; exact (h1 fs rfl).elim
    · rename_i n e; exact (h2 n e rfl).elim
    · rfl
  · cases h
theorem reck_size {t : TypeId} {k : Nat} (h : usz P t = some k) : reck P (sizeOf t) = some k := by
  unfold usz at h
  rw [Option.map_eq_some_iff] at h
  obtain ⟨i, hi, rfl⟩ := h
  have h1 : reck P (typeInfo t) = some i := by
    unfold typeInfo
    rw [reck_bind (a := P) _ rfl]
    simp only [hi]; rfl
  show reck P (typeInfo t >>= fun i => (pure i.size : Sem Nat)) = _
  rw [reck_bind _ h1]; rfl
theorem reck_partA {t : TypeId} {us : List Value} {o k : Nat} (ha : uagg P t = some true) (hk : usz P t = some k) : reck P (part t us.toArray o) = some (.agg ((us.drop o).take k).toArray) := by
  unfold part
  rw [reck_bind _ (reck_isAgg ha)]
  simp only [if_true]
  rw [reck_bind _ (reck_size hk)]
  have : us.toArray.extract o (o + k) = ((us.drop o).take k).toArray := by apply Array.ext'; simp [List.extract_eq_take_drop]
  rw [this]; rfl
theorem forIn_eqs {α : Type} {f : α → Sem Bool} : ∀ (l : List α) (rs : List Bool), All2 (fun a r => reck P (f a) = some r) l rs → ∃ s : Option Bool × Unit, reck P (forIn l ((none : Option Bool), ()) fun a _ => do
      let __do_lift ← f a
      if (!__do_lift) = true then pure (ForInStep.done (some false, ())) else pure (ForInStep.yield (none, ()))) = some s ∧ ((rs.all id = true ∧ s.1 = none) ∨ (rs.all id = false ∧ s.1 = some false))
  | [], rs, h => by cases h; exact ⟨(none, ()), rfl, .inl ⟨rfl, rfl⟩⟩
  | a :: l, rs, h => by
    cases h with
    | cons h1 h2 =>
      rename_i q qs
      rw [List.forIn_cons]
      have hb : reck P (do
          let __do_lift ← f a
          if (!__do_lift) = true then pure (ForInStep.done ((some false : Option Bool), ())) else pure (ForInStep.yield (none, ()))) = some (if q then ForInStep.yield (none, ()) else ForInStep.done (some false, ())) := by
        rw [reck_bind _ h1]
        cases q <;> rfl
      rw [reck_bind _ hb]
      cases q with
      | false => exact ⟨(some false, ()), rfl, .inr ⟨rfl, rfl⟩⟩
      | true =>
        obtain ⟨s, hs, hr⟩ := forIn_eqs l qs h2
        exact ⟨s, hs, by simpa using hr⟩
theorem forIn_cong {α β : Type} {f g : α → β → Sem (ForInStep β)} : ∀ (l : List α) (b : β), (∀ a ∈ l, ∀ b, f a b = g a b) → (forIn l b f : Sem β) = forIn l b g
  | [], _, _ => rfl
  | a :: l, b, h => by
    rw [List.forIn_cons, List.forIn_cons, h a (by simp)]
    congr 1
    funext r
    cases r with
    | done b => rfl
    | yield b => exact forIn_cong l b fun a ha => h a (List.mem_cons_of_mem _ ha)
theorem keqv_flat {us vs : List Value} : ∀ {ls : List (List (Nat × Nat))} {r : Bool}, keqv us vs ls.flatten = some r → ∃ rs : List Bool, All2 (fun l q => keqv us vs l = some q) ls rs ∧ r = rs.all id
  | [], r, h => by simp only [List.flatten_nil, keqv, Option.some.injEq] at h; exact ⟨[], .nil, by rw [← h]; rfl⟩
  | l :: ls, r, h => by
    rw [List.flatten_cons] at h
    obtain ⟨q1, q2, h1, h2, rfl⟩ := keqv_app h
    obtain ⟨rs, h3, rfl⟩ := keqv_flat h2
    exact ⟨q1 :: rs, .cons h1 h3, by simp⟩
theorem reck_eqD : ∀ (d : Nat) {t : TypeId} {offs : List (Nat × Nat)} {us vs : List Value} {r : Bool} (D : Nat), eqOffs P d t = some offs → keqv us vs offs = some r →
    (uagg P t = some true → reck P (Op.equalIn (D + d) t (.agg us.toArray) (.agg vs.toArray)) = some r) ∧ (uagg P t = some false → ∃ u v, us[0]? = some u ∧ vs[0]? = some v ∧ reck P (Op.equalIn (D + d) t u v) = some r)
  | 0, _, _, _, _, _, _, h, _ => by simp [eqOffs] at h
  | d + 1, t, offs, us, vs, r, D, h, hq => by
    have field : ∀ {ft : TypeId} {l : List (Nat × Nat)} {k o : Nat} {q : Bool}, eqOffs P d ft = some l → usz P ft = some k → keqv us vs (l.map fun p => (o + p.1, p.2)) = some q →
        reck P (do let a ← part ft us.toArray o; let b ← part ft vs.toArray o; Op.equalIn (D + d) ft a b) = some q := by
      intro ft l k o q hl hk hkq
      have hlt := eqOffs_lt d hl hk
      have hsh := keqv_shift (k := k) hlt hkq
      obtain ⟨f1, f2⟩ := reck_eqD d D hl hsh
      cases hd : d with
      | zero => subst hd; simp [eqOffs] at hl
      | succ d' =>
        have hag : uagg P ft = some true ∨ uagg P ft = some false := by
          cases hu : uagg P ft with
          | none =>
            exfalso
            subst hd
            unfold eqOffs at hl
            split at hl
            · rename_i hp; simp [hu] at hp
            · split at hl
              · rename_i hx; simp [uagg, hx] at hu
              · rename_i hx; simp [uagg, hx] at hu
              · cases hl
          | some g => cases g <;> simp
        rw [← hd]
        rcases hag with ha | ha
        · rw [reck_bind _ (reck_partA ha hk), reck_bind _ (reck_partA ha hk)]
          exact f1 ha
        · obtain ⟨u, v, hu, hv, he⟩ := f2 ha
          have hz : ∀ {us : List Value} {u : Value}, ((us.drop o).take k)[0]? = some u → us[o]? = some u := fun {us u} h => by
            by_cases h0 : 0 < k
            · rw [List.getElem?_take_of_lt h0, List.getElem?_drop] at h; exact h
            · have : k = 0 := by omega
              subst this; simp at h
          rw [reck_bind _ (reck_part ha (hz hu)), reck_bind _ (reck_part ha (hz hv))]
          exact he
    unfold eqOffs at h
    split at h
    · rename_i hp
      simp only [Bool.and_eq_true, beq_iff_eq] at hp
      simp only [Option.some.injEq] at h; subst h
      refine ⟨fun ha => (by rw [hp.2] at ha; cases ha), fun _ => ?_⟩
      simp only [keqv] at hq
      split at hq
      · rename_i u v hu hv
        split at hq
        · rename_i hk
          split at hq
          · rename_i q hqq
            simp only [Option.map_some, Bool.and_true, Option.some.injEq] at hq; subst hq
            exact ⟨u, v, hu, hv, reck_eq1 (D + d) hk hqq⟩
          · cases hq
        · cases hq
      · cases hq
    · split at h
      · rename_i fs hu
        have hag : uagg P t = some true := by simp [uagg, hu]
        refine ⟨fun _ => ?_, fun ha => (by rw [hag] at ha; cases ha)⟩
        split at h
        · cases h
        · rename_i hst
          have hst : P.stoodInHeld t = false := by simpa using hst
          rw [Option.map_eq_some_iff] at h
          obtain ⟨ls, hls, rfl⟩ := h
          obtain ⟨rs, hrs, rfl⟩ := keqv_flat hq
          have hall : All2 (fun (f : Field) q => f.name ≠ "_" ∧ reck P (do let a ← part f.type us.toArray f.offset; let b ← part f.type vs.toArray f.offset; Op.equalIn (D + d) f.type a b) = some q) fs.toList rs := by
            refine all2_comp (S := fun l q => keqv us vs l = some q) (fun f l q hfl hlq => ?_) (mapM_some hls) hrs
            split at hfl
            · cases hfl
            · rename_i hn
              simp only [Option.bind_eq_some_iff] at hfl
              obtain ⟨s', _, k, hk, hfl⟩ := hfl
              split at hfl
              · rw [Option.map_eq_some_iff] at hfl
                obtain ⟨l0, hl0, rfl⟩ := hfl
                exact ⟨hn, field hl0 hk hlq⟩
              · cases hfl
          rw [show D + (d + 1) = (D + d) + 1 by omega, Op.equalIn]
          rw [reck_bind _ (reck_underlying hu)]
          rw [reck_bind (a := P) _ rfl]
          simp only [hst, Bool.false_eq_true, if_false]
          rw [← Array.forIn_toList]
          obtain ⟨s, hs, hr⟩ := forIn_eqs (P := P) (f := fun (f : Field) => do let a ← part f.type us.toArray f.offset; let b ← part f.type vs.toArray f.offset; Op.equalIn (D + d) f.type a b) fs.toList rs (hall.mono fun _ _ h => h.2)
          have hcong : ∀ l : List Field, (∀ f ∈ l, f.name ≠ "_") → ((forIn l ((none : Option Bool), ()) fun f __s => if f.name ≠ "_" then do
                let __do_lift ← part f.type us.toArray f.offset
                let __do_lift_1 ← part f.type vs.toArray f.offset
                let __do_lift ← Op.equalIn (D + d) f.type __do_lift __do_lift_1
                if (!__do_lift) = true then pure (ForInStep.done (some false, ())) else pure (ForInStep.yield (none, ()))
              else pure (ForInStep.yield (none, ())) : Sem (Option Bool × Unit)) = (forIn l ((none : Option Bool), ()) fun (a : Field) _ => do
                let __do_lift ← (do let a1 ← part a.type us.toArray a.offset; let b ← part a.type vs.toArray a.offset; Op.equalIn (D + d) a.type a1 b)
                if (!__do_lift) = true then pure (ForInStep.done (some false, ())) else pure (ForInStep.yield (none, ())) : Sem (Option Bool × Unit))) := by
            intro l hn
            refine forIn_cong l _ fun f hf s => ?_
            rw [if_pos (hn f hf)]
            simp only [bind_assoc]
          have hnn : ∀ f ∈ fs.toList, f.name ≠ "_" := fun f hf => by
            obtain ⟨i, hi⟩ := List.getElem?_of_mem hf
            obtain ⟨q, _, h1⟩ := hall.get hi
            exact h1.1
          rw [hcong _ hnn, reck_bind _ hs]
          rcases hr with ⟨h0, h1⟩ | ⟨h0, h1⟩ <;> rw [h1, h0] <;> rfl
      · rename_i n el hu
        have hag : uagg P t = some true := by simp [uagg, hu]
        refine ⟨fun _ => ?_, fun ha => (by rw [hag] at ha; cases ha)⟩
        simp only [Option.bind_eq_some_iff] at h
        obtain ⟨s', _, k, hk, h⟩ := h
        split at h
        · rw [Option.map_eq_some_iff] at h
          obtain ⟨l0, hl0, rfl⟩ := h
          rw [List.flatMap_def] at hq
          obtain ⟨rs, hrs, rfl⟩ := keqv_flat hq
          have hall : All2 (fun (i : Nat) q => reck P (do let a ← part el us.toArray (i * k); let b ← part el vs.toArray (i * k); Op.equalIn (D + d) el a b) = some q) (List.range n) rs := by
            refine all2_comp (S := fun l q => keqv us vs l = some q) (R := fun i l => (l0.map fun p => (i * k + p.1, p.2)) = l) (fun i l q hl hlq => ?_) (all2_map _ _) hrs
            subst hl
            exact field hl0 hk hlq
          rw [show D + (d + 1) = (D + d) + 1 by omega, Op.equalIn]
          rw [reck_bind _ (reck_underlying hu)]
          simp only
          rw [reck_bind _ (reck_size hk)]
          rw [Std.Legacy.Range.forIn_eq_forIn_range']
          obtain ⟨s, hs, hr⟩ := forIn_eqs (P := P) (f := fun (i : Nat) => do let a ← part el us.toArray (i * k); let b ← part el vs.toArray (i * k); Op.equalIn (D + d) el a b) (List.range n) rs hall
          have hl : List.range' 0 n 1 = List.range n := by rw [List.range_eq_range']
          simp only [bind_assoc] at hs
          simp only [Std.Legacy.Range.size, Nat.sub_zero, Nat.add_sub_cancel, Nat.div_one, hl]
          rw [reck_bind _ hs]
          rcases hr with ⟨h0, h1⟩ | ⟨h0, h1⟩ <;> rw [h1, h0] <;> rfl
        · cases h
      · cases h
theorem k_eqs (hg : E.gl = gl) {t : TypeId} {fs : Array Field} {a c : A} {neg : Bool} {b : BinOp} (hb : b = if neg then .neq else .eql) (hu : P.underlying t = some (.struct fs)) (hok : eqsOk P t fs = true) {x y : Operand} (hx : kop P E tm st i0 nx (.eqs neg (fs.toList.map fun f => (f.offset, kdOf P f.type)) a c) = some r) :
    xbin P b t x y (av tm a) (av tm c) = some r := by
  unfold xbin
  simp only [kop] at hx
  split at hx
  · rename_i xs ys h1 h2
    simp only [Option.bind_eq_some_iff, Option.map_eq_some_iff] at hx
    obtain ⟨us, hus, vs, hvs, q, hq, rfl⟩ := hx
    have hgd : P.eqGuardType P.depth t = false := by unfold eqsOk at hok; simp only [Bool.and_eq_true, Bool.not_eq_true'] at hok; exact hok.2
    simp only [h1, h2, V.val?, hus, hvs, Option.map_some, Option.bind_some]
    have he := reck_eqs (P := P) 9998 hu hok hus hvs hq
    rw [reck_bind _ (eqGuard_agg hgd)]
    cases neg with
    | false =>
      have hb : b = .eql := by simpa using hb
      subst hb
      show (reck P (Op.equal t (.agg us.toArray) (.agg vs.toArray) >>= fun r => (pure (Value.bool r) : Sem Value))).map _ = _
      rw [reck_bind _ (show reck P (Op.equal t (.agg us.toArray) (.agg vs.toArray)) = some q from he)]
      cases q <;> rfl
    | true =>
      have hb : b = .neq := by simpa using hb
      subst hb
      show (reck P (Op.equal t (.agg us.toArray) (.agg vs.toArray) >>= fun r => (pure (Value.bool !r) : Sem Value))).map _ = _
      rw [reck_bind _ (show reck P (Op.equal t (.agg us.toArray) (.agg vs.toArray)) = some q from he)]
      cases q <;> rfl
  · cases hx
theorem isNilC_eq {y : Operand} (h : isNilC y = true) : y = .const (.pointer none) := by
  unfold isNilC at h
  split at h
  · rfl
  · cases h
theorem reck_nil0 {t el : TypeId} (hu : P.underlying t = some (.pointer el)) (d : Nat) : reck P (Op.equalIn (d + 1) t (.pointer none) (.pointer none)) = some true := by
  simp only [Op.equalIn]
  rw [reck_bind _ (reck_underlying hu)]; rfl
theorem k_isn {t : TypeId} {a : A} {neg : Bool} {b : BinOp} (hb : b = if neg then .neq else .eql) (hp : isPtr P t = true) {x y : Operand} (hx : kop P E tm st i0 nx (.isn neg a) = some r) :
    xbin P b t x y (av tm a) (.sc (.pointer none)) = some r := by
  unfold xbin
  obtain ⟨el, hu⟩ : ∃ el, P.underlying t = some (.pointer el) := by unfold isPtr at hp; split at hp <;> first | exact ⟨_, by assumption⟩ | cases hp
  simp only [kop] at hx
  split at hx
  · rename_i i o h1
    simp only [h1, hu]
    cases neg with
    | false => have hb : b = .eql := by simpa using hb
               subst hb; exact hx
    | true => have hb : b = .neq := by simpa using hb
              subst hb; exact hx
  · rename_i h1
    simp only [h1, V.val?, Option.bind_some]
    have hg : eqGuard b t x y (.pointer none) (.pointer none) = pure () := by cases b <;> rfl
    rw [hg]
    show (reck P (binOp b t (.pointer none) (.pointer none))).map _ = _
    cases neg with
    | false =>
      have hb : b = .eql := by simpa using hb
      subst hb
      show (reck P (Op.equal t (.pointer none) (.pointer none) >>= fun r => (pure (Value.bool r) : Sem Value))).map _ = _
      rw [reck_bind _ (show reck P (Op.equal t (.pointer none) (.pointer none)) = some true from reck_nil0 hu 9999)]
      exact hx
    | true =>
      have hb : b = .neq := by simpa using hb
      subst hb
      show (reck P (Op.equal t (.pointer none) (.pointer none) >>= fun r => (pure (Value.bool !r) : Sem Value))).map _ = _
      rw [reck_bind _ (show reck P (Op.equal t (.pointer none) (.pointer none)) = some true from reck_nil0 hu 9999)]
      exact hx
  · cases hx
theorem isNilS_eq {y : Operand} (h : isNilS y = true) : y = .const (.slice none 0 0) := by
  unfold isNilS at h
  split at h
  · rfl
  · cases h
theorem k_nils {t el : TypeId} {a : A} {neg : Bool} {b : BinOp} (hb : (neg = false ∧ b = .eql) ∨ (neg = true ∧ b = .neq)) (hu : P.underlying t = some (.slice el)) {x y : Operand} (hx : kop P E tm st i0 nx (.nils neg a) = some r) :
    xbin P b t x y (av tm a) (.list 0 [] 1) = some r := by
  simp only [kop] at hx
  unfold xbin
  rcases hb with ⟨rfl, rfl⟩ | ⟨rfl, rfl⟩
  · cases hv : av tm a <;> rw [hv] at hx <;> simp only [hu] <;> simpa using hx
  · cases hv : av tm a <;> rw [hv] at hx <;> simp only [hu] <;> simpa using hx
theorem k_ckEq (hg : E.gl = gl) {b : BinOp} {t yt : TypeId} {x y : Operand} (ho : o.op = .binOp b t x y yt) (h : ckEq P gl b t x y = some k) (hx : kop P E tm st i0 nx k = some r) : xop0 P E tm st i0 nx o = some r := by
  unfold ckEq at h
  split at h
  · rename_i offs hoffs
    split at h
    · rename_i hc
      obtain ⟨hag, hgd⟩ := hc
      have key : ∀ (neg : Bool) (a c : A), b = (if neg then .neq else .eql) → kop P E tm st i0 nx (.eqs neg offs a c) = some r → xbin P b t x y (av tm a) (av tm c) = some r := by
        intro neg a c hb hx
        unfold xbin
        simp only [kop] at hx
        split at hx
        · rename_i xs ys h1 h2
          simp only [Option.bind_eq_some_iff, Option.map_eq_some_iff] at hx
          obtain ⟨us, hus, vs, hvs, q, hq, rfl⟩ := hx
          simp only [h1, h2, V.val?, hus, hvs, Option.map_some, Option.bind_some]
          have he := (reck_eqD 3 9997 hoffs (keqv_of hus hvs hq)).1 hag
          rw [reck_bind _ (eqGuard_agg hgd)]
          cases neg with
          | false =>
            have hb : b = .eql := by simpa using hb
            subst hb
            show (reck P (Op.equal t (.agg us.toArray) (.agg vs.toArray) >>= fun r => (pure (Value.bool r) : Sem Value))).map _ = _
            rw [reck_bind _ (show reck P (Op.equal t (.agg us.toArray) (.agg vs.toArray)) = some q from he)]
            cases q <;> rfl
          | true =>
            have hb : b = .neq := by simpa using hb
            subst hb
            show (reck P (Op.equal t (.agg us.toArray) (.agg vs.toArray) >>= fun r => (pure (Value.bool !r) : Sem Value))).map _ = _
            rw [reck_bind _ (show reck P (Op.equal t (.agg us.toArray) (.agg vs.toArray)) = some q from he)]
            cases q <;> rfl
        · cases hx
      split at h
      · simp only [Option.bind_eq_some_iff, Option.map_eq_some_iff] at h
        obtain ⟨a, ha, c, hc, rfl⟩ := h
        simp only [xop0, ho, ca_ev hg ha, ca_ev hg hc, Option.bind_some]
        exact key false a c (by rfl) hx
      · simp only [Option.bind_eq_some_iff, Option.map_eq_some_iff] at h
        obtain ⟨a, ha, c, hc, rfl⟩ := h
        simp only [xop0, ho, ca_ev hg ha, ca_ev hg hc, Option.bind_some]
        exact key true a c (by rfl) hx
      · cases h
    · cases h
  · cases h
theorem k_bin (hg : E.gl = gl) {b : BinOp} {t ty yt : TypeId} {x y : Operand} (ho : o.op = .binOp b t x y yt) (h : ck? P hm gl (.binOp b t x y yt) ty = some k) (hx : kop P E tm st i0 nx k = some r) : xop0 P E tm st i0 nx o = some r := by
  simp only [ck?] at h
  split at h
  · simp only [Option.bind_eq_some_iff, Option.map_eq_some_iff] at h
    obtain ⟨a, ha, c, hc, rfl⟩ := h
    simp only [xop0, ho, ca_ev hg ha, ca_ev hg hc, Option.bind_some]
    simp only [kop] at hx
    cases h1 : av tm a with
    | sc u => cases h2 : av tm c with
      | sc v =>
        simp only [h1, h2, Option.map_eq_some_iff, V.val?, Option.bind_some] at hx ⊢
        obtain ⟨z, hz, rfl⟩ := hx
        refine ⟨z, ?_, rfl⟩
        unfold kbin' at hz
        split at hz
        · split at hz
          · rename_i hb; exact kbin_eq P (.inr hb) hz
          · cases hz
        · rename_i hnb; exact kbin_eq P (.inl fun b e => hnb b e) hz
      | _ => simp [h1, h2] at hx
    | _ => simp [h1] at hx
  · split at h
    · rename_i hp
      simp only [Bool.and_eq_true] at hp
      obtain rfl := isNilC_eq hp.2
      split at h <;> first
        | (rw [Option.map_eq_some_iff] at h
           obtain ⟨a, ha, rfl⟩ := h
           have h0 : ev E tm (.const (.pointer none)) = some (.sc (.pointer none)) := rfl
           simp only [xop0, ho, ca_ev hg ha, h0, Option.bind_some]
           exact k_isn (by rfl) hp.1 hx)
        | (cases h; done)
    · split at h
      · rename_i fs hu
        split at h
        · rename_i hok
          split at h <;> first
            | (simp only [Option.bind_eq_some_iff, Option.map_eq_some_iff] at h
               obtain ⟨a, ha, c, hc, rfl⟩ := h
               simp only [xop0, ho, ca_ev hg ha, ca_ev hg hc, Option.bind_some]
               exact k_eqs hg (by rfl) hu hok hx)
            | (cases h; done)
        · exact k_ckEq hg ho h hx
      · exact k_ckEq hg ho h hx
      · rename_i el hu
        split at h
        · rename_i hn
          obtain rfl := isNilS_eq hn
          have h0 : ev E tm (.const (.slice none 0 0)) = some (.list 0 [] 1) := rfl
          split at h
          · rw [Option.map_eq_some_iff] at h
            obtain ⟨a, ha, rfl⟩ := h
            simp only [xop0, ho, ca_ev hg ha, h0, Option.bind_some]
            have := k_nils (x := x) (y := x) (neg := false) (.inl ⟨rfl, rfl⟩) hu hx
            unfold xbin at this
            simp only at this ⊢
            exact this
          · rw [Option.map_eq_some_iff] at h
            obtain ⟨a, ha, rfl⟩ := h
            simp only [xop0, ho, ca_ev hg ha, h0, Option.bind_some]
            have := k_nils (x := x) (y := x) (neg := true) (.inr ⟨rfl, rfl⟩) hu hx
            unfold xbin at this
            simp only at this ⊢
            exact this
          · cases h
        · cases h
      · cases h
theorem k_un (hg : E.gl = gl) {b : UnOp} {t ty : TypeId} {x : Operand} (ho : o.op = .unOp b t x) (h : ck? P hm gl (.unOp b t x) ty = some k) (hx : kop P E tm st i0 nx k = some r) : xop0 P E tm st i0 nx o = some r := by
  simp only [ck?, Option.map_eq_some_iff] at h
  obtain ⟨a, ha, rfl⟩ := h
  simp only [xop0, ho, ca_ev hg ha, Option.bind_some]
  simp only [kop] at hx
  split at hx
  · rename_i hv; simp only [hv, V.val1?, Option.bind_some]; exact hx
  · cases hx
theorem reck_convert_int {s d : TypeId} {k k1 k2 : IntKind} {n : Int} (hs : P.underlying s = some (.int k1)) (hd : P.underlying d = some (.int k)) : reck P (convert s d (.int k2 n)) = some (.int k (k.wrap n)) := by
  unfold convert
  rw [reck_bind _ (reck_underlying hs), reck_bind _ (reck_underlying hd)]
  rfl
theorem k_conv (hg : E.gl = gl) {s d ty : TypeId} {x : Operand} (ho : o.op = .convert s d x) (h : ck? P hm gl (.convert s d x) ty = some k) (hx : kop P E tm st i0 nx k = some r) : xop0 P E tm st i0 nx o = some r := by
  simp only [ck?, Option.bind_eq_some_iff] at h
  obtain ⟨a, ha, h⟩ := h
  simp only [xop0, ho, ca_ev hg ha, Option.bind_some]
  split at h
  · rename_i e hs hd
    split at h
    · rename_i h1
      simp only [Bool.and_eq_true, beq_iff_eq] at h1
      simp only [Option.some.injEq] at h; subst h
      simp only [kop] at hx
      split at hx
      · rename_i e' xs rr hv
        simp only [hv, hs, hd]
        split at hx
        · rename_i h2; rw [if_pos ⟨h1.1, h2, h1.2⟩]; exact hx
        · cases hx
      · cases hx
    · cases h
  · rename_i e hs hd
    split at h
    · rename_i h1
      simp only [Option.some.injEq] at h; subst h
      simp only [kop] at hx
      split at hx
      · rename_i t hv
        have h2 : uel P d = some e := by simp only [uel, hd]
        simp only [hv, hs, h2, h1, if_true]; exact hx
      · cases hx
    · cases h
  · rename_i k1 k2 hs hd
    simp only [Option.some.injEq] at h; subst h
    simp only [kop] at hx
    split at hx
    · rename_i n k3 hv
      have h2 : uel P d = none := by simp only [uel, hd]
      simp only [hv, hs, h2, reck_convert_int hs hd, Option.map_some]; exact hx
    · cases hx
  · cases h
theorem k_fa (hg : E.gl = gl) {t ty : TypeId} {x : Operand} {f : Nat} (ho : o.op = .fieldAddr t x f) (h : ck? P hm gl (.fieldAddr t x f) ty = some k) (hx : kop P E tm st i0 nx k = some r) : xop0 P E tm st i0 nx o = some r := by
  simp only [ck?, Option.bind_eq_some_iff] at h
  obtain ⟨a, ha, h⟩ := h
  simp only [xop0, ho, ca_ev hg ha, Option.bind_some]
  split at h
  · rename_i fs hu
    rw [Option.bind_eq_some_iff] at h
    obtain ⟨fd, hf, h⟩ := h
    simp only [hu, hf, Option.bind_some]
    split at h
    · rename_i n hn
      simp only [Option.some.injEq] at h; subst h
      simp only [hn]; exact hx
    · cases h
  · cases h
theorem k_fld (hg : E.gl = gl) {t ty : TypeId} {x : Operand} {f : Nat} (ho : o.op = .field t x f) (h : ck? P hm gl (.field t x f) ty = some k) (hx : kop P E tm st i0 nx k = some r) : xop0 P E tm st i0 nx o = some r := by
  simp only [ck?, Option.bind_eq_some_iff] at h
  obtain ⟨a, ha, h⟩ := h
  simp only [xop0, ho, ca_ev hg ha, Option.bind_some]
  split at h
  · rename_i fs hu
    simp only [Option.bind_eq_some_iff, Option.map_eq_some_iff] at h
    obtain ⟨fd, hf, s, hs, rfl⟩ := h
    simp only [kop] at hx
    split at hx
    · rename_i cs hv
      simp only [hv, hu, hf, Option.bind_some, kty_ld hs]; exact hx
    · cases hx
  · cases h
theorem k_ixa (hg : E.gl = gl) {t ty : TypeId} {x i : Operand} (ho : o.op = .indexAddr t x i) (h : ck? P hm gl (.indexAddr t x i) ty = some k) (hx : kop P E tm st i0 nx k = some r) : xop0 P E tm st i0 nx o = some r := by
  simp only [ck?, Option.bind_eq_some_iff] at h
  obtain ⟨a, ha, b, hb, h⟩ := h
  simp only [xop0, ho, ca_ev hg ha, ca_ev hg hb, Option.bind_some]
  split at h
  · rename_i el hu
    rw [Option.bind_eq_some_iff] at h
    obtain ⟨s, hs, h⟩ := h
    split at h
    · rename_i h0
      simp only [Option.some.injEq] at h; subst h
      simp only [kop] at hx
      split at hx
      · rename_i e xs rr kk n hv hi
        simp only [hv, hi, vint, Option.bind_some, hu, hs, h0, if_true]
        split at hx
        · rename_i h1
          rw [if_pos h1]
          rw [Option.map_eq_some_iff] at hx
          obtain ⟨y, hy, rfl⟩ := hx
          simp only [hy, Option.bind_some]
        · cases hx
      · cases hx
    · cases h
  · rename_i n el hu
    rw [Option.bind_eq_some_iff] at h
    obtain ⟨s, hs, h⟩ := h
    split at h
    · rename_i h0
      simp only [Option.some.injEq] at h; subst h
      simp only [kop] at hx
      split at hx
      · rename_i cs kk m hv hi
        simp only [hv, hi, vint, Option.bind_some, hu, hs]
        split at hx
        · rename_i h1
          rw [if_pos ⟨h1.1, h1.2.1⟩, if_pos ⟨h0, h1.2.2⟩]; exact hx
        · cases hx
      · rename_i id off kk m hv hi
        simp only [hv, hi, vint, Option.bind_some, hu, hs, h0, if_true]
        exact hx
      · cases hx
    · cases h
  · cases h
theorem reck_index {t : TypeId} {s : ByteArray} {k : IntKind} {i : Int} {b : UInt8} (hu : P.underlying t = some .string) (h0 : 0 ≤ i) (h : s.data.toList[i.toNat]? = some b) : reck P (Instr.index t (.string s) (.int k i)) = some (.int .u8 b.toNat) := by
  unfold Instr.index
  rw [reck_bind (a := (k, i)) _ rfl, reck_bind _ (reck_underlying hu)]
  have h2 : s[i.toNat]? = some b := by
    have h4 := (List.getElem?_eq_some_iff.mp h)
    obtain ⟨h5, h6⟩ := h4
    have h7 : i.toNat < s.size := by simpa using h5
    rw [getElem?_pos s i.toNat h7]
    simpa [ByteArray.getElem_eq_getElem_data] using h6
  simp only [h0, if_true, h2]
  rfl
theorem k_ixs (hg : E.gl = gl) {t ty : TypeId} {x i : Operand} (ho : o.op = .index t x i) (h : ck? P hm gl (.index t x i) ty = some k) (hx : kop P E tm st i0 nx k = some r) : xop0 P E tm st i0 nx o = some r := by
  simp only [ck?, Option.bind_eq_some_iff] at h
  obtain ⟨a, ha, b, hb, h⟩ := h
  simp only [xop0, ho, ca_ev hg ha, ca_ev hg hb, Option.bind_some]
  split at h
  · rename_i hs
    simp only [Option.some.injEq] at h; subst h
    have hu : P.underlying t = some .string := by
      unfold isStr at hs; split at hs
      · assumption
      · cases hs
    simp only [kop] at hx
    split at hx
    · rename_i s kk n hv hi
      simp only [hv, hi]
      split at hx
      · rename_i h0
        rw [Option.map_eq_some_iff] at hx
        obtain ⟨c, hc, rfl⟩ := hx
        rw [reck_index hu h0 hc]; rfl
      · cases hx
    · cases hx
  · cases h
theorem k_ext (hg : E.gl = gl) {ty : TypeId} {x : Operand} {i : Nat} (ho : o.op = .extract x i) (h : ck? P hm gl (.extract x i) ty = some k) (hx : kop P E tm st i0 nx k = some r) : xop0 P E tm st i0 nx o = some r := by
  simp only [ck?, Option.map_eq_some_iff] at h
  obtain ⟨a, ha, rfl⟩ := h
  simp only [xop0, ho, ca_ev hg ha, Option.bind_some]; exact hx
theorem cao_ev (hg : E.gl = gl) {x : Option Operand} {a : Option A} (h : cao gl x = some a) : x.map (ev E tm) = a.map fun a => some (av tm a) := by
  cases x with
  | none => simp only [cao, Option.some.injEq] at h; subst h; rfl
  | some x => simp only [cao, Option.map_eq_some_iff] at h; obtain ⟨b, hb, rfl⟩ := h; simp [ca_ev hg hb]
theorem pint_kint {a : Option A} {d : Int} : pint (a.map fun a => some (av tm a)) d = kint tm a d := by cases a <;> rfl
theorem reck_ssl {t : TypeId} {s : ByteArray} (hu : P.underlying t = some .string) {k k' : IntKind} {l h : Int} (h0 : 0 ≤ l) (h1 : l ≤ h) (h2 : h ≤ s.size) :
    reck P (Instr.slice t (.string s) (some (.int k l)) (some (.int k' h)) none) = some (.string (s.extract l.toNat h.toNat)) ∧
    (h = s.size → reck P (Instr.slice t (.string s) (some (.int k l)) none none) = some (.string (s.extract l.toNat h.toNat))) ∧
    (l = 0 → reck P (Instr.slice t (.string s) none (some (.int k' h)) none) = some (.string (s.extract l.toNat h.toNat))) := by
  have a1 : 0 ≤ h ∧ h ≤ (s.size : Int) := ⟨by omega, h2⟩
  have a2 : 0 ≤ l ∧ l ≤ ((h.toNat : Nat) : Int) := ⟨h0, by omega⟩
  have b1 : ∀ (c : BoundsCode) (y : Nat), h ≤ y → reck P (Instr.sliceBound (.int k' h) y c) = some h.toNat := fun c y hy => by
    unfold Instr.sliceBound
    rw [reck_bind (a := (k', h)) _ rfl]
    have : 0 ≤ h ∧ h ≤ (y : Int) := ⟨by omega, hy⟩
    simp only [this, if_true, and_self]; rfl
  have b2 : ∀ (c : BoundsCode) (y : Nat), l ≤ y → reck P (Instr.sliceBound (.int k l) y c) = some l.toNat := fun c y hy => by
    unfold Instr.sliceBound
    rw [reck_bind (a := (k, l)) _ rfl]
    have : 0 ≤ l ∧ l ≤ (y : Int) := ⟨by omega, hy⟩
    simp only [this, if_true, and_self]; rfl
  refine ⟨?_, ?_, ?_⟩
  · unfold Instr.slice
    rw [reck_bind _ (reck_underlying hu)]
    show reck P (Instr.sliceBounds false s.size s.size (some (.int k l)) (some (.int k' h)) none >>= _) = _
    rw [reck_bind (a := (l.toNat, h.toNat, s.size))]
    · rfl
    · unfold Instr.sliceBounds
      show reck P (Instr.sliceBound (.int k' h) s.size .sliceAlen >>= _) = _
      rw [reck_bind _ (b1 _ _ h2)]
      show reck P (Instr.sliceBound (.int k l) h.toNat .sliceB >>= _) = _
      rw [reck_bind _ (b2 _ _ (by omega))]; rfl
  · intro e
    unfold Instr.slice
    rw [reck_bind _ (reck_underlying hu)]
    show reck P (Instr.sliceBounds false s.size s.size (some (.int k l)) none none >>= _) = _
    rw [reck_bind (a := (l.toNat, s.size, s.size))]
    · subst e; rfl
    · unfold Instr.sliceBounds
      show reck P (Instr.sliceBound (.int k l) s.size .sliceB >>= _) = _
      rw [reck_bind _ (b2 _ _ (by omega))]; rfl
  · intro e
    unfold Instr.slice
    rw [reck_bind _ (reck_underlying hu)]
    show reck P (Instr.sliceBounds false s.size s.size none (some (.int k' h)) none >>= _) = _
    rw [reck_bind (a := (0, h.toNat, s.size))]
    · subst e; rfl
    · unfold Instr.sliceBounds
      show reck P (Instr.sliceBound (.int k' h) s.size .sliceAlen >>= _) = _
      rw [reck_bind _ (b1 _ _ h2)]; rfl
theorem k_slice (hg : E.gl = gl) {t ty : TypeId} {x : Operand} {lo hi mx : Option Operand} (ho : o.op = .slice t x lo hi mx) (h : ck? P hm gl (.slice t x lo hi mx) ty = some k) (hx : kop P E tm st i0 nx k = some r) : xop0 P E tm st i0 nx o = some r := by
  cases mx with
  | some m => cases h
  | none =>
    simp only [ck?, Option.bind_eq_some_iff] at h
    obtain ⟨a, ha, lo', hlo, hi', hhi, h⟩ := h
    simp only [xop0, ho, ca_ev hg ha, Option.bind_some, cao_ev hg hlo, cao_ev hg hhi, Option.map_none]
    split at h
    · rename_i el hu
      split at h
      · rename_i hs
        simp only [Option.some.injEq] at h; subst h
        simp only [kop] at hx
        split at hx
        · rename_i e xs rr hv
          rw [Option.bind_eq_some_iff] at hx
          obtain ⟨l, hl, hx⟩ := hx
          rw [Option.bind_eq_some_iff] at hx
          obtain ⟨hh, hhh, hx⟩ := hx
          simp only [xslice, hv, hu]
          rw [pint_kint, hl]
          simp only [Option.bind_some]
          rw [pint_kint, hhh]
          simp only [Option.bind_some, pint]
          split at hx
          · rename_i h1
            rw [if_pos ⟨h1.1, h1.2.1, h1.2.2.1, by trivial, h1.2.2.2, hs, by simp⟩]; exact hx
          · cases hx
        · cases hx
      · cases h
    · rename_i hu
      simp only [Option.some.injEq] at h; subst h
      simp only [kop] at hx
      split at hx
      · rename_i s hv
        rw [Option.bind_eq_some_iff] at hx
        obtain ⟨l, hl, hx⟩ := hx
        rw [Option.bind_eq_some_iff] at hx
        obtain ⟨hh, hhh, hx⟩ := hx
        rw [Option.map_eq_some_iff] at hx
        obtain ⟨v, hv2, rfl⟩ := hx
        unfold ksub at hv2
        split at hv2
        · rename_i h1
          simp only [Option.some.injEq] at hv2; subst hv2
          simp only [xslice, hv, hu]
          cases lo' with
          | none =>
            simp only [kint, Option.some.injEq] at hl
            cases hi' with
            | none => simp only [kint, Option.some.injEq] at hhh; subst hl; subst hhh; simp
            | some b =>
              simp only [kint] at hhh
              cases hb : av tm b with
              | sc v => cases v with
                | int k' n =>
                  simp only [hb, vint, Option.some.injEq] at hhh; subst hhh
                  simp only [Option.map_none, Option.map_some, hb]
                  rw [(reck_ssl (k := .i64) (k' := k') hu h1.1 h1.2.1 h1.2.2).2.2 hl.symm]; rfl
                | _ => simp [hb, vint] at hhh
              | _ => simp [hb, vint] at hhh
          | some c =>
            simp only [kint] at hl
            cases hc : av tm c with
            | sc v => cases v with
              | int k n =>
                simp only [hc, vint, Option.some.injEq] at hl; subst hl
                cases hi' with
                | none =>
                  simp only [kint, Option.some.injEq] at hhh
                  simp only [Option.map_none, Option.map_some, hc]
                  rw [(reck_ssl (k := k) (k' := .i64) hu h1.1 h1.2.1 h1.2.2).2.1 hhh.symm]; rfl
                | some b =>
                  simp only [kint] at hhh
                  cases hb : av tm b with
                  | sc v => cases v with
                    | int k' n =>
                      simp only [hb, vint, Option.some.injEq] at hhh; subst hhh
                      simp only [Option.map_none, Option.map_some, hb, hc]
                      rw [(reck_ssl (k := k) (k' := k') hu h1.1 h1.2.1 h1.2.2).1]; rfl
                    | _ => simp [hb, vint] at hhh
                  | _ => simp [hb, vint] at hhh
              | _ => simp [hc, vint] at hl
            | _ => simp [hc, vint] at hl
        · cases hv2
      · cases hx
    · cases h
end
end Go.Proofs.YthgmhlpjbednpaaDoor.Vm
set_option linter.unusedVariables false
set_option linter.unusedSimpArgs false
namespace Go.Proofs.YthgmhlpjbednpaaDoor.Vm
open Go.RowKit
section
variable {P : Program} {E : Env} {tm : Nat → V} {st : St} {i0 nx : Nat} {hm : FuncId → Nat} {gl : Nat → Option V} {o : Oper} {k : K} {r : R}
theorem ck_app {t t' : TypeId} {a b : A} (h : ckApp P t t' a b = some k) (hx : kop P E tm st i0 nx k = some r) : (if srcTy P t t' (av tm b) = true then xappend1 P st i0 t (av tm a) (av tm b) else none) = some r := by
  unfold ckApp at h
  split at h <;> rename_i el hel
  · split at h <;> rename_i i hi
    · split at h <;> rename_i z hz
      · split at h <;> rename_i h1
        · have hap : ∀ (e rr : Nat) (xs ys : List V) (q : R), av tm a = .list e xs rr → src P el (av tm b) = some ys → ((xs.length + ys.length) * i.bytes ≤ 140737488355328 ∧ xs.length + ys.length ≤ maxLen) →
              (if rr = 1 then (if xs.isEmpty then some (R.val (.list el ys i0) [(i0, some (.tok ys.length el))] []) else none)
                else if rr = 0 then none else match st rr with
                  | some (.tok n e') => if n = xs.length ∧ e' = e ∧ e = el then some (R.val (.list el (xs ++ ys) rr) [(rr, some (.tok (xs.length + ys.length) el))] [rr]) else none
                  | _ => none) = some q → xappend1 P st i0 t (av tm a) (av tm b) = some q := by
            intro e rr xs ys q ha hs hb hq
            simp only [xappend1, ha]
            by_cases hr : rr = 1
            · rw [if_pos hr] at hq ⊢
              simp only [xappend, hel, hs, hi, hz, Option.map_some, h1, hb, and_self, if_true, hr]
              exact hq
            · rw [if_neg hr] at hq ⊢
              by_cases hr0 : rr = 0
              · rw [if_pos hr0] at hq; cases hq
              · rw [if_neg hr0] at hq
                split at hq
                · rename_i n e' hst
                  simp only [hst]
                  split at hq
                  · rename_i h2
                    rw [if_pos ⟨h2.1, h2.2.1⟩]
                    simp only [xappend, hel, hs, hi, hz, Option.map_some, h1, hb, and_self, if_true, hr, hr0, if_false]
                    obtain ⟨h3, h4, h5⟩ := h2
                    subst h5
                    simpa using hq
                  · cases hq
                · cases hq
          split at h <;> rename_i h2
          · simp only [Option.some.injEq] at h; subst h
            simp only [kop] at hx
            split at hx
            · rename_i e xs rr hv
              rw [Option.bind_eq_some_iff] at hx
              obtain ⟨ys, hys, hx⟩ := hx
              unfold ksrc at hys
              split at hys
              · rename_i e' ys' r' hvb
                split at hys
                · rename_i h3
                  simp only [Option.some.injEq] at hys; subst hys
                  have h4 : srcTy P t t' (av tm b) = true := by rw [hvb]; exact h2
                  rw [if_pos h4]
                  split at hx
                  · rename_i hb
                    refine hap e rr xs _ r hv ?_ hb hx
                    rw [hvb]; simp only [src]; rw [if_pos h3.2]
                  · cases hx
                · cases hys
              · split at hys
                · cases hys
                · rename_i hc; exact absurd rfl hc
              · cases hys
            · cases hx
          · split at h <;> rename_i h3
            · simp only [Option.some.injEq] at h; subst h
              simp only [kop] at hx
              split at hx
              · rename_i e xs rr hv
                rw [Option.bind_eq_some_iff] at hx
                obtain ⟨ys, hys, hx⟩ := hx
                unfold ksrc at hys
                split at hys
                · split at hys
                  · rename_i hc; exact absurd hc.1 (by simp)
                  · cases hys
                · rename_i s hvb
                  simp only [Bool.false_eq_true, if_false, Option.some.injEq] at hys; subst hys
                  simp only [Bool.and_eq_true] at h3
                  have h4 : srcTy P t t' (av tm b) = true := by rw [hvb]; exact h3.1.1
                  rw [if_pos h4]
                  split at hx
                  · rename_i hb
                    refine hap e rr xs _ r hv ?_ hb hx
                    rw [hvb]; simp only [src]; rw [if_pos (by simp only [Bool.and_eq_true]; exact ⟨h3.1.2, h3.2⟩)]
                  · cases hx
                · cases hys
              · cases hx
            · cases h
        · cases h
      · cases h
    · cases h
  · cases h
theorem reck_len_str {t ty : TypeId} {s : ByteArray} (hu : P.underlying t = some .string) : reck P (Builtin.len_ #[t] ty #[.string s]) = some (.int .i64 s.size) := by
  unfold Builtin.len_
  show reck P (underlying t >>= _) = _
  rw [reck_bind _ (reck_underlying hu)]; rfl
theorem kindOk_kok {t : TypeId} {v : Value} (h : kok (kdOf P t) v = true) : kindOk (P.underlying t) v = true := by
  unfold kok at h
  split at h
  · rename_i h0; obtain ⟨k, hu⟩ := kdOf_int h0; rw [hu]; rfl
  · rename_i h0; rw [kdOf_str h0]; rfl
  · rename_i h0; rw [kdOf_bool h0]; rfl
  · cases h
theorem k_call (hg : E.gl = gl) (hh : E.hm = hm) {c : Call} {ty : TypeId} (ho : o.op = .call c) (h : ck? P hm gl (.call c) ty = some k) (hx : kop P E tm st i0 nx k = some r) : xop0 P E tm st i0 nx o = some r := by
  simp only [ck?, Option.bind_eq_some_iff] at h
  obtain ⟨zas, ha, h⟩ := h
  simp only [xop0, ho, caL_ev hg ha, Option.bind_some]
  split at h
  · rename_i hc
    simp only [hc]
    split at h
    · rename_i a b t t' hat
      simp only [List.map_cons, List.map_nil, xbuiltin, hat]
      exact ck_app h hx
    · cases h
  · rename_i hc
    simp only [hc]
    split at h
    · rename_i a t hat
      split at h
      · rename_i el hu
        simp only [Option.some.injEq] at h; subst h
        simp only [kop] at hx
        split at hx
        · rename_i e xs rr hv
          simp only [List.map_cons, List.map_nil, xbuiltin, hat, hv, hu]; exact hx
        · cases hx
      · rename_i hu
        simp only [Option.some.injEq] at h; subst h
        simp only [kop] at hx
        split at hx
        · rename_i s hv
          have h5 : c.argTypes = #[t] := by apply Array.toList_inj.mp; simpa using hat
          simp only [List.map_cons, List.map_nil, xbuiltin, hv, h5, reck_len_str hu, Option.map_some]; exact hx
        · cases hx
      · cases h
    · cases h
  · rename_i hc
    simp only [hc]
    split at h
    · rename_i a b
      simp only [Option.some.injEq] at h; subst h
      simp only [kop] at hx
      split at hx
      · rename_i k1 x k2 y hv1 hv2
        simp only [List.map_cons, List.map_nil, xbuiltin, hv1, hv2]
        simp only [List.mapM_cons, List.mapM_nil, V.val1?, Option.bind_eq_bind, Option.bind_some, Option.pure_def]
        have : reck P (Builtin.min_ c.argTypes o.type #[.int k1 x, .int k2 y]) = some (.int k1 (if y < x then y else x)) := rfl
        rw [show ([Value.int k1 x, Value.int k2 y].toArray) = #[.int k1 x, .int k2 y] from rfl, this]
        exact hx
      · cases hx
    · cases h
  · rename_i hc
    simp only [hc]
    split at h
    · rename_i a b t tl hat
      split at h
      · rename_i kt et hu
        simp only [Option.some.injEq] at h; subst h
        simp only [kop] at hx
        split at hx
        · rename_i id kv hv1 hv2
          split at hx
          · rename_i hkk
            simp only [List.map_cons, List.map_nil, xbuiltin, hat, hu, hv1, hv2, kindOk_kok hkk, if_true]
            exact hx
          · cases hx
        · cases hx
      · cases h
    · cases h
  · rename_i f hc
    simp only [hc, ev, Option.bind_some]
    split at h
    · rename_i hn
      simp only [Option.some.injEq] at h; subst h
      simp only [List.nil_append, List.append_nil, xcall, if_pos hn]
      exact hx
    · rename_i hn
      split at h
      · rename_i hm'
        simp only [Option.some.injEq] at h; subst h
        simp only [List.nil_append, List.append_nil, xcall, if_neg hn, hh, hm', if_true]
        exact hx
      · rename_i hm'
        simp only [Option.some.injEq] at h; subst h
        simp only [List.nil_append, List.append_nil, xcall, if_neg hn, hh, if_neg hm']
        exact hx
  · rename_i x hne hc
    simp only [hc]
    rw [Option.map_eq_some_iff] at h
    obtain ⟨a, ha2, rfl⟩ := h
    simp only [ca_ev hg ha2, Option.bind_some]
    exact hx
  · cases h
theorem k_rng (hg : E.gl = gl) {t ty : TypeId} {x : Operand} (ho : o.op = .range t x) (h : ck? P hm gl (.range t x) ty = some k) (hx : kop P E tm st i0 nx k = some r) : xop0 P E tm st i0 nx o = some r := by
  simp only [ck?] at h
  split at h
  · rename_i hs
    rw [Option.map_eq_some_iff] at h
    obtain ⟨a, ha, rfl⟩ := h
    have hu : P.underlying t = some .string := by
      unfold isStr at hs; split at hs
      · assumption
      · cases hs
    simp only [xop0, ho, ca_ev hg ha, Option.bind_some, hu]
    simp only [kop] at hx
    split at hx
    · rename_i s hv; simp only [hv]; exact hx
    · cases hx
  · cases h
theorem k_nxt (hg : E.gl = gl) {ty : TypeId} {x : Operand} (ho : o.op = .next x true) (h : ck? P hm gl (.next x true) ty = some k) (hx : kop P E tm st i0 nx k = some r) : xop0 P E tm st i0 nx o = some r := by
  simp only [ck?, Option.map_eq_some_iff] at h
  obtain ⟨a, ha, rfl⟩ := h
  simp only [xop0, ho, ca_ev hg ha, Option.bind_some]; exact hx
theorem k_mkf (hg : E.gl = gl) {ty : TypeId} {f : Fn} {x y : Array Operand} (ho : o.op = .makeFunc f x y) (h : ck? P hm gl (.makeFunc f x y) ty = some k) (hx : kop P E tm st i0 nx k = some r) : xop0 P E tm st i0 nx o = some r := by
  simp only [ck?, Option.bind_eq_some_iff, Option.map_eq_some_iff] at h
  obtain ⟨a, ha, b, hb, rfl⟩ := h
  simp only [xop0, ho, caL_ev hg ha, caL_ev hg hb, Option.bind_some]; exact hx
theorem k_lku (hg : E.gl = gl) {t ty : TypeId} {x y : Operand} {ok : Bool} (ho : o.op = .lookup t x y ok) (h : ck? P hm gl (.lookup t x y ok) ty = some k) (hx : kop P E tm st i0 nx k = some r) : xop0 P E tm st i0 nx o = some r := by
  simp only [ck?, Option.bind_eq_some_iff] at h
  obtain ⟨a, ha, b, hb, h⟩ := h
  simp only [xop0, ho, ca_ev hg ha, ca_ev hg hb, Option.bind_some]
  split at h
  · rename_i kt et hu
    rw [Option.bind_eq_some_iff] at h
    obtain ⟨z, hz, h⟩ := h
    split at h
    · rename_i h1
      simp only [Option.some.injEq] at h; subst h
      simp only [kop] at hx
      split at hx
      · rename_i id kv hv hk
        split at hx
        · rename_i hkk
          simp only [hv, hk, hu, kindOk_kok hkk, if_true, hz, Option.bind_some]
          split at hx
          · rename_i es hst
            simp only [hst]
            rw [Option.bind_eq_some_iff] at hx ⊢
            obtain ⟨f, hf, hx⟩ := hx
            refine ⟨f, hf, ?_⟩
            cases f with
            | some p => exact hx
            | none => simp only [h1, if_true]; exact hx
          · cases hx
        · cases hx
      · cases hx
    · cases h
  · cases h
theorem k_mup (hg : E.gl = gl) {t ty : TypeId} {x y z : Operand} (ho : o.op = .mapUpdate t x y z) (h : ck? P hm gl (.mapUpdate t x y z) ty = some k) (hx : kop P E tm st i0 nx k = some r) : xop0 P E tm st i0 nx o = some r := by
  simp only [ck?, Option.bind_eq_some_iff] at h
  obtain ⟨a, ha, b, hb, c, hc, h⟩ := h
  simp only [xop0, ho, ca_ev hg ha, ca_ev hg hb, ca_ev hg hc, Option.bind_some]
  split at h
  · rename_i kt et hu
    simp only [Option.some.injEq] at h; subst h
    simp only [kop] at hx
    split at hx
    · rename_i id kv hv hk
      split at hx
      · rename_i hkk
        simp only [hv, hk, hu, kindOk_kok hkk, if_true]; exact hx
      · cases hx
    · cases hx
  · cases h
theorem k_ifc (hg : E.gl = gl) {t ty : TypeId} {x : Operand} (ho : o.op = .makeInterface t x) (h : ck? P hm gl (.makeInterface t x) ty = some k) (hx : kop P E tm st i0 nx k = some r) : xop0 P E tm st i0 nx o = some r := by
  simp only [ck?] at h
  split at h
  · cases h
  · cases h
  · rename_i h1 h2
    rw [Option.map_eq_some_iff] at h
    obtain ⟨a, ha, rfl⟩ := h
    simp only [xop0, ho, ca_ev hg ha, Option.bind_some]
    exact hx
theorem k_pan (hg : E.gl = gl) {ty : TypeId} {x : Operand} (ho : o.op = .panic x) (h : ck? P hm gl (.panic x) ty = some k) (hx : kop P E tm st i0 nx k = some r) : xop0 P E tm st i0 nx o = some r := by
  simp only [ck?, Option.map_eq_some_iff] at h
  obtain ⟨a, ha, rfl⟩ := h
  simp only [xop0, ho, ca_ev hg ha, Option.bind_some]
  simp only [kop] at hx
  split at hx
  · rename_i hv; simp only [hv]; exact hx
  · cases hx
theorem ck?_ok (hg : E.gl = gl) (hh : E.hm = hm) (h : ck? P hm gl o.op o.type = some k) (hx : kop P E tm st i0 nx k = some r) : xop0 P E tm st i0 nx o = some r := by
  cases ho : o.op <;> rw [ho] at h
  case move x => exact k_mov hg (.inl ho) h hx
  case assign x => exact k_mov hg (.inr ho) h hx
  case pick c a b => exact k_pick hg ho h hx
  case alloc e => exact k_alloc ho h hx
  case box e x => exact k_box hg ho h hx
  case build t ps => exact k_build hg ho h hx
  case buildSlice t n ps => exact k_mk hg ho h hx
  case load t x => exact k_ld hg ho h hx
  case store t x y => exact k_sto hg ho h hx
  case nilCheck x => exact k_nilc hg ho h hx
  case binOp b t x y yt => exact k_bin hg ho h hx
  case unOp b t x => exact k_un hg ho h hx
  case convert s d x => exact k_conv hg ho h hx
  case slice t x lo hi mx => exact k_slice hg ho h hx
  case fieldAddr t x f => exact k_fa hg ho h hx
  case field t x f => exact k_fld hg ho h hx
  case indexAddr t x i => exact k_ixa hg ho h hx
  case index t x i => exact k_ixs hg ho h hx
  case extract x i => exact k_ext hg ho h hx
  case call c => exact k_call hg hh ho h hx
  case range t x => exact k_rng hg ho h hx
  case next x b =>
    cases b with
    | true => exact k_nxt hg ho h hx
    | false => simp [ck?] at h
  case makeFunc f x y => exact k_mkf hg ho h hx
  case makeMap t y =>
    cases y with
    | none => simp only [ck?, Option.some.injEq] at h; subst h; simp only [xop0, ho]; exact hx
    | some y => simp [ck?] at h
  case lookup t x y ok => exact k_lku hg ho h hx
  case mapUpdate t x y z => exact k_mup hg ho h hx
  case makeInterface t x => exact k_ifc hg ho h hx
  case panic x => exact k_pan hg ho h hx
  all_goals (simp [ck?] at h)
theorem xop0_oper (d : Option Tmp) (pos : String) (af : Array Edge) (g : Option (Nat × Bool)) {op : Op} {ty : TypeId} : xop0 P E tm st i0 nx ⟨d, op, ty, pos, af, g⟩ = xop0 P E tm st i0 nx ⟨none, op, ty, "", #[], none⟩ := by
  cases op <;> rfl
theorem ck0_ok (hg : E.gl = gl) (hh : E.hm = hm) (hx : kop P E tm st i0 nx (ck0 P hm gl o.op o.type) = some r) : xop0 P E tm st i0 nx o = some r := by
  unfold ck0 at hx
  cases h : ck? P hm gl o.op o.type with
  | some k => rw [h] at hx; exact ck?_ok hg hh h hx
  | none => rw [h] at hx; rw [show o = ⟨o.dst, o.op, o.type, o.pos, o.after, o.guard⟩ from rfl, xop0_oper]; exact hx
theorem ck_ok {md : Nat} (hg : E.gl = gl) (hh : E.hm = hm ∧ E.md = md) (hx : kop P E tm st i0 nx (ck P hm gl md o.op o.type) = some r) : xop P E tm st i0 nx o = some r := by
  obtain ⟨hh, hmd⟩ := hh
  unfold ck at hx
  unfold xop yop
  rw [hmd, hg, hh]
  split at hx
  · rename_i h1
    rw [if_pos h1]; exact ck0_ok hg hh hx
  · rename_i h1
    rw [if_neg h1]
    split at hx
    · rename_i x hcx
      rw [hcx]
      simp only [Option.bind_some]
      simp only [kop] at hx
      cases hk : kopx E tm st i0 x with
      | some q => rw [hk] at hx; exact hx
      | none => rw [hk] at hx; exact ck0_ok hg hh hx
    · rename_i hcx
      rw [hcx]
      exact ck0_ok hg hh hx
end
end Go.Proofs.YthgmhlpjbednpaaDoor.Vm
set_option linter.unusedVariables false
set_option linter.unusedSimpArgs false
namespace Go.Proofs.YthgmhlpjbednpaaDoor.Vm
open Go.RowKit
inductive Y where
  | skip
  | reg (ops : List KO) (m : Nat) (chk : Option (List Nat))
  | bad
  | seq (a b : Y)
  | cond (c : A) (x y : Y)
  | block (id : Nat) (b : Y)
  | loop (b : Y)
  | exit (id : Nat)
  | ret
inductive KR where
  | t (n : Nat)
  | c (a : Nat) (s : Option Nat)
structure KF where
  b : Y
  rs : List KR
section
variable (P : Program) (hm : FuncId → Nat) (gl : Nat → Option V) (md : Nat)
def cg (ops : Array Oper) : Option (Nat × Bool) → Option (Option (Nat × Bool))
  | none => some none
  | some (j, w) => ((ops[j]?).bind (·.dst)).map fun d => some (d, w)
def cko (n : Nat) (ops : Array Oper) (o : Oper) : Option KO :=
  if dstOk n o.dst then (cg ops o.guard).map fun g => ⟨o.dst, g, ck P hm gl md o.op o.type⟩ else none
def cmp (n : Nat) : Code → Y
  | .skip => .skip
  | .region _ ops draw => match ops.toList.mapM (cko P hm gl md n ops) with
    | some ks => if draw then (if masksOk ops.toList (masks ops.toList []) && slotsOk ops (masks ops.toList []) then .reg ks ops.size (some (masks ops.toList [])) else .bad) else .reg ks ops.size none
    | none => .bad
  | .seq a b => .seq (cmp n a) (cmp n b)
  | .cond c x y => match ca gl c with
    | some c => .cond c (cmp n x) (cmp n y)
    | none => .bad
  | .block id b => .block id (cmp n b)
  | .loop b => .loop (cmp n b)
  | .exit id => .exit id
  | .ret => .ret
  | .label _ => .skip
  | _ => .bad
def cres : ResultVar → Option KR
  | .tmp t => some (.t t)
  | .cell a t => (kty P t).map fun s => .c a s
def cmpF (fn : Func) : Option KF := fn.body.bind fun b => if (dsplit b).isSome = true then none else (fn.results.toList.mapM (cres P)).map fun rs => ⟨cmp P hm gl md fn.ntmps b, rs⟩
end
section
variable (P : Program) (E : Env)
def kwant (tm : Nat → V) : Option (Nat × Bool) → Option Bool
  | none => some true
  | some (d, w) => match tm d with
    | .sc (.bool b) => some (b == w)
    | .sc _ => some false
    | _ => none
def kops : Nat → List KO → (Nat → V) → St → Nat → List Rec → Option RR
  | _, [], tm, st, nx, acc => some (.ok tm st nx acc.reverse)
  | i0, o :: rest, tm, st, nx, acc =>
    match kwant tm o.g with
    | some true =>
      match kop P E tm st i0 nx o.k with
      | some (.val v δ rd) => kops (i0 + 8) rest (putT tm o.d v) (upds δ st) nx (⟨v, δ, rd, none⟩ :: acc)
      | some (.big v st1 nx1) => kops (i0 + 8) rest (putT tm o.d v) st1 nx1 (⟨v, [], [], some (st1, nx1)⟩ :: acc)
      | some (.pan v) => some (.pan tm v st nx)
      | some (.bpan v st1 nx1) => some (.pan tm v st1 nx1)
      | none => none
    | some false => kops (i0 + 8) rest (putT tm o.d (.sc undef)) st nx (⟨.sc undef, [], [], none⟩ :: acc)
    | none => none
def KPan (B : List Nat) (m : Nat) (ops : List KO) (fr : Fr) (v : V) (st : St) (nx : Nat) : Prop :=
  ∃ pre o post tm s n recs, ops = pre ++ o :: post ∧ recs.length = pre.length ∧ kops P E fr.nx pre fr.tm fr.st (fr.nx + 8 * m) [] = some (.ok tm s n recs) ∧ kwant tm o.g = some true ∧
    (kop P E tm s (fr.nx + 8 * pre.length) n o.k = some (.bpan v st nx) ∨ (kop P E tm s (fr.nx + 8 * pre.length) n o.k = some (.pan v) ∧ st = s ∧ nx = n)) ∧ recsOk2 fr.st B recs ∧ pansOk B recs m = true
open Classical in
noncomputable def kend (m : Nat) (ops : List KO) (chk : Option (List Nat)) (fr : Fr) : Option RR → Option (Ex × Fr)
  | some (.ok tm st nx recs) => match chk with
    | none => some (.norm, ⟨tm, st, nx⟩)
    | some B => if recsOk B recs then some (.norm, ⟨tm, st, nx⟩) else if recsOk2 fr.st B recs then some (.norm, ⟨tm, st, nx⟩) else none
  | some (.pan tm v st nx) => match chk with
    | none => some (.pan v, ⟨tm, st, nx⟩)
    | some B => if KPan P E B m ops fr v st nx then some (.pan v, ⟨fr.tm, st, nx⟩) else none
  | none => none
open Classical in
noncomputable def loopL (f : Fr → Option (Ex × Fr)) (fr : Fr) : Option (Ex × Fr) := if h : ∃ r k, iter f k fr = some r then some (Classical.choose h) else none
noncomputable def zcode : Y → Fr → Option (Ex × Fr)
  | .skip, fr => some (.norm, fr)
  | .reg ops m chk, fr => kend P E m ops chk fr (kops P E fr.nx ops fr.tm fr.st (fr.nx + 8 * m) [])
  | .bad, _ => none
  | .seq a b, fr => match zcode a fr with
    | some (.norm, fr') => zcode b fr'
    | r => r
  | .cond c x y, fr => match av fr.tm c with
    | .sc (.bool b) => bif b then zcode x fr else zcode y fr
    | _ => none
  | .block id b, fr => match zcode b fr with
    | some (.exit j, fr') => if j = id then some (.norm, fr') else some (.exit j, fr')
    | r => r
  | .loop b, fr => loopL (zcode b) fr
  | .exit id, fr => some (.exit id, fr)
  | .ret, fr => some (.ret, fr)
end
theorem iter_mono {f : Fr → Option (Ex × Fr)} {k k' : Nat} {fr : Fr} {r : Ex × Fr} (hk : k ≤ k') (h : iter f k fr = some r) : iter f k' fr = some r := iter_le (fun _ _ h => h) hk h
theorem loopL_some {f : Fr → Option (Ex × Fr)} {fr : Fr} {r : Ex × Fr} : loopL f fr = some r ↔ ∃ k, iter f k fr = some r := by
  have uniq : ∀ {a b : Ex × Fr} {k l : Nat}, iter f k fr = some a → iter f l fr = some b → a = b := fun {a b k l} h1 h2 => by
    have h1 := iter_mono (Nat.le_max_left k l) h1
    have h2 := iter_mono (Nat.le_max_right k l) h2
    rw [h1] at h2; exact Option.some.inj h2
  unfold loopL
  constructor
  · intro h
    split at h
    · rename_i hq
      obtain ⟨k, hk⟩ := Classical.choose_spec hq
      simp only [Option.some.injEq] at h
      exact ⟨k, by rw [← h]; exact hk⟩
    · cases h
  · rintro ⟨k, hk⟩
    have hq : ∃ r k, iter f k fr = some r := ⟨r, k, hk⟩
    rw [dif_pos hq]
    obtain ⟨l, hl⟩ := Classical.choose_spec hq
    rw [uniq hl hk]
theorem loopL_eq (f : Fr → Option (Ex × Fr)) (fr : Fr) : loopL f fr = match f fr with | some (.norm, fr') => loopL f fr' | r => r := by
  have main : ∀ r, loopL f fr = some r ↔ (match f fr with | some (.norm, fr') => loopL f fr' | r => r) = some r := fun r => by
    rw [loopL_some]
    constructor
    · rintro ⟨k, hk⟩
      cases k with
      | zero => simp [iter] at hk
      | succ k =>
        unfold iter at hk
        split at hk
        · rename_i h1; simp only [h1]; exact loopL_some.mpr ⟨k, hk⟩
        · rename_i h1
          split
          · rename_i h2; exact absurd h2 (h1 _)
          · exact hk
    · intro h
      split at h
      · rename_i h1
        obtain ⟨k, hk⟩ := loopL_some.mp h
        exact ⟨k + 1, by unfold iter; simp only [h1]; exact hk⟩
      · rename_i h1
        refine ⟨1, ?_⟩
        unfold iter
        split
        · rename_i h2; exact absurd h2 (h1 _)
        · exact h
  cases h : loopL f fr with
  | some r => exact ((main r).mp h).symm
  | none =>
    cases h2 : (match f fr with | some (.norm, fr') => loopL f fr' | r => r) with
    | none => rfl
    | some r => rw [(main r).mpr h2] at h; cases h
section
variable {P : Program} {E : Env} {hm : FuncId → Nat} {gl : Nat → Option V} {md : Nat}
def accd (acc : List Rec) : RR → RR
  | .ok tm st nx recs => .ok tm st nx (acc.reverse ++ recs)
  | p => p
theorem dstOk_le {n N : Nat} (h : n ≤ N) {d : Option Tmp} (hd : dstOk n d = true) : dstOk N d = true := by
  cases d with
  | none => rfl
  | some d => have hd : d < n := by simpa [dstOk] using hd
              show decide (d < N) = true
              rw [decide_eq_true_eq]; exact Nat.lt_of_lt_of_le hd h
theorem kops_ok (hg : E.gl = gl) (hh : E.hm = hm ∧ E.md = md) {n N n0 : Nat} (hN : n ≤ N) {ops : Array Oper} : ∀ {rest : List Oper} {ks : List KO} {i : Nat} {tm : Nat → V} {st : St} {nx : Nat} {acc : List Rec} {rr : RR},
    rest.mapM (cko P hm gl md n ops) = some ks → kops P E (n0 + 8 * i) ks tm st nx acc = some rr → ∃ rr', xops P E ops N n0 i rest tm st nx = some rr' ∧ rr = accd acc rr'
  | [], ks, i, tm, st, nx, acc, rr, hk, h => by
    simp at hk; subst hk
    simp only [kops, Option.some.injEq] at h
    exact ⟨_, rfl, by simp [accd, ← h]⟩
  | o :: rest, ks, i, tm, st, nx, acc, rr, hk, h => by
    simp only [List.mapM_cons, Option.bind_eq_bind, Option.bind_eq_some_iff, Option.pure_def, Option.some.injEq] at hk
    obtain ⟨k1, hk1, ks', hks, rfl⟩ := hk
    unfold cko at hk1
    split at hk1
    · rename_i hd
      rw [Option.map_eq_some_iff] at hk1
      obtain ⟨g, hgd, rfl⟩ := hk1
      have e : n0 + 8 * i + 8 = n0 + 8 * (i + 1) := by omega
      have hw : kwant tm g = xwant ops tm o := by
        unfold cg at hgd
        unfold xwant
        cases ho : o.guard with
        | none => simp only [ho, Option.some.injEq] at hgd; subst hgd; rfl
        | some p =>
          obtain ⟨j, w⟩ := p
          simp only [ho, Option.map_eq_some_iff] at hgd
          obtain ⟨d, hd, rfl⟩ := hgd
          simp only [hd]; rfl
      unfold xops
      rw [if_pos (dstOk_le hN hd)]
      unfold kops at h
      simp only [hw] at h
      split at h <;> rename_i hwv
      · simp only [hwv]
        split at h <;> rename_i hop
        · have hop := ck_ok hg hh hop
          rw [e] at h
          obtain ⟨rr', h1, h2⟩ := kops_ok hg hh hN hks h
          simp only [hop]
          rw [h1]
          cases rr' with
          | ok tm' st' nx' recs => exact ⟨_, rfl, by simp [h2, accd]⟩
          | pan tm0 v s x => exact ⟨_, rfl, h2⟩
        · have hop := ck_ok hg hh hop
          rw [e] at h
          obtain ⟨rr', h1, h2⟩ := kops_ok hg hh hN hks h
          simp only [hop]
          rw [h1]
          cases rr' with
          | ok tm' st' nx' recs => exact ⟨_, rfl, by simp [h2, accd]⟩
          | pan tm0 v s x => exact ⟨_, rfl, h2⟩
        · have hop := ck_ok hg hh hop
          simp only [hop]
          simp only [Option.some.injEq] at h
          exact ⟨_, rfl, h.symm⟩
        · have hop := ck_ok hg hh hop
          simp only [hop]
          simp only [Option.some.injEq] at h
          exact ⟨_, rfl, h.symm⟩
        · cases h
      · simp only [hwv]
        rw [e] at h
        obtain ⟨rr', h1, h2⟩ := kops_ok hg hh hN hks h
        rw [h1]
        cases rr' with
        | ok tm' st' nx' recs => exact ⟨_, rfl, by simp [h2, accd]⟩
        | pan tm0 v s x => exact ⟨_, rfl, h2⟩
      · cases h
    · cases hk1
theorem mapM_split {α β : Type} {f : α → Option β} : ∀ {l : List α} {a b : List β}, l.mapM f = some (a ++ b) → ∃ l1 l2, l = l1 ++ l2 ∧ l1.mapM f = some a ∧ l2.mapM f = some b
  | l, [], b, h => ⟨[], l, rfl, rfl, h⟩
  | [], a :: zas, b, h => by simp at h
  | x :: l, a :: zas, b, h => by
    simp only [List.mapM_cons, Option.bind_eq_bind, Option.bind_eq_some_iff, Option.pure_def, Option.some.injEq, List.cons_append, List.cons.injEq] at h
    obtain ⟨y, hy, ys, hys, rfl, rfl⟩ := h
    obtain ⟨l1, l2, rfl, h1, h2⟩ := mapM_split hys
    exact ⟨x :: l1, l2, rfl, by simp [hy, h1], h2⟩
theorem pan_ok (hg : E.gl = gl) (hh : E.hm = hm ∧ E.md = md) {n N : Nat} (hN : n ≤ N) {ops : Array Oper} {ks : List KO} (hk : ops.toList.mapM (cko P hm gl md n ops) = some ks) {fr : Fr} {v : V} {st : St} {nx : Nat}
    (hm1 : masksOk ops.toList (masks ops.toList []) = true) (hm2 : slotsOk ops (masks ops.toList []) = true) (hp : KPan P E (masks ops.toList []) ops.size ks fr v st nx) : PanAt P E N ops fr v st nx := by
  obtain ⟨pre, o, post, tm, s, nn, recs, rfl, e2, e3, e4, e5, e6, e7⟩ := hp
  obtain ⟨l1, l2, hl, h1, h2⟩ := mapM_split hk
  obtain ⟨l3, l4, hl2, h3, h4⟩ := mapM_split (a := [o]) (b := post) h2
  have hlen : l1.length = pre.length := (mapM_some h1).length
  have hl3 : ∃ o', l3 = [o'] ∧ cko P hm gl md n ops o' = some o := by
    cases l3 with
    | nil => simp at h3
    | cons x l3 =>
      simp only [List.mapM_cons, Option.bind_eq_bind, Option.bind_eq_some_iff, Option.pure_def, Option.some.injEq, List.cons.injEq] at h3
      obtain ⟨y, hy, ys, hys, rfl, rfl⟩ := h3
      have := (mapM_some hys).length
      simp at this
      subst this
      exact ⟨x, rfl, hy⟩
  obtain ⟨o', rfl, hck⟩ := hl3
  have htl : ops.toList = l1 ++ o' :: l4 := by rw [hl, hl2]; rfl
  have htake : ops.toList.take pre.length = l1 := by rw [htl, ← hlen, List.take_left]
  have hget : ops[pre.length]? = some o' := by rw [← Array.getElem?_toList, htl, ← hlen, List.getElem?_append_right (Nat.le_refl _)]; simp
  obtain ⟨rr', k1, k2⟩ := kops_ok (n0 := fr.nx) (i := 0) (N := N) hg hh hN h1 e3
  cases rr' with
  | pan => simp [accd] at k2
  | ok tm' st' nx' recs' =>
    simp only [accd, List.reverse_nil, List.nil_append, RR.ok.injEq] at k2
    obtain ⟨rfl, rfl, rfl, rfl⟩ := k2
    unfold cko at hck
    split at hck
    · rename_i hd
      rw [Option.map_eq_some_iff] at hck
      obtain ⟨g, hgd, rfl⟩ := hck
      have hw : kwant tm g = xwant ops tm o' := by
        unfold cg at hgd
        unfold xwant
        cases ho : o'.guard with
        | none => simp only [ho, Option.some.injEq] at hgd; subst hgd; rfl
        | some p =>
          obtain ⟨j, w⟩ := p
          simp only [ho, Option.map_eq_some_iff] at hgd
          obtain ⟨d, hd, rfl⟩ := hgd
          simp only [hd]; rfl
      refine ⟨pre.length, o', tm, s, nn, recs, hget, e2, by rw [htake]; exact k1, by rw [← hw]; exact e4, ?_, hm1, hm2, e6, e7⟩
      rcases e5 with e5 | ⟨e5, e8⟩
      · exact .inl (ck_ok hg hh e5)
      · exact .inr ⟨ck_ok hg hh e5, e8⟩
    · cases hck
theorem region_ok (hg : E.gl = gl) (hh : E.hm = hm ∧ E.md = md) {n N : Nat} (hN : n ≤ N) {ops : Array Oper} {ks : List KO} (hk : ops.toList.mapM (cko P hm gl md n ops) = some ks) {chk : Option (List Nat)} {draw : Bool} {fr : Fr} {res : Ex × Fr}
    (hc : if draw then (masksOk ops.toList (masks ops.toList []) && slotsOk ops (masks ops.toList [])) = true ∧ chk = some (masks ops.toList []) else chk = none)
    (h : kend P E ops.size ks chk fr (kops P E fr.nx ks fr.tm fr.st (fr.nx + 8 * ops.size) []) = some res) : xregion P E N ops draw fr = some res := by
  unfold kend at h
  split at h
  · rename_i tm st nx recs hr
    obtain ⟨rr', h1, h2⟩ := kops_ok (n0 := fr.nx) (i := 0) hg hh hN hk hr
    cases rr' with
    | ok tm' st' nx' recs' =>
      simp only [accd, List.reverse_nil, List.nil_append, RR.ok.injEq] at h2
      obtain ⟨rfl, rfl, rfl, rfl⟩ := h2
      unfold xregion
      rw [h1]
      cases draw with
      | false =>
        simp only [Bool.false_eq_true, if_false] at hc ⊢
        subst hc
        exact h
      | true =>
        simp only [if_true, Bool.and_eq_true] at hc ⊢
        obtain ⟨⟨h3, h4⟩, rfl⟩ := hc
        simp only at h
        split at h
        · rename_i h5
          rw [if_pos ⟨⟨h3, h4⟩, h5⟩]; exact h
        · rename_i h5
          split at h
          · rename_i h6
            rw [if_neg (fun q => h5 q.2)]
            split
            · exact h
            · first | (rw [if_pos ⟨h3, h4⟩, if_pos h6]; exact h) | (rw [if_pos ⟨h3, h4⟩]; exact h) | (rw [if_pos h6]; exact h)
          · cases h
    | pan tm0 v s x => simp [accd] at h2
  · rename_i tm0 v st nx hr
    obtain ⟨rr', h1, h2⟩ := kops_ok (n0 := fr.nx) (i := 0) hg hh hN hk hr
    cases rr' with
    | ok tm' st' nx' recs' => simp [accd] at h2
    | pan tm' v' s x =>
      simp only [accd, RR.pan.injEq] at h2
      obtain ⟨rfl, rfl, rfl, rfl⟩ := h2
      unfold xregion
      rw [h1]
      cases draw with
      | false =>
        simp only [Bool.false_eq_true, if_false] at hc ⊢
        subst hc
        exact h
      | true =>
        simp only [if_true] at hc ⊢
        obtain ⟨hc, rfl⟩ := hc
        simp only [Bool.and_eq_true] at hc
        simp only at h
        split at h
        · rename_i hp
          rw [if_pos (pan_ok hg hh hN hk hc.1 hc.2 hp)]; exact h
        · cases h
  · cases h
theorem zcode_ok (hg : E.gl = gl) (hh : E.hm = hm ∧ E.md = md) {n N : Nat} (hN : n ≤ N) : ∀ (c : Code) {fr : Fr} {res : Ex × Fr}, zcode P E (cmp P hm gl md n c) fr = some res → ∃ k, xcode P E N k c fr = some res := by
  intro c
  have le : ∀ {k k' : Nat} {c : Code} {fr : Fr} {r : Ex × Fr}, k ≤ k' → xcode P E N k c fr = some r → xcode P E N k' c fr = some r := fun h hx => xcode_le (Env.le.refl E) h _ hx
  induction c with
  | skip => intro fr res h; exact ⟨0, h⟩
  | region id ops draw =>
    intro fr res h
    refine ⟨0, ?_⟩
    simp only [cmp] at h
    split at h
    · rename_i ks hk
      cases draw with
      | true =>
        simp only [if_true] at h
        split at h
        · rename_i hc
          simp only [xcode]
          exact region_ok hg hh hN hk (by rw [if_pos rfl]; exact ⟨hc, rfl⟩) h
        · cases h
      | false =>
        simp only [xcode]
        exact region_ok hg hh hN hk (by simp) h
    · cases h
  | seq x y ihx ihy =>
    intro fr res h
    simp only [cmp, zcode] at h
    split at h
    · rename_i fr' h1
      obtain ⟨k, hk⟩ := ihx h1
      obtain ⟨l, hl⟩ := ihy h
      refine ⟨max k l, ?_⟩
      simp only [xcode, le (Nat.le_max_left k l) hk]
      exact le (Nat.le_max_right k l) hl
    · rename_i h1
      obtain ⟨k, hk⟩ := ihx h
      refine ⟨k, ?_⟩
      simp only [xcode, hk]
      split
      · rename_i h2; obtain rfl := Option.some.inj h2; exact absurd h (h1 _)
      · rfl
  | cond c x y ihx ihy =>
    intro fr res h
    simp only [cmp] at h
    split at h
    · rename_i a ha
      simp only [zcode] at h
      split at h
      · rename_i b hb
        cases b with
        | true => obtain ⟨k, hk⟩ := ihx h; exact ⟨k, by simp only [xcode, ca_ev hg ha, hb]; exact hk⟩
        | false => obtain ⟨k, hk⟩ := ihy h; exact ⟨k, by simp only [xcode, ca_ev hg ha, hb]; exact hk⟩
      · cases h
    · cases h
  | block id b ih =>
    intro fr res h
    simp only [cmp, zcode] at h
    split at h
    · rename_i j fr' h1
      obtain ⟨k, hk⟩ := ih h1
      exact ⟨k, by simp only [xcode, hk]; exact h⟩
    · rename_i h1
      obtain ⟨k, hk⟩ := ih h
      refine ⟨k, ?_⟩
      simp only [xcode, hk]
      split
      · rename_i h2; obtain rfl := Option.some.inj h2; exact absurd h (h1 _ _)
      · rfl
  | loop b ih =>
    intro fr res h
    simp only [cmp, zcode] at h
    obtain ⟨j, hj⟩ := loopL_some.mp h
    have main : ∀ (j : Nat) (fr : Fr), iter (zcode P E (cmp P hm gl md n b)) j fr = some res → ∃ k, iter (xcode P E N k b) k fr = some res := by
      intro j
      induction j with
      | zero => intro fr h; simp [iter] at h
      | succ j ihj =>
        intro fr h
        unfold iter at h
        split at h
        · rename_i fr' h1
          obtain ⟨k, hk⟩ := ih h1
          obtain ⟨l, hl⟩ := ihj _ h
          refine ⟨max k l + 1, ?_⟩
          unfold iter
          rw [le (by omega : k ≤ max k l + 1) hk]
          exact iter_le (fun fr r q => le (by omega : l ≤ max k l + 1) q) (by omega) hl
        · rename_i h1
          obtain ⟨k, hk⟩ := ih h
          refine ⟨k + 1, ?_⟩
          unfold iter
          rw [le (by omega : k ≤ k + 1) hk]
          split
          · rename_i h2; obtain rfl := Option.some.inj h2; exact absurd h (h1 _)
          · rfl
    obtain ⟨k, hk⟩ := main j fr hj
    exact ⟨k, by simp only [xcode]; exact hk⟩
  | «exit» id => intro fr res h; exact ⟨0, h⟩
  | ret => intro fr res h; exact ⟨0, h⟩
  | label a => intro fr res h; exact ⟨0, h⟩
  | _ => intro fr res h; simp [cmp, zcode] at h
end
end Go.Proofs.YthgmhlpjbednpaaDoor.Vm
set_option linter.unusedVariables false
set_option linter.unusedSimpArgs false
namespace Go.Proofs.YthgmhlpjbednpaaDoor.Vm
open Go.RowKit
def Ex.cs (e : Ex) (n q : Prop) : Prop := match e with | .norm => n | _ => q
def Ex.blk (e : Ex) (id : Nat) (n q : Prop) : Prop := match e with | .exit j => if j = id then n else q | _ => q
def W {α : Type} (o : Option α) (C : α → Prop) : Prop := ∃ r, o = some r ∧ C r
def WX (o : Option (Ex × Fr)) (Q : Ex → Fr → Prop) : Prop := ∃ e fr, o = some (e, fr) ∧ Q e fr
def WB (v : V) (p q : Prop) : Prop := match v with
  | .sc (.bool b) => (b = true → p) ∧ (b = false → q)
  | _ => False
def wg (tm : Nat → V) (d : Nat) (w : Bool) (u : V) (T F : (Nat → V) → Prop) : Prop := match u with
  | .sc (.bool b) => (b = w → T (upd tm d (.sc (.bool w)))) ∧ (b = !w → F (upd tm d (.sc (.bool !w))))
  | .sc _ => F tm
  | _ => False
section
variable (P : Program) (E : Env)
def wr (C : V → List (Nat × Option Ob) → List Nat → Prop) (B : V → St → Nat → Prop) (QP : V → Prop) (QB : V → St → Nat → Prop) : R → Prop
  | .val v δ rd => C v δ rd
  | .big v st nx => B v st nx
  | .pan v => QP v
  | .bpan v st nx => QB v st nx
def wops (tr : Bool) (Q : (Nat → V) → St → Nat → List Rec → Prop) (QP : (Nat → V) → List Rec → V → St → Nat → Prop) : Nat → List KO → (Nat → V) → St → Nat → List Rec → Prop
  | _, [], tm, st, nx, acc => Q tm st nx acc.reverse
  | i0, ⟨d, none, k⟩ :: rest, tm, st, nx, acc =>
    W (kop P E tm st i0 nx k) (wr (fun v δ rd => wops tr Q QP (i0 + 8) rest (putT tm d v) (upds δ st) nx (if tr then ⟨v, δ, rd, none⟩ :: acc else acc))
      (fun v st1 nx1 => wops tr Q QP (i0 + 8) rest (putT tm d v) st1 nx1 (if tr then ⟨v, [], [], some (st1, nx1)⟩ :: acc else acc)) (fun v => QP tm acc v st nx) (QP tm acc))
  | i0, ⟨d, some (g, w), k⟩ :: rest, tm, st, nx, acc =>
    wg tm g w (tm g)
      (fun tm => W (kop P E tm st i0 nx k) (wr (fun v δ rd => wops tr Q QP (i0 + 8) rest (putT tm d v) (upds δ st) nx (if tr then ⟨v, δ, rd, none⟩ :: acc else acc))
        (fun v st1 nx1 => wops tr Q QP (i0 + 8) rest (putT tm d v) st1 nx1 (if tr then ⟨v, [], [], some (st1, nx1)⟩ :: acc else acc)) (fun v => QP tm acc v st nx) (QP tm acc)))
      (fun tm => wops tr Q QP (i0 + 8) rest (putT tm d (.sc undef)) st nx (if tr then ⟨.sc undef, [], [], none⟩ :: acc else acc))
def wc : Y → (Ex → Fr → Prop) → Fr → Prop
  | .skip, Q, fr => Q .norm fr
  | .reg ops m none, Q, fr => wops P E false (fun tm st nx _ => Q .norm ⟨tm, st, nx⟩) (fun tm _ v st nx => Q (.pan v) ⟨tm, st, nx⟩) fr.nx ops fr.tm fr.st (fr.nx + 8 * m) []
  | .reg ops m (some B), Q, fr => wops P E true (fun tm st nx rs => (recsOk B rs = true ∨ recsOk2 fr.st B rs) ∧ Q .norm ⟨tm, st, nx⟩) (fun _ acc v st nx => recsOk2 fr.st B acc.reverse ∧ pansOk B acc.reverse m = true ∧ Q (.pan v) ⟨fr.tm, st, nx⟩) fr.nx ops fr.tm fr.st (fr.nx + 8 * m) []
  | .bad, _, _ => False
  | .seq a b, Q, fr => wc a (fun e fr' => e.cs (wc b Q fr') (Q e fr')) fr
  | .cond c x y, Q, fr => WB (av fr.tm c) (wc x Q fr) (wc y Q fr)
  | .block id b, Q, fr => wc b (fun e fr' => e.blk id (Q .norm fr') (Q e fr')) fr
  | .loop b, Q, fr => WX (loopL (zcode P E b) fr) Q
  | .exit id, Q, fr => Q (.exit id) fr
  | .ret, Q, fr => Q .ret fr
end
section
variable {P : Program} {E : Env}
theorem upd_self {tm : Nat → V} {d : Nat} {v : V} (h : tm d = v) : upd tm d v = tm := by
  funext i; unfold upd; split
  · rename_i e; subst e; exact h.symm
  · rfl
def PanF (P : Program) (E : Env) (i0 : Nat) (ops : List KO) (tm : Nat → V) (st : St) (nx : Nat) (acc0 : List Rec) (tm' : Nat → V) (acc' : List Rec) (v : V) (st' : St) (nx' : Nat) : Prop :=
  ∃ pre o post s n, ops = pre ++ o :: post ∧ kops P E i0 pre tm st nx acc0 = some (.ok tm' s n acc'.reverse) ∧ acc'.length = acc0.length + pre.length ∧ kwant tm' o.g = some true ∧
    (kop P E tm' s (i0 + 8 * pre.length) n o.k = some (.bpan v st' nx') ∨ (kop P E tm' s (i0 + 8 * pre.length) n o.k = some (.pan v) ∧ st' = s ∧ nx' = n))
theorem PanF.cons {i0 : Nat} {o0 : KO} {rest : List KO} {tm tm1 tm' : Nat → V} {st st1 st' : St} {nx nx1 nx' : Nat} {acc0 acc1 acc' : List Rec} {v : V} (hs : ∀ pre, kops P E i0 (o0 :: pre) tm st nx acc0 = kops P E (i0 + 8) pre tm1 st1 nx1 acc1) (hl : acc1.length = acc0.length + 1)
    (h : PanF P E (i0 + 8) rest tm1 st1 nx1 acc1 tm' acc' v st' nx') : PanF P E i0 (o0 :: rest) tm st nx acc0 tm' acc' v st' nx' := by
  obtain ⟨pre, o, post, s, n, rfl, h1, h2, h3, h4⟩ := h
  have e : i0 + 8 + 8 * pre.length = i0 + 8 * (o0 :: pre).length := by rw [List.length_cons]; omega
  rw [e] at h4
  exact ⟨o0 :: pre, o, post, s, n, rfl, by rw [hs]; exact h1, by rw [List.length_cons]; omega, h3, h4⟩
def WOk (P : Program) (E : Env) (tr : Bool) (Q : (Nat → V) → St → Nat → List Rec → Prop) (QP : (Nat → V) → List Rec → V → St → Nat → Prop) (i0 : Nat) (ops : List KO) (tm : Nat → V) (st : St) (nx : Nat) (acc0 : List Rec) : Prop :=
  (∃ tm' st' nx' rs rs', kops P E i0 ops tm st nx acc0 = some (.ok tm' st' nx' rs) ∧ Q tm' st' nx' rs' ∧ (tr = true → rs = rs')) ∨
  (∃ tm' acc' v st' nx', kops P E i0 ops tm st nx acc0 = some (.pan tm' v st' nx') ∧ QP tm' acc' v st' nx' ∧ (tr = true → PanF P E i0 ops tm st nx acc0 tm' acc' v st' nx'))
theorem WOk.cons {tr : Bool} {Q : (Nat → V) → St → Nat → List Rec → Prop} {QP : (Nat → V) → List Rec → V → St → Nat → Prop} {i0 : Nat} {o0 : KO} {rest : List KO} {tm tm1 : Nat → V} {st st1 : St} {nx nx1 : Nat} {acc0 acc1 : List Rec} (hs : ∀ pre, kops P E i0 (o0 :: pre) tm st nx acc0 = kops P E (i0 + 8) pre tm1 st1 nx1 acc1) (hl : acc1.length = acc0.length + 1)
    (h : WOk P E tr Q QP (i0 + 8) rest tm1 st1 nx1 acc1) : WOk P E tr Q QP i0 (o0 :: rest) tm st nx acc0 := by
  rcases h with ⟨tm', st', nx', rs, rs', h1, h2, h3⟩ | ⟨tm', acc', v, st', nx', h1, h2, h3⟩
  · exact .inl ⟨tm', st', nx', rs, rs', by rw [hs]; exact h1, h2, h3⟩
  · exact .inr ⟨tm', acc', v, st', nx', by rw [hs]; exact h1, h2, fun e => (h3 e).cons hs hl⟩
theorem wops_ok {tr : Bool} {Q : (Nat → V) → St → Nat → List Rec → Prop} {QP : (Nat → V) → List Rec → V → St → Nat → Prop} : ∀ {ops : List KO} {i0 : Nat} {tm : Nat → V} {st : St} {nx : Nat} {acc acc0 : List Rec}, (tr = true → acc0 = acc) → wops P E tr Q QP i0 ops tm st nx acc → WOk P E tr Q QP i0 ops tm st nx acc0
  | [], i0, tm, st, nx, acc, acc0, ha, h => .inl ⟨_, _, _, _, _, rfl, h, fun e => by rw [ha e]⟩
  | ⟨d, none, k⟩ :: rest, i0, tm, st, nx, acc, acc0, ha, h => by
    unfold wops at h
    obtain ⟨r, hr, h⟩ := h
    have hk : ∀ pre, kops P E i0 (⟨d, none, k⟩ :: pre) tm st nx acc0 = (match r with | .val v δ rd => kops P E (i0 + 8) pre (putT tm d v) (upds δ st) nx (⟨v, δ, rd, none⟩ :: acc0) | .big v st1 nx1 => kops P E (i0 + 8) pre (putT tm d v) st1 nx1 (⟨v, [], [], some (st1, nx1)⟩ :: acc0) | .pan v => some (.pan tm v st nx) | .bpan v st1 nx1 => some (.pan tm v st1 nx1)) := fun pre => by
      conv => lhs; unfold kops
      simp only [kwant, hr]
      cases r <;> rfl
    cases r with
    | val v δ rd => exact WOk.cons hk (by simp) (wops_ok (fun e => by rw [if_pos e, ha e]) h)
    | big v s n => exact WOk.cons hk (by simp) (wops_ok (fun e => by rw [if_pos e, ha e]) h)
    | pan v => exact .inr ⟨_, acc, _, _, _, hk rest, h, fun e => ⟨[], _, rest, st, nx, rfl, by simp only [kops, ha e], by simp [ha e], rfl, .inr ⟨hr, rfl, rfl⟩⟩⟩
    | bpan v s n => exact .inr ⟨_, acc, _, _, _, hk rest, h, fun e => ⟨[], _, rest, st, nx, rfl, by simp only [kops, ha e], by simp [ha e], rfl, .inl hr⟩⟩
  | ⟨d, some (g, w), k⟩ :: rest, i0, tm, st, nx, acc, acc0, ha, h => by
    unfold wops at h
    unfold wg at h
    split at h
    · rename_i b hb
      cases hw : (b == w) with
      | true =>
        have hw : b = w := by simpa using hw
        subst hw
        have h := h.1 rfl
        rw [upd_self hb] at h
        obtain ⟨r, hr, h⟩ := h
        have hkw : kwant tm (some (g, b)) = some true := by simp only [kwant, hb]; simp
        have hk : ∀ pre, kops P E i0 (⟨d, some (g, b), k⟩ :: pre) tm st nx acc0 = (match r with | .val v δ rd => kops P E (i0 + 8) pre (putT tm d v) (upds δ st) nx (⟨v, δ, rd, none⟩ :: acc0) | .big v st1 nx1 => kops P E (i0 + 8) pre (putT tm d v) st1 nx1 (⟨v, [], [], some (st1, nx1)⟩ :: acc0) | .pan v => some (.pan tm v st nx) | .bpan v st1 nx1 => some (.pan tm v st1 nx1)) := fun pre => by
          conv => lhs; unfold kops
          simp only [hkw, hr]
          cases r <;> rfl
        cases r with
        | val v δ rd => exact WOk.cons hk (by simp) (wops_ok (fun e => by rw [if_pos e, ha e]) h)
        | big v s n => exact WOk.cons hk (by simp) (wops_ok (fun e => by rw [if_pos e, ha e]) h)
        | pan v => exact .inr ⟨_, acc, _, _, _, hk rest, h, fun e => ⟨[], _, rest, st, nx, rfl, by simp only [kops, ha e], by simp [ha e], hkw, .inr ⟨hr, rfl, rfl⟩⟩⟩
        | bpan v s n => exact .inr ⟨_, acc, _, _, _, hk rest, h, fun e => ⟨[], _, rest, st, nx, rfl, by simp only [kops, ha e], by simp [ha e], hkw, .inl hr⟩⟩
      | false =>
        have hw : b = !w := by cases b <;> cases w <;> simp_all
        subst hw
        have h := h.2 rfl
        rw [upd_self hb] at h
        have hk : ∀ pre, kops P E i0 (⟨d, some (g, w), k⟩ :: pre) tm st nx acc0 = kops P E (i0 + 8) pre (putT tm d (.sc undef)) st nx (⟨.sc undef, [], [], none⟩ :: acc0) := fun pre => by
          conv => lhs; unfold kops
          have : kwant tm (some (g, w)) = some false := by simp only [kwant, hb]; cases w <;> rfl
          simp only [this]
        exact WOk.cons hk (by simp) (wops_ok (fun e => by rw [if_pos e, ha e]) h)
    · rename_i u hne hb
      have hk : ∀ pre, kops P E i0 (⟨d, some (g, w), k⟩ :: pre) tm st nx acc0 = kops P E (i0 + 8) pre (putT tm d (.sc undef)) st nx (⟨.sc undef, [], [], none⟩ :: acc0) := fun pre => by
        conv => lhs; unfold kops
        have : kwant tm (some (g, w)) = some false := by
          simp only [kwant, hb]
        simp only [this]
      exact WOk.cons hk (by simp) (wops_ok (fun e => by rw [if_pos e, ha e]) h)
    · exact h.elim
theorem wc_ok : ∀ {c : Y} {Q : Ex → Fr → Prop} {fr : Fr}, wc P E c Q fr → WX (zcode P E c fr) Q
  | .skip, Q, fr, h => ⟨_, _, rfl, h⟩
  | .reg ops m none, Q, fr, h => by
    rcases wops_ok (acc0 := []) (fun _ => rfl) h with ⟨tm, st, nx, rs, rs', hk, hq, _⟩ | ⟨tm, acc', v, st, nx, hk, hq, _⟩
    · exact ⟨_, _, by simp only [zcode, hk, kend], hq⟩
    · exact ⟨_, _, by simp only [zcode, hk, kend], hq⟩
  | .reg ops m (some B), Q, fr, h => by
    rcases wops_ok (acc0 := []) (fun _ => rfl) h with ⟨tm, st, nx, rs, rs', hk, ⟨h1, hq⟩, e⟩ | ⟨tm, acc', v, st, nx, hk, ⟨hq1, hq2, hq⟩, hf⟩
    · obtain rfl := e rfl; exact ⟨_, _, by
        simp only [zcode, hk, kend]
        rcases h1 with h1 | h1
        · rw [if_pos h1]
        · rw [if_pos h1]; split <;> rfl, hq⟩
    · obtain ⟨pre, o, post, s, n, f1, f2, f3, f4, f5⟩ := hf rfl
      have hp : KPan P E B m ops fr v st nx := ⟨pre, o, post, tm, s, n, acc'.reverse, f1, by rw [List.length_reverse, f3]; simp, f2, f4, f5, hq1, hq2⟩
      exact ⟨_, _, by simp only [zcode, hk, kend]; rw [if_pos hp], hq⟩
  | .bad, _, _, h => h.elim
  | .seq a b, Q, fr, h => by
    obtain ⟨e, fr', h1, h2⟩ := wc_ok (c := a) h
    cases e with
    | norm =>
      obtain ⟨e, fr2, h3, h4⟩ := wc_ok (c := b) h2
      exact ⟨e, fr2, by simp only [zcode, h1]; exact h3, h4⟩
    | _ => exact ⟨_, _, by simp only [zcode, h1], h2⟩
  | .cond c x y, Q, fr, h => by
    unfold wc WB at h
    split at h
    · rename_i b hb
      cases b with
      | true => obtain ⟨e, fr', h1, h2⟩ := wc_ok (h.1 rfl); exact ⟨e, fr', by simp only [zcode, hb]; exact h1, h2⟩
      | false => obtain ⟨e, fr', h1, h2⟩ := wc_ok (h.2 rfl); exact ⟨e, fr', by simp only [zcode, hb]; exact h1, h2⟩
    · exact h.elim
  | .block id b, Q, fr, h => by
    obtain ⟨e, fr', h1, h2⟩ := wc_ok (c := b) h
    cases e with
    | «exit» j =>
      unfold Ex.blk at h2
      simp only at h2
      split at h2
      · rename_i hj; exact ⟨_, _, by simp only [zcode, h1, hj, if_true], h2⟩
      · rename_i hj; exact ⟨_, _, by simp only [zcode, h1, hj, if_false], h2⟩
    | _ => exact ⟨_, _, by simp only [zcode, h1], h2⟩
  | .loop b, Q, fr, h => h
  | .exit id, Q, fr, h => ⟨_, _, rfl, h⟩
  | .ret, Q, fr, h => ⟨_, _, rfl, h⟩
theorem loop_wc {b : Y} {Q : Ex → Fr → Prop} (I : Nat → Fr → Prop) (step : ∀ n fr, I n fr → wc P E b (fun e fr' => e.cs (∃ m, m < n ∧ I m fr') (Q e fr')) fr) : ∀ (n : Nat) {fr : Fr}, I n fr → WX (loopL (zcode P E b) fr) Q := by
  intro n
  induction n using Nat.strongRecOn with
  | _ n ih =>
    intro fr h
    obtain ⟨e, fr', h1, h2⟩ := wc_ok (step n fr h)
    cases e with
    | norm =>
      obtain ⟨m, hm, h2⟩ := h2
      obtain ⟨e, fr2, h3, h4⟩ := ih m hm h2
      exact ⟨e, fr2, by rw [loopL_eq, h1]; exact h3, h4⟩
    | _ => exact ⟨_, _, by rw [loopL_eq, h1], h2⟩
theorem WX.mono {o : Option (Ex × Fr)} {Q Q' : Ex → Fr → Prop} (h : WX o Q) (k : ∀ e fr, Q e fr → Q' e fr) : WX o Q' := let ⟨e, fr, h1, h2⟩ := h; ⟨e, fr, h1, k _ _ h2⟩
def argT (zas : List V) : Nat → V := fun t => zas.getD t (.sc undef)
def kres1 (fr : Fr) : KR → Option V
  | .t n => some (fr.tm n)
  | .c a s => match fr.tm a with
    | .ptr id off => match fr.st id with
      | some (.cells cs) => kld s cs off
      | _ => none
    | _ => none
def kresL (fr : Fr) : List KR → Option (List V)
  | [] => some []
  | r :: rs => (kres1 fr r).bind fun v => (kresL fr rs).map fun vs => v :: vs
def kres (fr : Fr) : List KR → Option V
  | [r] => kres1 fr r
  | rs => (kresL fr rs).map .tup
def RQ (rs : List KR) (C : HR → Prop) (e : Ex) (fr : Fr) : Prop := match e with
  | .norm => W (kres fr rs) fun v => C (.ret v fr.st fr.nx)
  | .ret => W (kres fr rs) fun v => C (.ret v fr.st fr.nx)
  | .pan v => C (.pan v fr.st fr.nx)
  | .exit _ => False
def PQ (C : CR → Prop) : HR → Prop
  | .ret v st _ => W (fin st v) fun v => C (.ret v)
  | .pan v _ _ => W (finP v) fun v => C (.pan v)
theorem cres_ok {r : ResultVar} {k : KR} (h : cres P r = some k) (fr : Fr) : xres1 P fr r = kres1 fr k := by
  cases r with
  | tmp t => simp only [cres, Option.some.injEq] at h; subst h; rfl
  | cell a t =>
    simp only [cres, Option.map_eq_some_iff] at h
    obtain ⟨s, hs, rfl⟩ := h
    simp only [xres1, kres1, kty_ld hs] <;> rfl
theorem cresL_ok (fr : Fr) : ∀ {rs : List ResultVar} {ks : List KR}, rs.mapM (cres P) = some ks → rs.mapM (xres1 P fr) = kresL fr ks
  | [], ks, h => by simp at h; subst h; rfl
  | r :: rs, ks, h => by
    simp only [List.mapM_cons, Option.bind_eq_bind, Option.bind_eq_some_iff, Option.pure_def, Option.some.injEq] at h
    obtain ⟨k, hk, ks', hks, rfl⟩ := h
    simp only [List.mapM_cons, cres_ok hk, cresL_ok fr hks, kresL, Option.bind_eq_bind, Option.pure_def]
    cases kres1 fr k with
    | none => rfl
    | some v => simp only [Option.bind_some]; cases kresL fr ks' <;> rfl
theorem kres_ok (fr : Fr) {rs : List ResultVar} {ks : List KR} (h : rs.mapM (cres P) = some ks) : xres P fr rs = kres fr ks := by
  unfold xres
  rw [cresL_ok fr h]
  unfold kres
  split
  · simp only [kresL]
    cases kres1 fr _ <;> rfl
  · rename_i hne
    cases hl : kresL fr ks with
    | none => rfl
    | some vs =>
      simp only [Option.map_some]
      split
      · rename_i v
        exfalso
        cases ks with
        | nil => simp [kresL] at hl
        | cons k ks =>
          cases ks with
          | nil => exact hne _ rfl
          | cons k2 ks =>
            simp only [kresL, Option.bind_eq_some_iff, Option.map_eq_some_iff] at hl
            obtain ⟨_, _, vs, ⟨_, _, vs2, _, h1⟩, h2⟩ := hl
            subst h1
            simp at h2
      · rfl
variable {hm : FuncId → Nat} {gl : Nat → Option V} {md : Nat} {ext : Exts}
theorem run_wc (hg : E.gl = gl) (hh : E.hm = hm ∧ E.md = md) {fn : Func} {kf : KF} (hf : cmpF P hm gl md fn = some kf) {zas : List V} {st : St} {nx : Nat} {C : HR → Prop} (h : wc P E kf.b (RQ kf.rs C) ⟨argT zas, st, nx⟩) : ∃ k r, xrun P E k fn zas st nx = some r ∧ C r := by
  simp only [cmpF, Option.bind_eq_some_iff] at hf
  obtain ⟨b, hb, hf⟩ := hf
  split at hf
  · cases hf
  rename_i hdn
  rw [Option.map_eq_some_iff] at hf
  obtain ⟨rs, hrs, rfl⟩ := hf
  have hdn : dsplit b = none := by simpa using hdn
  obtain ⟨e, fr, h1, h2⟩ := wc_ok h
  obtain ⟨k, hk⟩ := zcode_ok (N := zas.length + (fn.ntmps - zas.length)) hg hh (by omega) b h1
  refine ⟨k, ?_⟩
  have hk : xcode P E (zas.length + (fn.ntmps - zas.length)) k b ⟨fun t => zas.getD t (.sc undef), st, nx⟩ = some (e, fr) := hk
  unfold xrun
  simp only [hb, Option.bind_some, hdn]
  unfold xrun0
  cases e with
  | norm => obtain ⟨v, hv, hc⟩ := h2; exact ⟨_, by simp only [hb, hk, kres_ok fr hrs, hv]; rfl, hc⟩
  | ret => obtain ⟨v, hv, hc⟩ := h2; exact ⟨_, by simp only [hb, hk, kres_ok fr hrs, hv]; rfl, hc⟩
  | pan v => exact ⟨_, by simp only [hb, hk], h2⟩
  | «exit» j => exact h2.elim
theorem hp_wc {f : FuncId} {kf : KF} (he : ext.hp f = none) (hmd : hm f / 2 = md) (hf : (P.funcs[f]?).bind (cmpF P hm gl md) = some kf) {zas : List V} {st : St} {nx : Nat} {C : HR → Prop} (h : wc P ((lim P ext hm gl).at md) kf.b (RQ kf.rs C) ⟨argT zas, st, nx⟩) (h2 : md < 2 := by decide) : W ((lim P ext hm gl).hp f zas st nx) C := by
  rw [Option.bind_eq_some_iff] at hf
  obtain ⟨fn, hfn, hf⟩ := hf
  obtain ⟨k, r, hr, hc⟩ := run_wc rfl ⟨rfl, rfl⟩ hf h
  exact ⟨r, hp_intro k he (by omega) hfn (by rw [hmd]; exact hr), hc⟩
theorem pl_wc {f : FuncId} {kf : KF} (he : ext.pl f = none) (hmd : hm f / 2 = 0) (hf : (P.funcs[f]?).bind (cmpF P hm gl 0) = some kf) {zas : List V} {C : CR → Prop} (h : wc P ((lim P ext hm gl).at 0) kf.b (RQ kf.rs (PQ C)) ⟨argT zas, fun _ => none, 8⟩) : W ((lim P ext hm gl).pl f zas) C := by
  rw [Option.bind_eq_some_iff] at hf
  obtain ⟨fn, hfn, hf⟩ := hf
  obtain ⟨k, r, hr, hc⟩ := run_wc rfl ⟨rfl, rfl⟩ hf h
  have fe : ∀ st v, finE ((lim P ext hm gl).at 0) st v = fin st v := fun st v => by unfold finE; rw [if_pos (show ((lim P ext hm gl).at 0).md < 1 from Nat.zero_lt_one)]
  cases r with
  | ret v st nx =>
    obtain ⟨v', hv, hc⟩ := hc
    exact ⟨_, pl_intro k he hfn (by rw [hmd]; simp only [xplain, hr, fe, hv]; rfl), hc⟩
  | pan v st nx =>
    obtain ⟨v', hv, hc⟩ := hc
    exact ⟨_, pl_intro k he hfn (by rw [hmd]; simp only [xplain, hr, hv]; rfl), hc⟩
def PQR (C : CR → Prop) : HR → Prop
  | .ret v st _ => W (frzT st v) fun p => W (fin (upds p.2 st) p.1) fun v => C (.ret v)
  | .pan v _ _ => W (finP v) fun v => C (.pan v)
theorem pl_wr {f : FuncId} {kf : KF} (he : ext.pl f = none) (hmd : hm f / 2 = 1) (hf : (P.funcs[f]?).bind (cmpF P hm gl 1) = some kf) {zas : List V} {C : CR → Prop} (h : wc P ((lim P ext hm gl).at 1) kf.b (RQ kf.rs (PQR C)) ⟨argT zas, fun _ => none, 8⟩) : W ((lim P ext hm gl).pl f zas) C := by
  rw [Option.bind_eq_some_iff] at hf
  obtain ⟨fn, hfn, hf⟩ := hf
  obtain ⟨k, r, hr, hc⟩ := run_wc rfl ⟨rfl, rfl⟩ hf h
  have fe : ∀ st v, finE ((lim P ext hm gl).at 1) st v = (frzT st v).bind fun p => fin (upds p.2 st) p.1 := fun st v => by unfold finE; rw [if_neg (show ¬ ((lim P ext hm gl).at 1).md < 1 from Nat.lt_irrefl 1)]
  cases r with
  | ret v st nx =>
    obtain ⟨p, hp, v', hv, hc⟩ := hc
    exact ⟨_, pl_intro k he hfn (by rw [hmd]; simp only [xplain, hr, fe, hp, Option.bind_some, hv]; rfl), hc⟩
  | pan v st nx =>
    obtain ⟨v', hv, hc⟩ := hc
    exact ⟨_, pl_intro k he hfn (by rw [hmd]; simp only [xplain, hr, hv]; rfl), hc⟩
end
end Go.Proofs.YthgmhlpjbednpaaDoor.Vm
set_option linter.unusedVariables false
set_option linter.unusedSimpArgs false
namespace Go.Proofs.YthgmhlpjbednpaaDoor.Vm
open Go.RowKit
section
variable {P : Program} {E : Env} {Q : Ex → Fr → Prop} {fr : Fr} {tm : Nat → V} {st : St} {nx i0 m : Nat}
def cseq (P : Program) (E : Env) (b : Y) (Q : Ex → Fr → Prop) (e : Ex) (fr : Fr) : Prop := e.cs (wc P E b Q fr) (Q e fr)
theorem cseq_n (b : Y) : cseq P E b Q .norm fr = wc P E b Q fr := rfl
theorem cseq_x (b : Y) (i : Nat) : cseq P E b Q (.exit i) fr = Q (.exit i) fr := rfl
theorem cseq_r (b : Y) : cseq P E b Q .ret fr = Q .ret fr := rfl
theorem cseq_p (b : Y) (v : V) : cseq P E b Q (.pan v) fr = Q (.pan v) fr := rfl
def cblk (id : Nat) (Q : Ex → Fr → Prop) (e : Ex) (fr : Fr) : Prop := e.blk id (Q .norm fr) (Q e fr)
theorem cblk_n (i : Nat) : cblk i Q .norm fr = Q .norm fr := rfl
theorem cblk_x (i j : Nat) : cblk i Q (.exit j) fr = if j = i then Q .norm fr else Q (.exit j) fr := rfl
theorem cblk_r (i : Nat) : cblk i Q .ret fr = Q .ret fr := rfl
theorem cblk_p (i : Nat) (v : V) : cblk i Q (.pan v) fr = Q (.pan v) fr := rfl
def qn (Q : Ex → Fr → Prop) (tm : Nat → V) (st : St) (nx : Nat) (_ : List Rec) : Prop := Q .norm ⟨tm, st, nx⟩
theorem qn_e (rs : List Rec) : qn Q tm st nx rs = Q .norm ⟨tm, st, nx⟩ := rfl
def qd (st0 : St) (B : List Nat) (Q : Ex → Fr → Prop) (tm : Nat → V) (st : St) (nx : Nat) (rs : List Rec) : Prop := (recsOk B rs = true ∨ recsOk2 st0 B rs) ∧ Q .norm ⟨tm, st, nx⟩
theorem qd_i {st0 : St} {B : List Nat} {rs : List Rec} (h1 : recsOk B rs = true) (h2 : Q .norm ⟨tm, st, nx⟩) : qd st0 B Q tm st nx rs := ⟨.inl h1, h2⟩
def qp (Q : Ex → Fr → Prop) (tm : Nat → V) (_ : List Rec) (v : V) (st : St) (nx : Nat) : Prop := Q (.pan v) ⟨tm, st, nx⟩
def qf (tm0 : Nat → V) (st0 : St) (B : List Nat) (m : Nat) (Q : Ex → Fr → Prop) (_ : Nat → V) (acc : List Rec) (v : V) (st : St) (nx : Nat) : Prop := recsOk2 st0 B acc.reverse ∧ pansOk B acc.reverse m = true ∧ Q (.pan v) ⟨tm0, st, nx⟩
def wcond (P : Program) (E : Env) (x y : Y) (Q : Ex → Fr → Prop) (fr : Fr) (v : V) : Prop := WB v (wc P E x Q fr) (wc P E y Q fr)
theorem wcond_t (x y : Y) : wcond P E x y Q fr (.sc (.bool true)) = wc P E x Q fr := by simp [wcond, WB]
theorem wcond_f (x y : Y) : wcond P E x y Q fr (.sc (.bool false)) = wc P E y Q fr := by simp [wcond, WB]
theorem wc_skip : wc P E .skip Q fr = Q .norm fr := rfl
theorem wc_reg (ops : List KO) (m : Nat) : wc P E (.reg ops m none) Q ⟨tm, st, nx⟩ = wops P E false (qn Q) (qp Q) nx ops tm st (nx + 8 * m) [] := rfl
theorem wc_regd (ops : List KO) (m : Nat) (B : List Nat) : wc P E (.reg ops m (some B)) Q ⟨tm, st, nx⟩ = wops P E true (qd st B Q) (qf tm st B m Q) nx ops tm st (nx + 8 * m) [] := rfl
theorem wc_seq (a b : Y) : wc P E (.seq a b) Q fr = wc P E a (cseq P E b Q) fr := rfl
theorem wc_cond (c : A) (x y : Y) : wc P E (.cond c x y) Q ⟨tm, st, nx⟩ = wcond P E x y Q ⟨tm, st, nx⟩ (av tm c) := rfl
theorem wc_block (id : Nat) (b : Y) : wc P E (.block id b) Q fr = wc P E b (cblk id Q) fr := rfl
theorem wc_exit (id : Nat) : wc P E (.exit id) Q fr = Q (.exit id) fr := rfl
theorem wc_ret : wc P E .ret Q fr = Q .ret fr := rfl
variable {QR : (Nat → V) → St → Nat → List Rec → Prop} {QP : (Nat → V) → List Rec → V → St → Nat → Prop} {tr : Bool} {acc : List Rec} {rest : List KO} {k : K} {d : Option Nat}
def wnx (P : Program) (E : Env) (tr : Bool) (Q : (Nat → V) → St → Nat → List Rec → Prop) (QP : (Nat → V) → List Rec → V → St → Nat → Prop) (i0 : Nat) (rest : List KO) (d : Option Nat) (tm : Nat → V) (st : St) (nx : Nat) (acc : List Rec) : R → Prop
  | .val v δ rd => wops P E tr Q QP (i0 + 8) rest (putT tm d v) (upds δ st) nx (if tr then ⟨v, δ, rd, none⟩ :: acc else acc)
  | .big v st1 nx1 => wops P E tr Q QP (i0 + 8) rest (putT tm d v) st1 nx1 (if tr then ⟨v, [], [], some (st1, nx1)⟩ :: acc else acc)
  | .pan v => QP tm acc v st nx
  | .bpan v st nx => QP tm acc v st nx
theorem wnx_wr : wnx P E tr QR QP i0 rest d tm st nx acc = wr (fun v δ rd => wops P E tr QR QP (i0 + 8) rest (putT tm d v) (upds δ st) nx (if tr then ⟨v, δ, rd, none⟩ :: acc else acc))
      (fun v st1 nx1 => wops P E tr QR QP (i0 + 8) rest (putT tm d v) st1 nx1 (if tr then ⟨v, [], [], some (st1, nx1)⟩ :: acc else acc)) (fun v => QP tm acc v st nx) (QP tm acc) := by
  funext r; cases r <;> rfl
theorem wnx_v (v : V) (rd : List Nat) : wnx P E false QR QP i0 rest (some m) tm st nx acc (.val v [] rd) = wops P E false QR QP (i0 + 8) rest (upd tm m v) st nx acc := rfl
theorem wnx_vd (v : V) (rd : List Nat) (δ : List (Nat × Option Ob)) : wnx P E false QR QP i0 rest (some m) tm st nx acc (.val v δ rd) = wops P E false QR QP (i0 + 8) rest (upd tm m v) (upds δ st) nx acc := rfl
theorem wnx_n (v : V) (rd : List Nat) (δ : List (Nat × Option Ob)) : wnx P E false QR QP i0 rest none tm st nx acc (.val v δ rd) = wops P E false QR QP (i0 + 8) rest tm (upds δ st) nx acc := rfl
theorem wnx_tv (v : V) (rd : List Nat) : wnx P E true QR QP i0 rest (some m) tm st nx acc (.val v [] rd) = wops P E true QR QP (i0 + 8) rest (upd tm m v) st nx (⟨v, [], rd, none⟩ :: acc) := rfl
theorem wnx_tvd (v : V) (rd : List Nat) (δ : List (Nat × Option Ob)) : wnx P E true QR QP i0 rest (some m) tm st nx acc (.val v δ rd) = wops P E true QR QP (i0 + 8) rest (upd tm m v) (upds δ st) nx (⟨v, δ, rd, none⟩ :: acc) := rfl
theorem wnx_tn (v : V) (rd : List Nat) (δ : List (Nat × Option Ob)) : wnx P E true QR QP i0 rest none tm st nx acc (.val v δ rd) = wops P E true QR QP (i0 + 8) rest tm (upds δ st) nx (⟨v, δ, rd, none⟩ :: acc) := rfl
theorem wnx_b (v : V) (s : St) (n : Nat) : wnx P E false QR QP i0 rest (some m) tm st nx acc (.big v s n) = wops P E false QR QP (i0 + 8) rest (upd tm m v) s n acc := rfl
theorem wnx_bn (v : V) (s : St) (n : Nat) : wnx P E false QR QP i0 rest none tm st nx acc (.big v s n) = wops P E false QR QP (i0 + 8) rest tm s n acc := rfl
theorem wnx_p (v : V) : wnx P E tr QR QP i0 rest d tm st nx acc (.pan v) = QP tm acc v st nx := rfl
theorem wnx_bp (v : V) (s : St) (n : Nat) : wnx P E tr QR QP i0 rest d tm st nx acc (.bpan v s n) = QP tm acc v s n := rfl
theorem wops_nil : wops P E tr QR QP i0 [] tm st nx acc = QR tm st nx acc.reverse := rfl
theorem wops_c : wops P E tr QR QP i0 (⟨d, none, k⟩ :: rest) tm st nx acc = W (kop P E tm st i0 nx k) (wnx P E tr QR QP i0 rest d tm st nx acc) := by rw [wnx_wr]; rfl
def wgd (P : Program) (E : Env) (tr : Bool) (Q : (Nat → V) → St → Nat → List Rec → Prop) (QP : (Nat → V) → List Rec → V → St → Nat → Prop) (i0 : Nat) (k : K) (rest : List KO) (d : Option Nat) (g : Nat) (w : Bool) (tm : Nat → V) (st : St) (nx : Nat) (acc : List Rec) (u : V) : Prop :=
  wg tm g w u (fun tm => W (kop P E tm st i0 nx k) (wnx P E tr Q QP i0 rest d tm st nx acc)) (fun tm => wnx P E tr Q QP i0 rest d tm st nx acc (.val (.sc undef) [] []))
theorem wops_g (g : Nat) (w : Bool) : wops P E tr QR QP i0 (⟨d, some (g, w), k⟩ :: rest) tm st nx acc = wgd P E tr QR QP i0 k rest d g w tm st nx acc (tm g) := by
  unfold wgd; simp only [wnx_wr]; rfl
theorem wgd_b (g : Nat) (w b : Bool) : wgd P E tr QR QP i0 k rest d g w tm st nx acc (.sc (.bool b)) = ((b = w → W (kop P E (upd tm g (.sc (.bool w))) st i0 nx k) (wnx P E tr QR QP i0 rest d (upd tm g (.sc (.bool w))) st nx acc)) ∧ (b = !w → wnx P E tr QR QP i0 rest d (upd tm g (.sc (.bool !w))) st nx acc (.val (.sc undef) [] []))) := rfl
theorem wgd_cases {g : Nat} {w b : Bool} (h1 : b = true → wgd P E tr QR QP i0 k rest d g w tm st nx acc (.sc (.bool true))) (h2 : b = false → wgd P E tr QR QP i0 k rest d g w tm st nx acc (.sc (.bool false))) : wgd P E tr QR QP i0 k rest d g w tm st nx acc (.sc (.bool b)) := by
  cases b
  · exact h2 rfl
  · exact h1 rfl
theorem wcond_cases {x y : Y} {b : Bool} (h1 : b = true → wc P E x Q fr) (h2 : b = false → wc P E y Q fr) : wcond P E x y Q fr (.sc (.bool b)) := ⟨h1, h2⟩
theorem wgd_tt (g : Nat) : wgd P E tr QR QP i0 k rest d g true tm st nx acc (.sc (.bool true)) = W (kop P E (upd tm g (.sc (.bool true))) st i0 nx k) (wnx P E tr QR QP i0 rest d (upd tm g (.sc (.bool true))) st nx acc) := by simp [wgd_b]
theorem wgd_ff (g : Nat) : wgd P E tr QR QP i0 k rest d g false tm st nx acc (.sc (.bool false)) = W (kop P E (upd tm g (.sc (.bool false))) st i0 nx k) (wnx P E tr QR QP i0 rest d (upd tm g (.sc (.bool false))) st nx acc) := by simp [wgd_b]
theorem wgd_tf (g : Nat) : wgd P E tr QR QP i0 k rest d g true tm st nx acc (.sc (.bool false)) = wnx P E tr QR QP i0 rest d (upd tm g (.sc (.bool false))) st nx acc (.val (.sc undef) [] []) := by simp [wgd_b]
theorem wgd_ft (g : Nat) : wgd P E tr QR QP i0 k rest d g false tm st nx acc (.sc (.bool true)) = wnx P E tr QR QP i0 rest d (upd tm g (.sc (.bool true))) st nx acc (.val (.sc undef) [] []) := by simp [wgd_b]
theorem wgd_u (g : Nat) (w : Bool) : wgd P E tr QR QP i0 k rest d g w tm st nx acc (.sc undef) = wnx P E tr QR QP i0 rest d tm st nx acc (.val (.sc undef) [] []) := rfl
end
section
variable {α β : Type}
theorem W_some (a : α) (C : α → Prop) : W (some a) C = C a := by simp [W]
theorem W_none (C : α → Prop) : W none C = False := by simp [W]
theorem W_itn_cases {c : Prop} [Decidable c] {x : Option α} {C : α → Prop} (h1 : c) (h2 : W x C) : W (if c then x else none) C := by rw [if_pos h1]; exact h2
theorem upd_at (f : Nat → β) (k i : Nat) (v : β) : upd f k v i = if i = k then v else f i := rfl
theorem upds_nil (f : Nat → β) : upds [] f = f := rfl
theorem upds_cons (f : Nat → β) (p : Nat × β) (r : List (Nat × β)) : upds (p :: r) f = upds r (upd f p.1 p.2) := rfl
theorem kun_neg (P : Program) (k : IntKind) (n : Int) : reck P (Op.unary .neg (.int k n)) = some (.int k (k.wrap (0 - n))) := rfl
theorem kun_not (P : Program) (b : Bool) : reck P (Op.unary .not (.bool b)) = some (.bool !b) := rfl
theorem argT_0 (a : V) (l : List V) : argT (a :: l) 0 = a := rfl
theorem argT_1 (a : V) (l : List V) (n : Nat) : argT (a :: l) (n + 1) = argT l n := rfl
theorem kb_add (b : Bool) (k : IntKind) (x y : Int) : kbin' b .add (.int k x) (.int k y) = some (.int k (k.wrap (x + y))) := by simp [kbin', kbin]
theorem kb_sub (b : Bool) (k : IntKind) (x y : Int) : kbin' b .sub (.int k x) (.int k y) = some (.int k (k.wrap (x - y))) := by simp [kbin', kbin]
theorem kb_mul (b : Bool) (k : IntKind) (x y : Int) : kbin' b .mul (.int k x) (.int k y) = some (.int k (k.wrap (x * y))) := by simp [kbin', kbin]
theorem kb_eql (b : Bool) (k : IntKind) (x y : Int) : kbin' b .eql (.int k x) (.int k y) = some (.bool (decide (x = y))) := by simp [kbin', kbin]
theorem kb_neq (b : Bool) (k : IntKind) (x y : Int) : kbin' b .neq (.int k x) (.int k y) = some (.bool (!decide (x = y))) := by simp [kbin', kbin]
theorem kb_lss (b : Bool) (k : IntKind) (x y : Int) : kbin' b .lss (.int k x) (.int k y) = some (.bool (decide (x < y))) := by simp [kbin', kbin]
theorem kb_leq (b : Bool) (k : IntKind) (x y : Int) : kbin' b .leq (.int k x) (.int k y) = some (.bool (decide (x ≤ y))) := by simp [kbin', kbin]
theorem kb_gtr (b : Bool) (k : IntKind) (x y : Int) : kbin' b .gtr (.int k x) (.int k y) = some (.bool (decide (y < x))) := by simp [kbin', kbin]
theorem kb_geq (b : Bool) (k : IntKind) (x y : Int) : kbin' b .geq (.int k x) (.int k y) = some (.bool (decide (y ≤ x))) := by simp [kbin', kbin]
theorem kb_and (b : Bool) (k : IntKind) (x y : Int) : kbin' b .and (.int k x) (.int k y) = some (.int k (Go.bits .and k x y)) := by simp [kbin', kbin]; rfl
theorem kb_or (b : Bool) (k : IntKind) (x y : Int) : kbin' b .or (.int k x) (.int k y) = some (.int k (Go.bits .or k x y)) := by simp [kbin', kbin]; rfl
theorem kb_xor (b : Bool) (k : IntKind) (x y : Int) : kbin' b .xor (.int k x) (.int k y) = some (.int k (Go.bits .xor k x y)) := by simp [kbin', kbin]; rfl
theorem kb_shl (b : Bool) (k l : IntKind) (x y : Int) : kbin' b .shl (.int k x) (.int l y) = if y < 0 then none else some (.int k (k.wrap (x * 2 ^ (Nat.min y.toNat k.bits)))) := by simp [kbin', kbin]
theorem kb_shr (b : Bool) (k l : IntKind) (x y : Int) : kbin' b .shr (.int k x) (.int l y) = if y < 0 then none else some (.int k (x.fdiv (2 ^ (Nat.min y.toNat k.bits)))) := by simp [kbin', kbin]
theorem kb_quo (b : Bool) (k : IntKind) (x y : Int) : kbin' b .quo (.int k x) (.int k y) = if y = 0 then none else some (.int k (k.wrap (x.tdiv y))) := by simp [kbin', kbin]
theorem kb_rem (b : Bool) (k : IntKind) (x y : Int) : kbin' b .rem (.int k x) (.int k y) = if y = 0 then none else some (.int k (x.tmod y)) := by simp [kbin', kbin]
theorem kb_seql (b : Bool) (x y : ByteArray) : kbin' b .eql (.string x) (.string y) = some (.bool (decide (x = y))) := by simp [kbin', kbin]
theorem kb_sneq (b : Bool) (x y : ByteArray) : kbin' b .neq (.string x) (.string y) = some (.bool (!decide (x = y))) := by simp [kbin', kbin]
theorem kb_slss (b : Bool) (x y : ByteArray) : kbin' b .lss (.string x) (.string y) = some (.bool (Op.bytesLess x.data.toList y.data.toList)) := by simp [kbin', kbin]
theorem kb_sleq (b : Bool) (x y : ByteArray) : kbin' b .leq (.string x) (.string y) = some (.bool (Op.bytesLess x.data.toList y.data.toList || decide (x = y))) := by simp [kbin', kbin]
theorem kb_sgtr (b : Bool) (x y : ByteArray) : kbin' b .gtr (.string x) (.string y) = some (.bool !(Op.bytesLess x.data.toList y.data.toList || decide (x = y))) := by simp [kbin', kbin]
theorem kb_sgeq (b : Bool) (x y : ByteArray) : kbin' b .geq (.string x) (.string y) = some (.bool !(Op.bytesLess x.data.toList y.data.toList)) := by simp [kbin', kbin]
theorem kb_sadd (b : Bool) (x y : ByteArray) : kbin' b .add (.string x) (.string y) = if x.size + y.size ≤ 9223372036854775807 then some (.string (x ++ y)) else none := by simp [kbin', kbin]
theorem kb_beql (x y : Bool) : kbin' true .eql (.bool x) (.bool y) = some (.bool (x == y)) := by simp [kbin', kbin]
theorem kb_bneq (x y : Bool) : kbin' true .neq (.bool x) (.bool y) = some (.bool !(x == y)) := by simp [kbin', kbin]
end
section
variable {α : Type} {P : Program} {E : Env} {Q : Ex → Fr → Prop} {tm : Nat → V} {st : St} {nx i0 m : Nat}
def cloop (I : Nat → (Nat → V) → St → Nat → Prop) (n : Nat) (Q : Ex → Fr → Prop) (e : Ex) (fr : Fr) : Prop := e.cs (∃ m, m < n ∧ I m fr.tm fr.st fr.nx) (Q e fr)
theorem cloop_n (I : Nat → (Nat → V) → St → Nat → Prop) (n : Nat) : cloop I n Q .norm ⟨tm, st, nx⟩ = ∃ m, m < n ∧ I m tm st nx := rfl
theorem cloop_x (I : Nat → (Nat → V) → St → Nat → Prop) (n i : Nat) (fr : Fr) : cloop I n Q (.exit i) fr = Q (.exit i) fr := rfl
theorem cloop_r (I : Nat → (Nat → V) → St → Nat → Prop) (n : Nat) (fr : Fr) : cloop I n Q .ret fr = Q .ret fr := rfl
theorem cloop_p (I : Nat → (Nat → V) → St → Nat → Prop) (n : Nat) (v : V) (fr : Fr) : cloop I n Q (.pan v) fr = Q (.pan v) fr := rfl
theorem loop_w {b : Y} (I : Nat → (Nat → V) → St → Nat → Prop) (n : Nat) (h0 : I n tm st nx) (step : ∀ n tm st nx, I n tm st nx → wc P E b (cloop I n Q) ⟨tm, st, nx⟩) : wc P E (.loop b) Q ⟨tm, st, nx⟩ :=
  loop_wc (P := P) (E := E) (fun n fr => I n fr.tm fr.st fr.nx) (fun n fr h => step n fr.tm fr.st fr.nx h) n h0
theorem xcall_pl {g : FuncId} {l : List V} (hn : nobody P g = false) (hh : isM (E.hm g) = false) : xcall P E i0 nx st g l = (l.mapM V.pur?).bind fun l => match E.pl g l with | some (.ret y) => some (.val (own i0 y).1 (own i0 y).2 []) | some (.pan y) => some (.pan y) | none => none := by
  unfold xcall; rw [hn, hh]; rfl
theorem W_of {α : Type} {o : Option α} {a : α} (h : W o (fun r => r = a)) : o = some a := by obtain ⟨r, h1, rfl⟩ := h; exact h1
theorem wrap_i64 {n : Int} (h1 : -9223372036854775808 ≤ n) (h2 : n < 9223372036854775808) : IntKind.i64.wrap n = n := by
  have e : IntKind.i64.wrap n = if IntKind.i64.signed && n % 2 ^ 64 ≥ 2 ^ 63 then n % 2 ^ 64 - 2 ^ 64 else n % 2 ^ 64 := rfl
  rw [e]
  simp only [IntKind.signed, Bool.true_and]
  split <;> rename_i h <;> simp only [ge_iff_le, decide_eq_true_eq] at h <;> omega
theorem ret_b {x y : Bool} (h : x = y) : CR.ret (.sc (.bool x)) = .ret (V.bool y) := by rw [h]
theorem up64 {i : Nat} (h : i < 4611686018427387904) : V.sc (.int .i64 (IntKind.i64.wrap (i + 1))) = V.i64 ((i + 1 : Nat) : Int) := by rw [wrap_i64 (by omega) (by omega)]; rfl
theorem all_get {l : List α} {p : α → Bool} (h : ∀ j, j < l.length → ∀ b, l[j]? = some b → p b = true) : l.all p = true := by
  rw [List.all_eq_true]
  intro b hb
  obtain ⟨j, hj, rfl⟩ := List.getElem_of_mem hb
  exact h j hj _ (List.getElem?_eq_getElem hj)
theorem all_not {l : List α} {p : α → Bool} {j : Nat} {b : α} (h : l[j]? = some b) (hp : p b = false) : l.all p = false := by
  rw [List.all_eq_false]
  exact ⟨b, List.mem_of_getElem? h, by simp [hp]⟩
theorem get_lt {l : List α} {i : Nat} (h : i < l.length) : ∃ b, l[i]? = some b := ⟨_, List.getElem?_eq_getElem h⟩
theorem kb0_int (k : IntKind) (x y : Int) : kbin .eql (.int k x) (.int k y) = some (.bool (decide (x = y))) := by simp [kbin]
theorem kb0_str (x y : ByteArray) : kbin .eql (.string x) (.string y) = some (.bool (decide (x = y))) := by simp [kbin]
theorem kb0_bool (x y : Bool) : kbin .eql (.bool x) (.bool y) = some (.bool (x == y)) := by simp [kbin]
end
end Go.Proofs.YthgmhlpjbednpaaDoor.Vm
set_option linter.unusedVariables false
set_option linter.unusedSimpArgs false
namespace Go.Proofs.YthgmhlpjbednpaaDoor.Vm
open Go.RowKit
structure KD where
  y1 : Y
  g : Nat
  caps : List A
  d : Nat
  y2 : Y
  rs : List KR
structure KC where
  t0 : Nat
  t1 : Nat
  to : Nat
  ops : List KO
  m : Nat
  y : Y
section
variable (P : Program) (hm : FuncId → Nat) (gl : Nat → Option V) (md : Nat)
end
section
variable {P : Program} {E : Env} {ext : Exts} {hm : FuncId → Nat} {gl : Nat → Option V} {md : Nat}
end
end Go.Proofs.YthgmhlpjbednpaaDoor.Vm
set_option linter.defProp false
namespace Go.Proofs.YthgmhlpjbednpaaDoor.Vm
open Go.RowKit
def zed := And.intro @wc_skip (And.intro @wc_reg (And.intro @wc_regd (And.intro @wc_seq (And.intro @wc_cond (And.intro @wc_block (And.intro @wc_exit (And.intro @wc_ret (And.intro @cseq_n (And.intro @cseq_x (And.intro @cseq_r (And.intro @cseq_p (And.intro @cblk_n (And.intro @cblk_x (And.intro @cblk_r (And.intro @cblk_p (And.intro @qn_e (And.intro @wcond_t (And.intro @wcond_f (And.intro @wops_nil (And.intro @wops_c (And.intro @wops_g (And.intro @wgd_tt (And.intro @wgd_ff (And.intro @wgd_tf (And.intro @wgd_ft (And.intro @wgd_u (And.intro @wnx_v (And.intro @wnx_vd (And.intro @wnx_n (And.intro @wnx_tv (And.intro @wnx_tvd (And.intro @wnx_tn (And.intro @wnx_b (And.intro @wnx_bn (And.intro @wnx_p (And.intro @wnx_bp (And.intro @W_some (And.intro @W_none (And.intro @upd_at (And.intro @upds_nil (And.intro @upds_cons (And.intro @kun_neg (And.intro @kun_not (And.intro @argT_0 (And.intro @argT_1 (And.intro @kb_add (And.intro @kb_sub (And.intro @kb_mul (And.intro @kb_eql (And.intro @kb_neq (And.intro @kb_lss (And.intro @kb_leq (And.intro @kb_gtr (And.intro @kb_geq (And.intro @kb_and (And.intro @kb_or (And.intro @kb_xor (And.intro @kb_shl (And.intro @kb_shr (And.intro @kb_quo (And.intro @kb_rem (And.intro @kb_seql (And.intro @kb_sneq (And.intro @kb_slss (And.intro @kb_sadd (And.intro @kb_beql (And.intro @kb_bneq (And.intro @Option.map_some.{0, 0} (And.intro @Option.map_none.{0, 0} (And.intro @Option.bind_some.{0, 0} (And.intro @Option.bind_none.{0, 0} (And.intro @ite_true.{0} (And.intro @ite_false.{0} (And.intro @if_true.{0} (And.intro @if_false.{0} (And.intro @decide_eq_true_eq (And.intro @decide_eq_false_iff_not (And.intro @Bool.not_true (And.intro @Bool.not_false (And.intro @List.getElem?_cons_zero.{0} (And.intro @List.getElem?_cons_succ.{0} (And.intro @Bool.false_eq_true (And.intro @eq_self.{0} (And.intro @List.all_cons.{0} (And.intro @List.all_nil.{0} (And.intro @Bool.and_self (And.intro @Bool.and_true (And.intro @Bool.true_and (And.intro @List.drop_succ_cons.{0} (And.intro @List.drop_zero.{0} (And.intro @List.take_succ_cons.{0} (And.intro @List.take_zero.{0} (And.intro @List.length_cons.{0} (And.intro @List.length_nil.{0} (And.intro @List.cons_append.{0} (And.intro @List.nil_append.{0} (And.intro @List.append_nil.{0} (And.intro @List.mapM_cons.{0, 0, 0} (And.intro @List.mapM_nil.{0, 0, 0} (And.intro @List.map_cons.{0, 0} (And.intro @List.map_nil.{0, 0} (And.intro @Option.bind_eq_bind.{0} (And.intro @Option.pure_def.{0} (And.intro @Nat.zero_add (And.intro @Nat.add_zero (And.intro @Nat.zero_lt_succ (And.intro @List.isEmpty_nil.{0} (And.intro @List.isEmpty_cons.{0} (And.intro @and_self (And.intro @and_true (And.intro @true_and (And.intro @or_true (And.intro @true_or (And.intro @or_self (And.intro @false_or (And.intro @or_false (And.intro @cloop_n (And.intro @cloop_x (And.intro @cloop_r (And.intro @cloop_p (And.intro @Int.toNat_natCast (And.intro @Int.natCast_nonneg (And.intro @kb0_int (And.intro @kb0_str (And.intro @kb0_bool (And.intro @bne_self_eq_false.{0} (And.intro @kb_sleq (And.intro @kb_sgtr (And.intro @kb_sgeq (And.intro @List.getElem?_map.{0, 0} (And.intro @List.reverse_cons.{0} (And.intro @List.reverse_nil.{0} (And.intro @Nat.add_assoc (And.intro @List.contains_nil.{0} (And.intro @Option.isSome_some.{0} (And.intro @beq_self_eq_true.{0} (And.intro @decide_true (@decide_false))))))))))))))))))))))))))))))))))))))))))))))))))))))))))))))))))))))))))))))))))))))))))))))))))))))))))))))))))))))))))))))))))))))))))
theorem ze : type_of% zed := zed
set_option maxRecDepth 10000
def zed2 := And.intro @qp.eq_1 (And.intro @qf.eq_1 (And.intro @kop.eq_1 (And.intro @kop.eq_2 (And.intro @kop.eq_3 (And.intro @kop.eq_4 (And.intro @kop.eq_5 (And.intro @kop.eq_6 (And.intro @kop.eq_7 (And.intro @kop.eq_8 (And.intro @kop.eq_9 (And.intro @kop.eq_10 (And.intro @kop.eq_11 (And.intro @kop.eq_12 (And.intro @kop.eq_13 (And.intro @kop.eq_14 (And.intro @kop.eq_15 (And.intro @kop.eq_16 (And.intro @kop.eq_17 (And.intro @kop.eq_18 (And.intro @kop.eq_19 (And.intro @kop.eq_20 (And.intro @kop.eq_21 (And.intro @kop.eq_22 (And.intro @kop.eq_23 (And.intro @kop.eq_24 (And.intro @kop.eq_25 (And.intro @kop.eq_26 (And.intro @kop.eq_27 (And.intro @kop.eq_28 (And.intro @kop.eq_29 (And.intro @kop.eq_30 (And.intro @kop.eq_31 (And.intro @kop.eq_32 (And.intro @kop.eq_33 (And.intro @kop.eq_34 (And.intro @kop.eq_35 (And.intro @kop.eq_36 (And.intro @kop.eq_37 (And.intro @kop.eq_38 (And.intro @kop.eq_39 (And.intro @kop.eq_40 (And.intro @kop.eq_41 (And.intro @kop.eq_42 (And.intro @kop.eq_43 (And.intro @kop.eq_44 (And.intro @niln.eq_1 (And.intro @niln.eq_2 (And.intro @niln.eq_3 (And.intro @av.eq_1 (And.intro @av.eq_2 (And.intro @RQ.eq_1 (And.intro @RQ.eq_2 (And.intro @RQ.eq_3 (And.intro @RQ.eq_4 (And.intro @PQ.eq_1 (And.intro @PQ.eq_2 (And.intro @kres.eq_1 (And.intro @kres.eq_2 (And.intro @kres1.eq_1 (And.intro @kres1.eq_2 (And.intro @kresL.eq_1 (And.intro @kresL.eq_2 (And.intro @fin.eq_1 (And.intro @fin.eq_2 (And.intro @fins.eq_1 (And.intro @fins.eq_2 (And.intro @fin1.eq_1 (And.intro @fin1.eq_2 (And.intro @V.pur?.eq_1 (And.intro @V.pur?.eq_2 (And.intro @V.pur1?.eq_1 (And.intro @V.pur1?.eq_2 (And.intro @V.pur1?.eq_3 (And.intro @V.pur1?.eq_4 (And.intro @V.pur1?.eq_5 (And.intro @V.cells.eq_1 (And.intro @V.cells.eq_2 (And.intro @kld.eq_1 (And.intro @kld.eq_2 (And.intro @ones.eq_1 (And.intro @V.one.eq_1 (And.intro @V.one.eq_2 (And.intro @V.one.eq_3 (And.intro @V.one.eq_4 (And.intro @own.eq_1 (And.intro @own.eq_2 (And.intro @owns.eq_1 (And.intro @owns.eq_2 (And.intro @own1.eq_1 (And.intro @own1.eq_2 (And.intro @xfill.eq_1 (And.intro @xfill.eq_2 (And.intro @ksrc.eq_1 (And.intro @ksrc.eq_2 (And.intro @ksrc.eq_3 (And.intro @kint.eq_1 (And.intro @kint.eq_2 (And.intro @vint.eq_1 (And.intro @vint.eq_2 (And.intro @ksub.eq_1 (And.intro @keqs.eq_1 (And.intro @keqs.eq_2 (And.intro @kok.eq_1 (And.intro @kok.eq_2 (And.intro @kok.eq_3 (And.intro @kok.eq_4 (And.intro @V.val1?.eq_1 (And.intro @V.val1?.eq_2 (And.intro @ofRes.eq_1 (And.intro @ofRes.eq_2 (And.intro @Value.oneCell'.eq_1 (And.intro @Value.oneCell'.eq_2 (@Value.oneCell'.eq_3)))))))))))))))))))))))))))))))))))))))))))))))))))))))))))))))))))))))))))))))))))))))))))))))))))))))))))))))))
theorem zd : type_of% zed2 := zed2
def zed3 := And.intro @kopx.eq_1 (And.intro @kopx.eq_2 (And.intro @kopx.eq_3 (And.intro @kopx.eq_4 (And.intro @kopx.eq_5 (And.intro @kopx.eq_6 (And.intro @kopx.eq_7 (And.intro @kopx.eq_8 (And.intro @kopx.eq_9 (And.intro @kopx.eq_10 (And.intro @kopx.eq_11 (And.intro @kopx.eq_12 (And.intro @kopx.eq_13 (And.intro @kopx.eq_14 (And.intro @srcX.eq_1 (And.intro @srcX.eq_2 (And.intro @srcX.eq_3 (And.intro @srcX.eq_4 (And.intro @srcX.eq_5 (And.intro @obCells.eq_1 (And.intro @obCells.eq_2 (And.intro @obCells.eq_3 (And.intro @obCells.eq_4 (And.intro @obSet.eq_1 (And.intro @obSet.eq_2 (And.intro @obSet.eq_3 (And.intro @PQR.eq_1 (And.intro @PQR.eq_2 (And.intro @frzT.eq_1 (And.intro @frzT.eq_2 (And.intro @frzV.eq_1 (And.intro @frzV.eq_2 (And.intro @frz1.eq_1 (And.intro @frz1.eq_2 (And.intro @frz1.eq_3 (And.intro @frzs.eq_1 (And.intro @frzs.eq_2 (And.intro @frzA.eq_1 (And.intro @frzA.eq_2 (And.intro @slish.eq_1 (And.intro @slish.eq_2 (And.intro @slish1.eq_1 (And.intro @slish1.eq_2 (And.intro @slish1.eq_3 (And.intro @slIds.eq_1 (And.intro @slIds.eq_2 (And.intro @slIds1.eq_1 (And.intro @slIds1.eq_2 (And.intro @chunk.eq_1 (@chunk.eq_2)))))))))))))))))))))))))))))))))))))))))))))))))
theorem zr : type_of% zed3 := zed3
end Go.Proofs.YthgmhlpjbednpaaDoor.Vm
set_option linter.unusedVariables false
set_option linter.unusedSimpArgs false
namespace Go.Proofs.YthgmhlpjbednpaaDoor.Vm
open Go Go.Proofs
def vbs? : V → Option (List UInt8)
  | .sc (.string s) => some s.data.toList
  | _ => none
def insB (x : List UInt8) : List (List UInt8) → List (List UInt8)
  | [] => [x]
  | y :: ys => if x ≤ y then x :: y :: ys else y :: insB x ys
def sortB : List (List UInt8) → List (List UInt8)
  | [] => []
  | x :: r => insB x (sortB r)
theorem insB_perm (x : List UInt8) : ∀ l, (insB x l).Perm (x :: l)
  | [] => .refl _
  | y :: ys => by
    unfold insB
    split
    · exact .refl _
    · exact ((insB_perm x ys).cons y).trans (.swap x y ys)
theorem sortB_perm : ∀ l, (sortB l).Perm l
  | [] => .refl _
  | x :: r => (insB_perm x _).trans ((sortB_perm r).cons x)
theorem insB_sorted (x : List UInt8) : ∀ {l : List (List UInt8)}, l.Pairwise (· ≤ ·) → (insB x l).Pairwise (· ≤ ·)
  | [], _ => List.pairwise_singleton ..
  | y :: ys, h => by
    obtain ⟨h1, h2⟩ := List.pairwise_cons.1 h
    unfold insB
    split
    · rename_i hxy
      exact List.pairwise_cons.2 ⟨fun z hz => by
        rcases List.mem_cons.1 hz with rfl | hz
        · exact hxy
        · exact List.le_trans hxy (h1 z hz), h⟩
    · rename_i hxy
      have hyx : y ≤ x := (List.le_total x y).resolve_left hxy
      exact List.pairwise_cons.2 ⟨fun z hz => by
        rcases List.mem_cons.1 ((insB_perm x ys).mem_iff.1 hz) with rfl | hz
        · exact hyx
        · exact h1 z hz, insB_sorted x h2⟩
theorem sortB_sorted : ∀ l, (sortB l).Pairwise (· ≤ ·)
  | [] => .nil
  | x :: r => insB_sorted x (sortB_sorted r)
theorem sortB_eq (l : List (List UInt8)) : (l.mergeSort fun x y => decide (x ≤ y)) = sortB l := by
  have tr : ∀ a b c : List UInt8, decide (a ≤ b) = true → decide (b ≤ c) = true → decide (a ≤ c) = true := fun a b c h1 h2 => by simp only [decide_eq_true_eq] at *; exact List.le_trans h1 h2
  have to : ∀ a b : List UInt8, (decide (a ≤ b) || decide (b ≤ a)) = true := fun a b => by simp only [Bool.or_eq_true, decide_eq_true_eq]; exact List.le_total a b
  refine List.Perm.eq_of_pairwise (le := (· ≤ ·)) (fun a b _ _ h1 h2 => List.le_antisymm h1 h2) ((List.pairwise_mergeSort tr to l).imp fun h => by simpa using h) (sortB_sorted l) ((List.mergeSort_perm l _).trans (sortB_perm l).symm)
def vOfB (l : List UInt8) : V := .sc (.string ⟨l.toArray⟩)
def sortRow (off n : Nat) (cs : List V) : Option (List V) :=
  (((cs.drop off).take n).mapM vbs?).bind fun seg => if seg.length = n ∧ n < 4611686018427387904 then some (cs.take off ++ (sortB seg).map vOfB ++ cs.drop (off + n)) else none
def xsort : List V → St → Nat → Option HR
  | [.sl e g s id off n], st, nx =>
    match st id with
    | some (.row e2 s2 m cs) => if s = 1 ∧ s2 = 1 ∧ e = e2 then (sortRow off n cs).map fun ds => .ret (.tup []) (upd st id (some (.row e2 s2 m ds))) nx else none
    | _ => none
  | [.emp _], st, nx => some (.ret (.tup []) st nx)
  | [.list _ [] _], st, nx => some (.ret (.tup []) st nx)
  | _, _, _ => none
theorem vbs_inv {x : V} {b : List UInt8} (h : vbs? x = some b) : x = vOfB b := by
  unfold vbs? at h
  split at h
  · rename_i s
    obtain rfl := Option.some.inj h
    simp [vOfB]
  · cases h
section
variable {P : Program} {G : Gh} {st : St} {w : World} {nx : Nat} {ρ : Go.Shelf.Ren}
theorem bs_vals {xs : List V} {us : List Value} {bs : List (List UInt8)} (h : All2 (Rep P G) xs us) (hb : xs.mapM vbs? = some bs) : us = bs.map Go.Proofs.encStr := by
  have h2 := mapM_some hb
  clear hb
  induction h2 generalizing us with
  | nil => cases h; rfl
  | cons h1 _ ih =>
    cases h with
    | cons h3 h4 =>
      rw [vbs_inv h1] at h3
      have := h3.sc_inv
      rw [List.map_cons, ← ih h4, this]
theorem sortB_length (l : List (List UInt8)) : (sortB l).length = l.length := (sortB_perm l).length_eq
theorem putC_toList (off : Nat) (d : Array (List UInt8)) (c : Array Value) (h : off + d.size ≤ c.size) : (Go.Sort.putCells Go.Proofs.encStr off d c).toList = c.toList.take off ++ d.toList.map Go.Proofs.encStr ++ c.toList.drop (off + d.size) := by
  apply List.ext_getElem?
  intro k
  simp only [Go.Sort.putCells, Array.toList_mapIdx, List.getElem?_mapIdx]
  by_cases h1 : k < off
  · rw [List.append_assoc, List.getElem?_append_left (by simp; omega), List.getElem?_take_of_lt h1]
    cases c.toList[k]? with
    | none => rfl
    | some u => simp only [Option.map_some]; rw [if_neg (by omega)]
  · by_cases h2 : k < off + d.size
    · have hk : k < c.size := by omega
      rw [List.getElem?_append_left (by simp; omega), List.getElem?_append_right (by simp; omega)]
      have e1 : (c.toList.take off).length = off := by simp; omega
      have hd : k - off < d.size := by omega
      rw [e1, List.getElem?_map]
      have e2 : c.toList[k]? = some c[k] := by simp [hk]
      have e3 : d.toList[k - off]? = some d[k - off] := by simp [hd]
      rw [e2, e3]
      simp only [Option.map_some]
      rw [if_pos ⟨by omega, h2⟩, getElem!_pos d (k - off) hd]
    · have e1 : (c.toList.take off ++ d.toList.map Go.Proofs.encStr).length = off + d.size := by simp; omega
      rw [List.getElem?_append_right (by omega), e1, List.getElem?_drop]
      have e2 : off + d.size + (k - (off + d.size)) = k := by omega
      rw [e2]
      cases c.toList[k]? with
      | none => rfl
      | some u => simp only [Option.map_some]; rw [if_neg (by omega)]
theorem xsort_ok (Ly : Go.Proofs.Lays.n190 P ρ) {xs : List V} {r : HR} (h : xsort xs st nx = some r) {vs : List Value} (hinv : Inv P G st w) (has : All2 (Rep P G) xs vs) : Calls P (ρ.f 190) vs.toArray w (HpPost P G nx r) := by
  have same : ∀ (A : Option Addr) (c : Nat), vs = [.slice A 0 c] → r = .ret (.tup []) st nx → Calls P (ρ.f 190) vs.toArray w (HpPost P G nx r) := fun A c hv hr => by
    subst hv; subst hr
    refine (Any.slices_Sort_string_none Ly A c w).mono fun e w' ⟨he, hw⟩ => ?_
    subst he; subst hw
    exact ⟨G, _, rfl, .refl G, .refl G _, Nat.le_refl _, hinv, .tup .nil⟩
  unfold xsort at h
  split at h
  · rename_i e g s id off n
    split at h
    · rename_i e2 s2 m cs hst
      split at h
      · rename_i hc
        obtain ⟨rfl, rfl, rfl⟩ := hc
        rw [Option.map_eq_some_iff] at h
        obtain ⟨ds, hds, rfl⟩ := h
        unfold sortRow at hds
        rw [Option.bind_eq_some_iff] at hds
        obtain ⟨seg, hseg, hds⟩ := hds
        split at hds
        · rename_i hn
          obtain ⟨hn, hn2⟩ := hn
          obtain rfl := Option.some.inj hds
          cases has with
          | cons h1 h2 =>
            cases h2
            rename_i u
            obtain ⟨b, N, C, A, c, rfl, k1, k2, k3, k4, k5, k6, k7, k8, k9, k10⟩ := h1.sl_inv
            by_cases h0 : n = 0
            · subst h0
              have hsg : seg = [] := List.eq_nil_of_length_eq_zero hn
              have e1 : cs.take off ++ (sortB seg).map vOfB ++ cs.drop (off + 0) = cs := by subst hsg; simp [sortB]
              refine same _ _ rfl ?_
              rw [e1]
              congr 1
              funext k
              unfold upd
              split
              · rename_i hk; subst hk; exact hst.symm
              · rfl
            · obtain rfl := k8 (by omega)
              obtain ⟨v, us, b', g1, g2, g3, g4, g5, g6, g7, g8⟩ := hinv.objs id _ hst
              rw [k1] at g3
              obtain rfl := Option.some.inj g3
              rw [k2] at g1
              obtain rfl := Option.some.inj g1
              have hrow := g6
              obtain ⟨q1, q2⟩ := g6
              rcases q2 with ⟨q2, _⟩ | ⟨gb, cap, cur, q2, q3, q4, q5, q6, q7, q8⟩
              · cases q2
              obtain ⟨rfl, rfl, rfl⟩ : b = gb ∧ N = m ∧ C = cap := by simpa using q2
              have hcl := g8.length
              rw [Nat.mul_one] at q1 q7 q8
              have hlt : b < w.heap.size := (Array.getElem?_eq_some_iff.1 q4).1
              have hus : (us.drop off).take n = seg.map Go.Proofs.encStr := bs_vals ((g8.drop off).take n) hseg
              have hH : Go.Sort.Holds Go.Proofs.encStr w b off seg.toArray := fun j hj => by
                have hj' : j < seg.length := by simpa using hj
                have e1 : us[off + j]? = some (Go.Proofs.encStr seg[j]) := by
                  have : ((us.drop off).take n)[j]? = some (Go.Proofs.encStr seg[j]) := by rw [hus]; simp [hj']
                  rw [List.getElem?_take_of_lt (by omega), List.getElem?_drop] at this
                  exact this
                have e2 : cur[off + j]? = some (Go.Proofs.encStr seg[j]) := by
                  rw [← q8, List.getElem?_take_of_lt (by omega)] at e1
                  simpa using e1
                refine ⟨?_, ?_⟩
                · have e3 : seg.toArray[j]! = seg[j] := by rw [getElem!_pos _ j hj]; rfl
                  rw [e3]
                  simp only [World.cell?, q4]
                  simpa using e2
                · simp [World.frozen?, q4]
              have hcall := Any.slices_Sort_string Ly b off c seg w hH hlt (by omega)
              rw [hn, sortB_eq] at hcall
              rw [Nat.mul_one]
              refine hcall.mono fun ev w' ⟨he, kk, os, hw⟩ => ?_
              subst he
              subst hw
              have hsz := sortB_length seg
              have hd1 := (hinv.drew kk)
              have hcur : (Go.Sort.putCells Go.Proofs.encStr off (sortB seg).toArray cur).toList = cur.toList.take off ++ (sortB seg).map Go.Proofs.encStr ++ cur.toList.drop (off + n) := by
                rw [putC_toList _ _ _ (by simp; omega)]
                simp [hsz, hn]
              have hput : (Go.Sort.putRow Go.Proofs.encStr (Go.Sort.ahead w kk) b off (sortB seg).toArray).heap[b]? = some (.cells (Go.Sort.putCells Go.Proofs.encStr off (sortB seg).toArray cur) e (0, 0)) := by
                simp [Go.Sort.putRow, Go.Sort.mapBlock, Go.Sort.ahead, Array.getElem?_modify, q4, Go.Sort.onCells]
              have hnew : All2 (Rep P G) ((sortB seg).map vOfB) ((sortB seg).map Go.Proofs.encStr) := by
                generalize sortB seg = l
                induction l with
                | nil => exact .nil
                | cons x l ih => exact .cons (.pure (.sc _)) ih
              have hones : ones ((sortB seg).map vOfB) = true := List.all_eq_true.2 fun x hx => by
                obtain ⟨y, _, rfl⟩ := List.mem_map.1 hx
                rfl
              have hset : Inv P G (upd st id (some (.row e 1 N (cs.take off ++ (sortB seg).map vOfB ++ cs.drop (off + n))))) (Go.Sort.putRow Go.Proofs.encStr (Go.Sort.ahead w kk) b off (sortB seg).toArray) := by
                refine hd1.set id _ _ b hst k1 (by simp) (by simp) q3 (fun k hk => ?_) (by simp [Go.Sort.ahead]) rfl rfl rfl ⟨_, us.take off ++ (sortB seg).map Go.Proofs.encStr ++ us.drop (off + n), b, k2, rfl, k1, g4, g5, ⟨?_, .inr ⟨b, C, _, rfl, q3, hput, q5, q6, ?_, ?_⟩⟩, ?_, ?_⟩
                · have : ¬ (b = k) := fun h => hk h.symm
                  simp [Go.Sort.putRow, Go.Sort.mapBlock, Go.Sort.ahead, Array.getElem?_modify, this]
                · simp only [List.length_append, List.length_take, List.length_drop, List.length_map, hsz]; omega
                · simp [Go.Sort.putCells, q7]
                · rw [hcur, Nat.mul_one, ← q8, List.take_append, List.take_of_length_le (l := cur.toList.take off ++ (sortB seg).map Go.Proofs.encStr) (by simp [hsz]; omega), List.take_take, Nat.min_eq_left (show off ≤ N by omega)]
                  congr 1
                  rw [List.drop_take]
                  congr 1
                  simp [hsz]; omega
                · rw [ones_append, ones_append, ones_take g7, hones, ones_drop g7]; rfl
                · exact ((g8.take off).append hnew).append (g8.drop _)
              have hgr := hset.grow (w' := Go.Sort.grow (Go.Sort.putRow Go.Proofs.encStr (Go.Sort.ahead w kk) b off (sortB seg).toArray) os) (p' := G.pr) ⟨rfl, rfl, rfl, by simp, fun k hk => Go.Sort.heap_grow_old _ _ hk⟩ ⟨fun _ _ _ q => q, fun b2 o2 v2 q => by
                rw [Go.Sort.cell?_grow _ _ _ (World.block_lt_of_cell? _ _ (hset.prot b2 o2 v2 q))]
                exact hset.prot b2 o2 v2 q, fun _ _ _ => rfl⟩
              exact ⟨G, _, rfl, .refl G, .refl G _, Nat.le_refl _, hgr.2, .tup .nil⟩
        · cases hds
      · cases h
    · cases h
  · obtain rfl := Option.some.inj h
    cases has with
    | cons h1 h2 =>
      cases h2
      cases h1 with
      | pure h => cases h
      | emp => exact same _ _ rfl rfl
  · obtain rfl := Option.some.inj h
    cases has with
    | cons h1 h2 =>
      cases h2
      obtain ⟨A, c, hv, hp, _⟩ := h1.list_inv
      subst hv
      exact same _ _ rfl rfl
  · cases h
end
end Go.Proofs.YthgmhlpjbednpaaDoor.Vm
