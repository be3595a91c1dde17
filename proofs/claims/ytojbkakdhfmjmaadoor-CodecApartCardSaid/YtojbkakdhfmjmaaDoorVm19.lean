/- Proved here: a function whose text, run over the limit, comes to an answer, has that answer in the limit. Conditions: none. -/
import Derived.Test.YtojbkakdhfmjmaaDoorVm18
set_option linter.unusedVariables false
set_option linter.unusedSimpArgs false
namespace Go.Proofs.YtojbkakdhfmjmaaDoor.Vm
open Go.RowKit
section
variable {P : Program} {ext : FuncId → Option (List V → Option V)} {hm : FuncId → Bool} {gl : Nat → Option V} {tm : Nat → V} {st : St} {i0 nx N k : Nat} {o : Oper} {ops : Array Oper}
theorem ev_lim (n : Nat) : ev (env P ext hm gl n) tm = ev (lim P ext hm gl) tm := by funext x; cases x <;> simp [ev, env_gl]; rfl
theorem env_hm (n : Nat) : (env P ext hm gl n).hm = hm := by cases n <;> rfl
theorem xcall_lim {f : FuncId} {as : List V} {r : R} (hx : xcall P (lim P ext hm gl) i0 nx st f as = some r) : ∃ n, xcall P (env P ext hm gl n) i0 nx st f as = some r := by
  unfold xcall at hx ⊢
  split at hx
  · rename_i hn; exact ⟨0, by rw [if_pos hn]; exact hx⟩
  · rename_i hn
    split at hx
    · rename_i hh
      have hh : hm f = true := hh
      split at hx <;> rename_i he
      · obtain ⟨n, hn'⟩ := (lim_hp P ext hm gl).1 he
        exact ⟨n, by rw [if_neg hn, env_hm, if_pos hh, hn']; exact hx⟩
      · obtain ⟨n, hn'⟩ := (lim_hp P ext hm gl).1 he
        exact ⟨n, by rw [if_neg hn, env_hm, if_pos hh, hn']; exact hx⟩
      · cases hx
    · rename_i hh
      have hh : ¬ hm f = true := hh
      rw [Option.bind_eq_some_iff] at hx
      obtain ⟨bs, hb, hx⟩ := hx
      split at hx <;> rename_i he
      · obtain ⟨n, hn'⟩ := (lim_pl P ext hm gl).1 he
        exact ⟨n, by rw [if_neg hn, env_hm, if_neg hh, hb]; simp only [Option.bind_some, hn']; exact hx⟩
      · obtain ⟨n, hn'⟩ := (lim_pl P ext hm gl).1 he
        exact ⟨n, by rw [if_neg hn, env_hm, if_neg hh, hb]; simp only [Option.bind_some, hn']; exact hx⟩
      · cases hx
theorem xop_lim {r : R} (hx : xop P (lim P ext hm gl) tm st i0 nx o = some r) : ∃ n, xop P (env P ext hm gl n) tm st i0 nx o = some r := by
  cases ho : o.op with
  | call c =>
    simp only [xop, ho, Option.bind_eq_some_iff] at hx
    obtain ⟨args, ha, hx⟩ := hx
    cases hc : c.callee with
    | builtin b =>
      simp only [hc] at hx
      exact ⟨0, by simp only [xop, ho, ev_lim, ha, hc, Option.bind_some]; exact hx⟩
    | value f =>
      simp only [hc, Option.bind_eq_some_iff] at hx
      obtain ⟨fv, hf, hx⟩ := hx
      split at hx
      · obtain ⟨n, hn⟩ := xcall_lim hx
        exact ⟨n, by simp only [xop, ho, ev_lim, ha, hc, hf, Option.bind_some]; exact hn⟩
      · cases hx
    | invoke a b => simp only [hc] at hx; cases hx
  | makeMap t y => refine ⟨0, ?_⟩; cases y <;> simp only [xop, ho, ev_lim] at hx ⊢ <;> exact hx
  | next x b => refine ⟨0, ?_⟩; cases b <;> simp only [xop, ho, ev_lim] at hx ⊢ <;> exact hx
  | _ => (refine ⟨0, ?_⟩; simp only [xop, ho, ev_lim] at hx ⊢; exact hx)
theorem both {n m n0 i1 nx1 : Nat} {rest : List Oper} {tm1 : Nat → V} {st1 : St} {r : R} {rr : RR} (h : xop P (env P ext hm gl n) tm st i0 nx o = some r) (h' : xops P (env P ext hm gl m) ops N n0 i1 rest tm1 st1 nx1 = some rr) :
    ∃ q, xop P (env P ext hm gl q) tm st i0 nx o = some r ∧ xops P (env P ext hm gl q) ops N n0 i1 rest tm1 st1 nx1 = some rr :=
  ⟨max n m, xop_le (env_le P ext hm gl (Nat.le_max_left n m)) h, xops_le (env_le P ext hm gl (Nat.le_max_right n m)) h'⟩
theorem xops_lim : ∀ {rest : List Oper} {i : Nat} {n0 : Nat} {tm : Nat → V} {st : St} {nx : Nat} {rr : RR}, xops P (lim P ext hm gl) ops N n0 i rest tm st nx = some rr → ∃ n, xops P (env P ext hm gl n) ops N n0 i rest tm st nx = some rr
  | [], _, _, _, _, _, _, hx => ⟨0, hx⟩
  | o :: rest, i, n0, tm, st, nx, rr, hx => by
    unfold xops at hx
    split at hx
    · rename_i hd
      split at hx <;> rename_i hw
      · split at hx <;> rename_i ho
        · obtain ⟨n, hn⟩ := xop_lim ho
          split at hx <;> rename_i hr
          · obtain ⟨m', hm'⟩ := xops_lim hr
            obtain ⟨m, h1, h2⟩ := both hn hm'
            exact ⟨m, by unfold xops; simp only [hd, if_true, hw, h1, h2]; exact hx⟩
          · obtain ⟨m', hm'⟩ := xops_lim hx
            obtain ⟨m, h1, h2⟩ := both hn hm'
            refine ⟨m, ?_⟩
            unfold xops
            simp only [hd, if_true, hw, h1, h2]
            split
            · rename_i hq; obtain rfl := Option.some.inj hq; exact absurd hx (hr _ _ _ _)
            · rfl
        · obtain ⟨n, hn⟩ := xop_lim ho
          split at hx <;> rename_i hr
          · obtain ⟨m', hm'⟩ := xops_lim hr
            obtain ⟨m, h1, h2⟩ := both hn hm'
            exact ⟨m, by unfold xops; simp only [hd, if_true, hw, h1, h2]; exact hx⟩
          · obtain ⟨m', hm'⟩ := xops_lim hx
            obtain ⟨m, h1, h2⟩ := both hn hm'
            refine ⟨m, ?_⟩
            unfold xops
            simp only [hd, if_true, hw, h1, h2]
            split
            · rename_i hq; obtain rfl := Option.some.inj hq; exact absurd hx (hr _ _ _ _)
            · rfl
        · obtain ⟨n, hn⟩ := xop_lim ho
          exact ⟨n, by unfold xops; simp only [hd, if_true, hw, hn]; exact hx⟩
        · obtain ⟨n, hn⟩ := xop_lim ho
          exact ⟨n, by unfold xops; simp only [hd, if_true, hw, hn]; exact hx⟩
        · cases hx
      · split at hx <;> rename_i hr
        · obtain ⟨m, h2⟩ := xops_lim hr
          exact ⟨m, by unfold xops; simp only [hd, if_true, hw, h2]; exact hx⟩
        · obtain ⟨m, h2⟩ := xops_lim hx
          refine ⟨m, ?_⟩
          unfold xops
          simp only [hd, if_true, hw, h2]
          split
          · rename_i hq; obtain rfl := Option.some.inj hq; exact absurd hx (hr _ _ _ _)
          · rfl
      · cases hx
    · cases hx
theorem xregion_lim {draw : Bool} {fr : Fr} {res : Ex × Fr} (hx : xregion P (lim P ext hm gl) N ops draw fr = some res) : ∃ n, xregion P (env P ext hm gl n) N ops draw fr = some res := by
  unfold xregion at hx
  split at hx <;> rename_i hr
  · obtain ⟨n, hn⟩ := xops_lim hr
    exact ⟨n, by unfold xregion; rw [hn]; exact hx⟩
  · obtain ⟨n, hn⟩ := xops_lim hr
    exact ⟨n, by unfold xregion; rw [hn]; exact hx⟩
  · cases hx
theorem iter_lim {c : Code} (h : ∀ fr r, xcode P (lim P ext hm gl) N k c fr = some r → ∃ n, xcode P (env P ext hm gl n) N k c fr = some r) : ∀ {j : Nat} {fr : Fr} {r : Ex × Fr}, iter (xcode P (lim P ext hm gl) N k c) j fr = some r → ∃ n, iter (xcode P (env P ext hm gl n) N k c) j fr = some r
  | 0, _, _, hx => by simp [iter] at hx
  | j + 1, fr, r, hx => by
    unfold iter at hx
    split at hx <;> rename_i hr
    · obtain ⟨n, hn⟩ := h _ _ hr
      obtain ⟨m, hm'⟩ := iter_lim h hx
      refine ⟨max n m, ?_⟩
      unfold iter
      rw [xcode_le (env_le P ext hm gl (Nat.le_max_left n m)) (Nat.le_refl _) _ hn]
      exact iter_le (fun fr r q => xcode_le (env_le P ext hm gl (Nat.le_max_right n m)) (Nat.le_refl _) _ q) (Nat.le_refl _) hm'
    · obtain ⟨n, hn⟩ := h _ _ hx
      refine ⟨n, ?_⟩
      unfold iter
      rw [hn]
      split
      · rename_i hq; obtain rfl := Option.some.inj hq; exact absurd hx (hr _)
      · rfl
theorem xcode_lim : ∀ (c : Code) {fr : Fr} {res : Ex × Fr}, xcode P (lim P ext hm gl) N k c fr = some res → ∃ n, xcode P (env P ext hm gl n) N k c fr = some res := by
  intro c
  induction c with
  | region id ops draw => intro fr res hx; simp only [xcode] at hx ⊢; exact xregion_lim hx
  | seq x y ihx ihy =>
    intro fr res hx
    simp only [xcode] at hx
    split at hx <;> rename_i hr
    · obtain ⟨n, hn⟩ := ihx hr
      obtain ⟨m, hm'⟩ := ihy hx
      refine ⟨max n m, ?_⟩
      simp only [xcode, xcode_le (env_le P ext hm gl (Nat.le_max_left n m)) (Nat.le_refl _) _ hn]
      exact xcode_le (env_le P ext hm gl (Nat.le_max_right n m)) (Nat.le_refl _) _ hm'
    · obtain ⟨n, hn⟩ := ihx hx
      refine ⟨n, ?_⟩
      simp only [xcode, hn]
      split
      · rename_i hq; obtain rfl := Option.some.inj hq; exact absurd hx (hr _)
      · rfl
  | cond c x y ihx ihy =>
    intro fr res hx
    simp only [xcode] at hx
    split at hx <;> rename_i hr
    · rename_i b
      cases b
      · obtain ⟨n, hn⟩ := ihy hx; exact ⟨n, by simp only [xcode, ev_lim, hr]; exact hn⟩
      · obtain ⟨n, hn⟩ := ihx hx; exact ⟨n, by simp only [xcode, ev_lim, hr]; exact hn⟩
    · cases hx
  | block id b ih =>
    intro fr res hx
    simp only [xcode] at hx
    split at hx <;> rename_i hr
    · obtain ⟨n, hn⟩ := ih hr; exact ⟨n, by simp only [xcode, hn]; exact hx⟩
    · obtain ⟨n, hn⟩ := ih hx
      refine ⟨n, ?_⟩
      simp only [xcode, hn]
      split
      · rename_i hq; obtain rfl := Option.some.inj hq; exact absurd hx (hr _ _)
      · rfl
  | loop b ih =>
    intro fr res hx
    simp only [xcode] at hx ⊢
    exact iter_lim (fun fr r => ih) hx
  | _ => intro fr res hx; first | (exact ⟨0, by simp only [xcode] at hx ⊢; exact hx⟩) | (simp [xcode] at hx)
theorem xrun_lim {fn : Func} {as : List V} {r : HR} (hx : xrun P (lim P ext hm gl) k fn as st nx = some r) : ∃ n, xrun P (env P ext hm gl n) k fn as st nx = some r := by
  unfold xrun at hx ⊢
  split at hx
  · cases hx
  · split at hx <;> rename_i hr
    · obtain ⟨n, hn⟩ := xcode_lim _ hr; exact ⟨n, by simp only [hn]; exact hx⟩
    · obtain ⟨n, hn⟩ := xcode_lim _ hr; exact ⟨n, by simp only [hn]; exact hx⟩
    · obtain ⟨n, hn⟩ := xcode_lim _ hr; exact ⟨n, by simp only [hn]; exact hx⟩
    · cases hx
theorem xplain_lim {fn : Func} {as : List V} {r : CR} (hx : xplain P (lim P ext hm gl) k fn as = some r) : ∃ n, xplain P (env P ext hm gl n) k fn as = some r := by
  unfold xplain at hx ⊢
  split at hx <;> rename_i hr
  · obtain ⟨n, hn⟩ := xrun_lim hr; exact ⟨n, by simp only [hn]; exact hx⟩
  · obtain ⟨n, hn⟩ := xrun_lim hr; exact ⟨n, by simp only [hn]; exact hx⟩
  · cases hx
/-- A function on pure data, by its text. -/
theorem pl_intro {f : FuncId} {fn : Func} {as : List V} {r : CR} (k : Nat) (he : ext f = none) (hf : P.funcs[f]? = some fn) (h : xplain P (lim P ext hm gl) k fn as = some r) : (lim P ext hm gl).pl f as = some r := by
  obtain ⟨n, hn⟩ := xplain_lim h
  refine (lim_pl P ext hm gl).2 ⟨max n k + 1, ?_⟩
  rw [env]
  simp only [he, hf, Option.bind_some]
  exact xplain_le (env_le P ext hm gl (Nat.le_max_left n k)) (Nat.le_max_right n k) hn
/-- A function on memory, by its text. -/
theorem hp_intro {f : FuncId} {fn : Func} {as : List V} {r : HR} (k : Nat) (hf : P.funcs[f]? = some fn) (h : xrun P (lim P ext hm gl) k fn as st nx = some r) : (lim P ext hm gl).hp f as st nx = some r := by
  obtain ⟨n, hn⟩ := xrun_lim h
  refine (lim_hp P ext hm gl).2 ⟨max n k + 1, ?_⟩
  rw [env]
  simp only [hf, Option.bind_some]
  exact xrun_le (env_le P ext hm gl (Nat.le_max_left n k)) (Nat.le_max_right n k) hn
/-- Reckoned out. -/
theorem pl_calc {f : FuncId} {as : List V} {r : CR} (n : Nat) (h : (env P ext hm gl n).pl f as = some r) : (lim P ext hm gl).pl f as = some r := (lim_pl P ext hm gl).2 ⟨n, h⟩
theorem lim_bool (hP : ProgOK P) (hext : ExtOK P gl ext) {f : FuncId} (hf : nobody P f = false) {as : List V} {b : Bool} (hx : (lim P ext hm gl).pl f as = some (.ret (.sc (.bool b))))
    {p : Pr} {vs : List Value} {w : World} (hgl : GlOK P gl p) (hp : ∀ c o v, p c o = some v → w.cell? ⟨c, o, none⟩ = some v) (has : All2 (RepP P p) as vs) : Calls P f vs.toArray w fun e w' => e = .returned (.bool b) ∧ Below w.heap.size w w' := by
  obtain ⟨n, hn⟩ := (lim_pl P ext hm gl).1 hx
  exact calls_bool hP hext hf hn hgl hp has
end
end Go.Proofs.YtojbkakdhfmjmaaDoor.Vm
