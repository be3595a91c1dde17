/- Proved here: what a function of the machine over pure data returns, the model's call returns. Conditions: none. -/
import Derived.Test.YtojbkakdhfmjmaaDoorVm16
set_option linter.unusedVariables false
set_option linter.unusedSimpArgs false
namespace Go.Proofs.YtojbkakdhfmjmaaDoor.Vm
open Go.RowKit
section
variable {P : Program} {E : Env} {G G' : Gh} {st st' : St} {tm tm' tm0 : Nat → V} {st0 : St} {w w' : World} {a : Act} {N n0 nx nx' k : Nat} {ops : Array Oper} {Q : Exit → Act → World → Prop}
def resOf (a : Act) : ResultVar → Sem Value
  | .tmp t => pure (a.tmps.getD t undef)
  | .cell b t => do loadVar t (← asAddr (a.tmps.getD b undef))
theorem res1_sound (hinv : Inv P G st w) (ht : TmR P G N tm a) {r : ResultVar} {v : V} (h : xres1 P ⟨tm, st, nx⟩ r = some v) : ∃ u, ((resOf a r).run P w = .ok u w) ∧ Rep P G v u := by
  cases r with
  | tmp t => simp only [xres1, Option.some.injEq] at h; subst h; exact ⟨_, rfl, ht.rep t⟩
  | cell b t =>
    simp only [xres1] at h
    split at h
    · rename_i id off htm
      split at h
      · rename_i cs hs
        have hr := ht.rep b
        rw [htm] at hr
        obtain ⟨bb, hv, hb⟩ := hr.ptr_inv
        obtain ⟨b', arr, T, h1, h2, h3, h4, h5⟩ := hinv.objs id _ hs
        rw [hb] at h1
        obtain rfl := Option.some.inj h1
        obtain ⟨u, hu, hrep⟩ := ld_loadVar (w := w) h h5 h4 (ad := ⟨bb, off, none⟩) (fun j u hu => by rw [cell_blk h3]; simpa using hu)
        refine ⟨u, ?_, hrep⟩
        simp only [resOf, hv, asAddr, pure_bind]
        exact hu
      · cases h
    · cases h
theorem ress_sound (hinv : Inv P G st w) (ht : TmR P G N tm a) : ∀ {rs : List ResultVar} {vs : List V}, rs.mapM (xres1 P ⟨tm, st, nx⟩) = some vs → ∃ us, (rs.mapM (resOf a)).run P w = .ok us w ∧ All2 (Rep P G) vs us
  | [], vs, h => by simp at h; subst h; exact ⟨[], by simp, .nil⟩
  | r :: rs, vs, h => by
    rw [List.mapM_cons] at h
    simp only [Option.bind_eq_bind, Option.bind_eq_some_iff] at h
    obtain ⟨v, hv, vs', hvs, h⟩ := h
    simp at h; subst h
    obtain ⟨u, hu, hr⟩ := res1_sound hinv ht hv
    obtain ⟨us, hus, hrs⟩ := ress_sound hinv ht hvs
    refine ⟨u :: us, ?_, .cons hr hrs⟩
    rw [List.mapM_cons]
    simp only [Sem.run_bind, hu, Result.andThen_ok, hus, Sem.run_pure]
theorem results_sound (hinv : Inv P G st w) (ht : TmR P G N tm a) {fn : Func} {v : V} (h : xres P ⟨tm, st, nx⟩ fn.results.toList = some v) : ∃ u, (results fn a.tmps).run P w = .ok u w ∧ Rep P G v u := by
  unfold xres at h
  rw [Option.map_eq_some_iff] at h
  obtain ⟨vs, hvs, rfl⟩ := h
  obtain ⟨us, hus, hr⟩ := ress_sound hinv ht hvs
  have hrun : (results fn a.tmps).run P w = .ok (if h : us.toArray.size = 1 then us.toArray[0] else .tuple us.toArray) w := by
    have e : results fn a.tmps = (do let vs ← fn.results.mapM (resOf a); pure (if h : vs.size = 1 then vs[0] else .tuple vs)) := rfl
    rw [e, Sem.run_bind]
    have : (fn.results.mapM (resOf a)).run P w = .ok us.toArray w := by
      rw [Array.mapM_eq_mapM_toList, Sem.run_map, hus]; rfl
    rw [this]
    rfl
  refine ⟨_, hrun, ?_⟩
  cases hr with
  | nil => exact .tup .nil
  | cons h1 h2 =>
    cases h2 with
    | nil => exact h1
    | cons h3 h4 =>
      rw [dif_neg (by simp)]
      exact .tup (.cons h1 (.cons h3 (.of h4)))
theorem xrun_sound (hP : ProgOK P) (hE : EnvOK P E) {fn : Func} {f : FuncId} (hf : P.funcs[f]? = some fn) {as : List V} {vs : List Value} {r : HR} (hx : xrun P E k fn as st nx = some r) (hgl : GlOK P E.gl G.pr) (hinv : Inv P G st w) (has : All2 (Rep P G) as vs) (h8 : 8 ≤ nx) (hfr : Fresh G (fun q => nx ≤ q)) :
    Calls P f vs.toArray w (HpPost P G nx r) := by
  unfold xrun at hx
  split at hx
  · cases hx
  · rename_i c hb
    have hl := has.length
    have ht : TmR P G (as.length + (fn.ntmps - as.length)) (fun t => as.getD t (.sc undef)) { tmps := vs.toArray ++ Array.replicate (fn.ntmps - vs.toArray.size) undef, defers := [] } := by
      refine ⟨by simp [hl], rfl, fun t => ?_⟩
      by_cases hlt : t < as.length
      · have e1 : as[t]? = some as[t] := List.getElem?_eq_getElem hlt
        obtain ⟨u, hu, hr⟩ := has.get e1
        have e2 : (vs.toArray ++ Array.replicate (fn.ntmps - vs.toArray.size) undef).getD t undef = u := by
          rw [Array.getD_eq_getD_getElem?, Array.getElem?_append_left (by simp; omega)]
          simp [hu]
        show Rep P G (as.getD t (.sc undef)) _
        rw [e2, List.getD_eq_getElem?_getD, e1]
        exact hr
      · have e2 : (vs.toArray ++ Array.replicate (fn.ntmps - vs.toArray.size) undef).getD t undef = undef := by
          rw [Array.getD_eq_getD_getElem?, Array.getElem?_append_right (by simp; omega), Array.getElem?_replicate]
          split <;> rfl
        show Rep P G (as.getD t (.sc undef)) _
        rw [e2, List.getD_eq_getElem?_getD, List.getElem?_eq_none (by omega)]
        exact .pure (.sc _)
    refine calls_of_wp hf hb ?_
    have done : ∀ (fr : Fr) (v : V), xres P fr fn.results.toList = some v → r = .ret v fr.st fr.nx → ∀ (G' : Gh) (a' : Act) (w' : World), G.le G' → Same G G' (fun k => nx ≤ k ∧ k < fr.nx) → nx ≤ fr.nx → Inv P G' fr.st w' → TmR P G' (as.length + (fn.ntmps - as.length)) fr.tm a' →
        a'.defers = [] ∧ ∃ u, (results fn a'.tmps).run P w' = .ok u w' ∧ HpPost P G nx r (.returned u) w' := fun fr v hv hr G' a' w' h1 h2 h3 h4 h5 => by
      obtain ⟨u, hu, hrep⟩ := results_sound (nx := fr.nx) h4 h5 hv
      subst hr
      exact ⟨h5.df, u, hu, G', u, rfl, h1, h2, h3, h4, hrep⟩
    split at hx
    · rename_i fr hxc
      rw [Option.map_eq_some_iff] at hx
      obtain ⟨v, hv, hr⟩ := hx
      exact xcode_sound hP hE c hxc hgl hinv ht hfr h8 fun G' a' w' h1 h2 h3 h4 h5 => done fr v hv hr.symm G' a' w' h1 h2 h3 h4 h5
    · rename_i fr hxc
      rw [Option.map_eq_some_iff] at hx
      obtain ⟨v, hv, hr⟩ := hx
      exact xcode_sound hP hE c hxc hgl hinv ht hfr h8 fun G' a' w' h1 h2 h3 h4 h5 => done fr v hv hr.symm G' a' w' h1 h2 h3 h4 h5
    · rename_i v fr hxc
      obtain rfl := Option.some.inj hx
      exact xcode_sound hP hE c hxc hgl hinv ht hfr h8 fun G' a' w' u h1 h2 h3 h4 h5 h6 => ⟨h5, G', u, rfl, h1, h2, h3, h4, h6⟩
    · cases hx
/-! ### What a call on pure data hands back -/
theorem fin1_sound (hinv : Inv P G st w) {used used' : List Nat} {y z : V} {v : Value} (hr : Rep P G y v) (h : fin1 st used y = some (z, used')) :
    Ret1 P G.base G.pr w z v ∧ ((isOwn z = false ∧ used' = used) ∨ ∃ r, r ∉ used ∧ used' = r :: used ∧ ∀ b, v.ownBlock = some b → blk G st r = some b) := by
  unfold fin1 at h
  split at h
  · rename_i e xs r
    have strip : Ret1 P G.base G.pr w (.list e xs 0) v := by
      obtain ⟨A, c, rfl, hp, _⟩ := hr.list_inv
      exact .inl ⟨by simp [isOwn], hp⟩
    split at h
    · rename_i h1
      subst h1
      simp only [Option.some.injEq, Prod.mk.injEq] at h
      obtain ⟨rfl, rfl⟩ := h
      refine ⟨.inl ⟨by simp [isOwn], ?_⟩, .inl ⟨by simp [isOwn], rfl⟩⟩
      cases hr with
      | pure h => exact h
      | tok h8 => omega
    · split at h
      · simp only [Option.some.injEq, Prod.mk.injEq] at h
        obtain ⟨rfl, rfl⟩ := h
        exact ⟨strip, .inl ⟨by simp [isOwn], rfl⟩⟩
      · rename_i h1 h8
        split at h
        · rename_i n e' hs
          split at h
          · rename_i hc
            obtain ⟨rfl, rfl, hu⟩ := hc
            simp only [Option.some.injEq, Prod.mk.injEq] at h
            obtain ⟨rfl, rfl⟩ := h
            obtain ⟨v0, s, vs0, k1, k2, k3⟩ := hinv.objs r _ hs
            obtain ⟨vs, g1, g2, g3, g4, g5, g6⟩ := rest_ok hinv (by omega) hr hs k2
            refine ⟨.inr ⟨e', xs, s, vs, rfl, k2, g2, g3, g4, g5, g6, fun b hb o u hu => ?_⟩, .inr ⟨r, by simpa using hu, rfl, fun b hb => ?_⟩⟩
            · obtain ⟨n, e2, s2, q1, q2, q3⟩ := hinv.free r b (by unfold blk; rw [hs]; simp [g1, hb]) o u hu
              rw [hs] at q1
              simp at q1
              obtain ⟨rfl, rfl⟩ := q1
              rw [k2] at q2
              obtain rfl := Option.some.inj q2
              exact q3
            · unfold blk; rw [hs]; simp [g1, hb]
          · simp only [Option.some.injEq, Prod.mk.injEq] at h
            obtain ⟨rfl, rfl⟩ := h
            exact ⟨strip, .inl ⟨by simp [isOwn], rfl⟩⟩
        · simp only [Option.some.injEq, Prod.mk.injEq] at h
          obtain ⟨rfl, rfl⟩ := h
          exact ⟨strip, .inl ⟨by simp [isOwn], rfl⟩⟩
  · rename_i hne
    rw [Option.map_eq_some_iff] at h
    obtain ⟨z', hz, h⟩ := h
    simp only [Prod.mk.injEq] at h
    obtain ⟨rfl, rfl⟩ := h
    have hno : isOwn z' = false := by
      unfold V.pur? at hz
      split at hz
      · rw [Option.map_eq_some_iff] at hz
        obtain ⟨ds, _, rfl⟩ := hz
        rfl
      · cases y with
        | sc v => simp [V.pur1?] at hz; subst hz; rfl
        | list e xs r => exact absurd rfl (hne _ _ _)
        | cp cs => simp [V.pur1?] at hz; subst hz; rfl
        | fn f a b =>
          cases a <;> cases b <;> simp [V.pur1?] at hz
          subst hz; rfl
        | _ => simp [V.pur1?] at hz
    exact ⟨.inl ⟨hno, rep_pur hr hz⟩, .inl ⟨hno, rfl⟩⟩
theorem fins_sound (hinv : Inv P G st w) : ∀ {ys zs : List V} {us : List Value} {used : List Nat}, All2 (Rep P G) ys us → fins st used ys = some zs → All2 (Ret1 P G.base G.pr w) zs us ∧
    (∀ (j : Nat) zj uj b, zs[j]? = some zj → us[j]? = some uj → isOwn zj = true → Value.ownBlock uj = some b → ∃ r, r ∉ used ∧ blk G st r = some b) ∧
    (∀ (i j : Nat) yi yj ui uj b, i ≠ j → zs[i]? = some yi → zs[j]? = some yj → us[i]? = some ui → us[j]? = some uj → isOwn yi = true → isOwn yj = true → Value.ownBlock ui = some b → Value.ownBlock uj = some b → False)
  | [], zs, us, used, hr, h => by
    cases hr
    simp [fins] at h; subst h
    exact ⟨.nil, fun j zj uj b h1 => by simp at h1, fun i j yi yj ui uj b _ h1 => by simp at h1⟩
  | y :: ys, zs, us, used, hr, h => by
    cases hr with
    | cons h1 h2 =>
      rename_i u us
      unfold fins at h
      rw [Option.bind_eq_some_iff] at h
      obtain ⟨⟨z, used'⟩, hz, h⟩ := h
      rw [Option.map_eq_some_iff] at h
      obtain ⟨zs', hzs, rfl⟩ := h
      obtain ⟨k1, k2⟩ := fin1_sound hinv h1 hz
      obtain ⟨g1, g2, g3⟩ := fins_sound hinv h2 hzs
      have sub : ∀ r, r ∉ used' → r ∉ used := fun r hr => by
        rcases k2 with ⟨_, rfl⟩ | ⟨q, _, rfl, _⟩
        · exact hr
        · exact fun h => hr (by simp [h])
      have cross : ∀ (j : Nat) zj uj b, zs'[j]? = some zj → us[j]? = some uj → isOwn z = true → isOwn zj = true → Value.ownBlock u = some b → Value.ownBlock uj = some b → False := fun j zj uj b a1 a2 a3 a4 a5 a6 => by
        rcases k2 with ⟨q, _⟩ | ⟨r, q1, rfl, q2⟩
        · rw [a3] at q; cases q
        · obtain ⟨r', q3, q4⟩ := g2 j zj uj b a1 a2 a4 a6
          have := hinv.apart _ _ b (q2 b a5) q4
          subst this
          exact q3 (by simp)
      refine ⟨.cons k1 g1, fun j zj uj b a1 a2 a3 a4 => ?_, fun i j yi yj ui uj b hij a1 a2 a3 a4 a5 a6 a7 a8 => ?_⟩
      · cases j with
        | zero =>
          simp at a1 a2; subst a1; subst a2
          rcases k2 with ⟨q, _⟩ | ⟨r, q1, rfl, q2⟩
          · rw [a3] at q; cases q
          · exact ⟨r, q1, q2 b a4⟩
        | succ j =>
          obtain ⟨r, q1, q2⟩ := g2 j zj uj b (by simpa using a1) (by simpa using a2) a3 a4
          exact ⟨r, sub r q1, q2⟩
      · cases i with
        | zero =>
          cases j with
          | zero => exact hij rfl
          | succ j =>
            simp at a1 a3; subst a1; subst a3
            exact cross j yj uj b (by simpa using a2) (by simpa using a4) a5 a6 a7 a8
        | succ i =>
          cases j with
          | zero =>
            simp at a2 a4; subst a2; subst a4
            exact cross i yi ui b (by simpa using a1) (by simpa using a3) a6 a5 a8 a7
          | succ j => exact g3 i j yi yj ui uj b (by omega) (by simpa using a1) (by simpa using a2) (by simpa using a3) (by simpa using a4) a5 a6 a7 a8
theorem fin_sound (hinv : Inv P G st w) {y z : V} {v : Value} (hr : Rep P G y v) (h : fin st y = some z) : RetOK P G.base G.pr w z v := by
  unfold fin at h
  split at h
  · split at h
    · rename_i vs hl
      rw [Option.map_eq_some_iff] at h
      obtain ⟨zs, hzs, rfl⟩ := h
      obtain ⟨us, rfl, hu⟩ := hr.tup_inv
      obtain ⟨g1, _, g3⟩ := fins_sound hinv hu hzs
      exact ⟨us, rfl, by rw [g1.length, ← hu.length]; exact hl, g1, g3⟩
    · cases h
  · rw [Option.map_eq_some_iff] at h
    obtain ⟨⟨z', used⟩, hz, rfl⟩ := h
    have h1 := (fin1_sound hinv hr hz).1
    have hnt : ∀ ys, z' ≠ .tup ys := fun ys e => by
      subst e
      rcases h1 with ⟨_, h⟩ | ⟨_, _, _, _, h, _⟩
      · cases h
      · cases h
    unfold RetOK
    split
    · first | exact (hnt _ rfl).elim | (rename_i h; exact (hnt _ h).elim)
    · exact h1
theorem xplain_sound (hP : ProgOK P) (hE : EnvOK P E) {fn : Func} {f : FuncId} (hf : P.funcs[f]? = some fn) {as : List V} {vs : List Value} {r : CR} {p : Pr} (hx : xplain P E k fn as = some r) (hgl : GlOK P E.gl p) (hp : ∀ b o v, p b o = some v → w.cell? ⟨b, o, none⟩ = some v) (has : All2 (RepP P p) as vs) :
    Calls P f vs.toArray w (PlPost P p w r) := by
  have hinv : Inv P ⟨w.heap.size, w, p, fun _ => none, fun _ => none⟩ (fun _ => none) w :=
    ⟨Below.refl _ _, Nat.le_refl _, hp, fun i ob h => (by cases h), fun i j b h => (by simp [blk] at h), fun i b h => (by simp [blk] at h)⟩
  have ext : ∀ {G' : Gh} {st' : St} {w' : World}, Gh.le ⟨w.heap.size, w, p, fun _ => none, fun _ => none⟩ G' → Inv P G' st' w' → Below w.heap.size w w' ∧ Ext p G'.pr w w' := fun {G' st' w'} h1 h2 => by
    have hb := h2.below
    rw [h1.base, h1.w0] at hb
    exact ⟨hb, h1.pr, h2.prot, fun b o hb => h1.low b o hb⟩
  unfold xplain at hx
  split at hx
  · rename_i v st' nx' hr
    rw [Option.map_eq_some_iff] at hx
    obtain ⟨z, hz, rfl⟩ := hx
    refine (xrun_sound hP hE hf hr hgl hinv (has.mono fun _ _ h => Rep.pure (G := ⟨w.heap.size, w, p, fun _ => none, fun _ => none⟩) h) (Nat.le_refl _) fun _ _ => ⟨rfl, rfl⟩).mono fun e w' he => ?_
    obtain ⟨G', u, rfl, h1, _, _, h2, h3⟩ := he
    obtain ⟨hb, hext⟩ := ext h1 h2
    have := fin_sound h2 h3 hz
    rw [h1.base] at this
    exact ⟨u, G'.pr, rfl, hb, hext, this⟩
  · rename_i v st' nx' hr
    rw [Option.map_eq_some_iff] at hx
    obtain ⟨z, hz, rfl⟩ := hx
    refine (xrun_sound hP hE hf hr hgl hinv (has.mono fun _ _ h => Rep.pure (G := ⟨w.heap.size, w, p, fun _ => none, fun _ => none⟩) h) (Nat.le_refl _) fun _ _ => ⟨rfl, rfl⟩).mono fun e w' he => ?_
    obtain ⟨G', u, rfl, h1, _, _, h2, h3⟩ := he
    obtain ⟨hb, hext⟩ := ext h1 h2
    unfold finP at hz
    split at hz
    · rename_i t x
      rw [Option.map_eq_some_iff] at hz
      obtain ⟨y0, hy0, rfl⟩ := hz
      obtain ⟨u', rfl, hu'⟩ := h3.ifc_inv
      exact ⟨t, y0, u', G'.pr, rfl, rfl, hb, hext, rep_pur hu' hy0⟩
    · cases hz
  · cases hx
/-- A function that is known otherwise. -/
def ExtOK (P : Program) (gl : Nat → Option V) (ext : FuncId → Option (List V → Option V)) : Prop :=
  ∀ f g, ext f = some g → ∀ as y, g as = some y → ∀ p vs w, GlOK P gl p → (∀ b o v, p b o = some v → w.cell? ⟨b, o, none⟩ = some v) → All2 (RepP P p) as vs → Calls P f vs.toArray w (PlPost P p w (.ret y))
theorem extOK_none (P : Program) (gl : Nat → Option V) : ExtOK P gl fun _ => none := fun f g h => by cases h
theorem env_gl (ext : FuncId → Option (List V → Option V)) (hm : FuncId → Bool) (gl : Nat → Option V) : ∀ n, (env P ext hm gl n).gl = gl
  | 0 => rfl
  | n + 1 => rfl
theorem env_ok (hP : ProgOK P) {ext : FuncId → Option (List V → Option V)} {hm : FuncId → Bool} {gl : Nat → Option V} (hext : ExtOK P gl ext) : ∀ n, EnvOK P (env P ext hm gl n)
  | 0 => by
    refine ⟨fun f as r hn hx p vs w hgl hp has => ?_, fun f as st nx r hn hx => by simp [env] at hx⟩
    simp only [env, Option.bind_eq_some_iff, Option.map_eq_some_iff] at hx
    obtain ⟨g, hg, y, hy, rfl⟩ := hx
    exact hext f g hg as y hy p vs w hgl hp has
  | n + 1 => by
    have ih := env_ok hP (hm := hm) hext n
    refine ⟨fun f as r hn hx p vs w hgl hp has => ?_, fun f as st nx r hn hx G vs w hgl hinv has h8 hfr => ?_⟩
    · simp only [env] at hx
      split at hx
      · rename_i g hg
        rw [Option.map_eq_some_iff] at hx
        obtain ⟨y, hy, rfl⟩ := hx
        exact hext f g hg as y hy p vs w hgl hp has
      · rw [Option.bind_eq_some_iff] at hx
        obtain ⟨fn, hf, hx⟩ := hx
        exact xplain_sound hP ih hf hx (by rw [env_gl]; exact hgl) hp has
    · simp only [env, Option.bind_eq_some_iff] at hx
      obtain ⟨fn, hf, hx⟩ := hx
      exact xrun_sound hP ih hf hx (by rw [env_gl]; exact hgl) hinv has h8 hfr
/-- THE THEOREM: a call that the machine over pure data answers by a bool, in n rounds and calls, the model answers so, and nothing that was there turns. -/
theorem calls_bool (hP : ProgOK P) {ext : FuncId → Option (List V → Option V)} {hm : FuncId → Bool} {gl : Nat → Option V} (hext : ExtOK P gl ext) {n : Nat} {f : FuncId} (hf : nobody P f = false) {as : List V} {b : Bool} (hx : (env P ext hm gl n).pl f as = some (.ret (.sc (.bool b))))
    {p : Pr} {vs : List Value} (hgl : GlOK P gl p) (hp : ∀ c o v, p c o = some v → w.cell? ⟨c, o, none⟩ = some v) (has : All2 (RepP P p) as vs) : Calls P f vs.toArray w fun e w' => e = .returned (.bool b) ∧ Below w.heap.size w w' := by
  refine ((env_ok hP hext n).pl f as _ hf hx p vs w (by rw [env_gl]; exact hgl) hp has).mono fun e w' he => ?_
  obtain ⟨v, p', rfl, hb, _, hr⟩ := he
  refine ⟨?_, hb⟩
  rcases hr with ⟨_, h⟩ | ⟨_, _, _, _, h, _⟩
  · cases h; rfl
  · cases h
end
end Go.Proofs.YtojbkakdhfmjmaaDoor.Vm
