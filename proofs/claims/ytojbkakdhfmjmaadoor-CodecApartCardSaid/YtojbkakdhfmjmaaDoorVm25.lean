/- Proved here: what is to hold after a text, told backwards; a loop's rule; a function by its text. Conditions: none. -/
import Derived.Test.YtojbkakdhfmjmaaDoorVm24
set_option linter.unusedVariables false
set_option linter.unusedSimpArgs false
namespace Go.Proofs.YtojbkakdhfmjmaaDoor.Vm
open Go.RowKit
def Ex.cs (e : Ex) (n q : Prop) : Prop := match e with | .norm => n | _ => q
def Ex.blk (e : Ex) (id : Nat) (n q : Prop) : Prop := match e with | .exit j => if j = id then n else q | _ => q
def W {α : Type} (o : Option α) (C : α → Prop) : Prop := ∃ r, o = some r ∧ C r
def WX (o : Option (Ex × Fr)) (Q : Ex → Fr → Prop) : Prop := ∃ e fr, o = some (e, fr) ∧ Q e fr
def WB (v : V) (p q : Prop) : Prop := match v with
  | .sc (.bool b) => (b = true → p) ∧ (b = false → q)
  | _ => False
def wg (tm : Nat → V) (d : Nat) (w : Bool) (u : V) (T F : (Nat → V) → Prop) : Prop := match u with
  | .sc (.bool b) => (b = w → T (upd tm d (.sc (.bool w)))) ∧ (b = !w → F (upd tm d (.sc (.bool !w))))
  | .sc _ => F tm
  | _ => False
section
variable (P : Program) (E : Env)
def wr (C : V → List (Nat × Option Ob) → List Nat → Prop) (B : V → St → Nat → Prop) (QP : V → Prop) (QB : V → St → Nat → Prop) : R → Prop
  | .val v δ rd => C v δ rd
  | .big v st nx => B v st nx
  | .pan v => QP v
  | .bpan v st nx => QB v st nx
def wops (tr : Bool) (Q : (Nat → V) → St → Nat → List Rec → Prop) (QP : V → St → Nat → Prop) : Nat → List KO → (Nat → V) → St → Nat → List Rec → Prop
  | _, [], tm, st, nx, acc => Q tm st nx acc.reverse
  | i0, ⟨d, none, k⟩ :: rest, tm, st, nx, acc =>
    W (kop P E tm st i0 nx k) (wr (fun v δ rd => wops tr Q QP (i0 + 8) rest (putT tm d v) (upds δ st) nx (if tr then ⟨v, δ, rd, none⟩ :: acc else acc))
      (fun v st1 nx1 => wops tr Q QP (i0 + 8) rest (putT tm d v) st1 nx1 (if tr then ⟨v, [], [], some st1⟩ :: acc else acc)) (fun v => QP v st nx) QP)
  | i0, ⟨d, some (g, w), k⟩ :: rest, tm, st, nx, acc =>
    wg tm g w (tm g)
      (fun tm => W (kop P E tm st i0 nx k) (wr (fun v δ rd => wops tr Q QP (i0 + 8) rest (putT tm d v) (upds δ st) nx (if tr then ⟨v, δ, rd, none⟩ :: acc else acc))
        (fun v st1 nx1 => wops tr Q QP (i0 + 8) rest (putT tm d v) st1 nx1 (if tr then ⟨v, [], [], some st1⟩ :: acc else acc)) (fun v => QP v st nx) QP))
      (fun tm => wops tr Q QP (i0 + 8) rest (putT tm d (.sc undef)) st nx (if tr then ⟨.sc undef, [], [], none⟩ :: acc else acc))
def wc : Y → (Ex → Fr → Prop) → Fr → Prop
  | .skip, Q, fr => Q .norm fr
  | .reg ops m none, Q, fr => wops P E false (fun tm st nx _ => Q .norm ⟨tm, st, nx⟩) (fun v st nx => Q (.pan v) ⟨fr.tm, st, nx⟩) fr.nx ops fr.tm fr.st (fr.nx + 8 * m) []
  | .reg ops m (some B), Q, fr => wops P E true (fun tm st nx rs => recsOk B rs = true ∧ Q .norm ⟨tm, st, nx⟩) (fun _ _ _ => False) fr.nx ops fr.tm fr.st (fr.nx + 8 * m) []
  | .bad, _, _ => False
  | .seq a b, Q, fr => wc a (fun e fr' => e.cs (wc b Q fr') (Q e fr')) fr
  | .cond c x y, Q, fr => WB (av fr.tm c) (wc x Q fr) (wc y Q fr)
  | .block id b, Q, fr => wc b (fun e fr' => e.blk id (Q .norm fr') (Q e fr')) fr
  | .loop b, Q, fr => WX (loopL (zcode P E b) fr) Q
  | .exit id, Q, fr => Q (.exit id) fr
  | .ret, Q, fr => Q .ret fr
end
section
variable {P : Program} {E : Env}
theorem upd_self {tm : Nat → V} {d : Nat} {v : V} (h : tm d = v) : upd tm d v = tm := by
  funext i; unfold upd; split
  · rename_i e; subst e; exact h.symm
  · rfl
theorem wops_ok {tr : Bool} {Q : (Nat → V) → St → Nat → List Rec → Prop} {QP : V → St → Nat → Prop} : ∀ {ops : List KO} {i0 : Nat} {tm : Nat → V} {st : St} {nx : Nat} {acc acc0 : List Rec}, (tr = true → acc0 = acc) → wops P E tr Q QP i0 ops tm st nx acc →
    (∃ tm' st' nx' rs rs', kops P E i0 ops tm st nx acc0 = some (.ok tm' st' nx' rs) ∧ Q tm' st' nx' rs' ∧ (tr = true → rs = rs')) ∨ (∃ v st' nx', kops P E i0 ops tm st nx acc0 = some (.pan v st' nx') ∧ QP v st' nx')
  | [], i0, tm, st, nx, acc, acc0, ha, h => .inl ⟨_, _, _, _, _, rfl, h, fun e => by rw [ha e]⟩
  | ⟨d, none, k⟩ :: rest, i0, tm, st, nx, acc, acc0, ha, h => by
    unfold wops at h
    obtain ⟨r, hr, h⟩ := h
    unfold kops
    simp only [kwant, hr]
    cases r with
    | val v δ rd => exact wops_ok (fun e => by rw [if_pos e, ha e]) h
    | big v s n => exact wops_ok (fun e => by rw [if_pos e, ha e]) h
    | pan v => exact .inr ⟨_, _, _, rfl, h⟩
    | bpan v s n => exact .inr ⟨_, _, _, rfl, h⟩
  | ⟨d, some (g, w), k⟩ :: rest, i0, tm, st, nx, acc, acc0, ha, h => by
    unfold wops at h
    unfold kops
    simp only [kwant]
    unfold wg at h
    split at h
    · rename_i b hb
      simp only [hb]
      cases hw : (b == w) with
      | true =>
        have hw : b = w := by simpa using hw
        subst hw
        have h := h.1 rfl
        rw [upd_self hb] at h
        obtain ⟨r, hr, h⟩ := h
        simp only [hr]
        cases r with
        | val v δ rd => exact wops_ok (fun e => by rw [if_pos e, ha e]) h
        | big v s n => exact wops_ok (fun e => by rw [if_pos e, ha e]) h
        | pan v => exact .inr ⟨_, _, _, rfl, h⟩
        | bpan v s n => exact .inr ⟨_, _, _, rfl, h⟩
      | false =>
        have hw : b = !w := by cases b <;> cases w <;> simp_all
        subst hw
        have h := h.2 rfl
        rw [upd_self hb] at h
        exact wops_ok (fun e => by rw [if_pos e, ha e]) h
    · rename_i u hne hb
      simp only [hb]
      exact wops_ok (fun e => by rw [if_pos e, ha e]) h
    · exact h.elim
theorem wc_ok : ∀ {c : Y} {Q : Ex → Fr → Prop} {fr : Fr}, wc P E c Q fr → WX (zcode P E c fr) Q
  | .skip, Q, fr, h => ⟨_, _, rfl, h⟩
  | .reg ops m none, Q, fr, h => by
    rcases wops_ok (acc0 := []) (fun _ => rfl) h with ⟨tm, st, nx, rs, rs', hk, hq, _⟩ | ⟨v, st, nx, hk, hq⟩
    · exact ⟨_, _, by simp only [zcode, hk, kend], hq⟩
    · exact ⟨_, _, by simp only [zcode, hk, kend], hq⟩
  | .reg ops m (some B), Q, fr, h => by
    rcases wops_ok (acc0 := []) (fun _ => rfl) h with ⟨tm, st, nx, rs, rs', hk, ⟨h1, hq⟩, e⟩ | ⟨v, st, nx, hk, hq⟩
    · obtain rfl := e rfl; exact ⟨_, _, by simp only [zcode, hk, kend, h1, if_true], hq⟩
    · exact hq.elim
  | .bad, _, _, h => h.elim
  | .seq a b, Q, fr, h => by
    obtain ⟨e, fr', h1, h2⟩ := wc_ok (c := a) h
    cases e with
    | norm =>
      obtain ⟨e, fr2, h3, h4⟩ := wc_ok (c := b) h2
      exact ⟨e, fr2, by simp only [zcode, h1]; exact h3, h4⟩
    | _ => exact ⟨_, _, by simp only [zcode, h1], h2⟩
  | .cond c x y, Q, fr, h => by
    unfold wc WB at h
    split at h
    · rename_i b hb
      cases b with
      | true => obtain ⟨e, fr', h1, h2⟩ := wc_ok (h.1 rfl); exact ⟨e, fr', by simp only [zcode, hb]; exact h1, h2⟩
      | false => obtain ⟨e, fr', h1, h2⟩ := wc_ok (h.2 rfl); exact ⟨e, fr', by simp only [zcode, hb]; exact h1, h2⟩
    · exact h.elim
  | .block id b, Q, fr, h => by
    obtain ⟨e, fr', h1, h2⟩ := wc_ok (c := b) h
    cases e with
    | «exit» j =>
      unfold Ex.blk at h2
      simp only at h2
      split at h2
      · rename_i hj; exact ⟨_, _, by simp only [zcode, h1, hj, if_true], h2⟩
      · rename_i hj; exact ⟨_, _, by simp only [zcode, h1, hj, if_false], h2⟩
    | _ => exact ⟨_, _, by simp only [zcode, h1], h2⟩
  | .loop b, Q, fr, h => h
  | .exit id, Q, fr, h => ⟨_, _, rfl, h⟩
  | .ret, Q, fr, h => ⟨_, _, rfl, h⟩
/-- A loop, by what holds ahead of each round and a number that falls. -/
theorem loop_wc {b : Y} {Q : Ex → Fr → Prop} (I : Nat → Fr → Prop) (step : ∀ n fr, I n fr → wc P E b (fun e fr' => e.cs (∃ m, m < n ∧ I m fr') (Q e fr')) fr) : ∀ (n : Nat) {fr : Fr}, I n fr → WX (loopL (zcode P E b) fr) Q := by
  intro n
  induction n using Nat.strongRecOn with
  | _ n ih =>
    intro fr h
    obtain ⟨e, fr', h1, h2⟩ := wc_ok (step n fr h)
    cases e with
    | norm =>
      obtain ⟨m, hm, h2⟩ := h2
      obtain ⟨e, fr2, h3, h4⟩ := ih m hm h2
      exact ⟨e, fr2, by rw [loopL_eq, h1]; exact h3, h4⟩
    | _ => exact ⟨_, _, by rw [loopL_eq, h1], h2⟩
/-- The rest of a text after what holds in between. -/
theorem wc_mono : ∀ {c : Y} {Q Q' : Ex → Fr → Prop} {fr : Fr}, WX (zcode P E c fr) Q → (∀ e fr, Q e fr → Q' e fr) → WX (zcode P E c fr) Q' := fun ⟨e, fr, h1, h2⟩ h => ⟨e, fr, h1, h _ _ h2⟩
theorem WX.mono {o : Option (Ex × Fr)} {Q Q' : Ex → Fr → Prop} (h : WX o Q) (k : ∀ e fr, Q e fr → Q' e fr) : WX o Q' := let ⟨e, fr, h1, h2⟩ := h; ⟨e, fr, h1, k _ _ h2⟩
def argT (as : List V) : Nat → V := fun t => as.getD t (.sc undef)
def kres1 (fr : Fr) : KR → Option V
  | .t n => some (fr.tm n)
  | .c a s => match fr.tm a with
    | .ptr id off => match fr.st id with
      | some (.cells cs) => kld s cs off
      | _ => none
    | _ => none
def kresL (fr : Fr) : List KR → Option (List V)
  | [] => some []
  | r :: rs => (kres1 fr r).bind fun v => (kresL fr rs).map fun vs => v :: vs
def kres (fr : Fr) : List KR → Option V
  | [r] => kres1 fr r
  | rs => (kresL fr rs).map .tup
/-- What a function's text comes to at its end. -/
def RQ (rs : List KR) (C : HR → Prop) (e : Ex) (fr : Fr) : Prop := match e with
  | .norm => W (kres fr rs) fun v => C (.ret v fr.st fr.nx)
  | .ret => W (kres fr rs) fun v => C (.ret v fr.st fr.nx)
  | .pan v => C (.pan v fr.st fr.nx)
  | .exit _ => False
def PQ (C : CR → Prop) : HR → Prop
  | .ret v st _ => W (fin st v) fun v => C (.ret v)
  | .pan v _ _ => W (finP v) fun v => C (.pan v)
theorem cres_ok {r : ResultVar} {k : KR} (h : cres P r = some k) (fr : Fr) : xres1 P fr r = kres1 fr k := by
  cases r with
  | tmp t => simp only [cres, Option.some.injEq] at h; subst h; rfl
  | cell a t =>
    simp only [cres, Option.map_eq_some_iff] at h
    obtain ⟨s, hs, rfl⟩ := h
    simp only [xres1, kres1, kty_ld hs] <;> rfl
theorem cresL_ok (fr : Fr) : ∀ {rs : List ResultVar} {ks : List KR}, rs.mapM (cres P) = some ks → rs.mapM (xres1 P fr) = kresL fr ks
  | [], ks, h => by simp at h; subst h; rfl
  | r :: rs, ks, h => by
    simp only [List.mapM_cons, Option.bind_eq_bind, Option.bind_eq_some_iff, Option.pure_def, Option.some.injEq] at h
    obtain ⟨k, hk, ks', hks, rfl⟩ := h
    simp only [List.mapM_cons, cres_ok hk, cresL_ok fr hks, kresL, Option.bind_eq_bind, Option.pure_def]
    cases kres1 fr k with
    | none => rfl
    | some v => simp only [Option.bind_some]; cases kresL fr ks' <;> rfl
theorem kres_ok (fr : Fr) {rs : List ResultVar} {ks : List KR} (h : rs.mapM (cres P) = some ks) : xres P fr rs = kres fr ks := by
  unfold xres
  rw [cresL_ok fr h]
  unfold kres
  split
  · simp only [kresL]
    cases kres1 fr _ <;> rfl
  · rename_i hne
    cases hl : kresL fr ks with
    | none => rfl
    | some vs =>
      simp only [Option.map_some]
      split
      · rename_i v
        exfalso
        cases ks with
        | nil => simp [kresL] at hl
        | cons k ks =>
          cases ks with
          | nil => exact hne _ rfl
          | cons k2 ks =>
            simp only [kresL, Option.bind_eq_some_iff, Option.map_eq_some_iff] at hl
            obtain ⟨_, _, vs, ⟨_, _, vs2, _, h1⟩, h2⟩ := hl
            subst h1
            simp at h2
      · rfl
variable {hm : FuncId → Bool} {gl : Nat → Option V} {ext : FuncId → Option (List V → Option V)}
theorem run_wc (hg : E.gl = gl) (hh : E.hm = hm) {fn : Func} {kf : KF} (hf : cmpF P hm gl fn = some kf) {as : List V} {st : St} {nx : Nat} {C : HR → Prop} (h : wc P E kf.b (RQ kf.rs C) ⟨argT as, st, nx⟩) : ∃ k r, xrun P E k fn as st nx = some r ∧ C r := by
  simp only [cmpF, Option.bind_eq_some_iff, Option.map_eq_some_iff] at hf
  obtain ⟨b, hb, rs, hrs, rfl⟩ := hf
  obtain ⟨e, fr, h1, h2⟩ := wc_ok h
  obtain ⟨k, hk⟩ := zcode_ok (N := as.length + (fn.ntmps - as.length)) hg hh (by omega) b h1
  refine ⟨k, ?_⟩
  have hk : xcode P E (as.length + (fn.ntmps - as.length)) k b ⟨fun t => as.getD t (.sc undef), st, nx⟩ = some (e, fr) := hk
  unfold xrun
  cases e with
  | norm => obtain ⟨v, hv, hc⟩ := h2; exact ⟨_, by simp only [hb, hk, kres_ok fr hrs, hv]; rfl, hc⟩
  | ret => obtain ⟨v, hv, hc⟩ := h2; exact ⟨_, by simp only [hb, hk, kres_ok fr hrs, hv]; rfl, hc⟩
  | pan v => exact ⟨_, by simp only [hb, hk], h2⟩
  | «exit» j => exact h2.elim
theorem hp_wc {f : FuncId} {kf : KF} (hf : (P.funcs[f]?).bind (cmpF P hm gl) = some kf) {as : List V} {st : St} {nx : Nat} {C : HR → Prop} (h : wc P (lim P ext hm gl) kf.b (RQ kf.rs C) ⟨argT as, st, nx⟩) : W ((lim P ext hm gl).hp f as st nx) C := by
  rw [Option.bind_eq_some_iff] at hf
  obtain ⟨fn, hfn, hf⟩ := hf
  obtain ⟨k, r, hr, hc⟩ := run_wc rfl rfl hf h
  exact ⟨r, hp_intro k hfn hr, hc⟩
theorem pl_wc {f : FuncId} {kf : KF} (he : ext f = none) (hf : (P.funcs[f]?).bind (cmpF P hm gl) = some kf) {as : List V} {C : CR → Prop} (h : wc P (lim P ext hm gl) kf.b (RQ kf.rs (PQ C)) ⟨argT as, fun _ => none, 8⟩) : W ((lim P ext hm gl).pl f as) C := by
  rw [Option.bind_eq_some_iff] at hf
  obtain ⟨fn, hfn, hf⟩ := hf
  obtain ⟨k, r, hr, hc⟩ := run_wc rfl rfl hf h
  cases r with
  | ret v st nx =>
    obtain ⟨v', hv, hc⟩ := hc
    exact ⟨_, pl_intro k he hfn (by simp only [xplain, hr, hv]; rfl), hc⟩
  | pan v st nx =>
    obtain ⟨v', hv, hc⟩ := hc
    exact ⟨_, pl_intro k he hfn (by simp only [xplain, hr, hv]; rfl), hc⟩
end
end Go.Proofs.YtojbkakdhfmjmaaDoor.Vm
