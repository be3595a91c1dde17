/- Proved here: text whose types are looked up beforehand, its loops without a count, answers what the machine's text answers. Conditions: none. -/
import Derived.Test.YtojbkakdhfmjmaaDoorVm23
set_option linter.unusedVariables false
set_option linter.unusedSimpArgs false
namespace Go.Proofs.YtojbkakdhfmjmaaDoor.Vm
open Go.RowKit
inductive Y where
  | skip
  | reg (ops : List KO) (m : Nat) (chk : Option (List Nat))
  | bad
  | seq (a b : Y)
  | cond (c : A) (x y : Y)
  | block (id : Nat) (b : Y)
  | loop (b : Y)
  | exit (id : Nat)
  | ret
inductive KR where
  | t (n : Nat)
  | c (a : Nat) (s : Option Nat)
structure KF where
  b : Y
  rs : List KR
section
variable (P : Program) (hm : FuncId → Bool) (gl : Nat → Option V)
def cg (ops : Array Oper) : Option (Nat × Bool) → Option (Option (Nat × Bool))
  | none => some none
  | some (j, w) => ((ops[j]?).bind (·.dst)).map fun d => some (d, w)
def cko (n : Nat) (ops : Array Oper) (o : Oper) : Option KO :=
  if dstOk n o.dst then (cg ops o.guard).map fun g => ⟨o.dst, g, ck P hm gl o.op o.type⟩ else none
def cmp (n : Nat) : Code → Y
  | .skip => .skip
  | .region _ ops draw => match ops.toList.mapM (cko P hm gl n ops) with
    | some ks => if draw then (if masksOk ops.toList (masks ops.toList []) && slotsOk ops (masks ops.toList []) then .reg ks ops.size (some (masks ops.toList [])) else .bad) else .reg ks ops.size none
    | none => .bad
  | .seq a b => .seq (cmp n a) (cmp n b)
  | .cond c x y => match ca gl c with
    | some c => .cond c (cmp n x) (cmp n y)
    | none => .bad
  | .block id b => .block id (cmp n b)
  | .loop b => .loop (cmp n b)
  | .exit id => .exit id
  | .ret => .ret
  | .label _ => .skip
  | _ => .bad
def cres : ResultVar → Option KR
  | .tmp t => some (.t t)
  | .cell a t => (kty P t).map fun s => .c a s
def cmpF (fn : Func) : Option KF := fn.body.bind fun b => (fn.results.toList.mapM (cres P)).map fun rs => ⟨cmp P hm gl fn.ntmps b, rs⟩
end
section
variable (P : Program) (E : Env)
def kwant (tm : Nat → V) : Option (Nat × Bool) → Option Bool
  | none => some true
  | some (d, w) => match tm d with
    | .sc (.bool b) => some (b == w)
    | .sc _ => some false
    | _ => none
def kops : Nat → List KO → (Nat → V) → St → Nat → List Rec → Option RR
  | _, [], tm, st, nx, acc => some (.ok tm st nx acc.reverse)
  | i0, o :: rest, tm, st, nx, acc =>
    match kwant tm o.g with
    | some true =>
      match kop P E tm st i0 nx o.k with
      | some (.val v δ rd) => kops (i0 + 8) rest (putT tm o.d v) (upds δ st) nx (⟨v, δ, rd, none⟩ :: acc)
      | some (.big v st1 nx1) => kops (i0 + 8) rest (putT tm o.d v) st1 nx1 (⟨v, [], [], some st1⟩ :: acc)
      | some (.pan v) => some (.pan v st nx)
      | some (.bpan v st1 nx1) => some (.pan v st1 nx1)
      | none => none
    | some false => kops (i0 + 8) rest (putT tm o.d (.sc undef)) st nx (⟨.sc undef, [], [], none⟩ :: acc)
    | none => none
def kend (chk : Option (List Nat)) (tm0 : Nat → V) : Option RR → Option (Ex × Fr)
  | some (.ok tm st nx recs) => match chk with
    | none => some (.norm, ⟨tm, st, nx⟩)
    | some B => if recsOk B recs then some (.norm, ⟨tm, st, nx⟩) else none
  | some (.pan v st nx) => match chk with
    | none => some (.pan v, ⟨tm0, st, nx⟩)
    | some _ => none
  | none => none
open Classical in
/-- A loop, however many rounds it takes. -/
noncomputable def loopL (f : Fr → Option (Ex × Fr)) (fr : Fr) : Option (Ex × Fr) := if h : ∃ r k, iter f k fr = some r then some (Classical.choose h) else none
noncomputable def zcode : Y → Fr → Option (Ex × Fr)
  | .skip, fr => some (.norm, fr)
  | .reg ops m chk, fr => kend chk fr.tm (kops P E fr.nx ops fr.tm fr.st (fr.nx + 8 * m) [])
  | .bad, _ => none
  | .seq a b, fr => match zcode a fr with
    | some (.norm, fr') => zcode b fr'
    | r => r
  | .cond c x y, fr => match av fr.tm c with
    | .sc (.bool b) => bif b then zcode x fr else zcode y fr
    | _ => none
  | .block id b, fr => match zcode b fr with
    | some (.exit j, fr') => if j = id then some (.norm, fr') else some (.exit j, fr')
    | r => r
  | .loop b, fr => loopL (zcode b) fr
  | .exit id, fr => some (.exit id, fr)
  | .ret, fr => some (.ret, fr)
end
theorem iter_mono {f : Fr → Option (Ex × Fr)} {k k' : Nat} {fr : Fr} {r : Ex × Fr} (hk : k ≤ k') (h : iter f k fr = some r) : iter f k' fr = some r := iter_le (fun _ _ h => h) hk h
theorem loopL_some {f : Fr → Option (Ex × Fr)} {fr : Fr} {r : Ex × Fr} : loopL f fr = some r ↔ ∃ k, iter f k fr = some r := by
  have uniq : ∀ {a b : Ex × Fr} {k l : Nat}, iter f k fr = some a → iter f l fr = some b → a = b := fun {a b k l} h1 h2 => by
    have h1 := iter_mono (Nat.le_max_left k l) h1
    have h2 := iter_mono (Nat.le_max_right k l) h2
    rw [h1] at h2; exact Option.some.inj h2
  unfold loopL
  constructor
  · intro h
    split at h
    · rename_i hq
      obtain ⟨k, hk⟩ := Classical.choose_spec hq
      simp only [Option.some.injEq] at h
      exact ⟨k, by rw [← h]; exact hk⟩
    · cases h
  · rintro ⟨k, hk⟩
    have hq : ∃ r k, iter f k fr = some r := ⟨r, k, hk⟩
    rw [dif_pos hq]
    obtain ⟨l, hl⟩ := Classical.choose_spec hq
    rw [uniq hl hk]
theorem loopL_eq (f : Fr → Option (Ex × Fr)) (fr : Fr) : loopL f fr = match f fr with | some (.norm, fr') => loopL f fr' | r => r := by
  have main : ∀ r, loopL f fr = some r ↔ (match f fr with | some (.norm, fr') => loopL f fr' | r => r) = some r := fun r => by
    rw [loopL_some]
    constructor
    · rintro ⟨k, hk⟩
      cases k with
      | zero => simp [iter] at hk
      | succ k =>
        unfold iter at hk
        split at hk
        · rename_i h1; simp only [h1]; exact loopL_some.mpr ⟨k, hk⟩
        · rename_i h1
          split
          · rename_i h2; exact absurd h2 (h1 _)
          · exact hk
    · intro h
      split at h
      · rename_i h1
        obtain ⟨k, hk⟩ := loopL_some.mp h
        exact ⟨k + 1, by unfold iter; simp only [h1]; exact hk⟩
      · rename_i h1
        refine ⟨1, ?_⟩
        unfold iter
        split
        · rename_i h2; exact absurd h2 (h1 _)
        · exact h
  cases h : loopL f fr with
  | some r => exact ((main r).mp h).symm
  | none =>
    cases h2 : (match f fr with | some (.norm, fr') => loopL f fr' | r => r) with
    | none => rfl
    | some r => rw [(main r).mpr h2] at h; cases h
section
variable {P : Program} {E : Env} {hm : FuncId → Bool} {gl : Nat → Option V}
def accd (acc : List Rec) : RR → RR
  | .ok tm st nx recs => .ok tm st nx (acc.reverse ++ recs)
  | p => p
theorem dstOk_le {n N : Nat} (h : n ≤ N) {d : Option Tmp} (hd : dstOk n d = true) : dstOk N d = true := by
  cases d with
  | none => rfl
  | some d => have hd : d < n := by simpa [dstOk] using hd
              show decide (d < N) = true
              rw [decide_eq_true_eq]; exact Nat.lt_of_lt_of_le hd h
theorem kops_ok (hg : E.gl = gl) (hh : E.hm = hm) {n N n0 : Nat} (hN : n ≤ N) {ops : Array Oper} : ∀ {rest : List Oper} {ks : List KO} {i : Nat} {tm : Nat → V} {st : St} {nx : Nat} {acc : List Rec} {rr : RR},
    rest.mapM (cko P hm gl n ops) = some ks → kops P E (n0 + 8 * i) ks tm st nx acc = some rr → ∃ rr', xops P E ops N n0 i rest tm st nx = some rr' ∧ rr = accd acc rr'
  | [], ks, i, tm, st, nx, acc, rr, hk, h => by
    simp at hk; subst hk
    simp only [kops, Option.some.injEq] at h
    exact ⟨_, rfl, by simp [accd, ← h]⟩
  | o :: rest, ks, i, tm, st, nx, acc, rr, hk, h => by
    simp only [List.mapM_cons, Option.bind_eq_bind, Option.bind_eq_some_iff, Option.pure_def, Option.some.injEq] at hk
    obtain ⟨k1, hk1, ks', hks, rfl⟩ := hk
    unfold cko at hk1
    split at hk1
    · rename_i hd
      rw [Option.map_eq_some_iff] at hk1
      obtain ⟨g, hgd, rfl⟩ := hk1
      have e : n0 + 8 * i + 8 = n0 + 8 * (i + 1) := by omega
      have hw : kwant tm g = xwant ops tm o := by
        unfold cg at hgd
        unfold xwant
        cases ho : o.guard with
        | none => simp only [ho, Option.some.injEq] at hgd; subst hgd; rfl
        | some p =>
          obtain ⟨j, w⟩ := p
          simp only [ho, Option.map_eq_some_iff] at hgd
          obtain ⟨d, hd, rfl⟩ := hgd
          simp only [hd]; rfl
      unfold xops
      rw [if_pos (dstOk_le hN hd)]
      unfold kops at h
      simp only [hw] at h
      split at h <;> rename_i hwv
      · simp only [hwv]
        split at h <;> rename_i hop
        · have hop := ck_ok hg hh hop
          rw [e] at h
          obtain ⟨rr', h1, h2⟩ := kops_ok hg hh hN hks h
          simp only [hop]
          rw [h1]
          cases rr' with
          | ok tm' st' nx' recs => exact ⟨_, rfl, by simp [h2, accd]⟩
          | pan v s x => exact ⟨_, rfl, h2⟩
        · have hop := ck_ok hg hh hop
          rw [e] at h
          obtain ⟨rr', h1, h2⟩ := kops_ok hg hh hN hks h
          simp only [hop]
          rw [h1]
          cases rr' with
          | ok tm' st' nx' recs => exact ⟨_, rfl, by simp [h2, accd]⟩
          | pan v s x => exact ⟨_, rfl, h2⟩
        · have hop := ck_ok hg hh hop
          simp only [hop]
          simp only [Option.some.injEq] at h
          exact ⟨_, rfl, h.symm⟩
        · have hop := ck_ok hg hh hop
          simp only [hop]
          simp only [Option.some.injEq] at h
          exact ⟨_, rfl, h.symm⟩
        · cases h
      · simp only [hwv]
        rw [e] at h
        obtain ⟨rr', h1, h2⟩ := kops_ok hg hh hN hks h
        rw [h1]
        cases rr' with
        | ok tm' st' nx' recs => exact ⟨_, rfl, by simp [h2, accd]⟩
        | pan v s x => exact ⟨_, rfl, h2⟩
      · cases h
    · cases hk1
theorem region_ok (hg : E.gl = gl) (hh : E.hm = hm) {n N : Nat} (hN : n ≤ N) {ops : Array Oper} {ks : List KO} (hk : ops.toList.mapM (cko P hm gl n ops) = some ks) {chk : Option (List Nat)} {draw : Bool} {fr : Fr} {res : Ex × Fr}
    (hc : if draw then (masksOk ops.toList (masks ops.toList []) && slotsOk ops (masks ops.toList [])) = true ∧ chk = some (masks ops.toList []) else chk = none)
    (h : kend chk fr.tm (kops P E fr.nx ks fr.tm fr.st (fr.nx + 8 * ops.size) []) = some res) : xregion P E N ops draw fr = some res := by
  unfold kend at h
  split at h
  · rename_i tm st nx recs hr
    obtain ⟨rr', h1, h2⟩ := kops_ok (n0 := fr.nx) (i := 0) hg hh hN hk hr
    cases rr' with
    | ok tm' st' nx' recs' =>
      simp only [accd, List.reverse_nil, List.nil_append, RR.ok.injEq] at h2
      obtain ⟨rfl, rfl, rfl, rfl⟩ := h2
      unfold xregion
      rw [h1]
      cases draw with
      | false =>
        simp only [Bool.false_eq_true, if_false] at hc ⊢
        subst hc
        exact h
      | true =>
        simp only [if_true, Bool.and_eq_true] at hc ⊢
        obtain ⟨⟨h3, h4⟩, rfl⟩ := hc
        simp only at h
        split at h
        · rename_i h5
          rw [if_pos ⟨⟨h3, h4⟩, h5⟩]; exact h
        · cases h
    | pan v s x => simp [accd] at h2
  · rename_i v st nx hr
    obtain ⟨rr', h1, h2⟩ := kops_ok (n0 := fr.nx) (i := 0) hg hh hN hk hr
    cases rr' with
    | ok tm' st' nx' recs' => simp [accd] at h2
    | pan v' s x =>
      simp only [accd, RR.pan.injEq] at h2
      obtain ⟨rfl, rfl, rfl⟩ := h2
      unfold xregion
      rw [h1]
      cases draw with
      | false =>
        simp only [Bool.false_eq_true, if_false] at hc ⊢
        subst hc
        exact h
      | true =>
        simp only [if_true] at hc
        obtain ⟨_, rfl⟩ := hc
        cases h
  · cases h
theorem zcode_ok (hg : E.gl = gl) (hh : E.hm = hm) {n N : Nat} (hN : n ≤ N) : ∀ (c : Code) {fr : Fr} {res : Ex × Fr}, zcode P E (cmp P hm gl n c) fr = some res → ∃ k, xcode P E N k c fr = some res := by
  intro c
  have le : ∀ {k k' : Nat} {c : Code} {fr : Fr} {r : Ex × Fr}, k ≤ k' → xcode P E N k c fr = some r → xcode P E N k' c fr = some r := fun h hx => xcode_le (Env.le.refl E) h _ hx
  induction c with
  | skip => intro fr res h; exact ⟨0, h⟩
  | region id ops draw =>
    intro fr res h
    refine ⟨0, ?_⟩
    simp only [cmp] at h
    split at h
    · rename_i ks hk
      cases draw with
      | true =>
        simp only [if_true] at h
        split at h
        · rename_i hc
          simp only [xcode]
          exact region_ok hg hh hN hk (by rw [if_pos rfl]; exact ⟨hc, rfl⟩) h
        · cases h
      | false =>
        simp only [xcode]
        exact region_ok hg hh hN hk (by simp) h
    · cases h
  | seq x y ihx ihy =>
    intro fr res h
    simp only [cmp, zcode] at h
    split at h
    · rename_i fr' h1
      obtain ⟨k, hk⟩ := ihx h1
      obtain ⟨l, hl⟩ := ihy h
      refine ⟨max k l, ?_⟩
      simp only [xcode, le (Nat.le_max_left k l) hk]
      exact le (Nat.le_max_right k l) hl
    · rename_i h1
      obtain ⟨k, hk⟩ := ihx h
      refine ⟨k, ?_⟩
      simp only [xcode, hk]
      split
      · rename_i h2; obtain rfl := Option.some.inj h2; exact absurd h (h1 _)
      · rfl
  | cond c x y ihx ihy =>
    intro fr res h
    simp only [cmp] at h
    split at h
    · rename_i a ha
      simp only [zcode] at h
      split at h
      · rename_i b hb
        cases b with
        | true => obtain ⟨k, hk⟩ := ihx h; exact ⟨k, by simp only [xcode, ca_ev hg ha, hb]; exact hk⟩
        | false => obtain ⟨k, hk⟩ := ihy h; exact ⟨k, by simp only [xcode, ca_ev hg ha, hb]; exact hk⟩
      · cases h
    · cases h
  | block id b ih =>
    intro fr res h
    simp only [cmp, zcode] at h
    split at h
    · rename_i j fr' h1
      obtain ⟨k, hk⟩ := ih h1
      exact ⟨k, by simp only [xcode, hk]; exact h⟩
    · rename_i h1
      obtain ⟨k, hk⟩ := ih h
      refine ⟨k, ?_⟩
      simp only [xcode, hk]
      split
      · rename_i h2; obtain rfl := Option.some.inj h2; exact absurd h (h1 _ _)
      · rfl
  | loop b ih =>
    intro fr res h
    simp only [cmp, zcode] at h
    obtain ⟨j, hj⟩ := loopL_some.mp h
    have main : ∀ (j : Nat) (fr : Fr), iter (zcode P E (cmp P hm gl n b)) j fr = some res → ∃ k, iter (xcode P E N k b) k fr = some res := by
      intro j
      induction j with
      | zero => intro fr h; simp [iter] at h
      | succ j ihj =>
        intro fr h
        unfold iter at h
        split at h
        · rename_i fr' h1
          obtain ⟨k, hk⟩ := ih h1
          obtain ⟨l, hl⟩ := ihj _ h
          refine ⟨max k l + 1, ?_⟩
          unfold iter
          rw [le (by omega : k ≤ max k l + 1) hk]
          exact iter_le (fun fr r q => le (by omega : l ≤ max k l + 1) q) (by omega) hl
        · rename_i h1
          obtain ⟨k, hk⟩ := ih h
          refine ⟨k + 1, ?_⟩
          unfold iter
          rw [le (by omega : k ≤ k + 1) hk]
          split
          · rename_i h2; obtain rfl := Option.some.inj h2; exact absurd h (h1 _)
          · rfl
    obtain ⟨k, hk⟩ := main j fr hj
    exact ⟨k, by simp only [xcode]; exact hk⟩
  | «exit» id => intro fr res h; exact ⟨0, h⟩
  | ret => intro fr res h; exact ⟨0, h⟩
  | label a => intro fr res h; exact ⟨0, h⟩
  | _ => intro fr res h; simp [cmp, zcode] at h
end
end Go.Proofs.YtojbkakdhfmjmaaDoor.Vm
