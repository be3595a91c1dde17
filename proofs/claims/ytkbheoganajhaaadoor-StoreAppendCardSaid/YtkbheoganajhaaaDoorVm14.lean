/- Proved here: a region of the machine over pure data, its order being drawn or not, is met by the model's region. Conditions: none. -/
import Derived.Test.YtkbheoganajhaaaDoorVm9
set_option linter.unusedVariables false
set_option linter.unusedSimpArgs false
namespace Go.Proofs.YtkbheoganajhaaaDoor.Vm
open Go.RowKit
section
variable {P : Program} {E : Env} {G G' : Gh} {st st' : St} {tm tm' tm0 : Nat → V} {st0 : St} {w w' : World} {a : Act} {N n0 nx nx' : Nat} {ops : Array Oper} {Q : Exit → Act → World → Prop}
theorem want_sound (ht : TmR P G N tm a) {o : Oper} {b : Bool} (h : xwant ops tm o = some b) : Region.wanted o (yielded ops a.tmps) = b := by
  unfold xwant at h
  unfold Region.wanted
  split at h
  · rename_i hg; rw [hg]; simpa using h
  · rename_i j wn hg
    rw [hg]
    simp only
    split at h
    · rename_i d hd
      have hr := ht.rep d
      have hy : yielded ops a.tmps j = match a.tmps[d]? with | some (.bool b) => some b | _ => none := by unfold yielded; rw [hd]; rfl
      rw [hy]
      rw [Array.getD_eq_getD_getElem?] at hr
      split at h
      · rename_i b' hb
        rw [hb] at hr
        have e := hr.sc_inv
        cases hq : a.tmps[d]? with
        | none => rw [hq] at e; simp [undef] at e
        | some v =>
          rw [hq] at e
          simp at e
          subst e
          simp at h
          subst h
          cases b' <;> cases wn <;> rfl
      · rename_i v hb hv
        rw [hv] at hr
        have e := hr.sc_inv
        obtain rfl := Option.some.inj h
        cases hq : a.tmps[d]? with
        | none => rfl
        | some u =>
          rw [hq] at e
          simp at e
          subst e
          cases u <;> first | rfl | exact absurd rfl (hb _)
      · cases h
    · cases h
/-! ### What has been done so far -/
def tmAt (d : Nat → Option Tmp) (v : Nat → V) (b : Nat → Bool) (tm0 : Nat → V) : Nat → Nat → V
  | 0 => tm0
  | j + 1 => if b j then putT (tmAt d v b tm0 j) (d j) (v j) else tmAt d v b tm0 j
def stAt (δ : Nat → List (Nat × Option Ob)) (b : Nat → Bool) (st0 : St) : Nat → St
  | 0 => st0
  | j + 1 => if b j then upds (δ j) (stAt δ b st0 j) else stAt δ b st0 j
theorem putT_get (f : Nat → V) (d : Option Tmp) (v : V) (t : Nat) : putT f d v t = if d = some t then v else f t := by
  cases d with
  | none => simp [putT]
  | some k => simp only [putT, upd, Option.some.injEq]; by_cases h : t = k <;> simp [h, eq_comm]
theorem tmAt_agree {d : Nat → Option Tmp} {v : Nat → V} {b b' : Nat → Bool} {t : Nat} : ∀ {n : Nat}, (∀ j, j < n → b j ≠ b' j → d j ≠ some t) → tmAt d v b tm0 n t = tmAt d v b' tm0 n t
  | 0, _ => rfl
  | n + 1, h => by
    have ih := tmAt_agree (v := v) (n := n) fun j hj => h j (by omega)
    simp only [tmAt]
    by_cases hb : b n = b' n
    · rw [hb]
      split
      · rw [putT_get, putT_get, ih]
      · exact ih
    · have hd := h n (by omega) hb
      split <;> split <;> simp only [putT_get, if_neg hd, ih]
theorem upds_notin {α : Type} {δ : List (Nat × α)} {f : Nat → α} {k : Nat} (h : k ∉ δ.map (·.1)) : upds δ f k = f k := by
  induction δ generalizing f with
  | nil => rfl
  | cons p δ ih =>
    simp only [List.map_cons, List.mem_cons, not_or] at h
    show upds δ (upd f p.1 p.2) k = f k
    rw [ih h.2]; simp [upd, h.1]
theorem upds_in {α : Type} {δ : List (Nat × α)} {f g : Nat → α} {k : Nat} (h : k ∈ δ.map (·.1)) : upds δ f k = upds δ g k := by
  induction δ generalizing f g with
  | nil => simp at h
  | cons p δ ih =>
    show upds δ (upd f p.1 p.2) k = upds δ (upd g p.1 p.2) k
    by_cases hk : k ∈ δ.map (·.1)
    · exact ih hk
    · rw [upds_notin hk, upds_notin hk]
      simp only [List.map_cons, List.mem_cons] at h
      rcases h with h | h
      · simp [upd, h]
      · exact absurd h hk
theorem stAt_agree {δ : Nat → List (Nat × Option Ob)} {b b' : Nat → Bool} {k : Nat} : ∀ {n : Nat}, (∀ j, j < n → b j ≠ b' j → k ∉ (δ j).map (·.1)) → stAt δ b st0 n k = stAt δ b' st0 n k
  | 0, _ => rfl
  | n + 1, h => by
    have ih := stAt_agree (n := n) fun j hj => h j (by omega)
    simp only [stAt]
    have go : ∀ (f g : St), f k = g k → upds (δ n) f k = upds (δ n) g k := fun f g e => by
      by_cases hk : k ∈ (δ n).map (·.1)
      · exact upds_in hk
      · rw [upds_notin hk, upds_notin hk]; exact e
    by_cases hb : b n = b' n
    · rw [hb]
      split
      · exact go _ _ ih
      · exact ih
    · have hd := h n (by omega) hb
      split <;> split <;> simp only [upds_notin hd, ih]
def upB (b : Nat → Bool) (i : Nat) : Nat → Bool := fun j => if j = i then true else b j
theorem tmAt_insert {d : Nat → Option Tmp} {v : Nat → V} {b : Nat → Bool} {i : Nat} (hi : b i = false) : ∀ {n : Nat}, i < n → (∀ j, i < j → j < n → b j = true → ∀ t, d i = some t → d j ≠ some t) →
    tmAt d v (upB b i) tm0 n = putT (tmAt d v b tm0 n) (d i) (v i)
  | 0, h, _ => by omega
  | n + 1, h, hd => by
    funext t
    by_cases hin : i = n
    · subst hin
      simp only [tmAt, show upB b i i = true by simp [upB], if_true, hi, Bool.false_eq_true, if_false]
      rw [putT_get, putT_get]
      have := tmAt_agree (d := d) (v := v) (tm0 := tm0) (b := upB b i) (b' := b) (t := t) (n := i) fun j hj hne => absurd (by simp [upB, Nat.ne_of_lt hj]) hne
      rw [this]
    · have ih := tmAt_insert (d := d) (v := v) hi (n := n) (by omega) fun j h1 h2 => hd j h1 (by omega)
      have hb : upB b i n = b n := by simp [upB]; intro e; exact absurd e.symm hin
      simp only [tmAt, hb]
      by_cases hbn : b n = true
      · rw [if_pos hbn, if_pos hbn, ih]
        simp only [putT_get]
        by_cases h1 : d n = some t
        · rw [if_pos h1]
          by_cases h2 : d i = some t
          · exact absurd h1 (hd n (by omega) (by omega) hbn t h2)
          · rw [if_neg h2, if_pos h1]
        · rw [if_neg h1]
          by_cases h2 : d i = some t
          · rw [if_pos h2, if_pos h2]
          · rw [if_neg h2, if_neg h2, if_neg h1]
      · rw [if_neg hbn, if_neg hbn, ih]
theorem stAt_insert {δ : Nat → List (Nat × Option Ob)} {b : Nat → Bool} {i : Nat} (hi : b i = false) : ∀ {n : Nat}, i < n → (∀ j, i < j → j < n → b j = true → ∀ k, k ∈ (δ i).map (·.1) → k ∉ (δ j).map (·.1)) →
    stAt δ (upB b i) st0 n = upds (δ i) (stAt δ b st0 n)
  | 0, h, _ => by omega
  | n + 1, h, hd => by
    funext k
    by_cases hin : i = n
    · subst hin
      simp only [stAt, show upB b i i = true by simp [upB], if_true, hi, Bool.false_eq_true, if_false]
      by_cases hk : k ∈ (δ i).map (·.1)
      · exact upds_in hk
      · rw [upds_notin hk, upds_notin hk]
        have := stAt_agree (δ := δ) (st0 := st0) (b := upB b i) (b' := b) (k := k) (n := i) fun j hj hne => absurd (by simp [upB, Nat.ne_of_lt hj]) hne
        exact this
    · have ih := stAt_insert (δ := δ) hi (n := n) (by omega) fun j h1 h2 => hd j h1 (by omega)
      have hb : upB b i n = b n := by simp [upB]; intro e; exact absurd e.symm hin
      simp only [stAt, hb]
      by_cases hbn : b n = true
      · rw [if_pos hbn, if_pos hbn, ih]
        by_cases h1 : k ∈ (δ n).map (·.1)
        · by_cases h2 : k ∈ (δ i).map (·.1)
          · exact absurd h1 (hd n (by omega) (by omega) hbn k h2)
          · rw [upds_notin h2]; exact upds_in h1
        · rw [upds_notin h1]
          by_cases h2 : k ∈ (δ i).map (·.1)
          · exact upds_in h2
          · rw [upds_notin h2, upds_notin h2, upds_notin h1]
      · rw [if_neg hbn, if_neg hbn, ih]
/-! ### The run in the order of the text -/
def Fact (P : Program) (E : Env) (ops : Array Oper) (N n0 nx : Nat) (recs : List Rec) (tm0 : Nat → V) (st0 : St) (j : Nat) : Prop :=
  ∃ o, ops[j]? = some o ∧ dstOk N o.dst = true ∧
    ((xwant ops (tmAt (dF ops) (vF recs) (fun _ => true) tm0 j) o = some true ∧ xop P E (tmAt (dF ops) (vF recs) (fun _ => true) tm0 j) (stAt (δF recs) (fun _ => true) st0 j) (n0 + 8 * j) nx o = some (.val (vF recs j) (δF recs j) (rF recs j))) ∨
     (xwant ops (tmAt (dF ops) (vF recs) (fun _ => true) tm0 j) o = some false ∧ vF recs j = .sc undef ∧ δF recs j = [] ∧ rF recs j = []))
theorem drop_cons {α : Type} {l : List α} {i : Nat} {x : α} {r : List α} (h : l.drop i = x :: r) : l[i]? = some x ∧ l.drop (i + 1) = r := by
  have hlt : i < l.length := by
    rcases Nat.lt_or_ge i l.length with q | q
    · exact q
    · rw [List.drop_eq_nil_of_le q] at h; cases h
  rw [List.drop_eq_getElem_cons hlt] at h
  simp only [List.cons.injEq] at h
  exact ⟨by rw [List.getElem?_eq_getElem hlt, h.1], h.2⟩
theorem facts {recs : List Rec} (hbig : recs.all (fun r => r.big.isNone) = true) : ∀ {rest : List Oper} {i : Nat} {tm : Nat → V} {st : St}, ops.toList.drop i = rest → i ≤ ops.size → xops P E ops N n0 i rest tm st nx = some (.ok tm' st' nx' (recs.drop i)) →
    tm = tmAt (dF ops) (vF recs) (fun _ => true) tm0 i → st = stAt (δF recs) (fun _ => true) st0 i → i ≤ recs.length →
    nx' = nx ∧ recs.length = ops.size ∧ tm' = tmAt (dF ops) (vF recs) (fun _ => true) tm0 ops.size ∧ st' = stAt (δF recs) (fun _ => true) st0 ops.size ∧ ∀ j, i ≤ j → j < ops.size → Fact P E ops N n0 nx recs tm0 st0 j
  | [], i, tm, st, hd, hi, h, ht, hs, hir => by
    simp only [xops, Option.some.injEq, RR.ok.injEq] at h
    obtain ⟨h1, h2, h3, h4⟩ := h
    have hisz : ops.size ≤ i := by
      have := List.drop_eq_nil_iff.1 hd
      simpa using this
    have hrec : recs.length ≤ i := List.drop_eq_nil_iff.1 h4.symm
    have : i = ops.size := by omega
    subst this
    exact ⟨h3.symm, by omega, by rw [← h1]; exact ht, by rw [← h2]; exact hs, fun j _ _ => by omega⟩
  | o :: rest, i, tm, st, hd, hi, h, ht, hs, hir => by
    obtain ⟨ho, hd'⟩ := drop_cons hd
    have ho' : ops[i]? = some o := by simpa using ho
    have hlt : i < ops.size := (Array.getElem?_eq_some_iff.1 ho').1
    have hdF : dF ops i = o.dst := by simp [dF, ho']
    unfold xops at h
    split at h
    · rename_i hdst
      have step : ∀ {v : V} {δ : List (Nat × Option Ob)} {rd : List Nat} {recs' : List Rec}, recs.drop i = ⟨v, δ, rd, none⟩ :: recs' → vF recs i = v ∧ δF recs i = δ ∧ rF recs i = rd ∧ recs.drop (i + 1) = recs' ∧ i + 1 ≤ recs.length := fun {v δ rd recs'} hr => by
        obtain ⟨h1, h2⟩ := drop_cons hr
        exact ⟨by simp [vF, h1], by simp [δF, h1], by simp [rF, h1], h2, (List.getElem?_eq_some_iff.1 h1).1⟩
      split at h
      · rename_i hw
        split at h
        · rename_i v δ rd hx
          split at h
          · rename_i tm1 st1 nx1 recs' hr
            simp only [Option.some.injEq, RR.ok.injEq] at h
            obtain ⟨h1, h2, h3, h4⟩ := h
            obtain ⟨e1, e2, e3, e4, e5⟩ := step h4.symm
            rw [h1, h2, h3] at hr
            obtain ⟨k1, k2, k3, k4, k5⟩ := facts hbig (i := i + 1) hd' hlt (by rw [e4]; exact hr) (by simp only [tmAt, if_true, hdF, e1, ht]) (by simp only [stAt, if_true, e2, hs]) e5
            refine ⟨k1, k2, k3, k4, fun j hj hjs => ?_⟩
            by_cases hji : j = i
            · subst hji
              exact ⟨o, ho', hdst, .inl ⟨by rw [← ht]; exact hw, by rw [← ht, ← hs, e1, e2, e3]; exact hx⟩⟩
            · exact k5 j (by omega) hjs
          · rename_i hne; exact absurd h (fun h => hne _ _ _ _ h)
        · rename_i v st1 nx1 hx
          split at h
          · simp only [Option.some.injEq, RR.ok.injEq] at h
            obtain ⟨h1, h2, h3, h4⟩ := h
            obtain ⟨h5, _⟩ := drop_cons h4.symm
            have := List.all_eq_true.1 hbig _ (List.mem_of_getElem? h5)
            simp at this
          · rename_i hne; exact absurd h (fun h => hne _ _ _ _ h)
        · cases h
        · cases h
        · cases h
      · rename_i hw
        split at h
        · rename_i tm1 st1 nx1 recs' hr
          simp only [Option.some.injEq, RR.ok.injEq] at h
          obtain ⟨h1, h2, h3, h4⟩ := h
          obtain ⟨e1, e2, e3, e4, e5⟩ := step h4.symm
          rw [h1, h2, h3] at hr
          obtain ⟨k1, k2, k3, k4, k5⟩ := facts hbig (i := i + 1) hd' hlt (by rw [e4]; exact hr) (by simp only [tmAt, if_true, hdF, e1, ht]) (by simp only [stAt, if_true, e2, hs]; rfl) e5
          refine ⟨k1, k2, k3, k4, fun j hj hjs => ?_⟩
          by_cases hji : j = i
          · subst hji
            exact ⟨o, ho', hdst, .inr ⟨by rw [← ht]; exact hw, e1, e2, e3⟩⟩
          · exact k5 j (by omega) hjs
        · rename_i hne; exact absurd h (fun h => hne _ _ _ _ h)
      · cases h
    · cases h
end
end Go.Proofs.YtkbheoganajhaaaDoor.Vm
set_option linter.unusedVariables false
set_option linter.unusedSimpArgs false
namespace Go.Proofs.YtkbheoganajhaaaDoor.Vm
open Go.RowKit
section
variable {P : Program} {S : Nat → Prop} {E : Env} {G G' : Gh} {st st' : St} {tm tm' tm0 : Nat → V} {st0 : St} {w w' : World} {a : Act} {N n0 nx nx' : Nat} {ops : Array Oper} {Q : Exit → Act → World → Prop}
theorem tmAt_trunc {d : Nat → Option Tmp} {v : Nat → V} {i : Nat} : ∀ {n : Nat}, i ≤ n → tmAt d v (fun j => decide (j < i)) tm0 n = tmAt d v (fun _ => true) tm0 i
  | 0, h => by have : i = 0 := by omega
               subst this; rfl
  | n + 1, h => by
    by_cases hi : i ≤ n
    · simp only [tmAt]
      rw [if_neg (by simpa using hi)]
      exact tmAt_trunc hi
    · have : i = n + 1 := by omega
      subst this
      simp only [tmAt]
      rw [if_pos (by simp)]
      congr 1
      funext t
      exact tmAt_agree fun j hj hne => absurd (by simp; omega) hne
theorem stAt_trunc {δ : Nat → List (Nat × Option Ob)} {i : Nat} : ∀ {n : Nat}, i ≤ n → stAt δ (fun j => decide (j < i)) st0 n = stAt δ (fun _ => true) st0 i
  | 0, h => by have : i = 0 := by omega
               subst this; rfl
  | n + 1, h => by
    by_cases hi : i ≤ n
    · simp only [stAt]
      rw [if_neg (by simpa using hi)]
      exact stAt_trunc hi
    · have : i = n + 1 := by omega
      subst this
      simp only [stAt]
      rw [if_pos (by simp)]
      congr 1
      funext t
      exact stAt_agree fun j hj hne => absurd (by simp; omega) hne
/-! ### What stands ahead of what -/
theorem mask1_bit {B : List Nat} : ∀ {es : List Nat} {s i : Nat}, (es.foldl (fun s e => s ||| 2 ^ e ||| B.getD e 0) s).testBit i = true → s.testBit i = true ∨ ∃ e ∈ es, e = i ∨ (B.getD e 0).testBit i = true
  | [], s, i, h => .inl h
  | e :: es, s, i, h => by
    rcases mask1_bit (es := es) h with h | ⟨e', he, h⟩
    · simp only [Nat.testBit_or, Bool.or_eq_true] at h
      rcases h with (h | h) | h
      · exact .inl h
      · refine .inr ⟨e, by simp, .inl ?_⟩
        rw [Nat.testBit_two_pow] at h; simpa using h
      · exact .inr ⟨e, by simp, .inr h⟩
    · exact .inr ⟨e', by simp [he], h⟩
theorem masksOk_at {os : List Oper} {B : List Nat} (h : masksOk os B = true) {d : Nat} {o : Oper} (ho : os[d]? = some o) : (∀ e ∈ edges o, e < d) ∧ B.getD d 0 = mask1 B (edges o) := by
  have := List.all_eq_true.1 h d (List.mem_range.2 (List.getElem?_eq_some_iff.1 ho).1)
  rw [ho] at this
  simp only [Bool.and_eq_true, beq_iff_eq] at this
  exact ⟨fun e he => by simpa using List.all_eq_true.1 this.1 e he, this.2⟩
/-- b holds what each of its members waits for. -/
def Closed (ops : Array Oper) (b : Nat → Bool) : Prop := ∀ j o, ops[j]? = some o → b j = true → ∀ e ∈ edges o, b e = true
theorem ord_in {B : List Nat} (hB : masksOk ops.toList B = true) {b : Nat → Bool} (hc : Closed ops b) : ∀ (n j : Nat), j < n → ∀ o, ops[j]? = some o → (∀ e ∈ edges o, b e = true) → ∀ i, ordB B i j = true → b i = true
  | 0, j, h, _, _, _, _, _ => by omega
  | n + 1, j, h, o, ho, hp, i, hi => by
    obtain ⟨h1, h2⟩ := masksOk_at hB (by simpa using ho)
    unfold ordB at hi
    rw [h2] at hi
    unfold mask1 at hi
    rcases mask1_bit hi with hi | ⟨e, he, rfl | hi⟩
    · simp at hi
    · exact hp _ he
    · have hlt := h1 e he
      have hej : j < ops.size := (Array.getElem?_eq_some_iff.1 ho).1
      have heo : ops[e]? = some ops[e] := Array.getElem?_eq_getElem (by omega)
      exact ord_in hB hc n e (by omega) _ heo (hc e _ heo (hp e he)) i hi
theorem slots_at {B : List Nat} (h : slotsOk ops B = true) {i j : Nat} {x y : Oper} (hij : i < j) (hx : ops[i]? = some x) (hy : ops[j]? = some y) : ordB B i j = true ∨ x.apart ops y = true := by
  unfold slotsOk at h
  simp only [Bool.and_eq_true] at h
  have h1 := List.all_eq_true.1 h.2 j (List.mem_range.2 (Array.getElem?_eq_some_iff.1 hy).1)
  have h2 := List.all_eq_true.1 h1 i (List.mem_range.2 hij)
  rw [hx, hy] at h2
  simpa using h2
theorem recs_at {B : List Nat} {recs : List Rec} (h : recsOk B recs = true) {i j : Nat} (hij : i < j) (hj : j < recs.length) : ordB B i j = true ∨ ((∀ k, k ∈ (δF recs i).map (·.1) → k ∉ rF recs j ∧ k ∉ (δF recs j).map (·.1)) ∧ ∀ k, k ∈ rF recs i → k ∉ (δF recs j).map (·.1)) := by
  unfold recsOk at h
  simp only [Bool.and_eq_true] at h
  have h1 := List.all_eq_true.1 h.2 j (List.mem_range.2 hj)
  have hyj : recs[j]? = some recs[j] := List.getElem?_eq_getElem hj
  have hxi : recs[i]? = some recs[i] := List.getElem?_eq_getElem (by omega)
  rw [hyj] at h1
  simp only [Bool.or_eq_true, Bool.and_eq_true] at h1
  have e1 : δF recs i = recs[i].δ := by simp [δF, hxi]
  have e2 : δF recs j = recs[j].δ := by simp [δF, hyj]
  have e3 : rF recs i = recs[i].rd := by simp [rF, hxi]
  have e4 : rF recs j = recs[j].rd := by simp [rF, hyj]
  rw [e1, e2, e3, e4]
  rcases h1 with ⟨h2, h3⟩ | h1
  · right
    have h2' : recs[j].rd = [] := by simpa using h2
    have h3' : recs[j].δ = [] := by simpa using h3
    rw [h2', h3']; simp
  · have h2 := List.all_eq_true.1 h1 i (List.mem_range.2 hij)
    rw [hxi] at h2
    simp only [Bool.or_eq_true] at h2
    rcases h2 with h2 | h2
    · exact .inl h2
    · right
      simp only [Rec.free, Bool.and_eq_true, disj, Rec.wr] at h2
      refine ⟨fun k hk => ?_, fun k hk => ?_⟩
      · have := List.all_eq_true.1 h2.1 k hk
        simp at this ⊢
        exact this
      · have := List.all_eq_true.1 h2.2 k hk
        simp at this ⊢
        exact this
/-- What is owed behind a region, or any code. -/
def Post (P : Program) (S : Nat → Prop) (G : Gh) (n0 N : Nat) (Q : Exit → Act → World → Prop) : Ex × Fr → Prop
  | (.norm, fr) => ∀ G' a' w', G.le G' → Same G G' (fun k => n0 ≤ k ∧ k < fr.nx) → n0 ≤ fr.nx → Inv P G' fr.st w' → TmR P G' N fr.tm a' → Q .normal a' w'
  | (.exit id, fr) => ∀ G' a' w', G.le G' → Same G G' (fun k => n0 ≤ k ∧ k < fr.nx) → n0 ≤ fr.nx → Inv P G' fr.st w' → TmR P G' N fr.tm a' → Q (.exit id) a' w'
  | (.ret, fr) => ∀ G' a' w', G.le G' → Same G G' (fun k => n0 ≤ k ∧ k < fr.nx) → n0 ≤ fr.nx → Inv P G' fr.st w' → TmR P G' N fr.tm a' → Q .ret a' w'
  | (.pan v, fr) => ∀ G' a' w' u, G.le G' → Same G G' (fun k => n0 ≤ k ∧ k < fr.nx) → n0 ≤ fr.nx → Inv P G' fr.st w' → a'.defers = G.w0.2 → (∀ t, S t → Rep P G' (fr.tm t) (a'.tmps.getD t undef)) → Rep P G' v u → Q (.panic [{ v := u, recovered := false }]) a' w'
theorem ev_same {o : Oper} (h : ∀ t ∈ o.looksAt ops, tm' t = tm t) : ∀ x ∈ o.op.operands, ev E tm' x = ev E tm x := fun x hx => by
  cases x with
  | tmp t =>
    simp only [ev]
    rw [h t]
    unfold Oper.looksAt
    refine List.mem_append_left _ (List.mem_filterMap.2 ⟨.tmp t, by simpa using hx, rfl⟩)
  | _ => rfl
theorem want_same {o : Oper} (h : ∀ t ∈ o.looksAt ops, tm' t = tm t) : xwant ops tm' o = xwant ops tm o := by
  unfold xwant
  split
  · rfl
  · rename_i j wn hg
    split
    · rename_i d hd
      rw [h d]
      unfold Oper.looksAt
      refine List.mem_append_right _ ?_
      rw [hg]; simp [hd]
    · rfl
theorem getD_tf {l : Array Bool} {j : Nat} : l.getD j true = false ↔ j < l.size ∧ l.getD j false = false := by
  simp only [Array.getD_eq_getD_getElem?]
  cases h : l[j]? with
  | none =>
    have := Array.getElem?_eq_none_iff.1 h
    simp
    omega
  | some b =>
    have := (Array.getElem?_eq_some_iff.1 h).1
    simp [this]
theorem countP_less {α : Type} {p p' : α → Bool} : ∀ {l : List α}, (∀ x ∈ l, p' x = true → p x = true) → (∃ x ∈ l, p x = true ∧ p' x = false) → l.countP p' < l.countP p
  | [], _, ⟨_, h, _⟩ => by cases h
  | x :: l, h, ⟨y, hy, h1, h2⟩ => by
    have hle : l.countP p' ≤ l.countP p := List.countP_mono_left fun z hz => h z (by simp [hz])
    rw [List.countP_cons, List.countP_cons]
    rcases List.mem_cons.1 hy with rfl | hy
    · simp [h1, h2]; omega
    · have := countP_less (fun z hz => h z (by simp [hz])) ⟨y, hy, h1, h2⟩
      have hx := h x (by simp)
      by_cases hp : p' x = true
      · simp [hp, hx hp]; omega
      · simp [hp]; omega
theorem tmAt_none {d : Nat → Option Tmp} {v : Nat → V} {b : Nat → Bool} (h : ∀ j, b j = false) : ∀ {n : Nat}, tmAt d v b tm0 n = tm0
  | 0 => rfl
  | n + 1 => by simp only [tmAt]; rw [h n]; exact tmAt_none h
theorem stAt_none {δ : Nat → List (Nat × Option Ob)} {b : Nat → Bool} (h : ∀ j, b j = false) : ∀ {n : Nat}, stAt δ b st0 n = st0
  | 0 => rfl
  | n + 1 => by simp only [stAt]; rw [h n]; exact stAt_none h
theorem region_draw (hP : ProgOK P) (hE : EnvOK P E) (hgl : GlOK P E.gl G.pr) {id : Nat} {recs : List Rec} (hinv : Inv P G st0 w) (ht : TmR P G N tm0 a) (hfr0 : Fresh G (fun k => n0 ≤ k)) (h8 : 8 ≤ n0) {B : List Nat}
    (hB : masksOk ops.toList B = true) (hS : slotsOk ops B = true) (hR : recsOk B recs = true) (hx : xops P E ops N n0 0 ops.toList tm0 st0 (n0 + 8 * ops.size) = some (.ok tm' st' nx' recs))
    (hK : Post P S G n0 N Q (.norm, ⟨tm', st', nx'⟩)) : (Code.region id ops true).wp P Q a w := by
  have hbig : recs.all (fun r => r.big.isNone) = true := by unfold recsOk at hR; simp only [Bool.and_eq_true] at hR; exact hR.1
  obtain ⟨rfl, hlen, htm, hst, hF⟩ := facts (ops := ops) (rest := ops.toList) (i := 0) (tm := tm0) (st := st0) (tm0 := tm0) (st0 := st0) (recs := recs) hbig rfl (Nat.zero_le _) (by rw [List.drop_zero]; exact hx) rfl rfl (Nat.zero_le _)
  refine wp_region_any hP.mix ?_
  have key : ∀ (fuel : Nat) (listed : Array Bool) (G' : Gh) (a : Act) (w : World), listed.size = ops.size → ((List.range ops.size).countP fun j => !listed.getD j false) ≤ fuel → Closed ops (fun j => listed.getD j false) → G.le G' → Same G G' (fun k => n0 ≤ k ∧ k < n0 + 8 * ops.size) →
      Inv P G' (stAt (δF recs) (fun j => listed.getD j false) st0 ops.size) w → TmR P G' N (tmAt (dF ops) (vF recs) (fun j => listed.getD j false) tm0 ops.size) a → (∀ j, j < ops.size → listed.getD j false = false → Fresh G' (R8 (n0 + 8 * j))) →
      wpAny P .any ops Q fuel listed a w := by
    intro fuel
    induction fuel with
    | zero =>
      intro listed G' a w hsz hcnt hcl hle hsame hinv ht hfr
      have hall : ∀ j, j < ops.size → listed.getD j false = true := fun j hj => by
        have := List.countP_eq_zero.1 (Nat.le_zero.1 hcnt) j (List.mem_range.2 hj)
        simpa using this
      have e1 : tmAt (dF ops) (vF recs) (fun j => listed.getD j false) tm0 ops.size = tm' := by
        rw [htm]; funext t; exact tmAt_agree fun j hj hne => absurd (hall j hj) hne
      have e2 : stAt (δF recs) (fun j => listed.getD j false) st0 ops.size = st' := by
        rw [hst]; funext t; exact stAt_agree fun j hj hne => absurd (hall j hj) hne
      rw [e1] at ht; rw [e2] at hinv
      refine ⟨?_, hK G' a w hle hsame (by show n0 ≤ n0 + 8 * ops.size; omega) hinv ht⟩
      rw [List.eq_nil_iff_forall_not_mem]
      intro j hj
      obtain ⟨h1, h2⟩ := getD_tf.1 (mem_ready.1 hj).1
      rw [hall j (by omega)] at h2; cases h2
    | succ fuel ih =>
      intro listed G' a w hsz hcnt hcl hle hsame hinv ht hfr
      refine ⟨fun hnil => ?_, fun i hi => ?_⟩
      · have hall : ∀ n j, j < n → j < ops.size → listed.getD j false = true := by
          intro n
          induction n with
          | zero => intro j h; omega
          | succ n ihn =>
            intro j hj hjs
            by_cases hl : listed.getD j false = true
            · exact hl
            · exfalso
              have hl : listed.getD j false = false := by simpa using hl
              have hoj : ops[j]? = some ops[j] := Array.getElem?_eq_getElem hjs
              have : j ∈ Region.ready .any ops listed := mem_ready.2 ⟨getD_tf.2 ⟨by omega, hl⟩, _, hoj, fun e he hb => by
                have hlt := (masksOk_at hB (d := j) (o := ops[j]) (by simp [hjs])).1 e.on (List.mem_map.2 ⟨e, List.mem_filter.2 ⟨by simpa using he, hb⟩, rfl⟩)
                exact ihn e.on (by omega) (by omega)⟩
              rw [hnil] at this; cases this
        have hall := fun j hj => hall (j + 1) j (by omega) hj
        have e1 : tmAt (dF ops) (vF recs) (fun j => listed.getD j false) tm0 ops.size = tm' := by
          rw [htm]; funext t; exact tmAt_agree fun j hj hne => absurd (hall j hj) hne
        have e2 : stAt (δF recs) (fun j => listed.getD j false) st0 ops.size = st' := by
          rw [hst]; funext t; exact stAt_agree fun j hj hne => absurd (hall j hj) hne
        rw [e1] at ht; rw [e2] at hinv
        exact hK G' a w hle hsame (by show n0 ≤ n0 + 8 * ops.size; omega) hinv ht
      · obtain ⟨hi1, o, ho, hpre'⟩ := mem_ready.1 hi
        obtain ⟨hil, hib⟩ := getD_tf.1 hi1
        have him : i < ops.size := (Array.getElem?_eq_some_iff.1 ho).1
        have hpre : ∀ e ∈ edges o, listed.getD e false = true := fun e he => by
          obtain ⟨x, hx, rfl⟩ := List.mem_map.1 he
          obtain ⟨h1, h2⟩ := List.mem_filter.1 hx
          exact hpre' x (by simpa using h1) h2
        have hord1 : ∀ j, ordB B j i = true → listed.getD j false = true := fun j hj => ord_in hB hcl (i + 1) i (by omega) o ho hpre j hj
        have hord2 : ∀ j, j < ops.size → listed.getD j false = true → ordB B i j = true → False := fun j hj hb ho2 => by
          have hoj : ops[j]? = some ops[j] := Array.getElem?_eq_getElem hj
          have := ord_in hB hcl (j + 1) j (by omega) _ hoj (hcl j _ hoj hb) i ho2
          rw [hib] at this; cases this
        have hdF : ∀ j y, ops[j]? = some y → dF ops j = y.dst := fun j y hy => by simp [dF, hy]
        have hapart : ∀ j, j < ops.size → listed.getD j false ≠ decide (j < i) → ∃ y, ops[j]? = some y ∧ ((j < i ∧ y.apart ops o = true) ∨ (i < j ∧ o.apart ops y = true)) := fun j hj hne => by
          have hoj : ops[j]? = some ops[j] := Array.getElem?_eq_getElem hj
          refine ⟨_, hoj, ?_⟩
          rcases Nat.lt_trichotomy j i with h | h | h
          · left
            refine ⟨h, ?_⟩
            rcases slots_at hS h hoj ho with q | q
            · exact absurd (by rw [hord1 j q]; simp [h]) hne
            · exact q
          · subst h; exact absurd (by rw [hib]; simp) hne
          · right
            refine ⟨h, ?_⟩
            have hb : listed.getD j false = true := by
              cases hq : listed.getD j false with
              | true => rfl
              | false => exact absurd (by rw [hq]; simp; omega) hne
            rcases slots_at hS h ho hoj with q | q
            · exact (hord2 j hj hb q).elim
            · exact q
        have htmA : ∀ t ∈ o.looksAt ops, tmAt (dF ops) (vF recs) (fun j => listed.getD j false) tm0 ops.size t = tmAt (dF ops) (vF recs) (fun _ => true) tm0 i t := fun t htl => by
          rw [← tmAt_trunc (n := ops.size) (Nat.le_of_lt him)]
          refine tmAt_agree fun j hj hne hd => ?_
          obtain ⟨y, hy, h | h⟩ := hapart j hj hne
          · rw [hdF j y hy] at hd; exact (Oper.apart_spec h.2).1 t hd htl
          · rw [hdF j y hy] at hd; exact (Oper.apart_spec h.2).2.2 t hd htl
        have hstA : ∀ k ∈ rF recs i, stAt (δF recs) (fun j => listed.getD j false) st0 ops.size k = stAt (δF recs) (fun _ => true) st0 i k := fun k hk => by
          rw [← stAt_trunc (n := ops.size) (Nat.le_of_lt him)]
          refine stAt_agree fun j hj hne hd => ?_
          rcases Nat.lt_trichotomy j i with h | h | h
          · rcases recs_at hR h (by omega) with q | q
            · exact absurd (by rw [hord1 j q]; simp [h]) hne
            · exact (q.1 k hd).1 hk
          · subst h; exact absurd (by rw [hib]; simp) hne
          · have hb : listed.getD j false = true := by
              cases hq : listed.getD j false with
              | true => rfl
              | false => exact absurd (by rw [hq]; simp; omega) hne
            rcases recs_at hR h (by omega) with q | q
            · exact hord2 j hj hb q
            · exact q.2 k hk hd
        have hins1 := tmAt_insert (d := dF ops) (v := vF recs) (tm0 := tm0) (b := fun j => listed.getD j false) (i := i) hib (n := ops.size) him fun j hij hj hb t hd1 hd2 => by
          have hoj : ops[j]? = some ops[j] := Array.getElem?_eq_getElem hj
          rcases slots_at hS hij ho hoj with q | q
          · exact hord2 j hj hb q
          · rw [hdF i o ho] at hd1; rw [hdF j _ hoj] at hd2
            exact (Oper.apart_spec q).2.1 t hd1 hd2
        have hins2 := stAt_insert (δ := δF recs) (st0 := st0) (b := fun j => listed.getD j false) (i := i) hib (n := ops.size) him fun j hij hj hb k hk1 hk2 => by
          rcases recs_at hR hij (by omega) with q | q
          · exact hord2 j hj hb q
          · exact (q.1 k hk1).2 hk2
        have hupd : (fun j => (listed.setIfInBounds i true).getD j false) = upB (fun j => listed.getD j false) i := by
          funext j
          simp only [upB]
          by_cases hji : j = i
          · subst hji; simp [Array.getD_eq_getD_getElem?, hil]
          · rw [if_neg hji, getD_set_ne _ (fun e => hji e.symm)]
        obtain ⟨o', ho', hdst, hcase⟩ := hF i (Nat.zero_le _) him
        rw [ho] at ho'
        obtain rfl := Option.some.inj ho'
        have hw2 : ∀ b, xwant ops (tmAt (dF ops) (vF recs) (fun _ => true) tm0 i) o = some b → Region.wanted o (yielded ops a.tmps) = b := fun b hb => want_sound ht (by rw [want_same htmA]; exact hb)
        have cont : ∀ G'' w'' v, G'.le G'' → Same G' G'' (R8 (n0 + 8 * i)) → Inv P G'' (upds (δF recs i) (stAt (δF recs) (fun j => listed.getD j false) st0 ops.size)) w'' → Rep P G'' (vF recs i) v → wpAny P .any ops Q fuel (listed.setIfInBounds i true) (a.put o.dst v) w'' := fun G'' w'' v g1 g2 g3 g4 => by
          refine ih (listed.setIfInBounds i true) G'' (a.put o.dst v) w'' (by simpa using hsz) ?_ ?_ (hle.trans g1) (hsame.trans (g2.mono fun k hk => ⟨by have := hk.1; omega, by have := hk.2; omega⟩)) ?_ ?_ fun j hj hjb => ?_
          · have := countP_less (p := fun j => !listed.getD j false) (p' := fun j => !(listed.setIfInBounds i true).getD j false) (l := List.range ops.size) (fun j _ hj => by
              have e := congrFun hupd j
              rw [e] at hj
              simp only [upB] at hj
              split at hj
              · cases hj
              · exact hj) ⟨i, List.mem_range.2 him, by simp [hib], by
              have e := congrFun hupd i
              rw [e]; simp [upB]⟩
            omega
          · rw [hupd]
            intro j y hy hb e he
            simp only [upB] at hb ⊢
            split
            · rfl
            · split at hb
              · rename_i h; subst h; rw [ho] at hy; obtain rfl := Option.some.inj hy; exact hpre e he
              · exact hcl j y hy hb e he
          · rw [hupd, hins2]; exact g3
          · rw [hupd, hins1]
            have := (ht.mono g1).put hdst g4
            rw [hdF i o ho]; exact this
          · have e := congrFun hupd j
            rw [e] at hjb
            simp only [upB] at hjb
            split at hjb
            · cases hjb
            · rename_i hji
              have h1 := hfr j hj hjb
              intro k hk
              have hnk : ¬ R8 (n0 + 8 * i) k := fun q => hji (by have := hk.1; have := hk.2; have := q.1; have := q.2; omega)
              exact ⟨(g2 k hnk).1 (h1 k hk).1, (g2 k hnk).2 (h1 k hk).2⟩
        have hgl' : GlOK P E.gl G'.pr := fun g x hg => (hgl g x hg).mono hle.pr
        unfold wpOp
        simp only [ho]
        rcases hcase with ⟨hw, hxo⟩ | ⟨hw, e1, e2, e3⟩
        · rw [hw2 true hw]
          simp only [if_true]
          refine .inl (xop_sound (i0 := n0 + 8 * i) (nx' := n0 + 8 * ops.size) hP hE hgl' hinv ht (hfr i him hib) (fun k hk => ?_) (by omega) (by omega) (r := .val (vF recs i) (δF recs i) (rF recs i)) ?_ fun G'' w'' v g1 g2 g3 g4 => cont G'' w'' v g1 g2 g3 g4)
          · have h1 := hfr0 k (by omega)
            have hn : ¬ (n0 ≤ k ∧ k < n0 + 8 * ops.size) := by omega
            exact ⟨(hsame k hn).1 h1.1, (hsame k hn).2 h1.2⟩
          · rw [xop_tm (ev_same htmA)]
            exact xop_st hxo hstA
        · rw [hw2 false hw]
          simp only [Bool.false_eq_true, if_false]
          refine cont G' w undef (.refl G') (.refl G' _) ?_ (by rw [e1]; exact .pure (.sc _))
          rw [e2]; exact hinv
  refine key ops.size (Array.replicate ops.size false) G a _ (by simp) (by
    refine Nat.le_trans (List.countP_le_length ..) ?_
    simp) (fun j o _ hb => by
    exfalso
    simp only [Array.getD_eq_getD_getElem?, Array.getElem?_replicate] at hb
    split at hb <;> simp at hb) (.refl G) (.refl G _) ?_ ?_ fun j hj _ k hk => hfr0 k (by have := hk.1; omega)
  · have : stAt (δF recs) (fun j => (Array.replicate ops.size false).getD j false) st0 ops.size = st0 := stAt_none fun j => by
      simp only [Array.getD_eq_getD_getElem?, Array.getElem?_replicate]; split <;> rfl
    rw [this]; exact hinv.heap rfl rfl rfl rfl
  · have : tmAt (dF ops) (vF recs) (fun j => (Array.replicate ops.size false).getD j false) tm0 ops.size = tm0 := tmAt_none fun j => by
      simp only [Array.getD_eq_getD_getElem?, Array.getElem?_replicate]; split <;> rfl
    rw [this]; exact ht
end
end Go.Proofs.YtkbheoganajhaaaDoor.Vm
set_option linter.unusedVariables false
set_option linter.unusedSimpArgs false
namespace Go.Proofs.YtkbheoganajhaaaDoor.Vm
open Go.RowKit
section
variable {P : Program} {S : Nat → Prop} {E : Env} {G G' : Gh} {st st' : St} {tm tm' tm0 : Nat → V} {st0 : St} {w w' : World} {a : Act} {N n0 nx nx' nx0 : Nat} {ops : Array Oper} {Q : Exit → Act → World → Prop}
def ov (D : Nat → Option (Option Ob)) (s : St) : St := fun k => (D k).getD (s k)
def stD (D : Nat → Nat → Option (Option Ob)) (b : Nat → Bool) (st0 : St) : Nat → St
  | 0 => st0
  | j + 1 => if b j then ov (D j) (stD D b st0 j) else stD D b st0 j
theorem ov_none {D : Nat → Option (Option Ob)} {s : St} {k : Nat} (h : D k = none) : ov D s k = s k := by simp [ov, h]
theorem ov_congr {D : Nat → Option (Option Ob)} {s s' : St} {k : Nat} (h : s k = s' k) : ov D s k = ov D s' k := by simp [ov, h]
theorem ov_some {D : Nat → Option (Option Ob)} {s s' : St} {k : Nat} (h : D k ≠ none) : ov D s k = ov D s' k := by
  cases hd : D k with
  | none => exact absurd hd h
  | some v => simp [ov, hd]
theorem stD_agree {D : Nat → Nat → Option (Option Ob)} {b b' : Nat → Bool} {k : Nat} : ∀ {n : Nat}, (∀ j, j < n → b j ≠ b' j → D j k = none) → stD D b st0 n k = stD D b' st0 n k
  | 0, _ => rfl
  | n + 1, h => by
    have ih := stD_agree (n := n) fun j hj => h j (by omega)
    simp only [stD]
    by_cases hb : b n = b' n
    · rw [hb]
      split
      · exact ov_congr ih
      · exact ih
    · have hd := h n (by omega) hb
      split <;> split <;> simp only [ov_none hd, ih]
theorem stD_insert {D : Nat → Nat → Option (Option Ob)} {b : Nat → Bool} {i : Nat} (hi : b i = false) : ∀ {n : Nat}, i < n → (∀ j, i < j → j < n → b j = true → ∀ k, D i k ≠ none → D j k = none) → stD D (upB b i) st0 n = ov (D i) (stD D b st0 n)
  | 0, h, _ => by omega
  | n + 1, h, hd => by
    funext k
    by_cases hin : i = n
    · subst hin
      simp only [stD, show upB b i i = true by simp [upB], if_true, hi, Bool.false_eq_true, if_false]
      exact ov_congr (stD_agree (b := upB b i) (b' := b) fun j hj hne => absurd (by simp [upB, Nat.ne_of_lt hj]) hne)
    · have ih := stD_insert (D := D) hi (n := n) (by omega) fun j h1 h2 => hd j h1 (by omega)
      have hb : upB b i n = b n := by simp [upB]; intro e; exact absurd e.symm hin
      simp only [stD, hb]
      by_cases hbn : b n = true
      · rw [if_pos hbn, if_pos hbn, ih]
        by_cases h2 : D i k = none
        · rw [ov_none (D := D i) h2]
          exact ov_congr (ov_none h2)
        · have h1 := hd n (by omega) (by omega) hbn k h2
          rw [ov_none h1]
          exact ov_some h2
      · rw [if_neg hbn, if_neg hbn, ih]
theorem stD_trunc {D : Nat → Nat → Option (Option Ob)} {i : Nat} : ∀ {n : Nat}, i ≤ n → stD D (fun j => decide (j < i)) st0 n = stD D (fun _ => true) st0 i
  | 0, h => by have : i = 0 := by omega
               subst this; rfl
  | n + 1, h => by
    by_cases hi : i ≤ n
    · simp only [stD]
      rw [if_neg (by simpa using hi)]
      exact stD_trunc hi
    · have : i = n + 1 := by omega
      subst this
      simp only [stD]
      rw [if_pos (by simp)]
      congr 1
      funext t
      exact stD_agree fun j hj hne => absurd (by simp; omega) hne
open Classical in
noncomputable def DF (st0 : St) (recs : List Rec) (j k : Nat) : Option (Option Ob) := match bigF recs j with
  | some p => if p.1 k = seqSt st0 recs j k then none else some (p.1 k)
  | none => if k ∈ (δF recs j).map (·.1) then some (upds (δF recs j) (fun _ => none) k) else none
theorem DF_nil {recs : List Rec} {j : Nat} (h : bigF recs j = none) (h2 : δF recs j = []) (k : Nat) : DF st0 recs j k = none := by simp [DF, h, h2]
theorem DF_big {recs : List Rec} {j : Nat} {p : St × Nat} (h : bigF recs j = some p) {k : Nat} (hk : p.1 k = seqSt st0 recs j k) : DF st0 recs j k = none := by simp [DF, h, hk]
theorem DF_val {recs : List Rec} {j k : Nat} (h : bigF recs j = none) (hk : k ∉ (δF recs j).map (·.1)) : DF st0 recs j k = none := by
  simp only [DF, h]; rw [if_neg hk]
theorem ov_val {recs : List Rec} {j : Nat} (h : bigF recs j = none) (s : St) : ov (DF st0 recs j) s = upds (δF recs j) s := by
  funext k
  by_cases hk : k ∈ (δF recs j).map (·.1)
  · have : DF st0 recs j k = some (upds (δF recs j) (fun _ => none) k) := by simp only [DF, h]; rw [if_pos hk]
    simp only [ov, this, Option.getD_some]
    exact upds_in hk
  · rw [ov_none (DF_val h hk), upds_notin hk]
theorem ov_big {recs : List Rec} {j : Nat} {p : St × Nat} (h : bigF recs j = some p) : ov (DF st0 recs j) (seqSt st0 recs j) = p.1 := by
  funext k
  by_cases hk : p.1 k = seqSt st0 recs j k
  · rw [ov_none (DF_big h hk), hk]
  · have : DF st0 recs j k = some (p.1 k) := by simp only [DF, h]; rw [if_neg hk]
    simp only [ov, this, Option.getD_some]
theorem stD_seq {recs : List Rec} : ∀ j, stD (DF st0 recs) (fun _ => true) st0 j = seqSt st0 recs j
  | 0 => rfl
  | j + 1 => by
    simp only [stD, if_true, stD_seq j, seqSt]
    cases h : bigF recs j with
    | none => exact ov_val h _
    | some p => exact ov_big h
def NX (nx0 : Nat) (recs : List Rec) : Nat → Nat
  | 0 => nx0
  | j + 1 => match bigF recs j with
    | some p => p.2
    | none => NX nx0 recs j
def Fact2 (P : Program) (E : Env) (ops : Array Oper) (N n0 nx0 : Nat) (recs : List Rec) (tm0 : Nat → V) (st0 : St) (j : Nat) : Prop :=
  ∃ o, ops[j]? = some o ∧ dstOk N o.dst = true ∧
    ((xwant ops (tmAt (dF ops) (vF recs) (fun _ => true) tm0 j) o = some true ∧ bigF recs j = none ∧ xop P E (tmAt (dF ops) (vF recs) (fun _ => true) tm0 j) (seqSt st0 recs j) (n0 + 8 * j) (NX nx0 recs j) o = some (.val (vF recs j) (δF recs j) (rF recs j))) ∨
     (∃ s n, xwant ops (tmAt (dF ops) (vF recs) (fun _ => true) tm0 j) o = some true ∧ bigF recs j = some (s, n) ∧ xop P E (tmAt (dF ops) (vF recs) (fun _ => true) tm0 j) (seqSt st0 recs j) (n0 + 8 * j) (NX nx0 recs j) o = some (.big (vF recs j) s n)) ∨
     (xwant ops (tmAt (dF ops) (vF recs) (fun _ => true) tm0 j) o = some false ∧ bigF recs j = none ∧ vF recs j = .sc undef ∧ δF recs j = [] ∧ rF recs j = []))
theorem facts2 {recs : List Rec} {m : Nat} (hm : m ≤ ops.size) : ∀ {rest : List Oper} {i : Nat} {tm : Nat → V} {st : St}, (ops.toList.take m).drop i = rest → i ≤ m → xops P E ops N n0 i rest tm st nx = some (.ok tm' st' nx' (recs.drop i)) →
    tm = tmAt (dF ops) (vF recs) (fun _ => true) tm0 i → st = seqSt st0 recs i → nx = NX nx0 recs i → i ≤ recs.length →
    nx' = NX nx0 recs m ∧ recs.length = m ∧ tm' = tmAt (dF ops) (vF recs) (fun _ => true) tm0 m ∧ st' = seqSt st0 recs m ∧ ∀ j, i ≤ j → j < m → Fact2 P E ops N n0 nx0 recs tm0 st0 j
  | rest, i, tm, st, hd, hi, h, ht, hs, hx, hir => by
    induction rest generalizing i tm st nx with
    | nil =>
      simp only [xops, Option.some.injEq, RR.ok.injEq] at h
      obtain ⟨h1, h2, h3, h4⟩ := h
      have hisz : m ≤ i := by
        have := List.drop_eq_nil_iff.1 hd
        rw [List.length_take, Array.length_toList] at this
        omega
      have hrec : recs.length ≤ i := List.drop_eq_nil_iff.1 h4.symm
      have : i = m := by omega
      subst this
      exact ⟨h3.symm.trans hx, by omega, by rw [← h1]; exact ht, by rw [← h2]; exact hs, fun j _ _ => by omega⟩
    | cons o rest ih =>
      obtain ⟨ho, hd'⟩ := drop_cons hd
      have hlt : i < m := by
        rcases Nat.lt_or_ge i m with q | q
        · exact q
        · rw [List.getElem?_eq_none (by rw [List.length_take]; omega)] at ho; cases ho
      have ho' : ops[i]? = some o := by
        rw [List.getElem?_take_of_lt hlt] at ho
        simpa using ho
      have hdF : dF ops i = o.dst := by simp [dF, ho']
      unfold xops at h
      split at h
      · rename_i hdst
        have step : ∀ {v : V} {δ : List (Nat × Option Ob)} {rd : List Nat} {big : Option (St × Nat)} {recs' : List Rec}, recs.drop i = ⟨v, δ, rd, big⟩ :: recs' → vF recs i = v ∧ δF recs i = δ ∧ rF recs i = rd ∧ bigF recs i = big ∧ recs.drop (i + 1) = recs' ∧ i + 1 ≤ recs.length := fun {v δ rd big recs'} hr => by
          obtain ⟨h1, h2⟩ := drop_cons hr
          exact ⟨by simp [vF, h1], by simp [δF, h1], by simp [rF, h1], by simp [bigF, h1], h2, (List.getElem?_eq_some_iff.1 h1).1⟩
        split at h
        · rename_i hw
          split at h
          · rename_i v δ rd hxo
            split at h
            · rename_i tm1 st1 nx1 recs' hr
              simp only [Option.some.injEq, RR.ok.injEq] at h
              obtain ⟨h1, h2, h3, h4⟩ := h
              obtain ⟨e1, e2, e3, eb, e4, e5⟩ := step h4.symm
              rw [h1, h2, h3] at hr
              obtain ⟨k1, k2, k3, k4, k5⟩ := ih (i + 1) _ _ hd' hlt (by rw [e4]; exact hr) (by simp only [tmAt, if_true, hdF, e1, ht]) (by simp only [seqSt, eb, e2, hs]) (by simp only [NX, eb, hx]) e5
              refine ⟨k1, k2, k3, k4, fun j hj hjs => ?_⟩
              by_cases hji : j = i
              · subst hji
                exact ⟨o, ho', hdst, .inl ⟨by rw [← ht]; exact hw, eb, by rw [← ht, ← hs, ← hx, e1, e2, e3]; exact hxo⟩⟩
              · exact k5 j (by omega) hjs
            · rename_i hne; exact absurd h (fun h => hne _ _ _ _ h)
          · rename_i v s n hxo
            split at h
            · rename_i tm1 st1 nx1 recs' hr
              simp only [Option.some.injEq, RR.ok.injEq] at h
              obtain ⟨h1, h2, h3, h4⟩ := h
              obtain ⟨e1, e2, e3, eb, e4, e5⟩ := step h4.symm
              rw [h1, h2, h3] at hr
              obtain ⟨k1, k2, k3, k4, k5⟩ := ih (i + 1) _ _ hd' hlt (by rw [e4]; exact hr) (by simp only [tmAt, if_true, hdF, e1, ht]) (by simp only [seqSt, eb]) (by simp only [NX, eb]) e5
              refine ⟨k1, k2, k3, k4, fun j hj hjs => ?_⟩
              by_cases hji : j = i
              · subst hji
                exact ⟨o, ho', hdst, .inr (.inl ⟨s, n, by rw [← ht]; exact hw, eb, by rw [← ht, ← hs, ← hx, e1]; exact hxo⟩)⟩
              · exact k5 j (by omega) hjs
            · rename_i hne; exact absurd h (fun h => hne _ _ _ _ h)
          · cases h
          · cases h
          · cases h
        · rename_i hw
          split at h
          · rename_i tm1 st1 nx1 recs' hr
            simp only [Option.some.injEq, RR.ok.injEq] at h
            obtain ⟨h1, h2, h3, h4⟩ := h
            obtain ⟨e1, e2, e3, eb, e4, e5⟩ := step h4.symm
            rw [h1, h2, h3] at hr
            obtain ⟨k1, k2, k3, k4, k5⟩ := ih (i + 1) _ _ hd' hlt (by rw [e4]; exact hr) (by simp only [tmAt, if_true, hdF, e1, ht]) (by simp only [seqSt, eb, e2, hs]; rfl) (by simp only [NX, eb, hx]) e5
            refine ⟨k1, k2, k3, k4, fun j hj hjs => ?_⟩
            by_cases hji : j = i
            · subst hji
              exact ⟨o, ho', hdst, .inr (.inr ⟨by rw [← ht]; exact hw, eb, e1, e2, e3⟩)⟩
            · exact k5 j (by omega) hjs
          · rename_i hne; exact absurd h (fun h => hne _ _ _ _ h)
        · cases h
      · cases h
theorem mem_disj {a b : List Nat} (h : disj a b = true) {k : Nat} (hk : k ∈ a) : k ∉ b := by
  unfold disj at h
  have := List.all_eq_true.1 h k hk
  simpa using this
/-- What may change places: told of what each overrides. -/
theorem pair_at {recs : List Rec} {B : List Nat} (h : recsOk2 st0 B recs) {i j : Nat} (hij : i < j) (hj : j < recs.length) : ordB B i j = true ∨
    ((bigF recs i = none ∨ bigF recs j = none) ∧ (∀ k, DF st0 recs i k ≠ none → DF st0 recs j k = none) ∧ (bigF recs i = none → ∀ k ∈ rF recs i, DF st0 recs j k = none) ∧ (bigF recs j = none → ∀ k ∈ rF recs j, DF st0 recs i k = none) ∧
     ((bigF recs i).isSome = true → ∀ k, DF st0 recs j k = none) ∧ ((bigF recs j).isSome = true → ∀ k, DF st0 recs i k = none)) := by
  rcases h j (List.mem_range.2 hj) i (List.mem_range.2 hij) with h | h
  · exact .inl h
  · right
    unfold pairOk at h
    cases hi : bigF recs i with
    | none =>
      cases hb : bigF recs j with
      | none =>
        simp only [hi, hb, Bool.and_eq_true] at h
        refine ⟨.inl rfl, fun k hk => ?_, fun _ k hk => DF_val hb (mem_disj h.2 hk), fun _ k hk => ?_, fun q => by simp at q, fun q => by simp at q⟩
        · have : k ∈ (δF recs i).map (·.1) := by
            refine Classical.byContradiction fun hn => hk (DF_val hi hn)
          exact DF_val hb fun q => mem_disj h.1 this (List.mem_append.2 (.inr q))
        · exact DF_val hi fun q => mem_disj h.1 q (List.mem_append.2 (.inl hk))
      | some p =>
        simp only [hi, hb] at h
        have hd : ∀ k, DF st0 recs i k = none := DF_nil hi h.1
        exact ⟨.inl rfl, fun k hk => absurd (hd k) hk, fun _ k hk => DF_big hb (h.2 k hk), fun q => by simp at q, fun q => by simp at q, fun _ => hd⟩
    | some p =>
      cases hb : bigF recs j with
      | none =>
        simp only [hi, hb] at h
        have hd : ∀ k, DF st0 recs j k = none := DF_nil hb h.1
        exact ⟨.inr rfl, fun k _ => hd k, fun q => by simp at q, fun _ k hk => DF_big hi (h.2 k hk), fun _ => hd, fun q => by simp at q⟩
      | some p' => simp only [hi, hb] at h
theorem stD_none {D : Nat → Nat → Option (Option Ob)} {b : Nat → Bool} (h : ∀ j, b j = false) : ∀ {n : Nat}, stD D b st0 n = st0
  | 0 => rfl
  | n + 1 => by simp only [stD, h n, Bool.false_eq_true, if_false]; exact stD_none h
theorem nx_eq {recs : List Rec} {c : Nat} : ∀ {n : Nat}, c ≤ n → (∀ j, c ≤ j → j < n → bigF recs j = none) → NX nx0 recs n = NX nx0 recs c
  | 0, h, _ => by have : c = 0 := by omega
                  subst this; rfl
  | n + 1, h, hb => by
    by_cases hc : c = n + 1
    · subst hc; rfl
    · simp only [NX, hb n (by omega) (by omega)]
      exact nx_eq (by omega) fun j h1 h2 => hb j h1 (by omega)
theorem region_draw2 (hP : ProgOK P) (hE : EnvOK P E) (hgl : GlOK P E.gl G.pr) {id : Nat} {recs : List Rec} (hinv : Inv P G st0 w) (ht : TmR P G N tm0 a) (hfr0 : Fresh G (fun k => n0 ≤ k)) (h8 : 8 ≤ n0) {B : List Nat}
    (hB : masksOk ops.toList B = true) (hS : slotsOk ops B = true) (hR : recsOk2 st0 B recs) (hx : xops P E ops N n0 0 ops.toList tm0 st0 (n0 + 8 * ops.size) = some (.ok tm' st' nx' recs))
    (hK : Post P S G n0 N Q (.norm, ⟨tm', st', nx'⟩)) : (Code.region id ops true).wp P Q a w := by
  obtain ⟨hnx, hlen, htm, hst, hF⟩ := facts2 (ops := ops) (m := ops.size) (rest := ops.toList) (i := 0) (tm := tm0) (st := st0) (tm0 := tm0) (st0 := st0) (recs := recs) (nx0 := n0 + 8 * ops.size) (Nat.le_refl _) (by rw [List.drop_zero, ← Array.length_toList, List.take_length]) (Nat.zero_le _) (by rw [List.drop_zero]; exact hx) rfl rfl rfl (Nat.zero_le _)
  refine wp_region_any hP.mix ?_
  have done : ∀ (listed : Array Bool) (G' : Gh), (∀ j, j < ops.size → listed.getD j false = true) → (∃ c, c ≤ ops.size ∧ (∀ j, j < ops.size → (bigF recs j).isSome = true → (listed.getD j false = true ↔ j < c)) ∧ n0 + 8 * ops.size ≤ NX (n0 + 8 * ops.size) recs c ∧ Same G G' (fun k => n0 ≤ k ∧ k < NX (n0 + 8 * ops.size) recs c) ∧ Fresh G' (fun k => NX (n0 + 8 * ops.size) recs c ≤ k)) →
      Same G G' (fun k => n0 ≤ k ∧ k < nx') ∧ n0 ≤ nx' := fun listed G' hall ⟨c, hc, hb, h1, h2, h3⟩ => by
    have e : NX (n0 + 8 * ops.size) recs ops.size = NX (n0 + 8 * ops.size) recs c := nx_eq hc fun j hj1 hj2 => by
      cases hbj : bigF recs j with
      | none => rfl
      | some p => have := (hb j hj2 (by rw [hbj]; rfl)).1 (hall j hj2); omega
    rw [hnx, e]
    exact ⟨h2, by omega⟩
  have key : ∀ (fuel : Nat) (listed : Array Bool) (G' : Gh) (a : Act) (w : World), listed.size = ops.size → ((List.range ops.size).countP fun j => !listed.getD j false) ≤ fuel → Closed ops (fun j => listed.getD j false) → G.le G' → (∃ c, c ≤ ops.size ∧ (∀ j, j < ops.size → (bigF recs j).isSome = true → (listed.getD j false = true ↔ j < c)) ∧ n0 + 8 * ops.size ≤ NX (n0 + 8 * ops.size) recs c ∧ Same G G' (fun k => n0 ≤ k ∧ k < NX (n0 + 8 * ops.size) recs c) ∧ Fresh G' (fun k => NX (n0 + 8 * ops.size) recs c ≤ k)) →
      Inv P G' (stD (DF st0 recs) (fun j => listed.getD j false) st0 ops.size) w → TmR P G' N (tmAt (dF ops) (vF recs) (fun j => listed.getD j false) tm0 ops.size) a → (∀ j, j < ops.size → listed.getD j false = false → Fresh G' (R8 (n0 + 8 * j))) →
      wpAny P .any ops Q fuel listed a w := by
    intro fuel
    induction fuel with
    | zero =>
      intro listed G' a w hsz hcnt hcl hle hsame hinv ht hfr
      have hall : ∀ j, j < ops.size → listed.getD j false = true := fun j hj => by
        have := List.countP_eq_zero.1 (Nat.le_zero.1 hcnt) j (List.mem_range.2 hj)
        simpa using this
      have e1 : tmAt (dF ops) (vF recs) (fun j => listed.getD j false) tm0 ops.size = tm' := by
        rw [htm]; funext t; exact tmAt_agree fun j hj hne => absurd (hall j hj) hne
      have e2 : stD (DF st0 recs) (fun j => listed.getD j false) st0 ops.size = st' := by
        rw [hst, ← stD_seq]; funext t; exact stD_agree fun j hj hne => absurd (hall j hj) hne
      rw [e1] at ht; rw [e2] at hinv
      obtain ⟨hs1, hs2⟩ := done listed G' hall hsame
      refine ⟨?_, hK G' a w hle hs1 hs2 hinv ht⟩
      rw [List.eq_nil_iff_forall_not_mem]
      intro j hj
      obtain ⟨h1, h2⟩ := getD_tf.1 (mem_ready.1 hj).1
      rw [hall j (by omega)] at h2; cases h2
    | succ fuel ih =>
      intro listed G' a w hsz hcnt hcl hle hsame hinv ht hfr
      refine ⟨fun hnil => ?_, fun i hi => ?_⟩
      · have hall : ∀ n j, j < n → j < ops.size → listed.getD j false = true := by
          intro n
          induction n with
          | zero => intro j h; omega
          | succ n ihn =>
            intro j hj hjs
            by_cases hl : listed.getD j false = true
            · exact hl
            · exfalso
              have hl : listed.getD j false = false := by simpa using hl
              have hoj : ops[j]? = some ops[j] := Array.getElem?_eq_getElem hjs
              have : j ∈ Region.ready .any ops listed := mem_ready.2 ⟨getD_tf.2 ⟨by omega, hl⟩, _, hoj, fun e he hb => by
                have hlt := (masksOk_at hB (d := j) (o := ops[j]) (by simp [hjs])).1 e.on (List.mem_map.2 ⟨e, List.mem_filter.2 ⟨by simpa using he, hb⟩, rfl⟩)
                exact ihn e.on (by omega) (by omega)⟩
              rw [hnil] at this; cases this
        have hall := fun j hj => hall (j + 1) j (by omega) hj
        have e1 : tmAt (dF ops) (vF recs) (fun j => listed.getD j false) tm0 ops.size = tm' := by
          rw [htm]; funext t; exact tmAt_agree fun j hj hne => absurd (hall j hj) hne
        have e2 : stD (DF st0 recs) (fun j => listed.getD j false) st0 ops.size = st' := by
          rw [hst, ← stD_seq]; funext t; exact stD_agree fun j hj hne => absurd (hall j hj) hne
        rw [e1] at ht; rw [e2] at hinv
        obtain ⟨hs1, hs2⟩ := done listed G' hall hsame
        exact hK G' a w hle hs1 hs2 hinv ht
      · obtain ⟨hi1, o, ho, hpre'⟩ := mem_ready.1 hi
        obtain ⟨hil, hib⟩ := getD_tf.1 hi1
        have him : i < ops.size := (Array.getElem?_eq_some_iff.1 ho).1
        have hpre : ∀ e ∈ edges o, listed.getD e false = true := fun e he => by
          obtain ⟨x, hx, rfl⟩ := List.mem_map.1 he
          obtain ⟨h1, h2⟩ := List.mem_filter.1 hx
          exact hpre' x (by simpa using h1) h2
        have hord1 : ∀ j, ordB B j i = true → listed.getD j false = true := fun j hj => ord_in hB hcl (i + 1) i (by omega) o ho hpre j hj
        have hord2 : ∀ j, j < ops.size → listed.getD j false = true → ordB B i j = true → False := fun j hj hb ho2 => by
          have hoj : ops[j]? = some ops[j] := Array.getElem?_eq_getElem hj
          have := ord_in hB hcl (j + 1) j (by omega) _ hoj (hcl j _ hoj hb) i ho2
          rw [hib] at this; cases this
        have hdF : ∀ j y, ops[j]? = some y → dF ops j = y.dst := fun j y hy => by simp [dF, hy]
        have hapart : ∀ j, j < ops.size → listed.getD j false ≠ decide (j < i) → ∃ y, ops[j]? = some y ∧ ((j < i ∧ y.apart ops o = true) ∨ (i < j ∧ o.apart ops y = true)) := fun j hj hne => by
          have hoj : ops[j]? = some ops[j] := Array.getElem?_eq_getElem hj
          refine ⟨_, hoj, ?_⟩
          rcases Nat.lt_trichotomy j i with h | h | h
          · left
            refine ⟨h, ?_⟩
            rcases slots_at hS h hoj ho with q | q
            · exact absurd (by rw [hord1 j q]; simp [h]) hne
            · exact q
          · subst h; exact absurd (by rw [hib]; simp) hne
          · right
            refine ⟨h, ?_⟩
            have hb : listed.getD j false = true := by
              cases hq : listed.getD j false with
              | true => rfl
              | false => exact absurd (by rw [hq]; simp; omega) hne
            rcases slots_at hS h ho hoj with q | q
            · exact (hord2 j hj hb q).elim
            · exact q
        have htmA : ∀ t ∈ o.looksAt ops, tmAt (dF ops) (vF recs) (fun j => listed.getD j false) tm0 ops.size t = tmAt (dF ops) (vF recs) (fun _ => true) tm0 i t := fun t htl => by
          rw [← tmAt_trunc (n := ops.size) (Nat.le_of_lt him)]
          refine tmAt_agree fun j hj hne hd => ?_
          obtain ⟨y, hy, h | h⟩ := hapart j hj hne
          · rw [hdF j y hy] at hd; exact (Oper.apart_spec h.2).1 t hd htl
          · rw [hdF j y hy] at hd; exact (Oper.apart_spec h.2).2.2 t hd htl
        have hlisted : ∀ j, j < ops.size → listed.getD j false ≠ decide (j < i) → ((j < i ∧ ordB B j i ≠ true) ∨ (i < j ∧ ordB B i j ≠ true)) := fun j hj hne => by
          rcases Nat.lt_trichotomy j i with h | h | h
          · exact .inl ⟨h, fun q => hne (by rw [hord1 j q]; simp [h])⟩
          · subst h; exact absurd (by rw [hib]; simp) hne
          · have hb : listed.getD j false = true := by
              cases hq : listed.getD j false with
              | true => rfl
              | false => exact absurd (by rw [hq]; simp; omega) hne
            exact .inr ⟨h, fun q => hord2 j hj hb q⟩
        have hstA : bigF recs i = none → ∀ k ∈ rF recs i, stD (DF st0 recs) (fun j => listed.getD j false) st0 ops.size k = seqSt st0 recs i k := fun hbi k hk => by
          rw [← stD_seq, ← stD_trunc (n := ops.size) (Nat.le_of_lt him)]
          refine stD_agree fun j hj hne => ?_
          rcases hlisted j hj hne with ⟨h, hno⟩ | ⟨h, hno⟩
          · rcases pair_at hR h (by omega) with q | ⟨_, _, _, q, _, _⟩
            · exact absurd q hno
            · exact q hbi k hk
          · rcases pair_at hR h (by omega) with q | ⟨_, _, q, _, _, _⟩
            · exact absurd q hno
            · exact q hbi k hk
        have hstB : (bigF recs i).isSome = true → stD (DF st0 recs) (fun j => listed.getD j false) st0 ops.size = seqSt st0 recs i := fun hbi => by
          funext k
          rw [← stD_seq, ← stD_trunc (n := ops.size) (Nat.le_of_lt him)]
          refine stD_agree fun j hj hne => ?_
          rcases hlisted j hj hne with ⟨h, hno⟩ | ⟨h, hno⟩
          · rcases pair_at hR h (by omega) with q | ⟨_, _, _, _, _, q⟩
            · exact absurd q hno
            · exact q hbi k
          · rcases pair_at hR h (by omega) with q | ⟨_, _, _, _, q, _⟩
            · exact absurd q hno
            · exact q hbi k
        have hins1 := tmAt_insert (d := dF ops) (v := vF recs) (tm0 := tm0) (b := fun j => listed.getD j false) (i := i) hib (n := ops.size) him fun j hij hj hb t hd1 hd2 => by
          have hoj : ops[j]? = some ops[j] := Array.getElem?_eq_getElem hj
          rcases slots_at hS hij ho hoj with q | q
          · exact hord2 j hj hb q
          · rw [hdF i o ho] at hd1; rw [hdF j _ hoj] at hd2
            exact (Oper.apart_spec q).2.1 t hd1 hd2
        have hins2 := stD_insert (D := DF st0 recs) (st0 := st0) (b := fun j => listed.getD j false) (i := i) hib (n := ops.size) him fun j hij hj hb k hk1 => by
          rcases pair_at hR hij (by omega) with q | ⟨_, q, _⟩
          · exact (hord2 j hj hb q).elim
          · exact q k hk1
        have hupd : (fun j => (listed.setIfInBounds i true).getD j false) = upB (fun j => listed.getD j false) i := by
          funext j
          simp only [upB]
          by_cases hji : j = i
          · subst hji; simp [Array.getD_eq_getD_getElem?, hil]
          · rw [if_neg hji, getD_set_ne _ (fun e => hji e.symm)]
        obtain ⟨o', ho', hdst, hcase⟩ := hF i (Nat.zero_le _) him
        rw [ho] at ho'
        obtain rfl := Option.some.inj ho'
        have hw2 : ∀ b, xwant ops (tmAt (dF ops) (vF recs) (fun _ => true) tm0 i) o = some b → Region.wanted o (yielded ops a.tmps) = b := fun b hb => want_sound ht (by rw [want_same htmA]; exact hb)
        have cont : ∀ G'' w'' v (S : Nat → Prop), G'.le G'' → Same G' G'' S → (∀ k, S k → R8 (n0 + 8 * i) k ∨ n0 + 8 * ops.size ≤ k) → (∃ c, c ≤ ops.size ∧ (∀ j, j < ops.size → (bigF recs j).isSome = true → ((listed.setIfInBounds i true).getD j false = true ↔ j < c)) ∧ n0 + 8 * ops.size ≤ NX (n0 + 8 * ops.size) recs c ∧ Same G G'' (fun k => n0 ≤ k ∧ k < NX (n0 + 8 * ops.size) recs c) ∧ Fresh G'' (fun k => NX (n0 + 8 * ops.size) recs c ≤ k)) → Inv P G'' (ov (DF st0 recs i) (stD (DF st0 recs) (fun j => listed.getD j false) st0 ops.size)) w'' → Rep P G'' (vF recs i) v → wpAny P .any ops Q fuel (listed.setIfInBounds i true) (a.put o.dst v) w'' := fun G'' w'' v S g1 g2 g2' gS g3 g4 => by
          refine ih (listed.setIfInBounds i true) G'' (a.put o.dst v) w'' (by simpa using hsz) ?_ ?_ (hle.trans g1) gS ?_ ?_ fun j hj hjb => ?_
          · have := countP_less (p := fun j => !listed.getD j false) (p' := fun j => !(listed.setIfInBounds i true).getD j false) (l := List.range ops.size) (fun j _ hj => by
              have e := congrFun hupd j
              rw [e] at hj
              simp only [upB] at hj
              split at hj
              · cases hj
              · exact hj) ⟨i, List.mem_range.2 him, by simp [hib], by
              have e := congrFun hupd i
              rw [e]; simp [upB]⟩
            omega
          · rw [hupd]
            intro j y hy hb e he
            simp only [upB] at hb ⊢
            split
            · rfl
            · split at hb
              · rename_i h; subst h; rw [ho] at hy; obtain rfl := Option.some.inj hy; exact hpre e he
              · exact hcl j y hy hb e he
          · rw [hupd, hins2]; exact g3
          · rw [hupd, hins1]
            have := (ht.mono g1).put hdst g4
            rw [hdF i o ho]; exact this
          · have e := congrFun hupd j
            rw [e] at hjb
            simp only [upB] at hjb
            split at hjb
            · cases hjb
            · rename_i hji
              have h1 := hfr j hj hjb
              intro k hk
              have hnk : ¬ S k := fun q => by
                rcases g2' k q with q | q
                · exact hji (by have := hk.1; have := hk.2; have := q.1; have := q.2; omega)
                · have := hk.2; omega
              exact ⟨(g2 k hnk).1 (h1 k hk).1, (g2 k hnk).2 (h1 k hk).2⟩
        have hgl' : GlOK P E.gl G'.pr := fun g x hg => (hgl g x hg).mono hle.pr
        unfold wpOp
        simp only [ho]
        obtain ⟨c, hc1, hc2, hc3, hc4, hc5⟩ := hsame
        have hsame2 : ∀ G'', Same G' G'' (R8 (n0 + 8 * i)) → bigF recs i = none → (∃ c, c ≤ ops.size ∧ (∀ j, j < ops.size → (bigF recs j).isSome = true → ((listed.setIfInBounds i true).getD j false = true ↔ j < c)) ∧ n0 + 8 * ops.size ≤ NX (n0 + 8 * ops.size) recs c ∧ Same G G'' (fun k => n0 ≤ k ∧ k < NX (n0 + 8 * ops.size) recs c) ∧ Fresh G'' (fun k => NX (n0 + 8 * ops.size) recs c ≤ k)) := fun G'' g2 hbi => by
          refine ⟨c, hc1, fun j hj hbj => ?_, hc3, hc4.trans (g2.mono fun k hk => ⟨by have := hk.1; omega, by have := hk.2; omega⟩), fun k hk => ?_⟩
          · have e := congrFun hupd j
            rw [e]
            simp only [upB]
            split
            · rename_i h; subst h; rw [hbi] at hbj; cases hbj
            · exact hc2 j hj hbj
          · have hnk : ¬ R8 (n0 + 8 * i) k := fun q => by have := q.2; omega
            have h1 := hc5 k hk
            exact ⟨(g2 k hnk).1 h1.1, (g2 k hnk).2 h1.2⟩
        rcases hcase with ⟨hw, hbi, hxo⟩ | ⟨s1, n1, hw, hbi, hxo⟩ | ⟨hw, hbi, e1, e2, e3⟩
        · rw [hw2 true hw]
          simp only [if_true]
          refine .inl (xop_sound (i0 := n0 + 8 * i) (nx' := NX (n0 + 8 * ops.size) recs c) hP hE hgl' hinv ht (hfr i him hib) hc5 (by omega) (by omega) (r := .val (vF recs i) (δF recs i) (rF recs i)) ?_ fun G'' w'' v g1 g2 g3 g4 => cont G'' w'' v _ g1 g2 (fun k hk => .inl hk) (hsame2 G'' g2 hbi) (by rw [ov_val hbi]; exact g3) g4)
          rw [xop_tm (ev_same htmA)]
          exact xop_st hxo (hstA hbi)
        · rw [hw2 true hw]
          simp only [if_true]
          have hsm : (bigF recs i).isSome = true := by rw [hbi]; rfl
          have hstE := hstB hsm
          have hci : c ≤ i := by
            rcases Nat.lt_or_ge i c with h | h
            · have := (hc2 i him hsm).2 h; rw [hib] at this; cases this
            · exact h
          have hnxe : NX (n0 + 8 * ops.size) recs i = NX (n0 + 8 * ops.size) recs c := nx_eq hci fun j hj1 hj2 => by
            cases hbj : bigF recs j with
            | none => rfl
            | some p =>
              have hjs : (bigF recs j).isSome = true := by rw [hbj]; rfl
              have hnl : ¬ listed.getD j false = true := fun q => by have := (hc2 j (by omega) hjs).1 q; omega
              rcases pair_at hR hj2 (by omega) with q | ⟨q, _⟩
              · exact absurd (hord1 j q) hnl
              · rcases q with q | q
                · rw [hbj] at q; cases q
                · rw [hbi] at q; cases q
          have hx2 : xop P E (tmAt (dF ops) (vF recs) (fun j => listed.getD j false) tm0 ops.size) (stD (DF st0 recs) (fun j => listed.getD j false) st0 ops.size) (n0 + 8 * i) (NX (n0 + 8 * ops.size) recs c) o = some (.big (vF recs i) s1 n1) := by
            rw [xop_tm (ev_same htmA), hstE, ← hnxe]; exact hxo
          refine .inl (xop_sound (i0 := n0 + 8 * i) (nx' := NX (n0 + 8 * ops.size) recs c) hP hE hgl' hinv ht (hfr i him hib) hc5 (by omega) (by omega) hx2 fun G'' w'' v g1 g2 g3 g4 g5 => cont G'' w'' v _ g1 g2 (fun k hk => .inr (by have := hk.1; omega)) ?_ (by rw [hstE, ov_big hbi]; exact g4) g5)
          have hN1 : NX (n0 + 8 * ops.size) recs (i + 1) = n1 := by simp only [NX, hbi]
          refine ⟨i + 1, him, fun j hj hbj => ?_, by rw [hN1]; omega, ?_, ?_⟩
          · have e := congrFun hupd j
            rw [e]
            simp only [upB]
            split
            · rename_i h; subst h; simp
            · rename_i hji
              rw [hc2 j hj hbj]
              constructor
              · intro h; omega
              · intro h
                have hji' : j < i := by omega
                rcases pair_at hR hji' (by omega) with q | ⟨q, _⟩
                · exact (hc2 j hj hbj).1 (hord1 j q)
                · rcases q with q | q
                  · rw [q] at hbj; cases hbj
                  · rw [hbi] at q; cases q
          · rw [hN1]
            exact (hc4.mono fun k hk => ⟨hk.1, by omega⟩).trans (g2.mono fun k hk => ⟨by omega, hk.2⟩)
          · rw [hN1]
            intro k hk
            have h1 := hc5 k (by omega)
            have hnk : ¬ (NX (n0 + 8 * ops.size) recs c ≤ k ∧ k < n1) := by omega
            exact ⟨(g2 k hnk).1 h1.1, (g2 k hnk).2 h1.2⟩
        · rw [hw2 false hw]
          simp only [Bool.false_eq_true, if_false]
          refine cont G' w undef (R8 (n0 + 8 * i)) (.refl G') (.refl G' _) (fun k hk => .inl hk) (hsame2 G' (.refl G' _) hbi) ?_ (by rw [e1]; exact .pure (.sc _))
          rw [ov_val hbi, e2]; exact hinv
  refine key ops.size (Array.replicate ops.size false) G a _ (by simp) (by
    refine Nat.le_trans (List.countP_le_length ..) ?_
    simp) (fun j o _ hb => by
    exfalso
    simp only [Array.getD_eq_getD_getElem?, Array.getElem?_replicate] at hb
    split at hb <;> simp at hb) (.refl G) ⟨0, Nat.zero_le _, fun j hj _ => by simp [Array.getD_eq_getD_getElem?, Array.getElem?_replicate, hj], Nat.le_refl _, .refl G _, fun k hk => hfr0 k (by have : n0 + 8 * ops.size ≤ k := hk; omega)⟩ ?_ ?_ fun j hj _ k hk => hfr0 k (by have := hk.1; omega)
  · have : stD (DF st0 recs) (fun j => (Array.replicate ops.size false).getD j false) st0 ops.size = st0 := stD_none fun j => by
      simp only [Array.getD_eq_getD_getElem?, Array.getElem?_replicate]; split <;> rfl
    rw [this]; exact hinv.heap rfl rfl rfl rfl
  · have : tmAt (dF ops) (vF recs) (fun j => (Array.replicate ops.size false).getD j false) tm0 ops.size = tm0 := tmAt_none fun j => by
      simp only [Array.getD_eq_getD_getElem?, Array.getElem?_replicate]; split <;> rfl
    rw [this]; exact ht
theorem region_drawP (hP : ProgOK P) (hE : EnvOK P E) (hgl : GlOK P E.gl G.pr) {id : Nat} {recs : List Rec} (hinv : Inv P G st0 w) (ht : TmR P G N tm0 a) (hfr0 : Fresh G (fun k => n0 ≤ k)) (h8 : 8 ≤ n0) {B : List Nat}
    (hB : masksOk ops.toList B = true) (hS : slotsOk ops B = true) (hR : recsOk2 st0 B recs) {i0 : Nat} {o0 : Oper} {pv : V} {s1 : St} {n1 : Nat} (hlen : recs.length = i0) (ho0 : ops[i0]? = some o0) (hx : xops P E ops N n0 0 (ops.toList.take i0) tm0 st0 (n0 + 8 * ops.size) = some (.ok tm' st' nx' recs))
    (hw0 : xwant ops tm' o0 = some true) (hpx : xop P E tm' st' (n0 + 8 * i0) nx' o0 = some (.bpan pv s1 n1) ∨ (xop P E tm' st' (n0 + 8 * i0) nx' o0 = some (.pan pv) ∧ s1 = st' ∧ n1 = nx')) (hpo : pansOk B recs ops.size = true) (hSd : ∀ (j : Nat) (o : Oper), ops[j]? = some o → ∀ d, o.dst = some d → ¬ S d)
    (hK : Post P S G n0 N Q (.pan pv, ⟨tm0, s1, n1⟩)) : (Code.region id ops true).wp P Q a w := by
  have hi0 : i0 < ops.size := (Array.getElem?_eq_some_iff.1 ho0).1
  obtain ⟨hnx, _, htm, hst, hF⟩ := facts2 (ops := ops) (m := i0) (rest := ops.toList.take i0) (i := 0) (tm := tm0) (st := st0) (tm0 := tm0) (st0 := st0) (recs := recs) (nx0 := n0 + 8 * ops.size) (Nat.le_of_lt hi0) (by rw [List.drop_zero]) (Nat.zero_le _) (by rw [List.drop_zero]; exact hx) rfl rfl rfl (Nat.zero_le _)
  have hpo1 : ∀ j, i0 < j → j < ops.size → ordB B i0 j = true := fun j hj hjs => by
    unfold pansOk at hpo
    rw [hlen] at hpo
    simp only [Bool.and_eq_true] at hpo
    have := List.all_eq_true.1 hpo.1 j (List.mem_range.2 hjs)
    simp only [Bool.or_eq_true, decide_eq_true_eq] at this
    rcases this with h | h
    · omega
    · exact h
  have hpo2 : ∀ j, j < i0 → ordB B j i0 = true ∨ (bigF recs j = none ∧ ∀ k, DF st0 recs j k = none) := fun j hj => by
    unfold pansOk at hpo
    rw [hlen] at hpo
    simp only [Bool.and_eq_true] at hpo
    have := List.all_eq_true.1 hpo.2 j (List.mem_range.2 hj)
    simp only [Bool.or_eq_true, Bool.and_eq_true, List.isEmpty_iff, Option.isNone_iff_eq_none] at this
    rcases this with h | h
    · exact .inl h
    · exact .inr ⟨h.2, DF_nil h.2 h.1⟩
  refine wp_region_any hP.mix ?_
  have key : ∀ (fuel : Nat) (listed : Array Bool) (G' : Gh) (a : Act) (w : World), listed.size = ops.size → ((List.range ops.size).countP fun j => !listed.getD j false) ≤ fuel → Closed ops (fun j => listed.getD j false) → (∀ j, i0 ≤ j → listed.getD j false = false) → G.le G' → (∃ c, c ≤ ops.size ∧ (∀ j, j < ops.size → (bigF recs j).isSome = true → (listed.getD j false = true ↔ j < c)) ∧ n0 + 8 * ops.size ≤ NX (n0 + 8 * ops.size) recs c ∧ Same G G' (fun k => n0 ≤ k ∧ k < NX (n0 + 8 * ops.size) recs c) ∧ Fresh G' (fun k => NX (n0 + 8 * ops.size) recs c ≤ k)) →
      Inv P G' (stD (DF st0 recs) (fun j => listed.getD j false) st0 ops.size) w → TmR P G' N (tmAt (dF ops) (vF recs) (fun j => listed.getD j false) tm0 ops.size) a → (∀ j, j < ops.size → listed.getD j false = false → Fresh G' (R8 (n0 + 8 * j))) →
      wpAny P .any ops Q fuel listed a w := by
    intro fuel
    induction fuel with
    | zero =>
      intro listed G' a w hsz hcnt hcl hun hle hsame hinv ht hfr
      exfalso
      have := List.countP_eq_zero.1 (Nat.le_zero.1 hcnt) i0 (List.mem_range.2 hi0)
      rw [hun i0 (Nat.le_refl _)] at this
      simp at this
    | succ fuel ih =>
      intro listed G' a w hsz hcnt hcl hun hle hsame hinv ht hfr
      refine ⟨fun hnil => ?_, fun i hi => ?_⟩
      · have hall : ∀ n j, j < n → j < ops.size → listed.getD j false = true := by
          intro n
          induction n with
          | zero => intro j h; omega
          | succ n ihn =>
            intro j hj hjs
            by_cases hl : listed.getD j false = true
            · exact hl
            · exfalso
              have hl : listed.getD j false = false := by simpa using hl
              have hoj : ops[j]? = some ops[j] := Array.getElem?_eq_getElem hjs
              have : j ∈ Region.ready .any ops listed := mem_ready.2 ⟨getD_tf.2 ⟨by omega, hl⟩, _, hoj, fun e he hb => by
                have hlt := (masksOk_at hB (d := j) (o := ops[j]) (by simp [hjs])).1 e.on (List.mem_map.2 ⟨e, List.mem_filter.2 ⟨by simpa using he, hb⟩, rfl⟩)
                exact ihn e.on (by omega) (by omega)⟩
              rw [hnil] at this; cases this
        have h1 := hall (i0 + 1) i0 (by omega) hi0
        rw [hun i0 (Nat.le_refl _)] at h1
        cases h1
      · obtain ⟨hi1, o, ho, hpre'⟩ := mem_ready.1 hi
        obtain ⟨hil, hib⟩ := getD_tf.1 hi1
        have him : i < ops.size := (Array.getElem?_eq_some_iff.1 ho).1
        have hpre : ∀ e ∈ edges o, listed.getD e false = true := fun e he => by
          obtain ⟨x, hx, rfl⟩ := List.mem_map.1 he
          obtain ⟨h1, h2⟩ := List.mem_filter.1 hx
          exact hpre' x (by simpa using h1) h2
        have hord1 : ∀ j, ordB B j i = true → listed.getD j false = true := fun j hj => ord_in hB hcl (i + 1) i (by omega) o ho hpre j hj
        have hord2 : ∀ j, j < ops.size → listed.getD j false = true → ordB B i j = true → False := fun j hj hb ho2 => by
          have hoj : ops[j]? = some ops[j] := Array.getElem?_eq_getElem hj
          have := ord_in hB hcl (j + 1) j (by omega) _ hoj (hcl j _ hoj hb) i ho2
          rw [hib] at this; cases this
        have hdF : ∀ j y, ops[j]? = some y → dF ops j = y.dst := fun j y hy => by simp [dF, hy]
        have hapart : ∀ j, j < ops.size → listed.getD j false ≠ decide (j < i) → ∃ y, ops[j]? = some y ∧ ((j < i ∧ y.apart ops o = true) ∨ (i < j ∧ o.apart ops y = true)) := fun j hj hne => by
          have hoj : ops[j]? = some ops[j] := Array.getElem?_eq_getElem hj
          refine ⟨_, hoj, ?_⟩
          rcases Nat.lt_trichotomy j i with h | h | h
          · left
            refine ⟨h, ?_⟩
            rcases slots_at hS h hoj ho with q | q
            · exact absurd (by rw [hord1 j q]; simp [h]) hne
            · exact q
          · subst h; exact absurd (by rw [hib]; simp) hne
          · right
            refine ⟨h, ?_⟩
            have hb : listed.getD j false = true := by
              cases hq : listed.getD j false with
              | true => rfl
              | false => exact absurd (by rw [hq]; simp; omega) hne
            rcases slots_at hS h ho hoj with q | q
            · exact (hord2 j hj hb q).elim
            · exact q
        have htmA : ∀ t ∈ o.looksAt ops, tmAt (dF ops) (vF recs) (fun j => listed.getD j false) tm0 ops.size t = tmAt (dF ops) (vF recs) (fun _ => true) tm0 i t := fun t htl => by
          rw [← tmAt_trunc (n := ops.size) (Nat.le_of_lt him)]
          refine tmAt_agree fun j hj hne hd => ?_
          obtain ⟨y, hy, h | h⟩ := hapart j hj hne
          · rw [hdF j y hy] at hd; exact (Oper.apart_spec h.2).1 t hd htl
          · rw [hdF j y hy] at hd; exact (Oper.apart_spec h.2).2.2 t hd htl
        have hile : i ≤ i0 := by
          rcases Nat.lt_or_ge i0 i with h | h
          · have := hord1 i0 (hpo1 i h him)
            rw [hun i0 (Nat.le_refl _)] at this
            cases this
          · exact h
        have hjlt : ∀ j, listed.getD j false ≠ decide (j < i) → j < i0 := fun j hne => by
          rcases Nat.lt_or_ge j i0 with h | h
          · exact h
          · rw [hun j h] at hne
            exact absurd (by simp; omega) hne
        have hlisted : ∀ j, j < ops.size → listed.getD j false ≠ decide (j < i) → ((j < i ∧ ordB B j i ≠ true) ∨ (i < j ∧ ordB B i j ≠ true)) := fun j hj hne => by
          rcases Nat.lt_trichotomy j i with h | h | h
          · exact .inl ⟨h, fun q => hne (by rw [hord1 j q]; simp [h])⟩
          · subst h; exact absurd (by rw [hib]; simp) hne
          · have hb : listed.getD j false = true := by
              cases hq : listed.getD j false with
              | true => rfl
              | false => exact absurd (by rw [hq]; simp; omega) hne
            exact .inr ⟨h, fun q => hord2 j hj hb q⟩
        have hagr : (∀ j, j < i0 → listed.getD j false ≠ decide (j < i) → ∀ k, (k ∈ rF recs i ∨ i = i0) → DF st0 recs j k = none) → ∀ k, (k ∈ rF recs i ∨ i = i0) → stD (DF st0 recs) (fun j => listed.getD j false) st0 ops.size k = seqSt st0 recs i k := fun h k hk => by
          rw [← stD_seq, ← stD_trunc (n := ops.size) (Nat.le_of_lt him)]
          exact stD_agree fun j hj hne => h j (hjlt j hne) hne k hk
        have hstA : i < i0 → bigF recs i = none → ∀ k ∈ rF recs i, stD (DF st0 recs) (fun j => listed.getD j false) st0 ops.size k = seqSt st0 recs i k := fun hii hbi k hk => by
          refine hagr (fun j hj hne k hk => ?_) k (.inl hk)
          have hk : k ∈ rF recs i := by rcases hk with h | h
                                        · exact h
                                        · omega
          rcases hlisted j (by omega) hne with ⟨h, hno⟩ | ⟨h, hno⟩
          · rcases pair_at hR h (by omega) with q | ⟨_, _, _, q, _, _⟩
            · exact absurd q hno
            · exact q hbi k hk
          · rcases pair_at hR h (by omega) with q | ⟨_, _, q, _, _, _⟩
            · exact absurd q hno
            · exact q hbi k hk
        have hstB : i < i0 → (bigF recs i).isSome = true → stD (DF st0 recs) (fun j => listed.getD j false) st0 ops.size = seqSt st0 recs i := fun hii hbi => by
          funext k
          rw [← stD_seq, ← stD_trunc (n := ops.size) (Nat.le_of_lt him)]
          refine stD_agree fun j hj hne => ?_
          have hji := hjlt j hne
          rcases hlisted j hj hne with ⟨h, hno⟩ | ⟨h, hno⟩
          · rcases pair_at hR h (by omega) with q | ⟨_, _, _, _, _, q⟩
            · exact absurd q hno
            · exact q hbi k
          · rcases pair_at hR h (by omega) with q | ⟨_, _, _, _, q, _⟩
            · exact absurd q hno
            · exact q hbi k
        have hstC : i = i0 → stD (DF st0 recs) (fun j => listed.getD j false) st0 ops.size = seqSt st0 recs i := fun hii => by
          funext k
          refine hagr (fun j hj hne k _ => ?_) k (.inr hii)
          rcases hlisted j (by omega) hne with ⟨h, hno⟩ | ⟨h, hno⟩
          · rcases hpo2 j hj with q | q
            · rw [← hii] at q; exact absurd q hno
            · exact q.2 k
          · omega
        have hins1 := tmAt_insert (d := dF ops) (v := vF recs) (tm0 := tm0) (b := fun j => listed.getD j false) (i := i) hib (n := ops.size) him fun j hij hj hb t hd1 hd2 => by
          have hoj : ops[j]? = some ops[j] := Array.getElem?_eq_getElem hj
          rcases slots_at hS hij ho hoj with q | q
          · exact hord2 j hj hb q
          · rw [hdF i o ho] at hd1; rw [hdF j _ hoj] at hd2
            exact (Oper.apart_spec q).2.1 t hd1 hd2
        have hins2 : i < i0 → stD (DF st0 recs) (upB (fun j => listed.getD j false) i) st0 ops.size = ov (DF st0 recs i) (stD (DF st0 recs) (fun j => listed.getD j false) st0 ops.size) := fun hii => stD_insert (D := DF st0 recs) (st0 := st0) (b := fun j => listed.getD j false) (i := i) hib (n := ops.size) him fun j hij hj hb k hk1 => by
          have hji : j < i0 := by
            rcases Nat.lt_or_ge j i0 with h | h
            · exact h
            · rw [hun j h] at hb; cases hb
          rcases pair_at hR hij (by omega) with q | ⟨_, q, _⟩
          · exact (hord2 j hj hb q).elim
          · exact q k hk1
        have hupd : (fun j => (listed.setIfInBounds i true).getD j false) = upB (fun j => listed.getD j false) i := by
          funext j
          simp only [upB]
          by_cases hji : j = i
          · subst hji; simp [Array.getD_eq_getD_getElem?, hil]
          · rw [if_neg hji, getD_set_ne _ (fun e => hji e.symm)]
        have hw2 : ∀ b, xwant ops (tmAt (dF ops) (vF recs) (fun _ => true) tm0 i) o = some b → Region.wanted o (yielded ops a.tmps) = b := fun b hb => want_sound ht (by rw [want_same htmA]; exact hb)
        have hgl' : GlOK P E.gl G'.pr := fun g x hg => (hgl g x hg).mono hle.pr
        obtain ⟨c, hc1, hc2, hc3, hc4, hc5⟩ := hsame
        rcases Nat.lt_or_eq_of_le hile with hii | hii
        · obtain ⟨o', ho', hdst, hcase⟩ := hF i (Nat.zero_le _) hii
          rw [ho] at ho'
          obtain rfl := Option.some.inj ho'
          have cont : ∀ G'' w'' v (S : Nat → Prop), G'.le G'' → Same G' G'' S → (∀ k, S k → R8 (n0 + 8 * i) k ∨ n0 + 8 * ops.size ≤ k) → (∃ c, c ≤ ops.size ∧ (∀ j, j < ops.size → (bigF recs j).isSome = true → ((listed.setIfInBounds i true).getD j false = true ↔ j < c)) ∧ n0 + 8 * ops.size ≤ NX (n0 + 8 * ops.size) recs c ∧ Same G G'' (fun k => n0 ≤ k ∧ k < NX (n0 + 8 * ops.size) recs c) ∧ Fresh G'' (fun k => NX (n0 + 8 * ops.size) recs c ≤ k)) → Inv P G'' (ov (DF st0 recs i) (stD (DF st0 recs) (fun j => listed.getD j false) st0 ops.size)) w'' → Rep P G'' (vF recs i) v → wpAny P .any ops Q fuel (listed.setIfInBounds i true) (a.put o.dst v) w'' := fun G'' w'' v S g1 g2 g2' gS g3 g4 => by
            refine ih (listed.setIfInBounds i true) G'' (a.put o.dst v) w'' (by simpa using hsz) ?_ ?_ ?_ (hle.trans g1) gS ?_ ?_ fun j hj hjb => ?_
            · have := countP_less (p := fun j => !listed.getD j false) (p' := fun j => !(listed.setIfInBounds i true).getD j false) (l := List.range ops.size) (fun j _ hj => by
                have e := congrFun hupd j
                rw [e] at hj
                simp only [upB] at hj
                split at hj
                · cases hj
                · exact hj) ⟨i, List.mem_range.2 him, by simp [hib], by
                have e := congrFun hupd i
                rw [e]; simp [upB]⟩
              omega
            · rw [hupd]
              intro j y hy hb e he
              simp only [upB] at hb ⊢
              split
              · rfl
              · split at hb
                · rename_i h; subst h; rw [ho] at hy; obtain rfl := Option.some.inj hy; exact hpre e he
                · exact hcl j y hy hb e he
            · intro j hj
              have e := congrFun hupd j
              rw [e]
              simp only [upB]
              rw [if_neg (by omega)]
              exact hun j hj
            · rw [hupd, hins2 hii]; exact g3
            · rw [hupd, hins1]
              have := (ht.mono g1).put hdst g4
              rw [hdF i o ho]; exact this
            · have e := congrFun hupd j
              rw [e] at hjb
              simp only [upB] at hjb
              split at hjb
              · cases hjb
              · rename_i hji
                have h1 := hfr j hj hjb
                intro k hk
                have hnk : ¬ S k := fun q => by
                  rcases g2' k q with q | q
                  · exact hji (by have := hk.1; have := hk.2; have := q.1; have := q.2; omega)
                  · have := hk.2; omega
                exact ⟨(g2 k hnk).1 (h1 k hk).1, (g2 k hnk).2 (h1 k hk).2⟩
          unfold wpOp
          simp only [ho]
          have hsame2 : ∀ G'', Same G' G'' (R8 (n0 + 8 * i)) → bigF recs i = none → (∃ c, c ≤ ops.size ∧ (∀ j, j < ops.size → (bigF recs j).isSome = true → ((listed.setIfInBounds i true).getD j false = true ↔ j < c)) ∧ n0 + 8 * ops.size ≤ NX (n0 + 8 * ops.size) recs c ∧ Same G G'' (fun k => n0 ≤ k ∧ k < NX (n0 + 8 * ops.size) recs c) ∧ Fresh G'' (fun k => NX (n0 + 8 * ops.size) recs c ≤ k)) := fun G'' g2 hbi => by
            refine ⟨c, hc1, fun j hj hbj => ?_, hc3, hc4.trans (g2.mono fun k hk => ⟨by have := hk.1; omega, by have := hk.2; omega⟩), fun k hk => ?_⟩
            · have e := congrFun hupd j
              rw [e]
              simp only [upB]
              split
              · rename_i h; subst h; rw [hbi] at hbj; cases hbj
              · exact hc2 j hj hbj
            · have hnk : ¬ R8 (n0 + 8 * i) k := fun q => by have := q.2; omega
              have h1 := hc5 k hk
              exact ⟨(g2 k hnk).1 h1.1, (g2 k hnk).2 h1.2⟩
          rcases hcase with ⟨hw, hbi, hxo⟩ | ⟨s1, n1, hw, hbi, hxo⟩ | ⟨hw, hbi, e1, e2, e3⟩
          · rw [hw2 true hw]
            simp only [if_true]
            refine .inl (xop_sound (i0 := n0 + 8 * i) (nx' := NX (n0 + 8 * ops.size) recs c) hP hE hgl' hinv ht (hfr i him hib) hc5 (by omega) (by omega) (r := .val (vF recs i) (δF recs i) (rF recs i)) ?_ fun G'' w'' v g1 g2 g3 g4 => cont G'' w'' v _ g1 g2 (fun k hk => .inl hk) (hsame2 G'' g2 hbi) (by rw [ov_val hbi]; exact g3) g4)
            rw [xop_tm (ev_same htmA)]
            exact xop_st hxo (hstA hii hbi)
          · rw [hw2 true hw]
            simp only [if_true]
            have hsm : (bigF recs i).isSome = true := by rw [hbi]; rfl
            have hstE := hstB hii hsm
            have hci : c ≤ i := by
              rcases Nat.lt_or_ge i c with h | h
              · have := (hc2 i him hsm).2 h; rw [hib] at this; cases this
              · exact h
            have hnxe : NX (n0 + 8 * ops.size) recs i = NX (n0 + 8 * ops.size) recs c := nx_eq hci fun j hj1 hj2 => by
              cases hbj : bigF recs j with
              | none => rfl
              | some p =>
                have hjs : (bigF recs j).isSome = true := by rw [hbj]; rfl
                have hnl : ¬ listed.getD j false = true := fun q => by have := (hc2 j (by omega) hjs).1 q; omega
                rcases pair_at hR hj2 (by omega) with q | ⟨q, _⟩
                · exact absurd (hord1 j q) hnl
                · rcases q with q | q
                  · rw [hbj] at q; cases q
                  · rw [hbi] at q; cases q
            have hx2 : xop P E (tmAt (dF ops) (vF recs) (fun j => listed.getD j false) tm0 ops.size) (stD (DF st0 recs) (fun j => listed.getD j false) st0 ops.size) (n0 + 8 * i) (NX (n0 + 8 * ops.size) recs c) o = some (.big (vF recs i) s1 n1) := by
              rw [xop_tm (ev_same htmA), hstE, ← hnxe]; exact hxo
            refine .inl (xop_sound (i0 := n0 + 8 * i) (nx' := NX (n0 + 8 * ops.size) recs c) hP hE hgl' hinv ht (hfr i him hib) hc5 (by omega) (by omega) hx2 fun G'' w'' v g1 g2 g3 g4 g5 => cont G'' w'' v _ g1 g2 (fun k hk => .inr (by have := hk.1; omega)) ?_ (by rw [hstE, ov_big hbi]; exact g4) g5)
            have hN1 : NX (n0 + 8 * ops.size) recs (i + 1) = n1 := by simp only [NX, hbi]
            refine ⟨i + 1, him, fun j hj hbj => ?_, by rw [hN1]; omega, ?_, ?_⟩
            · have e := congrFun hupd j
              rw [e]
              simp only [upB]
              split
              · rename_i h; subst h; simp
              · rename_i hji
                rw [hc2 j hj hbj]
                constructor
                · intro h; omega
                · intro h
                  have hji' : j < i := by omega
                  rcases pair_at hR hji' (by omega) with q | ⟨q, _⟩
                  · exact (hc2 j hj hbj).1 (hord1 j q)
                  · rcases q with q | q
                    · rw [q] at hbj; cases hbj
                    · rw [hbi] at q; cases q
            · rw [hN1]
              exact (hc4.mono fun k hk => ⟨hk.1, by omega⟩).trans (g2.mono fun k hk => ⟨by omega, hk.2⟩)
            · rw [hN1]
              intro k hk
              have h1 := hc5 k (by omega)
              have hnk : ¬ (NX (n0 + 8 * ops.size) recs c ≤ k ∧ k < n1) := by omega
              exact ⟨(g2 k hnk).1 h1.1, (g2 k hnk).2 h1.2⟩
          · rw [hw2 false hw]
            simp only [Bool.false_eq_true, if_false]
            refine cont G' w undef (R8 (n0 + 8 * i)) (.refl G') (.refl G' _) (fun k hk => .inl hk) (hsame2 G' (.refl G' _) hbi) ?_ (by rw [e1]; exact .pure (.sc _))
            rw [ov_val hbi, e2]; exact hinv
        · subst hii
          rw [ho0] at ho
          obtain rfl := Option.some.inj ho
          have hstE := hstC rfl
          have hnxe : NX (n0 + 8 * ops.size) recs i = NX (n0 + 8 * ops.size) recs c := by
            rcases Nat.le_total c i with h | h
            · exact nx_eq h fun j hj1 hj2 => by
                rcases hpo2 j hj2 with q | q
                · cases hbj : bigF recs j with
                  | none => rfl
                  | some p =>
                    have := (hc2 j (by omega) (by rw [hbj]; rfl)).1 (hord1 j q)
                    omega
                · exact q.1
            · exact (nx_eq h fun j hj1 hj2 => by
                cases hbj : bigF recs j with
                | none => rfl
                | some p =>
                  have := (hc2 j (by omega) (by rw [hbj]; rfl)).2 hj2
                  rw [hun j hj1] at this; cases this).symm
          unfold wpOp
          simp only [ho0]
          rw [hw2 true (by rw [← htm]; exact hw0)]
          simp only [if_true]
          have hS0 : ∀ t, S t → Rep P G' (tm0 t) (a.tmps.getD t undef) := fun t ht0 => by
            have h1 := ht.rep t
            have h2 : tmAt (dF ops) (vF recs) (fun j => listed.getD j false) tm0 ops.size t = tmAt (dF ops) (vF recs) (fun _ => false) tm0 ops.size t := tmAt_agree fun j hj _ hd => by
              have hoj : ops[j]? = some ops[j] := Array.getElem?_eq_getElem hj
              rw [hdF j _ hoj] at hd
              exact hSd j _ hoj t hd ht0
            rw [h2, tmAt_none fun _ => rfl] at h1
            exact h1
          have hdf : a.defers = G.w0.2 := by rw [ht.df, hle.w0]
          rcases hpx with hpx | ⟨hpx, rfl, rfl⟩
          · have hx2 : xop P E (tmAt (dF ops) (vF recs) (fun j => listed.getD j false) tm0 ops.size) (stD (DF st0 recs) (fun j => listed.getD j false) st0 ops.size) (n0 + 8 * i) (NX (n0 + 8 * ops.size) recs c) o0 = some (.bpan pv s1 n1) := by
              rw [xop_tm (ev_same htmA), hstE, ← hnxe, ← hst, ← htm, ← hnx]; exact hpx
            refine .inl (xop_sound (i0 := n0 + 8 * i) (nx' := NX (n0 + 8 * ops.size) recs c) hP hE hgl' hinv ht (hfr i him hib) hc5 (by omega) (by omega) hx2 fun G'' w'' u g1 g2 g3 g4 g5 => ?_)
            exact hK G'' a w'' u (hle.trans g1) ((hc4.mono fun k hk => ⟨hk.1, by show k < n1; omega⟩).trans (g2.mono fun k hk => ⟨by omega, hk.2⟩)) (by show n0 ≤ n1; omega) g4 hdf (fun t h => (hS0 t h).mono g1) g5
          · have hx2 : xop P E (tmAt (dF ops) (vF recs) (fun j => listed.getD j false) tm0 ops.size) (stD (DF st0 recs) (fun j => listed.getD j false) st0 ops.size) (n0 + 8 * i) (NX (n0 + 8 * ops.size) recs c) o0 = some (.pan pv) := by
              rw [xop_tm (ev_same htmA), hstE, ← hnxe, ← hst, ← htm, ← hnx]; exact hpx
            refine .inl (xop_sound (i0 := n0 + 8 * i) (nx' := NX (n0 + 8 * ops.size) recs c) hP hE hgl' hinv ht (hfr i him hib) hc5 (by omega) (by omega) hx2 fun G'' w'' u g1 g2 g3 g4 => ?_)
            have hn : n1 = NX (n0 + 8 * ops.size) recs c := hnx.trans hnxe
            refine hK G'' a w'' u (hle.trans g1) ((hc4.mono fun k hk => ⟨hk.1, by show k < n1; omega⟩).trans (g2.mono fun k hk => ⟨by have := hk.1; omega, by have := hk.2; show k < n1; omega⟩)) (by show n0 ≤ n1; omega) ?_ hdf (fun t h => (hS0 t h).mono g1) g4
            show Inv P G'' s1 w''
            rw [hst, ← hstE]; exact g3
  refine key ops.size (Array.replicate ops.size false) G a _ (by simp) (by
    refine Nat.le_trans (List.countP_le_length ..) ?_
    simp) (fun j o _ hb => by
    exfalso
    simp only [Array.getD_eq_getD_getElem?, Array.getElem?_replicate] at hb
    split at hb <;> simp at hb) (fun j _ => by simp only [Array.getD_eq_getD_getElem?, Array.getElem?_replicate]; split <;> rfl) (.refl G) ⟨0, Nat.zero_le _, fun j hj _ => by simp [Array.getD_eq_getD_getElem?, Array.getElem?_replicate, hj], Nat.le_refl _, .refl G _, fun k hk => hfr0 k (by have : n0 + 8 * ops.size ≤ k := hk; omega)⟩ ?_ ?_ fun j hj _ k hk => hfr0 k (by have := hk.1; omega)
  · have : stD (DF st0 recs) (fun j => (Array.replicate ops.size false).getD j false) st0 ops.size = st0 := stD_none fun j => by
      simp only [Array.getD_eq_getD_getElem?, Array.getElem?_replicate]; split <;> rfl
    rw [this]; exact hinv.heap rfl rfl rfl rfl
  · have : tmAt (dF ops) (vF recs) (fun j => (Array.replicate ops.size false).getD j false) tm0 ops.size = tm0 := tmAt_none fun j => by
      simp only [Array.getD_eq_getD_getElem?, Array.getElem?_replicate]; split <;> rfl
    rw [this]; exact ht
end
end Go.Proofs.YtkbheoganajhaaaDoor.Vm
set_option linter.unusedVariables false
set_option linter.unusedSimpArgs false
namespace Go.Proofs.YtkbheoganajhaaaDoor.Vm
open Go.RowKit
section
variable {P : Program} {S : Nat → Prop} {E : Env} {G G' : Gh} {st st' : St} {tm tm' tm0 : Nat → V} {st0 : St} {w w' : World} {a : Act} {N n0 nx nx' k : Nat} {ops : Array Oper} {Q : Exit → Act → World → Prop}
theorem wpOp_of {i : Nat} {o : Oper} {K : Act → World → Prop} (ho : ops[i]? = some o) (hw : Region.wanted o (yielded ops a.tmps) = true) (h : o.wp P a w K Q) : wpOp P ops Q i K a w := by
  unfold wpOp; rw [ho]; simp only [hw, if_true]; exact .inl h
theorem wpOp_skip {i : Nat} {o : Oper} {K : Act → World → Prop} (ho : ops[i]? = some o) (hw : Region.wanted o (yielded ops a.tmps) = false) (h : K (a.put o.dst undef) w) : wpOp P ops Q i K a w := by
  unfold wpOp; rw [ho]; simp only [hw, Bool.false_eq_true, if_false]; exact h
def Owed (P : Program) (G : Gh) (lo N nx : Nat) (Q : Exit → Act → World → Prop) : RR → Prop
  | .ok tm' st' nx' _ => ∀ G' a' w', G.le G' → Same G G' (fun k => lo ≤ k ∧ k < nx') → nx ≤ nx' → Inv P G' st' w' → TmR P G' N tm' a' → Q .normal a' w'
  | .pan tm' v st' nx' => ∀ G' a' w' u, G.le G' → Same G G' (fun k => lo ≤ k ∧ k < nx') → nx ≤ nx' → Inv P G' st' w' → TmR P G' N tm' a' → Rep P G' v u → Q (.panic [{ v := u, recovered := false }]) a' w'
theorem Owed.step {lo lo' nx1 : Nat} {r : RR} (h : Owed P G lo N nx Q r) (hg : G.le G') (hs : ∀ n, nx1 ≤ n → Same G G' (fun k => lo ≤ k ∧ k < n)) (hl : lo ≤ lo') (hn : nx ≤ nx1) : Owed P G' lo' N nx1 Q r := by
  cases r with
  | ok tm st nx' recs => exact fun G'' a' w' h1 h2 h3 h4 h5 => h G'' a' w' (hg.trans h1) ((hs nx' h3).trans (h2.mono fun k hk => ⟨by omega, hk.2⟩)) (by omega) h4 h5
  | pan tm v st nx' => exact fun G'' a' w' u h1 h2 h3 h4 h5 h6 => h G'' a' w' u (hg.trans h1) ((hs nx' h3).trans (h2.mono fun k hk => ⟨by omega, hk.2⟩)) (by omega) h4 h5 h6
theorem xops_seq (hP : ProgOK P) (hE : EnvOK P E) (h8 : 8 ≤ n0) : ∀ {rest : List Oper} {i : Nat} {tm : Nat → V} {st : St} {nx : Nat} {G : Gh} {a : Act} {w : World} {rr : RR}, ops.toList.drop i = rest → xops P E ops N n0 i rest tm st nx = some rr → GlOK P E.gl G.pr → Inv P G st w → TmR P G N tm a →
    Fresh G (fun k => (n0 + 8 * i ≤ k ∧ k < n0 + 8 * ops.size) ∨ nx ≤ k) → n0 + 8 * ops.size ≤ nx → Owed P G (n0 + 8 * i) N nx Q rr → wpOps P ops Q (List.range' i rest.length) a w
  | [], i, tm, st, nx, G, a, w, rr, hd, hx, hgl, hinv, ht, hfr, hn, hK => by
    simp only [xops, Option.some.injEq] at hx
    subst hx
    exact hK G a w (.refl G) (.refl G _) (Nat.le_refl _) hinv ht
  | o :: rest, i, tm, st, nx, G, a, w, rr, hd, hx, hgl, hinv, ht, hfr, hn, hK => by
    obtain ⟨ho, hd'⟩ := drop_cons hd
    have ho' : ops[i]? = some o := by simpa using ho
    have hlt : i < ops.size := (Array.getElem?_eq_some_iff.1 ho').1
    rw [List.length_cons, List.range'_succ, wpOps_cons]
    unfold xops at hx
    split at hx
    · rename_i hdst
      have hfr8 : Fresh G (R8 (n0 + 8 * i)) := fun q hq => hfr q (.inl ⟨hq.1, by have := hq.2; omega⟩)
      have hfrn : Fresh G (fun q => nx ≤ q) := fun q hq => hfr q (.inr hq)
      -- a value, and what comes behind it
      have val : ∀ (G' : Gh) (a' : Act) (w' : World) (tm' : Nat → V) (st' : St) (nx1 : Nat) (rr' : RR), G.le G' → (∀ q, ¬ R8 (n0 + 8 * i) q → ¬ (nx ≤ q ∧ q < nx1) → (G.bx q = none → G'.bx q = none) ∧ (G.tl q = none → G'.tl q = none)) → nx ≤ nx1 → Inv P G' st' w' → TmR P G' N tm' a' → xops P E ops N n0 (i + 1) rest tm' st' nx1 = some rr' → Owed P G (n0 + 8 * i) N nx Q rr' →
          wpOps P ops Q (List.range' (i + 1) rest.length) a' w' := fun G' a' w' tm' st' nx1 rr' g1 g2 g3 g4 g5 hr hk => by
        refine xops_seq hP hE h8 hd' hr (fun g x hg => (hgl g x hg).mono g1.pr) g4 g5 (fun q hq => ?_) (by omega) (hk.step g1 (fun n hn1 q hq => g2 q (fun h => hq ⟨h.1, by have := h.2; omega⟩) fun h => hq ⟨by omega, by omega⟩) (by omega) g3)
        have hn1 : ¬ R8 (n0 + 8 * i) q := fun h => by have := h.1; have := h.2; omega
        have hn2 : ¬ (nx ≤ q ∧ q < nx1) := fun h => by omega
        have h1 := hfr q (by omega)
        exact ⟨(g2 q hn1 hn2).1 h1.1, (g2 q hn1 hn2).2 h1.2⟩
      split at hx
      · rename_i hw
        have hw := want_sound ht hw
        split at hx
        · rename_i v δ rd hxo
          refine wpOp_of ho' hw (xop_sound (i0 := n0 + 8 * i) (nx' := nx) hP hE hgl hinv ht hfr8 hfrn (by omega) (by omega) hxo fun G' w' u g1 g2 g3 g4 => ?_)
          have ht' := (ht.mono g1).put hdst g4
          split at hx
          · rename_i tm1 st1 nx1 recs hr
            obtain rfl := Option.some.inj hx
            exact val G' _ w' _ _ nx _ g1 (fun q h1 _ => g2 q h1) (Nat.le_refl _) g3 ht' hr hK
          · rename_i hne
            exact val G' _ w' _ _ nx _ g1 (fun q h1 _ => g2 q h1) (Nat.le_refl _) g3 ht' hx hK
        · rename_i v st1 nx1 hxo
          refine wpOp_of ho' hw (xop_sound (i0 := n0 + 8 * i) (nx' := nx) hP hE hgl hinv ht hfr8 hfrn (by omega) (by omega) hxo fun G' w' u g1 g2 g3 g4 g5 => ?_)
          have ht' := (ht.mono g1).put hdst g5
          split at hx
          · rename_i tm1 st2 nx2 recs hr
            obtain rfl := Option.some.inj hx
            exact val G' _ w' _ _ nx1 _ g1 (fun q _ h2 => g2 q h2) g3 g4 ht' hr hK
          · rename_i hne
            exact val G' _ w' _ _ nx1 _ g1 (fun q _ h2 => g2 q h2) g3 g4 ht' hx hK
        · rename_i v hxo
          obtain rfl := Option.some.inj hx
          refine wpOp_of ho' hw (xop_sound (i0 := n0 + 8 * i) (nx' := nx) hP hE hgl hinv ht hfr8 hfrn (by omega) (by omega) hxo fun G' w' u g1 g2 g3 g4 => ?_)
          exact hK G' a w' u g1 (g2.mono fun q hq => ⟨hq.1, by have := hq.2; omega⟩) (Nat.le_refl _) g3 (ht.mono g1) g4
        · rename_i v st1 nx1 hxo
          obtain rfl := Option.some.inj hx
          refine wpOp_of ho' hw (xop_sound (i0 := n0 + 8 * i) (nx' := nx) hP hE hgl hinv ht hfr8 hfrn (by omega) (by omega) hxo fun G' w' u g1 g2 g3 g4 g5 => ?_)
          exact hK G' a w' u g1 (g2.mono fun q hq => ⟨by omega, hq.2⟩) g3 g4 (ht.mono g1) g5
        · cases hx
      · rename_i hw
        have hw := want_sound ht hw
        have ht' := ht.put hdst (Rep.pure (P := P) (G := G) (RepP.sc undef))
        refine wpOp_skip ho' hw ?_
        split at hx
        · rename_i tm1 st1 nx1 recs hr
          obtain rfl := Option.some.inj hx
          exact val G _ w _ _ nx _ (.refl G) (fun _ _ _ => ⟨id, id⟩) (Nat.le_refl _) hinv ht' hr hK
        · exact val G _ w _ _ nx _ (.refl G) (fun _ _ _ => ⟨id, id⟩) (Nat.le_refl _) hinv ht' hx hK
      · cases hx
    · cases hx
theorem vlit_ok {a b : Value} (h : vlit a b = true) : a = b := by
  unfold vlit at h
  split at h
  · simp only [Bool.and_eq_true, decide_eq_true_eq] at h; rw [h.1, h.2]
  · rw [of_decide_eq_true h]
  · rw [eq_of_beq h]
  · rfl
  · cases h
mutual
theorem veq_ok : ∀ (a b : V), veq a b = true → a = b
  | .sc a, b, h => by
    cases b <;> simp only [veq, Bool.false_eq_true] at h
    rw [vlit_ok h]
  | .list e xs r, b, h => by
    cases b <;> simp only [veq, Bool.false_eq_true, Bool.and_eq_true, decide_eq_true_eq] at h
    rw [h.1.1, h.1.2, veqs_ok _ _ h.2]
  | .agg a, b, h => by
    cases b <;> simp only [veq, Bool.false_eq_true] at h
    rw [veqs_ok _ _ h]
  | .tup a, b, h => by
    cases b <;> simp only [veq, Bool.false_eq_true] at h
    rw [veqs_ok _ _ h]
  | .ptr i o, b, h => by
    cases b <;> simp only [veq, Bool.false_eq_true, Bool.and_eq_true, decide_eq_true_eq] at h
    rw [h.1, h.2]
  | .cp a, b, h => by
    cases b <;> simp only [veq, Bool.false_eq_true] at h
    rw [veqs_ok _ _ h]
  | .map i, b, h => by
    cases b <;> simp only [veq, Bool.false_eq_true, decide_eq_true_eq] at h
    rw [h]
  | .ifc t v, b, h => by
    cases b <;> simp only [veq, Bool.false_eq_true, Bool.and_eq_true, decide_eq_true_eq] at h
    rw [h.1, veq_ok _ _ h.2]
  | .fn f a c, b, h => by cases b <;> simp only [veq, Bool.false_eq_true] at h
  | .sl e g s i o n, b, h => by
    cases b <;> simp only [veq, Bool.false_eq_true, Bool.and_eq_true, decide_eq_true_eq, beq_iff_eq] at h
    rw [h.1.1.1.1.1, h.1.1.1.1.2, h.1.1.1.2, h.1.1.2, h.1.2, h.2]
  | .emp e, b, h => by cases b <;> simp only [veq, Bool.false_eq_true] at h
theorem veqs_ok : ∀ (a b : List V), veqs a b = true → a = b
  | [], b, h => by
    cases b
    · rfl
    · simp only [veqs, Bool.false_eq_true] at h
  | x :: xs, b, h => by
    cases b
    · simp only [veqs, Bool.false_eq_true] at h
    · simp only [veqs, Bool.and_eq_true] at h
      rw [veq_ok _ _ h.1, veqs_ok _ _ h.2]
end
theorem obEq_ok {a b : Option Ob} (h : obEq a b = true) : a = b := by
  unfold obEq at h
  split at h
  · rfl
  · rw [veqs_ok _ _ h]
  · simp only [Bool.and_eq_true, decide_eq_true_eq] at h; rw [h.1, h.2]
  · simp only [Bool.and_eq_true, decide_eq_true_eq] at h; rw [h.1, h.2]
  · cases h
theorem recsOk3_ok {st0 : St} {B : List Nat} {recs : List Rec} (h : recsOk3 st0 B recs = true) : recsOk2 st0 B recs := by
  intro j hj i hi
  have h1 := List.all_eq_true.1 (List.all_eq_true.1 h j hj) i hi
  simp only [Bool.or_eq_true] at h1
  rcases h1 with h1 | h1
  · exact .inl h1
  · right
    unfold pairOkB at h1
    unfold pairOk
    split at h1 <;> rename_i e1 e2
    · exact h1
    · simp only [Bool.and_eq_true, List.isEmpty_iff] at h1
      exact ⟨h1.1, fun k hk => obEq_ok (List.all_eq_true.1 h1.2 k hk)⟩
    · simp only [Bool.and_eq_true, List.isEmpty_iff] at h1
      exact ⟨h1.1, fun k hk => obEq_ok (List.all_eq_true.1 h1.2 k hk)⟩
    · cases h1
theorem xregion_sound (hP : ProgOK P) (hE : EnvOK P E) {id : Nat} {draw : Bool} {fr : Fr} {res : Ex × Fr} (hx : xregion P E N ops draw fr = some res) (hgl : GlOK P E.gl G.pr) (hinv : Inv P G fr.st w) (ht : TmR P G N fr.tm a) (hfr : Fresh G (fun q => fr.nx ≤ q)) (h8 : 8 ≤ fr.nx)
    (hSd : ∀ (j : Nat) (o : Oper), ops[j]? = some o → ∀ d, o.dst = some d → ¬ S d) (hK : Post P S G fr.nx N Q res) : (Code.region id ops draw).wp P Q a w := by
  have seq : draw = false → ∀ rr, xops P E ops N fr.nx 0 ops.toList fr.tm fr.st (fr.nx + 8 * ops.size) = some rr → Owed P G (fr.nx + 8 * 0) N (fr.nx + 8 * ops.size) Q rr → (Code.region id ops draw).wp P Q a w := fun hd rr hr hk => by
    subst hd
    refine wp_region ?_
    have := xops_seq (Q := Q) hP hE h8 (i := 0) (List.drop_zero) hr hgl hinv ht (fun q hq => hfr q (by omega)) (Nat.le_refl _) hk
    rw [List.range_eq_range']
    simpa using this
  unfold xregion at hx
  split at hx
  · rename_i tm1 st1 nx1 recs hr
    split at hx
    · rename_i hd
      split at hx
      · rename_i hc
        simp only [Bool.and_eq_true] at hc
        obtain rfl := Option.some.inj hx
        have hd : draw = true := hd
        subst hd
        exact region_draw hP hE hgl hinv ht hfr h8 hc.1.1 hc.1.2 hc.2 hr hK
      · split at hx
        · rename_i hc
          simp only [Bool.and_eq_true] at hc
          obtain rfl := Option.some.inj hx
          have hd : draw = true := hd
          subst hd
          exact region_draw2 hP hE hgl hinv ht hfr h8 hc.1.1 hc.1.2 (recsOk3_ok hc.2) hr hK
        split at hx
        · rename_i hc
          simp only [Bool.and_eq_true] at hc
          split at hx
          · rename_i hc2
            obtain rfl := Option.some.inj hx
            have hd : draw = true := hd
            subst hd
            exact region_draw2 hP hE hgl hinv ht hfr h8 hc.1 hc.2 hc2 hr hK
          · cases hx
        · cases hx
    · rename_i hd
      obtain rfl := Option.some.inj hx
      exact seq (by simpa using hd) _ hr fun G' a' w' h1 h2 h3 h4 h5 => hK G' a' w' h1 (h2.mono fun q hq => ⟨by omega, hq.2⟩) (by show fr.nx ≤ nx1; omega) h4 h5
  · rename_i tmp v st1 nx1 hr
    split at hx
    · rename_i hd
      have hd : draw = true := hd
      subst hd
      split at hx
      · rename_i hp
        obtain rfl := Option.some.inj hx
        obtain ⟨i, o, tm1, s, n, recs, e1, e2, e3, e4, e5, e6, e7, e8, e9⟩ := hp
        exact region_drawP hP hE hgl hinv ht hfr h8 e6 e7 e8 e2 e1 e3 e4 e5 e9 hSd hK
      · cases hx
    · rename_i hd
      obtain rfl := Option.some.inj hx
      exact seq (by simpa using hd) _ hr fun G' a' w' u h1 h2 h3 h4 h5 h6 => hK G' a' w' u h1 (h2.mono fun q hq => ⟨by omega, hq.2⟩) (by show fr.nx ≤ nx1; omega) h4 (by rw [h5.df, h1.w0]) (fun t _ => h5.rep t) h6
  · cases hx
theorem Post.step {n1 : Nat} {res : Ex × Fr} (h : Post P S G n0 N Q res) (hg : G.le G') (hs : Same G G' (fun k => n0 ≤ k ∧ k < n1)) (hn : n0 ≤ n1) : Post P S G' n1 N Q res := by
  obtain ⟨e, fr⟩ := res
  have sm : ∀ {G'' : Gh}, n1 ≤ fr.nx → Same G' G'' (fun k => n1 ≤ k ∧ k < fr.nx) → Same G G'' (fun k => n0 ≤ k ∧ k < fr.nx) := fun h3 h2 => (hs.mono fun k hk => ⟨hk.1, by omega⟩).trans (h2.mono fun k hk => ⟨by omega, hk.2⟩)
  cases e with
  | norm => exact fun G'' a' w' h1 h2 h3 h4 h5 => h G'' a' w' (hg.trans h1) (sm h3 h2) (by omega) h4 h5
  | exit id => exact fun G'' a' w' h1 h2 h3 h4 h5 => h G'' a' w' (hg.trans h1) (sm h3 h2) (by omega) h4 h5
  | ret => exact fun G'' a' w' h1 h2 h3 h4 h5 => h G'' a' w' (hg.trans h1) (sm h3 h2) (by omega) h4 h5
  | pan v => exact fun G'' a' w' u h1 h2 h3 h4 h5 h6 h7 => h G'' a' w' u (hg.trans h1) (sm h3 h2) (by omega) h4 (by rw [h5, hg.w0]) h6 h7
theorem fresh_step {n1 : Nat} (hfr : Fresh G (fun q => n0 ≤ q)) (hs : Same G G' (fun k => n0 ≤ k ∧ k < n1)) (hn : n0 ≤ n1) : Fresh G' (fun q => n1 ≤ q) := fun q hq => by
  have h1 := hfr q (by omega)
  have h2 := hs q (by omega)
  exact ⟨h2.1 h1.1, h2.2 h1.2⟩
theorem gl_step (hgl : GlOK P E.gl G.pr) (hg : G.le G') : GlOK P E.gl G'.pr := fun g x h => (hgl g x h).mono hg.pr
theorem xcode_sound (hP : ProgOK P) (hE : EnvOK P E) : ∀ (c : Code) {fr : Fr} {res : Ex × Fr} {G : Gh} {a : Act} {w : World} {Q : Exit → Act → World → Prop}, (∀ d ∈ wrs c, ¬ S d) → xcode P E N k c fr = some res → GlOK P E.gl G.pr → Inv P G fr.st w → TmR P G N fr.tm a → Fresh G (fun q => fr.nx ≤ q) → 8 ≤ fr.nx →
    Post P S G fr.nx N Q res → c.wp P Q a w := by
  intro c
  induction c with
  | skip =>
    intro fr res G a w Q hS hx hgl hinv ht hfr h8 hK
    simp only [xcode, Option.some.injEq] at hx; subst hx
    exact wp_skip (hK G a w (.refl G) (.refl G _) (Nat.le_refl _) hinv ht)
  | region id ops draw =>
    intro fr res G a w Q hS hx hgl hinv ht hfr h8 hK
    exact xregion_sound hP hE (by simpa only [xcode] using hx) hgl hinv ht hfr h8 (fun j o ho d hd => hS d (List.mem_filterMap.2 ⟨o, by have := Array.mem_of_getElem? ho; simpa using this, hd⟩)) hK
  | seq x y ihx ihy =>
    intro fr res G a w Q hS hx hgl hinv ht hfr h8 hK
    simp only [xcode] at hx
    refine wp_seq ?_
    split at hx
    · rename_i fr' hx1
      refine ihx (fun d hd => hS d (List.mem_append.2 (.inl hd))) hx1 hgl hinv ht hfr h8 fun G' a' w' h1 h2 h3 h4 h5 => ?_
      exact ihy (fun d hd => hS d (List.mem_append.2 (.inr hd))) hx (gl_step hgl h1) h4 h5 (fresh_step hfr h2 h3) (Nat.le_trans h8 h3) (hK.step h1 h2 h3)
    · rename_i r hne
      refine ihx (fun d hd => hS d (List.mem_append.2 (.inl hd))) hx hgl hinv ht hfr h8 ?_
      obtain ⟨e, fr'⟩ := res
      cases e with
      | norm => exact absurd hx (fun h => hne _ h)
      | exit id => exact hK
      | ret => exact hK
      | pan v => exact hK
  | cond c x y ihx ihy =>
    intro fr res G a w Q hS hx hgl hinv ht hfr h8 hK
    simp only [xcode] at hx
    split at hx
    · rename_i b hb
      have hc := (ev_sound hgl ht hb).sc_inv
      refine wp_cond hc ?_
      cases b with
      | true => exact ihx (fun d hd => hS d (List.mem_append.2 (.inl hd))) hx hgl hinv ht hfr h8 hK
      | false => exact ihy (fun d hd => hS d (List.mem_append.2 (.inr hd))) hx hgl hinv ht hfr h8 hK
    · cases hx
  | block id b ih =>
    intro fr res G a w Q hS hx hgl hinv ht hfr h8 hK
    simp only [xcode] at hx
    refine wp_block ?_
    split at hx
    · rename_i j fr' hx1
      refine ih hS hx1 hgl hinv ht hfr h8 fun G' a' w' h1 h2 h3 h4 h5 => ?_
      show (if j = id then Q .normal a' w' else Q (.exit j) a' w')
      split at hx
      · rename_i hj; rw [if_pos hj]; obtain rfl := Option.some.inj hx; exact hK G' a' w' h1 h2 h3 h4 h5
      · rename_i hj; rw [if_neg hj]; obtain rfl := Option.some.inj hx; exact hK G' a' w' h1 h2 h3 h4 h5
    · rename_i r hne
      refine ih hS hx hgl hinv ht hfr h8 ?_
      obtain ⟨e, fr'⟩ := res
      cases e with
      | norm => exact hK
      | exit id => exact absurd hx (fun h => hne _ _ h)
      | ret => exact hK
      | pan v => exact hK
  | loop b ih =>
    intro fr res G a w Q hS hx hgl hinv ht hfr h8 hK
    simp only [xcode] at hx
    refine wp_loop_rounds k ?_
    have key : ∀ (n : Nat) {fr : Fr} {G : Gh} {a : Act} {w : World}, iter (xcode P E N k b) n fr = some res → GlOK P E.gl G.pr → Inv P G fr.st w → TmR P G N fr.tm a → Fresh G (fun q => fr.nx ≤ q) → 8 ≤ fr.nx → Post P S G fr.nx N Q res → Code.rounds P b Q n a w := by
      intro n
      induction n with
      | zero => intro fr G a w hx; simp [iter] at hx
      | succ n ihn =>
        intro fr G a w hx hgl hinv ht hfr h8 hK
        simp only [iter] at hx
        rw [rounds_succ]
        split at hx
        · rename_i fr' hx1
          refine ih hS hx1 hgl hinv ht hfr h8 fun G' a' w' h1 h2 h3 h4 h5 => ?_
          exact ihn hx (gl_step hgl h1) h4 h5 (fresh_step hfr h2 h3) (Nat.le_trans h8 h3) (hK.step h1 h2 h3)
        · rename_i r hne
          refine ih hS hx hgl hinv ht hfr h8 ?_
          obtain ⟨e, fr'⟩ := res
          cases e with
          | norm => exact absurd hx (fun h => hne _ h)
          | exit id => exact hK
          | ret => exact hK
          | pan v => exact hK
    exact key k hx hgl hinv ht hfr h8 hK
  | exit id =>
    intro fr res G a w Q hS hx hgl hinv ht hfr h8 hK
    simp only [xcode, Option.some.injEq] at hx; subst hx
    exact wp_exit (hK G a w (.refl G) (.refl G _) (Nat.le_refl _) hinv ht)
  | ret =>
    intro fr res G a w Q hS hx hgl hinv ht hfr h8 hK
    simp only [xcode, Option.some.injEq] at hx; subst hx
    exact wp_ret (hK G a w (.refl G) (.refl G _) (Nat.le_refl _) hinv ht)
  | label l =>
    intro fr res G a w Q hS hx hgl hinv ht hfr h8 hK
    simp only [xcode, Option.some.injEq] at hx; subst hx
    exact wp_label (hK G a w (.refl G) (.refl G _) (Nat.le_refl _) hinv ht)
  | _ => intro fr res G a w Q hS hx; simp [xcode] at hx
end
end Go.Proofs.YtkbheoganajhaaaDoor.Vm
set_option linter.unusedVariables false
set_option linter.unusedSimpArgs false
namespace Go.Proofs.YtkbheoganajhaaaDoor.Vm
open Go.RowKit
section
variable {P : Program} {E : Env} {G G' : Gh} {st st' : St} {tm tm' tm0 : Nat → V} {st0 : St} {w w' : World} {a : Act} {N n0 nx nx' k : Nat} {ops : Array Oper} {Q : Exit → Act → World → Prop}
def resOf (a : Act) : ResultVar → Sem Value
  | .tmp t => pure (a.tmps.getD t undef)
  | .cell b t => do loadVar t (← asAddr (a.tmps.getD b undef))
theorem res1_sound (hinv : Inv P G st w) {r : ResultVar} (ht : Rep P G (tm (resT r)) (a.tmps.getD (resT r) undef)) {v : V} (h : xres1 P ⟨tm, st, nx⟩ r = some v) : ∃ u, ((resOf a r).run P w = .ok u w) ∧ Rep P G v u := by
  cases r with
  | tmp t => simp only [xres1, Option.some.injEq] at h; subst h; exact ⟨_, rfl, ht⟩
  | cell b t =>
    simp only [xres1] at h
    split at h
    · rename_i id off htm
      split at h
      · rename_i cs hs
        have hr : Rep P G (tm b) (a.tmps.getD b undef) := ht
        rw [htm] at hr
        obtain ⟨bb, hv, hb⟩ := hr.ptr_inv
        obtain ⟨b', arr, T, h1, h2, h3, h4, h5⟩ := hinv.objs id _ hs
        rw [hb] at h1
        obtain rfl := Option.some.inj h1
        obtain ⟨u, hu, hrep⟩ := ld_loadVar (w := w) h h5 h4 (ad := ⟨bb, off, none⟩) (fun j u hu => by rw [cell_blk h3]; simpa using hu)
        refine ⟨u, ?_, hrep⟩
        simp only [resOf, hv, asAddr, pure_bind]
        exact hu
      · cases h
    · cases h
theorem ress_sound (hinv : Inv P G st w) : ∀ {rs : List ResultVar} {vs : List V}, (∀ r ∈ rs, Rep P G (tm (resT r)) (a.tmps.getD (resT r) undef)) → rs.mapM (xres1 P ⟨tm, st, nx⟩) = some vs → ∃ us, (rs.mapM (resOf a)).run P w = .ok us w ∧ All2 (Rep P G) vs us
  | [], vs, _, h => by simp at h; subst h; exact ⟨[], by simp, .nil⟩
  | r :: rs, vs, ht, h => by
    rw [List.mapM_cons] at h
    simp only [Option.bind_eq_bind, Option.bind_eq_some_iff] at h
    obtain ⟨v, hv, vs', hvs, h⟩ := h
    simp at h; subst h
    obtain ⟨u, hu, hr⟩ := res1_sound hinv (ht r (by simp)) hv
    obtain ⟨us, hus, hrs⟩ := ress_sound hinv (fun r hr => ht r (by simp [hr])) hvs
    refine ⟨u :: us, ?_, .cons hr hrs⟩
    rw [List.mapM_cons]
    simp only [Sem.run_bind, hu, Result.andThen_ok, hus, Sem.run_pure]
theorem results_sound' (hinv : Inv P G st w) {fn : Func} (ht : ∀ r ∈ fn.results.toList, Rep P G (tm (resT r)) (a.tmps.getD (resT r) undef)) {v : V} (h : xres P ⟨tm, st, nx⟩ fn.results.toList = some v) : ∃ u, (results fn a.tmps).run P w = .ok u w ∧ Rep P G v u := by
  unfold xres at h
  rw [Option.map_eq_some_iff] at h
  obtain ⟨vs, hvs, rfl⟩ := h
  obtain ⟨us, hus, hr⟩ := ress_sound hinv ht hvs
  have hrun : (results fn a.tmps).run P w = .ok (if h : us.toArray.size = 1 then us.toArray[0] else .tuple us.toArray) w := by
    have e : results fn a.tmps = (do let vs ← fn.results.mapM (resOf a); pure (if h : vs.size = 1 then vs[0] else .tuple vs)) := rfl
    rw [e, Sem.run_bind]
    have : (fn.results.mapM (resOf a)).run P w = .ok us.toArray w := by
      rw [Array.mapM_eq_mapM_toList, Sem.run_map, hus]; rfl
    rw [this]
    rfl
  refine ⟨_, hrun, ?_⟩
  cases hr with
  | nil => exact .tup .nil
  | cons h1 h2 =>
    cases h2 with
    | nil => exact h1
    | cons h3 h4 =>
      rw [dif_neg (by simp)]
      exact .tup (.cons h1 (.cons h3 (.of h4)))
theorem results_sound (hinv : Inv P G st w) (ht : TmR P G N tm a) {fn : Func} {v : V} (h : xres P ⟨tm, st, nx⟩ fn.results.toList = some v) : ∃ u, (results fn a.tmps).run P w = .ok u w ∧ Rep P G v u := results_sound' hinv (fun r _ => ht.rep _) h
def noS (_ : Nat) : Prop := False
theorem noS_ok (c : Code) : ∀ d ∈ wrs c, ¬ noS d := fun _ _ h => h
/-! ### The calls that stand deferred are told beside the data -/
def Gh.sw (G : Gh) (ds : List Deferred) : Gh := { G with w0 := (G.w0.1, ds) }
theorem Rep.sw (ds : List Deferred) {x : V} {v : Value} (h : Rep P G x v) : Rep P (G.sw ds) x v :=
  Rep.rec (G := G) (motive_1 := fun x v _ => Rep P (G.sw ds) x v) (motive_2 := fun xs vs _ => Reps P (G.sw ds) xs vs)
    (fun h => .pure h) (fun h1 h2 h3 h4 h5 => .tok h1 h2 h3 h4 h5) (fun h => .ptr h) (fun h => .map h) (fun h1 _ ih => .agg h1 ih) (fun _ ih => .tup ih) (fun _ _ h1 h2 => .fn h1 h2) (fun _ ih => .ifc ih) (fun h1 h2 h3 h4 h5 h6 h7 h8 h9 h10 => .sl h1 h2 h3 h4 h5 h6 h7 h8 h9 h10) .emp .nil (fun _ _ h1 h2 => .cons h1 h2) h
theorem ObOK.sw (ds : List Deferred) {i : Nat} {ob : Ob} (h : ObOK P G w i ob) : ObOK P (G.sw ds) w i ob := by
  cases ob with
  | cells cs =>
    obtain ⟨b, arr, T, h1, h2, h3, h4, h5⟩ := h
    exact ⟨b, arr, T, h1, h2, h3, h4, h5.mono fun _ _ => Rep.sw ds⟩
  | map es =>
    obtain ⟨b, arr, T, h1, h2, h3, h4⟩ := h
    exact ⟨b, arr, T, h1, h2, h3, h4.mono fun _ _ q => ⟨q.1.sw ds, q.2.sw ds⟩⟩
  | iter s pos => exact h
  | tok n e => exact h
  | row e s n cs =>
    obtain ⟨v, vs, b, h1, h2, h3, h4, h5, h6, h7, h8⟩ := h
    exact ⟨v, vs, b, h1, h2, h3, h4, h5, h6, h7, h8.mono fun _ _ => Rep.sw ds⟩
  | frz ds => exact h
theorem Inv.sw (ds : List Deferred) (h : Inv P G st w) : Inv P (G.sw ds) st w := ⟨h.below, h.size, h.prot, fun i ob hi => (h.objs i ob hi).sw ds, h.apart, h.free⟩
theorem Gh.le.sw {ds : List Deferred} (h : (G.sw ds).le G') : G.le (G'.sw G.w0.2) := by
  refine ⟨h.base, ?_, h.pr, h.bx, h.tl, h.low⟩
  show (G'.w0.1, G.w0.2) = G.w0
  rw [h.w0]; rfl
theorem HpPost.sw {ds : List Deferred} {r : HR} {e : Ending} (h : HpPost P (G.sw ds) nx r e w) : HpPost P G nx r e w := by
  cases r with
  | ret y st' nx' =>
    obtain ⟨G', v, h0, h1, h2, h3, h4, h5⟩ := h
    exact ⟨_, v, h0, h1.sw, h2, h3, h4.sw _, h5.sw _⟩
  | pan y st' nx' =>
    obtain ⟨G', v, h0, h1, h2, h3, h4, h5⟩ := h
    exact ⟨_, v, h0, h1.sw, h2, h3, h4.sw _, h5.sw _⟩
theorem TmR.sw (ds : List Deferred) (h : TmR P G N tm a) : TmR P (G.sw ds) N tm { a with defers := ds } := ⟨h.sz, rfl, fun t => (h.rep t).sw ds⟩
/-- A frame as a call begins. -/
theorem tm_enter {as : List V} {vs : List Value} (has : All2 (Rep P G) as vs) (hd : G.w0.2 = []) (n : Nat) : TmR P G (as.length + (n - as.length)) (fun t => as.getD t (.sc undef)) { tmps := vs.toArray ++ Array.replicate (n - vs.toArray.size) undef, defers := [] } := by
  have hl := has.length
  refine ⟨by simp [hl], hd.symm, fun t => ?_⟩
  by_cases hlt : t < as.length
  · have e1 : as[t]? = some as[t] := List.getElem?_eq_getElem hlt
    obtain ⟨u, hu, hr⟩ := has.get e1
    have e2 : (vs.toArray ++ Array.replicate (n - vs.toArray.size) undef).getD t undef = u := by
      rw [Array.getD_eq_getD_getElem?, Array.getElem?_append_left (by simp; omega)]
      simp [hu]
    show Rep P G (as.getD t (.sc undef)) _
    rw [e2, List.getD_eq_getElem?_getD, e1]
    exact hr
  · have e2 : (vs.toArray ++ Array.replicate (n - vs.toArray.size) undef).getD t undef = undef := by
      rw [Array.getD_eq_getD_getElem?, Array.getElem?_append_right (by simp; omega), Array.getElem?_replicate]
      split <;> rfl
    show Rep P G (as.getD t (.sc undef)) _
    rw [e2, List.getD_eq_getElem?_getD, List.getElem?_eq_none (by omega)]
    exact .pure (.sc _)
theorem xrun0_sound (hP : ProgOK P) (hE : EnvOK P E) {fn : Func} {f : FuncId} (hf : P.funcs[f]? = some fn) {as : List V} {vs : List Value} {r : HR} (hx : xrun0 P E k fn as st nx = some r) (hd : G.w0.2 = []) (hgl : GlOK P E.gl G.pr) (hinv : Inv P G st w) (has : All2 (Rep P G) as vs) (h8 : 8 ≤ nx) (hfr : Fresh G (fun q => nx ≤ q)) :
    Calls P f vs.toArray w (HpPost P G nx r) := by
  unfold xrun0 at hx
  split at hx
  · cases hx
  · rename_i c hb
    have ht := tm_enter has hd fn.ntmps
    refine calls_of_wp hf hb ?_
    have df : ∀ {G' : Gh} {a' : Act} {tm' : Nat → V}, G.le G' → TmR P G' (as.length + (fn.ntmps - as.length)) tm' a' → a'.defers = [] := fun h1 h5 => by rw [h5.df, h1.w0, hd]
    have done : ∀ (fr : Fr) (v : V), xres P fr fn.results.toList = some v → r = .ret v fr.st fr.nx → ∀ (G' : Gh) (a' : Act) (w' : World), G.le G' → Same G G' (fun k => nx ≤ k ∧ k < fr.nx) → nx ≤ fr.nx → Inv P G' fr.st w' → TmR P G' (as.length + (fn.ntmps - as.length)) fr.tm a' →
        a'.defers = [] ∧ ∃ u, (results fn a'.tmps).run P w' = .ok u w' ∧ HpPost P G nx r (.returned u) w' := fun fr v hv hr G' a' w' h1 h2 h3 h4 h5 => by
      obtain ⟨u, hu, hrep⟩ := results_sound (nx := fr.nx) h4 h5 hv
      subst hr
      exact ⟨df h1 h5, u, hu, G', u, rfl, h1, h2, h3, h4, hrep⟩
    split at hx
    · rename_i fr hxc
      rw [Option.map_eq_some_iff] at hx
      obtain ⟨v, hv, hr⟩ := hx
      exact xcode_sound (S := noS) hP hE c (noS_ok c) hxc hgl hinv ht hfr h8 fun G' a' w' h1 h2 h3 h4 h5 => done fr v hv hr.symm G' a' w' h1 h2 h3 h4 h5
    · rename_i fr hxc
      rw [Option.map_eq_some_iff] at hx
      obtain ⟨v, hv, hr⟩ := hx
      exact xcode_sound (S := noS) hP hE c (noS_ok c) hxc hgl hinv ht hfr h8 fun G' a' w' h1 h2 h3 h4 h5 => done fr v hv hr.symm G' a' w' h1 h2 h3 h4 h5
    · rename_i v fr hxc
      obtain rfl := Option.some.inj hx
      exact xcode_sound (S := noS) hP hE c (noS_ok c) hxc hgl hinv ht hfr h8 fun G' a' w' u h1 h2 h3 h4 h5 _ h6 => ⟨by rw [h5, hd], G', u, rfl, h1, h2, h3, h4, h6⟩
    · cases hx
/-! ### A deferred closure that recovers -/
theorem dsplit_inv {c : Code} {q : Code × FuncId × List Operand × Tmp × Oper × Oper × Array Oper × Code} (h : dsplit c = some q) : ∃ id caps args ty, c = .seq q.1 (.seq (.region id q.2.2.2.2.2.2.1 false) q.2.2.2.2.2.2.2) ∧ q.2.2.2.2.2.2.1.toList = [q.2.2.2.2.1, q.2.2.2.2.2.1] ∧ q.2.2.2.2.1.op = .makeFunc (.func q.2.1) #[] caps ∧ caps.toList = q.2.2.1 ∧
    q.2.2.2.2.1.dst = some q.2.2.2.1 ∧ q.2.2.2.2.1.guard = none ∧ q.2.2.2.2.2.1.op = .defer ⟨.value (.tmp q.2.2.2.1), args, ty⟩ ∧ args = #[] ∧ q.2.2.2.2.2.1.dst = none ∧ q.2.2.2.2.2.1.guard = none := by
  unfold dsplit at h
  split at h
  · rename_i r1 id ops rest
    split at h
    · rename_i o1 o2 ho
      split at h
      · rename_i g first caps d d' args ty e1 e2 e3 e4 e5 e6
        split at h
        · rename_i hc
          obtain rfl := Option.some.inj h
          obtain ⟨rfl, hf, ha⟩ := hc
          have hf : first = #[] := by simpa using hf
          have ha : args = #[] := by simpa using ha
          subst hf; subst ha
          exact ⟨id, caps, #[], ty, rfl, ho, e1, rfl, e2, e3, e4, rfl, e5, e6⟩
        · cases h
      · cases h
    · cases h
  · cases h
theorem csplit_inv {c : Code} {q : Tmp × Tmp × TypeId × Array Oper × Code} (h : csplit c = some q) : ∃ id o0 o1 rest args ts ft, c = .seq (.region id q.2.2.2.1 false) q.2.2.2.2 ∧ q.2.2.2.1.toList = o0 :: o1 :: rest ∧ o0.op = .call ⟨.builtin .recover, args, ts⟩ ∧ o0.dst = some q.1 ∧ o0.guard = none ∧
    o1.op = .typeAssert (.tmp q.1) ft q.2.2.1 true ∧ o1.dst = some q.2.1 ∧ o1.guard = none := by
  unfold csplit at h
  split at h
  · rename_i id ops c
    split at h
    · rename_i o0 o1 rest ho
      split at h
      · rename_i args ts t0 t ft to t1 e1 e2 e3 e4 e5 e6
        split at h
        · rename_i hc
          obtain rfl := Option.some.inj h
          subst hc
          exact ⟨id, o0, o1, rest, args, ts, ft, rfl, ho, e1, e2, e3, e4, e5, e6⟩
        · cases h
      · cases h
    · cases h
  · cases h
theorem wpS_recover {id : Nat} {o0 : Oper} {t0 : Tmp} {rest : List Oper} {args : Array Operand} {ts : Array TypeId} {c0 c1 : Frame} {cs : List Frame} {v : Value} {Q' : Exit → Act → List Frame → World → Prop} (ho : ops.toList = o0 :: rest) (h1 : o0.op = .call ⟨.builtin .recover, args, ts⟩) (h2 : o0.dst = some t0) (h3 : o0.guard = none)
    (hrec : recoverD (c0 :: cs) = some (v, c1 :: cs) ∨ (recoverD (c0 :: cs) = none ∧ v = .nilIface ∧ c1 = c0)) (h : wpOps P ops (fun e a' w' => Q' e a' (c1 :: cs) w') (List.range' 1 rest.length) (a.put (some t0) v) w) : (Code.region id ops false).wpS P Q' a (c0 :: cs) w := by
  intro b k hb hr
  have hsz : ops.size = rest.length + 1 := by rw [← Array.length_toList, ho]; rfl
  have hop : ops[0]? = some o0 := by rw [← Array.getElem?_toList, ho]; rfl
  have hrange : List.range ops.size = 0 :: List.range' 1 rest.length := by rw [hsz, List.range_eq_range', List.range'_succ]
  have hw : Region.wanted o0 (yielded ops a.tmps) = true := by simp [Region.wanted, h3]
  have hg := stepG_op (P := P) (b := b) (k := k) (cs := c0 :: cs) (w := w) (rest := List.range' 1 rest.length) hop hw
  have hrun : (execOp a.eval o0).run P w = .ok .recover w := by simp [execOp, h1, resolve, invoke, builtin]
  have hfin : ∀ v, (b.at a (.inRegion ops (0 :: List.range' 1 rest.length) :: k)).finish v = b.at (a.put o0.dst v) (.inRegion ops (List.range' 1 rest.length) :: k) := by
    intro v; rw [Frame.finish_at, hop]; rfl
  have hk : (b.at a (.inRegion ops (0 :: List.range' 1 rest.length) :: k)).kind = .deferred := hb
  have htr := tryRecover_deferred hk (c0 :: cs)
  obtain ⟨e, a', w', hq, harr⟩ := wp_ops _ _ _ h b k (c1 :: cs)
  refine ⟨e, a', c1 :: cs, w', hq, .of_steps (.head step_region ?_) harr⟩
  rw [hrange]
  refine .one (step_lone_go ?_)
  rw [hg]
  rw [h2] at hfin
  rcases hrec with hrec | ⟨hrec, rfl, rfl⟩
  · rw [← hfin]
    simp only [Frame.at] at htr ⊢
    simp [stepG.apply, hrun, htr, hrec]
  · rw [← hfin]
    simp only [Frame.at] at htr ⊢
    simp [stepG.apply, hrun, htr, hrec]
theorem tasrt_sound {to ft : TypeId} {rv tv : V} {v : Value} (h : tasrt P to rv = some tv) (hr : Rep P G rv v) (w : World) : ∃ u, (Instr.typeAssert v ft to true).run P w = .ok u w ∧ Rep P G tv u := by
  unfold tasrt at h
  split at h
  · cases h
  · cases h
  · rename_i d hni hu
    have zero : ∀ {tv : V}, ((uzero P to).bind fun z => if ones (V.ofV z).cells = true then some (V.tup [V.ofV z, .bool false]) else none) = some tv → ∃ z, uzero P to = some z ∧ Rep P G tv (.tuple #[z, .bool false]) := fun {tv} h => by
      rw [Option.bind_eq_some_iff] at h
      obtain ⟨z, hz, h⟩ := h
      split at h
      · rename_i h1
        obtain rfl := Option.some.inj h
        exact ⟨z, hz, .tup (vs := [z, .bool false]) (.cons (.pure (rep_ofV _ z h1)) (.cons (.pure (.sc _)) .nil))⟩
      · cases h
    split at h
    · rename_i t x
      obtain ⟨x', rfl, hx⟩ := hr.ifc_inv
      split at h
      · rename_i e
        obtain rfl := Option.some.inj h
        subst e
        refine ⟨.tuple #[x', .bool true], ?_, .tup (vs := [x', .bool true]) (.cons hx (.cons (.pure (.sc _)) .nil))⟩
        cases d <;> first | (exfalso; exact hni _ rfl) | simp [Instr.typeAssert, run_underlying hu]
      · rename_i e
        obtain ⟨z, hz, hz'⟩ := zero h
        refine ⟨_, ?_, hz'⟩
        cases d <;> first | (exfalso; exact hni _ rfl) | simp [Instr.typeAssert, run_underlying hu, e, run_zero hz]
    · have := hr.sc_inv; subst this
      obtain ⟨z, hz, hz'⟩ := zero h
      refine ⟨_, ?_, hz'⟩
      cases d <;> first | (exfalso; exact hni _ rfl) | simp [Instr.typeAssert, run_underlying hu, run_zero hz]
    · cases h
theorem sc_nilIface {v : Value} (h : Rep P G (.sc .nilIface) v) : v = .nilIface := h.sc_inv
theorem xclos_sound (hP : ProgOK P) (hE : EnvOK P E) {g : FuncId} {cs : List V} {us : List Value} {rv : V} {v : Value} {fr : Fr} {u u' : FrameMode} {R : Ending → FrameMode → World → Prop} (hx : xclos P E k g cs rv st nx = some fr) (hd : G.w0.2 = []) (hgl : GlOK P E.gl G.pr) (hinv : Inv P G st w) (hcs : All2 (Rep P G) cs us) (hrv : Rep P G rv v)
    (h8 : 8 ≤ nx) (hfr : Fresh G (fun q => nx ≤ q)) (hrec : ∀ (c0 : Frame) (ds : List Frame), c0.mode = u → recoverD (c0 :: ds) = some (v, { c0 with mode := u' } :: ds) ∨ (recoverD (c0 :: ds) = none ∧ v = .nilIface ∧ ({ c0 with mode := u' } : Frame) = c0))
    (hR : ∀ G' w' y, G.le G' → Same G G' (fun k => nx ≤ k ∧ k < fr.nx) → nx ≤ fr.nx → Inv P G' fr.st w' → R (.returned y) u' w') : CallsD P g us.toArray u w R := by
  unfold xclos at hx
  split at hx
  · rename_i hnb
    rw [Option.bind_eq_some_iff] at hx
    obtain ⟨fn, hfn, hx⟩ := hx
    rw [Option.bind_eq_some_iff] at hx
    obtain ⟨q, hq, hx⟩ := hx
    rw [Option.bind_eq_some_iff] at hq
    obtain ⟨c, hc, hq⟩ := hq
    split at hx
    · rename_i hcond
      obtain ⟨hres, ht0, ht1⟩ := hcond
      rw [Option.bind_eq_some_iff] at hx
      obtain ⟨tv, htv, hx⟩ := hx
      obtain ⟨id, o0, o1, rest, args, ts, ft, hceq, hops, e1, e2, e3, e4, e5, e6⟩ := csplit_inv hq
      refine callsD_of_wpS hfn hc fun c0 ds hu => ?_
      rw [hceq]
      refine wpS_seq ?_
      refine wpS_recover (c1 := { c0 with mode := u' }) hops e1 e2 e3 (hrec c0 ds hu) ?_
      have tE := tm_enter hcs hd fn.ntmps
      have tE0 := tE.put (dst := some q.1) (by simpa [dstOk] using ht0) hrv
      have hop1 : q.2.2.2.1[1]? = some o1 := by rw [← Array.getElem?_toList, hops]; rfl
      have hw1 : ∀ tmps, Region.wanted o1 (yielded q.2.2.2.1 tmps) = true := fun _ => by simp [Region.wanted, e6]
      rw [List.length_cons, List.range'_succ, wpOps_cons]
      have hev : ∀ (a' : Act), TmR P G (cs.length + (fn.ntmps - cs.length)) (upd (fun t => cs.getD t (.sc undef)) q.1 rv) a' → a'.tmps.getD q.1 undef = v → (a'.eval (.tmp q.1)) = v := fun a' _ h => by simpa [Act.eval] using h
      obtain ⟨uv, huv, hrepu⟩ := tasrt_sound (ft := ft) htv hrv w
      have hget : (({ tmps := us.toArray ++ Array.replicate (fn.ntmps - us.toArray.size) undef, defers := [] } : Act).put (some q.1) v).eval (.tmp q.1) = v := by
        have hsz := tE.sz
        simp only [Act.put, Act.eval]
        rw [Array.getD_eq_getD_getElem?]
        rw [Array.getElem?_setIfInBounds_self_of_lt (by rw [hsz]; exact ht0)]
        rfl
      refine wpOp_of hop1 (hw1 _) ?_
      have hexec : (execOp (({ tmps := us.toArray ++ Array.replicate (fn.ntmps - us.toArray.size) undef, defers := [] } : Act).put (some q.1) v).eval o1).run P w = .ok (.value uv) w := by
        simp only [execOp, e4]
        rw [hget]
        simp [huv]
      unfold Oper.wp
      rw [hexec, Oper.upon_value, e5]
      have tE1 := tE0.put (dst := some q.2.1) (by simpa [dstOk] using ht1) hrepu
      have hd2 : q.2.2.2.1.toList.drop 2 = rest := by rw [hops]; rfl
      have hsz : q.2.2.2.1.size = rest.length + 2 := by rw [← Array.length_toList, hops]; rfl
      rw [hd2] at hx
      split at hx
      · rename_i tm st' nx' recs hxo
        have fin : ∀ (fr' : Fr) (G' : Gh) (a' : Act) (w' : World), fr' = fr → G.le G' → Same G G' (fun k => nx ≤ k ∧ k < fr'.nx) → nx ≤ fr'.nx → Inv P G' fr'.st w' → TmR P G' (cs.length + (fn.ntmps - cs.length)) fr'.tm a' →
            a'.defers = [] ∧ ∃ u'', ({ c0 with mode := u' } :: ds : List Frame) = { c0 with mode := u'' } :: ds ∧ ∃ y, (results fn a'.tmps).run P w' = .ok y w' ∧ R (.returned y) u'' w' := fun fr' G' a' w' e h1 h2 h3 h4 h5 => by
          subst e
          exact ⟨by rw [h5.df, h1.w0, hd], u', rfl, .tuple #[], by simp [results, hres], hR G' w' _ h1 h2 h3 h4⟩
        have key : ∀ (e : Ex) (fr' : Fr), (e = .norm ∨ e = .ret) → fr' = fr → xcode P E (cs.length + (fn.ntmps - cs.length)) k q.2.2.2.2 ⟨tm, st', nx'⟩ = some (e, fr') →
            wpOps P q.2.2.2.1 (fun e a' w' => Exit.thenS (q.2.2.2.2.wpS P (bodyPostS P fn c0 ds R)) (bodyPostS P fn c0 ds R) e a' ({ c0 with mode := u' } :: ds) w') (List.range' (1 + 1) rest.length) ((({ tmps := us.toArray ++ Array.replicate (fn.ntmps - us.toArray.size) undef, defers := [] } : Act).put (some q.1) v).put (some q.2.1) uv) w := fun e fr' he hfe hxc => by
          refine xops_seq hP hE (n0 := nx) (G := G) h8 (i := 2) hd2 hxo hgl hinv tE1 (fun q' hq' => hfr q' (by omega)) (Nat.le_refl _) fun G' a' w' h1 h2 h3 h4 h5 => ?_
          show (q.2.2.2.2.wpS P (bodyPostS P fn c0 ds R)) a' ({ c0 with mode := u' } :: ds) w'
          refine wpS_of_wp ?_
          have hs2 : Same G G' (fun k => nx ≤ k ∧ k < nx') := h2.mono fun k hk => ⟨by omega, hk.2⟩
          have hn : nx ≤ nx' := Nat.le_trans (Nat.le_add_right _ _) h3
          refine xcode_sound (S := noS) hP hE q.2.2.2.2 (noS_ok _) hxc (gl_step hgl h1) h4 h5 (fresh_step hfr hs2 hn) (Nat.le_trans h8 hn) ?_
          rcases he with rfl | rfl
          · exact fun G'' a'' w'' k1 k2 k3 k4 k5 => fin fr' G'' a'' w'' hfe (h1.trans k1) ((hs2.mono fun k hk => ⟨hk.1, Nat.lt_of_lt_of_le hk.2 k3⟩).trans (k2.mono fun k hk => ⟨Nat.le_trans hn hk.1, hk.2⟩)) (Nat.le_trans hn k3) k4 k5
          · exact fun G'' a'' w'' k1 k2 k3 k4 k5 => fin fr' G'' a'' w'' hfe (h1.trans k1) ((hs2.mono fun k hk => ⟨hk.1, Nat.lt_of_lt_of_le hk.2 k3⟩).trans (k2.mono fun k hk => ⟨Nat.le_trans hn hk.1, hk.2⟩)) (Nat.le_trans hn k3) k4 k5
        split at hx
        · rename_i fr' hxc
          exact key .norm fr' (.inl rfl) (Option.some.inj hx) hxc
        · rename_i fr' hxc
          exact key .ret fr' (.inr rfl) (Option.some.inj hx) hxc
        · cases hx
      · cases hx
    · cases hx
  · cases hx
theorem xrunD_sound (hP : ProgOK P) (hE : EnvOK P E) {fn : Func} {f : FuncId} (hf : P.funcs[f]? = some fn) {c : Code} {q : Code × FuncId × List Operand × Tmp × Oper × Oper × Array Oper × Code} (hb : fn.body = some c) (hq : dsplit c = some q) {as : List V} {vs : List Value} {r : HR} (hx : xrunD P E k fn q as st nx = some r) (hd : G.w0.2 = [])
    (hgl : GlOK P E.gl G.pr) (hinv : Inv P G st w) (has : All2 (Rep P G) as vs) (h8 : 8 ≤ nx) (hfr : Fresh G (fun q => nx ≤ q)) : Calls P f vs.toArray w (HpPost P G nx r) := by
  obtain ⟨id, caps, args, ty, hceq, hops, e1, hcaps, e2, e3, e4, hargs, e5, e6⟩ := dsplit_inv hq
  unfold xrunD at hx
  have ht := tm_enter has hd fn.ntmps
  refine calls_of_wp_defers hf hb ?_
  rw [hceq]
  split at hx
  · rename_i fr1 hx1
    split at hx
    · rename_i hlt
      obtain ⟨hlt, hsf⟩ := hlt
      have hsafe : ∀ d ∈ wrs q.2.2.2.2.2.2.2, ¬ d ∈ fn.results.toList.map resT := fun d hd hm => by
        obtain ⟨r, hr, rfl⟩ := List.mem_map.1 hm
        have := List.all_eq_true.1 hsf r hr
        simp only [Bool.not_eq_true', List.contains_eq_mem, decide_eq_false_iff_not] at this
        exact this hd
      rw [Option.bind_eq_some_iff] at hx
      obtain ⟨cs, hcs, hx⟩ := hx
      refine wp_seq (xcode_sound (S := noS) hP hE q.1 (noS_ok _) hx1 hgl hinv ht hfr h8 fun G1 a1 w1 g1 s1 n1 i1 t1 => ?_)
      show (Code.seq (.region id q.2.2.2.2.2.2.1 false) q.2.2.2.2.2.2.2).wp P (bodyPostD P fn (HpPost P G nx r)) a1 w1
      refine wp_seq (wp_region ?_)
      have hsz : q.2.2.2.2.2.2.1.size = 2 := by rw [← Array.length_toList, hops]; rfl
      have ho1 : q.2.2.2.2.2.2.1[0]? = some q.2.2.2.2.1 := by rw [← Array.getElem?_toList, hops]; rfl
      have ho2 : q.2.2.2.2.2.2.1[1]? = some q.2.2.2.2.2.1 := by rw [← Array.getElem?_toList, hops]; rfl
      have hr2 : List.range q.2.2.2.2.2.2.1.size = [0, 1] := by rw [hsz]; rfl
      rw [hr2, wpOps_cons]
      have hcs' := evs_sound (gl_step hgl g1) t1 hcs
      have hmf : (execOp a1.eval q.2.2.2.2.1).run P w1 = .ok (.value (.func (.func q.2.1) #[] (q.2.2.1.map a1.eval).toArray)) w1 := by
        have : caps.map a1.eval = (q.2.2.1.map a1.eval).toArray := by rw [← hcaps]; apply Array.ext'; simp
        simp [execOp, e1, Instr.makeFunc, this]
      refine wpOp_of ho1 (by simp [Region.wanted, e3]) ?_
      unfold Oper.wp
      rw [hmf, Oper.upon_value, e2]
      have t2 := t1.put (dst := some q.2.2.2.1) (by simpa [dstOk] using hlt) (x := .fn (.func q.2.1) [] cs) (v := .func (.func q.2.1) #[] (q.2.2.1.map a1.eval).toArray) (.fn (us := []) .nil (.of hcs'))
      have hget : (a1.put (some q.2.2.2.1) (.func (.func q.2.1) #[] (q.2.2.1.map a1.eval).toArray)).eval (.tmp q.2.2.2.1) = .func (.func q.2.1) #[] (q.2.2.1.map a1.eval).toArray := by
        simp only [Act.put, Act.eval]
        rw [Array.getD_eq_getD_getElem?, Array.getElem?_setIfInBounds_self_of_lt (by rw [t1.sz]; exact hlt)]
        rfl
      rw [wpOps_cons]
      refine wpOp_of ho2 (by simp [Region.wanted, e6]) ?_
      have hdf : (execOp (a1.put (some q.2.2.2.1) (.func (.func q.2.1) #[] (q.2.2.1.map a1.eval).toArray)).eval q.2.2.2.2.2.1).run P w1 = .ok (.defer { target := .fn (.func q.2.1) (q.2.2.1.map a1.eval).toArray, args := #[] }) w1 := by
        simp only [execOp, e4, resolve]
        rw [hget]
        simp [Deferred.ofValue, hargs]
      unfold Oper.wp
      rw [hdf, Oper.upon_defer, e5]
      generalize hdd : ({ target := .fn (.func q.2.1) (q.2.2.1.map a1.eval).toArray, args := #[] } : Deferred) = dd
      have hdf0 : (a1.put (some q.2.2.2.1) (.func (.func q.2.1) #[] (q.2.2.1.map a1.eval).toArray)).defers = [] := by rw [t2.df, g1.w0, hd]
      rw [hdf0]
      have t3 := t2.sw [dd]
      have n1 : nx ≤ fr1.nx := n1
      have n18 : 8 ≤ fr1.nx := Nat.le_trans h8 n1
      have hfr1 : Fresh (G1.sw [dd]) (fun q => fr1.nx + 16 ≤ q) := fun q hq => fresh_step hfr s1 n1 q (by have : fr1.nx + 16 ≤ q := hq; omega)
      show q.2.2.2.2.2.2.2.wp P (bodyPostD P fn (HpPost P G nx r)) { (a1.put (some q.2.2.2.1) (.func (.func q.2.1) #[] (q.2.2.1.map a1.eval).toArray)) with defers := [dd] } w1
      -- the end: the closure is called
      have close : ∀ (rv : V) (v : Value) (um u' : FrameMode) (fr fr' : Fr) (y : V), xclos P E k q.2.1 cs rv fr.st fr.nx = some fr' → xres P ⟨fr.tm, fr'.st, fr'.nx⟩ fn.results.toList = some y → r = .ret y fr'.st fr'.nx → um ≠ .run → settle u' = .returning →
          (∀ (c0 : Frame) (ds : List Frame), c0.mode = um → recoverD (c0 :: ds) = some (v, { c0 with mode := u' } :: ds) ∨ (recoverD (c0 :: ds) = none ∧ v = .nilIface ∧ ({ c0 with mode := u' } : Frame) = c0)) →
          ∀ (G3 : Gh) (a3 : Act) (w3 : World), (G1.sw [dd]).le G3 → Same (G1.sw [dd]) G3 (fun k => fr1.nx + 16 ≤ k ∧ k < fr.nx) → fr1.nx + 16 ≤ fr.nx → Inv P G3 fr.st w3 → a3.defers = [dd] → (∀ r ∈ fn.results.toList, Rep P G3 (fr.tm (resT r)) (a3.tmps.getD (resT r) undef)) → Rep P G3 rv v →
          Leaves P fn a3.tmps (HpPost P G nx r) a3.defers um w3 := fun rv v um u' fr fr' y hxc hxr hreq hum hset hrec G3 a3 w3 k1 k2 k3 k4 hdf3 k5 k6 => by
        rw [hdf3]
        have hnb : nobody P q.2.1 = false := by
          unfold xclos at hxc
          split at hxc
          · assumption
          · cases hxc
        refine ⟨hum, .func q.2.1, (q.2.2.1.map a1.eval).toArray, q.2.1, (q.2.2.1.map a1.eval).toArray, by rw [← hdd], ?_, ?_⟩
        · rw [← hdd]
          simp only [invoke]
          rw [run_callFunc_enter hP hnb]
          simp
        · have hcs3 : All2 (Rep P (G3.sw [])) cs (q.2.2.1.map a1.eval) := hcs'.mono fun _ _ h => ((h.sw [dd]).mono k1).sw []
          have hn1 : nx ≤ fr.nx := by omega
          have sAll : Same G G3 (fun k => nx ≤ k ∧ k < fr.nx) := (s1.mono fun k hk => ⟨hk.1, by omega⟩).trans (show Same G1 G3 _ from k2.mono fun k hk => ⟨by omega, hk.2⟩)
          have gAll : G.le (G3.sw []) := by
            have h2 : G1.le (G3.sw G1.w0.2) := k1.sw
            have e : G1.w0.2 = [] := by rw [g1.w0, hd]
            rw [e] at h2
            exact g1.trans h2
          have hfr3 : Fresh (G3.sw []) (fun q => fr.nx ≤ q) := fun q hq => fresh_step hfr sAll hn1 q hq
          refine xclos_sound hP hE hxc (G := G3.sw []) rfl (gl_step hgl gAll) (k4.sw []) hcs3 (k6.sw []) (by omega) hfr3 hrec fun G4 w4 y4 l1 l2 l3 l4 => ?_
          show Leaves P fn a3.tmps (HpPost P G nx r) [] (settle u') w4
          rw [hset]
          obtain ⟨yv, hyv, hrep⟩ := results_sound' (nx := fr'.nx) (st := fr'.st) (a := a3) l4 (fun r hr => ((k5 r hr).sw []).mono l1) hxr
          refine ⟨yv, hyv, ?_⟩
          subst hreq
          exact ⟨G4, yv, rfl, gAll.trans l1, (sAll.mono fun k hk => ⟨hk.1, Nat.lt_of_lt_of_le hk.2 l3⟩).trans (show Same G3 G4 _ from l2.mono fun k hk => ⟨Nat.le_trans hn1 hk.1, hk.2⟩), Nat.le_trans hn1 l3, l4, hrep⟩
      have plain : ∀ (c0 : Frame) (ds : List Frame), c0.mode = .returning → recoverD (c0 :: ds) = some (Value.nilIface, { c0 with mode := .returning } :: ds) ∨ (recoverD (c0 :: ds) = none ∧ Value.nilIface = .nilIface ∧ ({ c0 with mode := .returning } : Frame) = c0) := fun c0 ds hm => .inr ⟨by simp [recoverD, hm], rfl, by rw [← hm]⟩
      split at hx
      · rename_i fr hx2
        rw [Option.bind_eq_some_iff] at hx
        obtain ⟨fr', hxc, hx⟩ := hx
        rw [Option.map_eq_some_iff] at hx
        obtain ⟨y, hy, hreq⟩ := hx
        exact xcode_sound (S := fun t => t ∈ fn.results.toList.map resT) hP hE (G := G1.sw [dd]) _ hsafe hx2 (show GlOK P E.gl G1.pr from gl_step hgl g1) (i1.sw [dd]) t3 hfr1 (by show 8 ≤ fr1.nx + 16; omega) fun G3 a3 w3 k1 k2 k3 k4 k5 => close _ _ _ _ fr fr' y hxc hy hreq.symm (by simp) rfl plain G3 a3 w3 k1 k2 k3 k4 (by rw [k5.df, k1.w0]; rfl) (fun r _ => k5.rep _) (.pure (.sc _))
      · rename_i fr hx2
        rw [Option.bind_eq_some_iff] at hx
        obtain ⟨fr', hxc, hx⟩ := hx
        rw [Option.map_eq_some_iff] at hx
        obtain ⟨y, hy, hreq⟩ := hx
        exact xcode_sound (S := fun t => t ∈ fn.results.toList.map resT) hP hE (G := G1.sw [dd]) _ hsafe hx2 (show GlOK P E.gl G1.pr from gl_step hgl g1) (i1.sw [dd]) t3 hfr1 (by show 8 ≤ fr1.nx + 16; omega) fun G3 a3 w3 k1 k2 k3 k4 k5 => close _ _ _ _ fr fr' y hxc hy hreq.symm (by simp) rfl plain G3 a3 w3 k1 k2 k3 k4 (by rw [k5.df, k1.w0]; rfl) (fun r _ => k5.rep _) (.pure (.sc _))
      · rename_i v fr hx2
        split at hx
        · rename_i t x
          rw [Option.bind_eq_some_iff] at hx
          obtain ⟨fr', hxc, hx⟩ := hx
          rw [Option.map_eq_some_iff] at hx
          obtain ⟨y, hy, hreq⟩ := hx
          exact xcode_sound (S := fun t => t ∈ fn.results.toList.map resT) hP hE (G := G1.sw [dd]) _ hsafe hx2 (show GlOK P E.gl G1.pr from gl_step hgl g1) (i1.sw [dd]) t3 hfr1 (by show 8 ≤ fr1.nx + 16; omega) fun G3 a3 w3 u k1 k2 k3 k4 k5 k5' k6 => close _ u (.panicking [{ v := u, recovered := false }]) (.panicking [{ v := u, recovered := true }]) fr fr' y hxc hy hreq.symm (by simp) (by simp [settle]) (fun c0 ds hm => .inl (by simp [recoverD, hm])) G3 a3 w3 k1 k2 k3 k4 k5 (fun r hr => k5' _ (List.mem_map.2 ⟨r, hr, rfl⟩)) k6
        · cases hx
      · cases hx
    · cases hx
  · cases hx
theorem xrun_sound (hP : ProgOK P) (hE : EnvOK P E) {fn : Func} {f : FuncId} (hf : P.funcs[f]? = some fn) {as : List V} {vs : List Value} {r : HR} (hx : xrun P E k fn as st nx = some r) (hgl : GlOK P E.gl G.pr) (hinv : Inv P G st w) (has : All2 (Rep P G) as vs) (h8 : 8 ≤ nx) (hfr : Fresh G (fun q => nx ≤ q)) :
    Calls P f vs.toArray w (HpPost P G nx r) := by
  have has' : All2 (Rep P (G.sw [])) as vs := has.mono fun _ _ h => h.sw []
  unfold xrun at hx
  split at hx
  · exact (xrun0_sound hP hE hf hx (G := G.sw []) rfl hgl (hinv.sw []) has' h8 hfr).mono fun e w' h => h.sw
  · rename_i q hq
    rw [Option.bind_eq_some_iff] at hq
    obtain ⟨c, hb, hq⟩ := hq
    exact (xrunD_sound hP hE hf hb hq hx (G := G.sw []) rfl hgl (hinv.sw []) has' h8 hfr).mono fun e w' h => h.sw
/-! ### What a call on pure data hands back -/
theorem frzT_sound (h : Inv P G st w) {v y : V} {u : Value} {δ : List (Nat × Option Ob)} (hr : Rep P G v u) (hx : frzT st v = some (y, δ)) : ∃ G', G.le G' ∧ G'.bx = G.bx ∧ G'.tl = G.tl ∧ Inv P G' (upds δ st) w ∧ Rep P G' y u := by
  unfold frzT at hx
  split at hx
  · rw [Option.map_eq_some_iff] at hx
    obtain ⟨⟨ys, δ1⟩, hp, hx⟩ := hx
    simp only [Prod.mk.injEq] at hx
    obtain ⟨rfl, rfl⟩ := hx
    obtain ⟨us, rfl, h2⟩ := hr.tup_inv
    obtain ⟨G', g1, g2, g3, g4, g5⟩ := frzA_sound h h2 hp
    exact ⟨G', g1, g2, g3, g4, .tup (.of (g5.mono fun _ _ => .pure))⟩
  · obtain ⟨G', g1, g2, g3, g4, g5⟩ := frzV_sound h hr hx
    exact ⟨G', g1, g2, g3, g4, .pure g5⟩
theorem EnvOK.at (h : EnvOK P E) (m : Nat) : EnvOK P (E.at m) := ⟨h.pl, h.hp⟩
theorem fin1_sound (hinv : Inv P G st w) {used used' : List Nat} {y z : V} {v : Value} (hr : Rep P G y v) (h : fin1 st used y = some (z, used')) :
    Ret1 P G.base G.pr w z v ∧ ((isOwn z = false ∧ used' = used) ∨ ∃ r, r ∉ used ∧ used' = r :: used ∧ ∀ b, v.ownBlock = some b → blk G st r = some b) := by
  unfold fin1 at h
  split at h
  · rename_i e xs r
    have strip : Ret1 P G.base G.pr w (.list e xs 0) v := by
      obtain ⟨A, c, rfl, hp, _⟩ := hr.list_inv
      exact .inl ⟨by simp [isOwn], hp⟩
    split at h
    · rename_i h1
      subst h1
      simp only [Option.some.injEq, Prod.mk.injEq] at h
      obtain ⟨rfl, rfl⟩ := h
      refine ⟨.inl ⟨by simp [isOwn], ?_⟩, .inl ⟨by simp [isOwn], rfl⟩⟩
      cases hr with
      | pure h => exact h
      | tok h8 => omega
    · split at h
      · simp only [Option.some.injEq, Prod.mk.injEq] at h
        obtain ⟨rfl, rfl⟩ := h
        exact ⟨strip, .inl ⟨by simp [isOwn], rfl⟩⟩
      · rename_i h1 h8
        split at h
        · rename_i n e' hs
          split at h
          · rename_i hc
            obtain ⟨rfl, rfl, hu⟩ := hc
            simp only [Option.some.injEq, Prod.mk.injEq] at h
            obtain ⟨rfl, rfl⟩ := h
            obtain ⟨v0, s, vs0, k1, k2, k3, _⟩ := hinv.objs r _ hs
            obtain ⟨vs, g1, g2, g3, g4, g5, g6⟩ := rest_ok hinv (by omega) hr hs k2
            refine ⟨.inr ⟨e', xs, s, vs, rfl, k2, g2, g3, g4, g5, g6, fun b hb o u hu => ?_⟩, .inr ⟨r, by simpa using hu, rfl, fun b hb => ?_⟩⟩
            · obtain ⟨n, e2, s2, q1, q2, q3⟩ := hinv.free r b (by unfold blk; rw [hs]; simp [g1, hb]) o u hu
              rw [hs] at q1
              simp at q1
              obtain ⟨rfl, rfl⟩ := q1
              rw [k2] at q2
              obtain rfl := Option.some.inj q2
              exact q3
            · unfold blk; rw [hs]; simp [g1, hb]
          · simp only [Option.some.injEq, Prod.mk.injEq] at h
            obtain ⟨rfl, rfl⟩ := h
            exact ⟨strip, .inl ⟨by simp [isOwn], rfl⟩⟩
        · simp only [Option.some.injEq, Prod.mk.injEq] at h
          obtain ⟨rfl, rfl⟩ := h
          exact ⟨strip, .inl ⟨by simp [isOwn], rfl⟩⟩
  · rename_i hne
    rw [Option.map_eq_some_iff] at h
    obtain ⟨z', hz, h⟩ := h
    simp only [Prod.mk.injEq] at h
    obtain ⟨rfl, rfl⟩ := h
    have hno : isOwn z' = false := by
      unfold V.pur? at hz
      split at hz
      · rw [Option.map_eq_some_iff] at hz
        obtain ⟨ds, _, rfl⟩ := hz
        rfl
      · cases y with
        | sc v => simp [V.pur1?] at hz; subst hz; rfl
        | list e xs r => exact absurd rfl (hne _ _ _)
        | cp cs => simp [V.pur1?] at hz; subst hz; rfl
        | fn f a b =>
          cases a <;> cases b <;> simp [V.pur1?] at hz
          subst hz; rfl
        | _ => simp [V.pur1?] at hz
    exact ⟨.inl ⟨hno, rep_pur hr hz⟩, .inl ⟨hno, rfl⟩⟩
theorem fins_sound (hinv : Inv P G st w) : ∀ {ys zs : List V} {us : List Value} {used : List Nat}, All2 (Rep P G) ys us → fins st used ys = some zs → All2 (Ret1 P G.base G.pr w) zs us ∧
    (∀ (j : Nat) zj uj b, zs[j]? = some zj → us[j]? = some uj → isOwn zj = true → Value.ownBlock uj = some b → ∃ r, r ∉ used ∧ blk G st r = some b) ∧
    (∀ (i j : Nat) yi yj ui uj b, i ≠ j → zs[i]? = some yi → zs[j]? = some yj → us[i]? = some ui → us[j]? = some uj → isOwn yi = true → isOwn yj = true → Value.ownBlock ui = some b → Value.ownBlock uj = some b → False)
  | [], zs, us, used, hr, h => by
    cases hr
    simp [fins] at h; subst h
    exact ⟨.nil, fun j zj uj b h1 => by simp at h1, fun i j yi yj ui uj b _ h1 => by simp at h1⟩
  | y :: ys, zs, us, used, hr, h => by
    cases hr with
    | cons h1 h2 =>
      rename_i u us
      unfold fins at h
      rw [Option.bind_eq_some_iff] at h
      obtain ⟨⟨z, used'⟩, hz, h⟩ := h
      rw [Option.map_eq_some_iff] at h
      obtain ⟨zs', hzs, rfl⟩ := h
      obtain ⟨k1, k2⟩ := fin1_sound hinv h1 hz
      obtain ⟨g1, g2, g3⟩ := fins_sound hinv h2 hzs
      have sub : ∀ r, r ∉ used' → r ∉ used := fun r hr => by
        rcases k2 with ⟨_, rfl⟩ | ⟨q, _, rfl, _⟩
        · exact hr
        · exact fun h => hr (by simp [h])
      have cross : ∀ (j : Nat) zj uj b, zs'[j]? = some zj → us[j]? = some uj → isOwn z = true → isOwn zj = true → Value.ownBlock u = some b → Value.ownBlock uj = some b → False := fun j zj uj b a1 a2 a3 a4 a5 a6 => by
        rcases k2 with ⟨q, _⟩ | ⟨r, q1, rfl, q2⟩
        · rw [a3] at q; cases q
        · obtain ⟨r', q3, q4⟩ := g2 j zj uj b a1 a2 a4 a6
          have := hinv.apart _ _ b (q2 b a5) q4
          subst this
          exact q3 (by simp)
      refine ⟨.cons k1 g1, fun j zj uj b a1 a2 a3 a4 => ?_, fun i j yi yj ui uj b hij a1 a2 a3 a4 a5 a6 a7 a8 => ?_⟩
      · cases j with
        | zero =>
          simp at a1 a2; subst a1; subst a2
          rcases k2 with ⟨q, _⟩ | ⟨r, q1, rfl, q2⟩
          · rw [a3] at q; cases q
          · exact ⟨r, q1, q2 b a4⟩
        | succ j =>
          obtain ⟨r, q1, q2⟩ := g2 j zj uj b (by simpa using a1) (by simpa using a2) a3 a4
          exact ⟨r, sub r q1, q2⟩
      · cases i with
        | zero =>
          cases j with
          | zero => exact hij rfl
          | succ j =>
            simp at a1 a3; subst a1; subst a3
            exact cross j yj uj b (by simpa using a2) (by simpa using a4) a5 a6 a7 a8
        | succ i =>
          cases j with
          | zero =>
            simp at a2 a4; subst a2; subst a4
            exact cross i yi ui b (by simpa using a1) (by simpa using a3) a6 a5 a8 a7
          | succ j => exact g3 i j yi yj ui uj b (by omega) (by simpa using a1) (by simpa using a2) (by simpa using a3) (by simpa using a4) a5 a6 a7 a8
theorem fin_sound (hinv : Inv P G st w) {y z : V} {v : Value} (hr : Rep P G y v) (h : fin st y = some z) : RetOK P G.base G.pr w z v := by
  unfold fin at h
  split at h
  · split at h
    · rename_i vs hl
      rw [Option.map_eq_some_iff] at h
      obtain ⟨zs, hzs, rfl⟩ := h
      obtain ⟨us, rfl, hu⟩ := hr.tup_inv
      obtain ⟨g1, _, g3⟩ := fins_sound hinv hu hzs
      exact ⟨us, rfl, by rw [g1.length, ← hu.length]; exact hl, g1, g3⟩
    · cases h
  · rw [Option.map_eq_some_iff] at h
    obtain ⟨⟨z', used⟩, hz, rfl⟩ := h
    have h1 := (fin1_sound hinv hr hz).1
    have hnt : ∀ ys, z' ≠ .tup ys := fun ys e => by
      subst e
      rcases h1 with ⟨_, h⟩ | ⟨_, _, _, _, h, _⟩
      · cases h
      · cases h
    unfold RetOK
    split
    · first | exact (hnt _ rfl).elim | (rename_i h; exact (hnt _ h).elim)
    · exact h1
theorem xplain_sound (hP : ProgOK P) (hE : EnvOK P E) {fn : Func} {f : FuncId} (hf : P.funcs[f]? = some fn) {as : List V} {vs : List Value} {r : CR} {p : Pr} (hx : xplain P E k fn as = some r) (hgl : GlOK P E.gl p) (hp : ∀ b o v, p b o = some v → w.cell? ⟨b, o, none⟩ = some v) (has : All2 (RepP P p) as vs) :
    Calls P f vs.toArray w (PlPost P p w r) := by
  have hinv : Inv P ⟨w.heap.size, (w, []), p, fun _ => none, fun _ => none⟩ (fun _ => none) w :=
    ⟨Below.refl _ _, Nat.le_refl _, hp, fun i ob h => (by cases h), fun i j b h => (by simp [blk] at h), fun i b h => (by simp [blk] at h)⟩
  have ext : ∀ {G' : Gh} {st' : St} {w' : World}, Gh.le ⟨w.heap.size, (w, []), p, fun _ => none, fun _ => none⟩ G' → Inv P G' st' w' → Below w.heap.size w w' ∧ Ext p G'.pr w w' := fun {G' st' w'} h1 h2 => by
    have hb := h2.below
    rw [h1.base, h1.w0] at hb
    exact ⟨hb, h1.pr, h2.prot, fun b o hb => h1.low b o hb⟩
  unfold xplain at hx
  split at hx
  · rename_i v st' nx' hr
    rw [Option.map_eq_some_iff] at hx
    obtain ⟨z, hz, rfl⟩ := hx
    refine (xrun_sound hP hE hf hr hgl hinv (has.mono fun _ _ h => Rep.pure (G := ⟨w.heap.size, (w, []), p, fun _ => none, fun _ => none⟩) h) (Nat.le_refl _) fun _ _ => ⟨rfl, rfl⟩).mono fun e w' he => ?_
    obtain ⟨G', u, rfl, h1, _, _, h2, h3⟩ := he
    unfold finE at hz
    split at hz
    · obtain ⟨hb, hext⟩ := ext h1 h2
      have := fin_sound h2 h3 hz
      rw [h1.base] at this
      exact ⟨u, G'.pr, rfl, hb, hext, this⟩
    · rw [Option.bind_eq_some_iff] at hz
      obtain ⟨⟨y, δ⟩, hp, hz⟩ := hz
      obtain ⟨G2, g1, _, _, g4, g5⟩ := frzT_sound h2 h3 hp
      obtain ⟨hb, hext⟩ := ext (h1.trans g1) g4
      have := fin_sound g4 g5 hz
      rw [(h1.trans g1).base] at this
      exact ⟨u, G2.pr, rfl, hb, hext, this⟩
  · rename_i v st' nx' hr
    rw [Option.map_eq_some_iff] at hx
    obtain ⟨z, hz, rfl⟩ := hx
    refine (xrun_sound hP hE hf hr hgl hinv (has.mono fun _ _ h => Rep.pure (G := ⟨w.heap.size, (w, []), p, fun _ => none, fun _ => none⟩) h) (Nat.le_refl _) fun _ _ => ⟨rfl, rfl⟩).mono fun e w' he => ?_
    obtain ⟨G', u, rfl, h1, _, _, h2, h3⟩ := he
    obtain ⟨hb, hext⟩ := ext h1 h2
    unfold finP at hz
    split at hz
    · rename_i t x
      rw [Option.map_eq_some_iff] at hz
      obtain ⟨y0, hy0, rfl⟩ := hz
      obtain ⟨u', rfl, hu'⟩ := h3.ifc_inv
      exact ⟨t, y0, u', G'.pr, rfl, rfl, hb, hext, rep_pur hu' hy0⟩
    · cases hz
  · cases hx
/-- A function that is known otherwise. -/
def ExtOK (P : Program) (gl : Nat → Option V) (ext : Exts) : Prop :=
  (∀ f g, ext.pl f = some g → ∀ as y, g as = some y → ∀ p vs w, GlOK P gl p → (∀ b o v, p b o = some v → w.cell? ⟨b, o, none⟩ = some v) → All2 (RepP P p) as vs → Calls P f vs.toArray w (PlPost P p w (.ret y))) ∧
  ∀ f g, ext.hp f = some g → ∀ as st nx r, g as st nx = some r → ∀ G vs w, GlOK P gl G.pr → Inv P G st w → All2 (Rep P G) as vs → 8 ≤ nx → Fresh G (fun k => nx ≤ k) → Calls P f vs.toArray w (HpPost P G nx r)
theorem extOK_none (P : Program) (gl : Nat → Option V) : ExtOK P gl noExt := ⟨fun f g h => (by cases h), fun f g h => (by cases h)⟩
theorem env_gl (ext : Exts) (hm : FuncId → Nat) (gl : Nat → Option V) : ∀ n, (env P ext hm gl n).gl = gl
  | 0 => rfl
  | n + 1 => rfl
theorem env_ok (hP : ProgOK P) {ext : Exts} {hm : FuncId → Nat} {gl : Nat → Option V} (hext : ExtOK P gl ext) : ∀ n, EnvOK P (env P ext hm gl n)
  | 0 => by
    refine ⟨fun f as r hn hx p vs w hgl hp has => ?_, fun f as st nx r hn hx G vs w hgl hinv has h8 hfr => ?_⟩
    · simp only [env, Option.bind_eq_some_iff, Option.map_eq_some_iff] at hx
      obtain ⟨g, hg, y, hy, rfl⟩ := hx
      exact hext.1 f g hg as y hy p vs w hgl hp has
    · simp only [env, Option.bind_eq_some_iff] at hx
      obtain ⟨g, hg, hy⟩ := hx
      exact hext.2 f g hg as st nx r hy G vs w hgl hinv has h8 hfr
  | n + 1 => by
    have ih := env_ok hP (hm := hm) hext n
    refine ⟨fun f as r hn hx p vs w hgl hp has => ?_, fun f as st nx r hn hx G vs w hgl hinv has h8 hfr => ?_⟩
    · simp only [env] at hx
      split at hx
      · rename_i g hg
        rw [Option.map_eq_some_iff] at hx
        obtain ⟨y, hy, rfl⟩ := hx
        exact hext.1 f g hg as y hy p vs w hgl hp has
      · rw [Option.bind_eq_some_iff] at hx
        obtain ⟨fn, hf, hx⟩ := hx
        exact xplain_sound hP (ih.at _) hf hx (by show GlOK P (env P ext hm gl n).gl p; rw [env_gl]; exact hgl) hp has
    · simp only [env] at hx
      split at hx
      · rename_i g hg
        exact hext.2 f g hg as st nx r hx G vs w hgl hinv has h8 hfr
      · rw [Option.bind_eq_some_iff] at hx
        obtain ⟨fn, hf, hx⟩ := hx
        split at hx
        · rw [Option.bind_eq_some_iff] at hx
          obtain ⟨⟨ys, δ⟩, hp, hx⟩ := hx
          obtain ⟨G1, g1, g2, g3, g4, g5⟩ := frzH_sound hinv has hp
          refine (xrun_sound hP (ih.at _) hf hx (by show GlOK P (env P ext hm gl n).gl G1.pr; rw [env_gl]; exact fun g x h => (hgl g x h).mono g1.pr) g4 g5 h8 (fun k hk => ⟨by rw [g2]; exact (hfr k hk).1, by rw [g3]; exact (hfr k hk).2⟩)).mono fun e w' he => ?_
          cases r with
          | ret y st' nx2 =>
            obtain ⟨G', v, q1, q2, q3, q4, q5, q6⟩ := he
            exact ⟨G', v, q1, g1.trans q2, fun k hk => ⟨fun z => (q3 k hk).1 (by rw [g2]; exact z), fun z => (q3 k hk).2 (by rw [g3]; exact z)⟩, q4, q5, q6⟩
          | pan y st' nx2 =>
            obtain ⟨G', v, q1, q2, q3, q4, q5, q6⟩ := he
            exact ⟨G', v, q1, g1.trans q2, fun k hk => ⟨fun z => (q3 k hk).1 (by rw [g2]; exact z), fun z => (q3 k hk).2 (by rw [g3]; exact z)⟩, q4, q5, q6⟩
        · exact xrun_sound hP (ih.at _) hf hx (by show GlOK P (env P ext hm gl n).gl G.pr; rw [env_gl]; exact hgl) hinv has h8 hfr
/-- THE THEOREM: a call that the machine over pure data answers by a bool, in n rounds and calls, the model answers so, and nothing that was there turns. -/
theorem calls_bool (hP : ProgOK P) {ext : Exts} {hm : FuncId → Nat} {gl : Nat → Option V} (hext : ExtOK P gl ext) {n : Nat} {f : FuncId} (hf : nobody P f = false) {as : List V} {b : Bool} (hx : (env P ext hm gl n).pl f as = some (.ret (.sc (.bool b))))
    {p : Pr} {vs : List Value} (hgl : GlOK P gl p) (hp : ∀ c o v, p c o = some v → w.cell? ⟨c, o, none⟩ = some v) (has : All2 (RepP P p) as vs) : Calls P f vs.toArray w fun e w' => e = .returned (.bool b) ∧ Below w.heap.size w w' := by
  refine ((env_ok hP hext n).pl f as _ hf hx p vs w (by rw [env_gl]; exact hgl) hp has).mono fun e w' he => ?_
  obtain ⟨v, p', rfl, hb, _, hr⟩ := he
  refine ⟨?_, hb⟩
  rcases hr with ⟨_, h⟩ | ⟨_, _, _, _, h, _⟩
  · cases h; rfl
  · cases h
end
end Go.Proofs.YtkbheoganajhaaaDoor.Vm
