/- Proved here: a region of the machine over pure data, its order being drawn or not, is met by the model's region. Conditions: none. -/
import Derived.Test.YtojbkakdhfmjmaaDoorVm13
set_option linter.unusedVariables false
set_option linter.unusedSimpArgs false
namespace Go.Proofs.YtojbkakdhfmjmaaDoor.Vm
open Go.RowKit
section
variable {P : Program} {E : Env} {G G' : Gh} {st st' : St} {tm tm' tm0 : Nat → V} {st0 : St} {w w' : World} {a : Act} {N n0 nx nx' : Nat} {ops : Array Oper} {Q : Exit → Act → World → Prop}
theorem want_sound (ht : TmR P G N tm a) {o : Oper} {b : Bool} (h : xwant ops tm o = some b) : Region.wanted o (yielded ops a.tmps) = b := by
  unfold xwant at h
  unfold Region.wanted
  split at h
  · rename_i hg; rw [hg]; simpa using h
  · rename_i j wn hg
    rw [hg]
    simp only
    split at h
    · rename_i d hd
      have hr := ht.rep d
      have hy : yielded ops a.tmps j = match a.tmps[d]? with | some (.bool b) => some b | _ => none := by unfold yielded; rw [hd]; rfl
      rw [hy]
      rw [Array.getD_eq_getD_getElem?] at hr
      split at h
      · rename_i b' hb
        rw [hb] at hr
        have e := hr.sc_inv
        cases hq : a.tmps[d]? with
        | none => rw [hq] at e; simp [undef] at e
        | some v =>
          rw [hq] at e
          simp at e
          subst e
          simp at h
          subst h
          cases b' <;> cases wn <;> rfl
      · rename_i v hb hv
        rw [hv] at hr
        have e := hr.sc_inv
        obtain rfl := Option.some.inj h
        cases hq : a.tmps[d]? with
        | none => rfl
        | some u =>
          rw [hq] at e
          simp at e
          subst e
          cases u <;> first | rfl | exact absurd rfl (hb _)
      · cases h
    · cases h
/-! ### What has been done so far -/
def tmAt (d : Nat → Option Tmp) (v : Nat → V) (b : Nat → Bool) (tm0 : Nat → V) : Nat → Nat → V
  | 0 => tm0
  | j + 1 => if b j then putT (tmAt d v b tm0 j) (d j) (v j) else tmAt d v b tm0 j
def stAt (δ : Nat → List (Nat × Option Ob)) (b : Nat → Bool) (st0 : St) : Nat → St
  | 0 => st0
  | j + 1 => if b j then upds (δ j) (stAt δ b st0 j) else stAt δ b st0 j
theorem putT_get (f : Nat → V) (d : Option Tmp) (v : V) (t : Nat) : putT f d v t = if d = some t then v else f t := by
  cases d with
  | none => simp [putT]
  | some k => simp only [putT, upd, Option.some.injEq]; by_cases h : t = k <;> simp [h, eq_comm]
theorem tmAt_agree {d : Nat → Option Tmp} {v : Nat → V} {b b' : Nat → Bool} {t : Nat} : ∀ {n : Nat}, (∀ j, j < n → b j ≠ b' j → d j ≠ some t) → tmAt d v b tm0 n t = tmAt d v b' tm0 n t
  | 0, _ => rfl
  | n + 1, h => by
    have ih := tmAt_agree (v := v) (n := n) fun j hj => h j (by omega)
    simp only [tmAt]
    by_cases hb : b n = b' n
    · rw [hb]
      split
      · rw [putT_get, putT_get, ih]
      · exact ih
    · have hd := h n (by omega) hb
      split <;> split <;> simp only [putT_get, if_neg hd, ih]
theorem upds_notin {α : Type} {δ : List (Nat × α)} {f : Nat → α} {k : Nat} (h : k ∉ δ.map (·.1)) : upds δ f k = f k := by
  induction δ generalizing f with
  | nil => rfl
  | cons p δ ih =>
    simp only [List.map_cons, List.mem_cons, not_or] at h
    show upds δ (upd f p.1 p.2) k = f k
    rw [ih h.2]; simp [upd, h.1]
theorem upds_in {α : Type} {δ : List (Nat × α)} {f g : Nat → α} {k : Nat} (h : k ∈ δ.map (·.1)) : upds δ f k = upds δ g k := by
  induction δ generalizing f g with
  | nil => simp at h
  | cons p δ ih =>
    show upds δ (upd f p.1 p.2) k = upds δ (upd g p.1 p.2) k
    by_cases hk : k ∈ δ.map (·.1)
    · exact ih hk
    · rw [upds_notin hk, upds_notin hk]
      simp only [List.map_cons, List.mem_cons] at h
      rcases h with h | h
      · simp [upd, h]
      · exact absurd h hk
theorem stAt_agree {δ : Nat → List (Nat × Option Ob)} {b b' : Nat → Bool} {k : Nat} : ∀ {n : Nat}, (∀ j, j < n → b j ≠ b' j → k ∉ (δ j).map (·.1)) → stAt δ b st0 n k = stAt δ b' st0 n k
  | 0, _ => rfl
  | n + 1, h => by
    have ih := stAt_agree (n := n) fun j hj => h j (by omega)
    simp only [stAt]
    have go : ∀ (f g : St), f k = g k → upds (δ n) f k = upds (δ n) g k := fun f g e => by
      by_cases hk : k ∈ (δ n).map (·.1)
      · exact upds_in hk
      · rw [upds_notin hk, upds_notin hk]; exact e
    by_cases hb : b n = b' n
    · rw [hb]
      split
      · exact go _ _ ih
      · exact ih
    · have hd := h n (by omega) hb
      split <;> split <;> simp only [upds_notin hd, ih]
def upB (b : Nat → Bool) (i : Nat) : Nat → Bool := fun j => if j = i then true else b j
theorem tmAt_insert {d : Nat → Option Tmp} {v : Nat → V} {b : Nat → Bool} {i : Nat} (hi : b i = false) : ∀ {n : Nat}, i < n → (∀ j, i < j → j < n → b j = true → ∀ t, d i = some t → d j ≠ some t) →
    tmAt d v (upB b i) tm0 n = putT (tmAt d v b tm0 n) (d i) (v i)
  | 0, h, _ => by omega
  | n + 1, h, hd => by
    funext t
    by_cases hin : i = n
    · subst hin
      simp only [tmAt, show upB b i i = true by simp [upB], if_true, hi, Bool.false_eq_true, if_false]
      rw [putT_get, putT_get]
      have := tmAt_agree (d := d) (v := v) (tm0 := tm0) (b := upB b i) (b' := b) (t := t) (n := i) fun j hj hne => absurd (by simp [upB, Nat.ne_of_lt hj]) hne
      rw [this]
    · have ih := tmAt_insert (d := d) (v := v) hi (n := n) (by omega) fun j h1 h2 => hd j h1 (by omega)
      have hb : upB b i n = b n := by simp [upB]; intro e; exact absurd e.symm hin
      simp only [tmAt, hb]
      by_cases hbn : b n = true
      · rw [if_pos hbn, if_pos hbn, ih]
        simp only [putT_get]
        by_cases h1 : d n = some t
        · rw [if_pos h1]
          by_cases h2 : d i = some t
          · exact absurd h1 (hd n (by omega) (by omega) hbn t h2)
          · rw [if_neg h2, if_pos h1]
        · rw [if_neg h1]
          by_cases h2 : d i = some t
          · rw [if_pos h2, if_pos h2]
          · rw [if_neg h2, if_neg h2, if_neg h1]
      · rw [if_neg hbn, if_neg hbn, ih]
theorem stAt_insert {δ : Nat → List (Nat × Option Ob)} {b : Nat → Bool} {i : Nat} (hi : b i = false) : ∀ {n : Nat}, i < n → (∀ j, i < j → j < n → b j = true → ∀ k, k ∈ (δ i).map (·.1) → k ∉ (δ j).map (·.1)) →
    stAt δ (upB b i) st0 n = upds (δ i) (stAt δ b st0 n)
  | 0, h, _ => by omega
  | n + 1, h, hd => by
    funext k
    by_cases hin : i = n
    · subst hin
      simp only [stAt, show upB b i i = true by simp [upB], if_true, hi, Bool.false_eq_true, if_false]
      by_cases hk : k ∈ (δ i).map (·.1)
      · exact upds_in hk
      · rw [upds_notin hk, upds_notin hk]
        have := stAt_agree (δ := δ) (st0 := st0) (b := upB b i) (b' := b) (k := k) (n := i) fun j hj hne => absurd (by simp [upB, Nat.ne_of_lt hj]) hne
        exact this
    · have ih := stAt_insert (δ := δ) hi (n := n) (by omega) fun j h1 h2 => hd j h1 (by omega)
      have hb : upB b i n = b n := by simp [upB]; intro e; exact absurd e.symm hin
      simp only [stAt, hb]
      by_cases hbn : b n = true
      · rw [if_pos hbn, if_pos hbn, ih]
        by_cases h1 : k ∈ (δ n).map (·.1)
        · by_cases h2 : k ∈ (δ i).map (·.1)
          · exact absurd h1 (hd n (by omega) (by omega) hbn k h2)
          · rw [upds_notin h2]; exact upds_in h1
        · rw [upds_notin h1]
          by_cases h2 : k ∈ (δ i).map (·.1)
          · exact upds_in h2
          · rw [upds_notin h2, upds_notin h2, upds_notin h1]
      · rw [if_neg hbn, if_neg hbn, ih]
/-! ### The run in the order of the text -/
def dF (ops : Array Oper) (j : Nat) : Option Tmp := (ops[j]?).bind (·.dst)
def vF (recs : List Rec) (j : Nat) : V := ((recs[j]?).map (·.v)).getD default
def δF (recs : List Rec) (j : Nat) : List (Nat × Option Ob) := ((recs[j]?).map (·.δ)).getD []
def rF (recs : List Rec) (j : Nat) : List Nat := ((recs[j]?).map (·.rd)).getD []
def Fact (P : Program) (E : Env) (ops : Array Oper) (N n0 nx : Nat) (recs : List Rec) (tm0 : Nat → V) (st0 : St) (j : Nat) : Prop :=
  ∃ o, ops[j]? = some o ∧ dstOk N o.dst = true ∧
    ((xwant ops (tmAt (dF ops) (vF recs) (fun _ => true) tm0 j) o = some true ∧ xop P E (tmAt (dF ops) (vF recs) (fun _ => true) tm0 j) (stAt (δF recs) (fun _ => true) st0 j) (n0 + 8 * j) nx o = some (.val (vF recs j) (δF recs j) (rF recs j))) ∨
     (xwant ops (tmAt (dF ops) (vF recs) (fun _ => true) tm0 j) o = some false ∧ vF recs j = .sc undef ∧ δF recs j = [] ∧ rF recs j = []))
theorem drop_cons {α : Type} {l : List α} {i : Nat} {x : α} {r : List α} (h : l.drop i = x :: r) : l[i]? = some x ∧ l.drop (i + 1) = r := by
  have hlt : i < l.length := by
    rcases Nat.lt_or_ge i l.length with q | q
    · exact q
    · rw [List.drop_eq_nil_of_le q] at h; cases h
  rw [List.drop_eq_getElem_cons hlt] at h
  simp only [List.cons.injEq] at h
  exact ⟨by rw [List.getElem?_eq_getElem hlt, h.1], h.2⟩
theorem facts {recs : List Rec} (hbig : recs.all (fun r => r.big.isNone) = true) : ∀ {rest : List Oper} {i : Nat} {tm : Nat → V} {st : St}, ops.toList.drop i = rest → i ≤ ops.size → xops P E ops N n0 i rest tm st nx = some (.ok tm' st' nx' (recs.drop i)) →
    tm = tmAt (dF ops) (vF recs) (fun _ => true) tm0 i → st = stAt (δF recs) (fun _ => true) st0 i → i ≤ recs.length →
    nx' = nx ∧ recs.length = ops.size ∧ tm' = tmAt (dF ops) (vF recs) (fun _ => true) tm0 ops.size ∧ st' = stAt (δF recs) (fun _ => true) st0 ops.size ∧ ∀ j, i ≤ j → j < ops.size → Fact P E ops N n0 nx recs tm0 st0 j
  | [], i, tm, st, hd, hi, h, ht, hs, hir => by
    simp only [xops, Option.some.injEq, RR.ok.injEq] at h
    obtain ⟨h1, h2, h3, h4⟩ := h
    have hisz : ops.size ≤ i := by
      have := List.drop_eq_nil_iff.1 hd
      simpa using this
    have hrec : recs.length ≤ i := List.drop_eq_nil_iff.1 h4.symm
    have : i = ops.size := by omega
    subst this
    exact ⟨h3.symm, by omega, by rw [← h1]; exact ht, by rw [← h2]; exact hs, fun j _ _ => by omega⟩
  | o :: rest, i, tm, st, hd, hi, h, ht, hs, hir => by
    obtain ⟨ho, hd'⟩ := drop_cons hd
    have ho' : ops[i]? = some o := by simpa using ho
    have hlt : i < ops.size := (Array.getElem?_eq_some_iff.1 ho').1
    have hdF : dF ops i = o.dst := by simp [dF, ho']
    unfold xops at h
    split at h
    · rename_i hdst
      have step : ∀ {v : V} {δ : List (Nat × Option Ob)} {rd : List Nat} {recs' : List Rec}, recs.drop i = ⟨v, δ, rd, none⟩ :: recs' → vF recs i = v ∧ δF recs i = δ ∧ rF recs i = rd ∧ recs.drop (i + 1) = recs' ∧ i + 1 ≤ recs.length := fun {v δ rd recs'} hr => by
        obtain ⟨h1, h2⟩ := drop_cons hr
        exact ⟨by simp [vF, h1], by simp [δF, h1], by simp [rF, h1], h2, (List.getElem?_eq_some_iff.1 h1).1⟩
      split at h
      · rename_i hw
        split at h
        · rename_i v δ rd hx
          split at h
          · rename_i tm1 st1 nx1 recs' hr
            simp only [Option.some.injEq, RR.ok.injEq] at h
            obtain ⟨h1, h2, h3, h4⟩ := h
            obtain ⟨e1, e2, e3, e4, e5⟩ := step h4.symm
            rw [h1, h2, h3] at hr
            obtain ⟨k1, k2, k3, k4, k5⟩ := facts hbig (i := i + 1) hd' hlt (by rw [e4]; exact hr) (by simp only [tmAt, if_true, hdF, e1, ht]) (by simp only [stAt, if_true, e2, hs]) e5
            refine ⟨k1, k2, k3, k4, fun j hj hjs => ?_⟩
            by_cases hji : j = i
            · subst hji
              exact ⟨o, ho', hdst, .inl ⟨by rw [← ht]; exact hw, by rw [← ht, ← hs, e1, e2, e3]; exact hx⟩⟩
            · exact k5 j (by omega) hjs
          · rename_i hne; exact absurd h (fun h => hne _ _ _ _ h)
        · rename_i v st1 nx1 hx
          split at h
          · simp only [Option.some.injEq, RR.ok.injEq] at h
            obtain ⟨h1, h2, h3, h4⟩ := h
            obtain ⟨h5, _⟩ := drop_cons h4.symm
            have := List.all_eq_true.1 hbig _ (List.mem_of_getElem? h5)
            simp at this
          · rename_i hne; exact absurd h (fun h => hne _ _ _ _ h)
        · cases h
        · cases h
        · cases h
      · rename_i hw
        split at h
        · rename_i tm1 st1 nx1 recs' hr
          simp only [Option.some.injEq, RR.ok.injEq] at h
          obtain ⟨h1, h2, h3, h4⟩ := h
          obtain ⟨e1, e2, e3, e4, e5⟩ := step h4.symm
          rw [h1, h2, h3] at hr
          obtain ⟨k1, k2, k3, k4, k5⟩ := facts hbig (i := i + 1) hd' hlt (by rw [e4]; exact hr) (by simp only [tmAt, if_true, hdF, e1, ht]) (by simp only [stAt, if_true, e2, hs]; rfl) e5
          refine ⟨k1, k2, k3, k4, fun j hj hjs => ?_⟩
          by_cases hji : j = i
          · subst hji
            exact ⟨o, ho', hdst, .inr ⟨by rw [← ht]; exact hw, e1, e2, e3⟩⟩
          · exact k5 j (by omega) hjs
        · rename_i hne; exact absurd h (fun h => hne _ _ _ _ h)
      · cases h
    · cases h
end
end Go.Proofs.YtojbkakdhfmjmaaDoor.Vm
