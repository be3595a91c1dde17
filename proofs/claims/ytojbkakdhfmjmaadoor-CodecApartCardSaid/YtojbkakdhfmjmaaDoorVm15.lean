/- Proved here: a region of the machine over pure data, its order being drawn or not, is met by the model's region. Conditions: none. -/
import Derived.Test.YtojbkakdhfmjmaaDoorVm14
set_option linter.unusedVariables false
set_option linter.unusedSimpArgs false
namespace Go.Proofs.YtojbkakdhfmjmaaDoor.Vm
open Go.RowKit
section
variable {P : Program} {E : Env} {G G' : Gh} {st st' : St} {tm tm' tm0 : Nat → V} {st0 : St} {w w' : World} {a : Act} {N n0 nx nx' : Nat} {ops : Array Oper} {Q : Exit → Act → World → Prop}
theorem tmAt_trunc {d : Nat → Option Tmp} {v : Nat → V} {i : Nat} : ∀ {n : Nat}, i ≤ n → tmAt d v (fun j => decide (j < i)) tm0 n = tmAt d v (fun _ => true) tm0 i
  | 0, h => by have : i = 0 := by omega
               subst this; rfl
  | n + 1, h => by
    by_cases hi : i ≤ n
    · simp only [tmAt]
      rw [if_neg (by simpa using hi)]
      exact tmAt_trunc hi
    · have : i = n + 1 := by omega
      subst this
      simp only [tmAt]
      rw [if_pos (by simp)]
      congr 1
      funext t
      exact tmAt_agree fun j hj hne => absurd (by simp; omega) hne
theorem stAt_trunc {δ : Nat → List (Nat × Option Ob)} {i : Nat} : ∀ {n : Nat}, i ≤ n → stAt δ (fun j => decide (j < i)) st0 n = stAt δ (fun _ => true) st0 i
  | 0, h => by have : i = 0 := by omega
               subst this; rfl
  | n + 1, h => by
    by_cases hi : i ≤ n
    · simp only [stAt]
      rw [if_neg (by simpa using hi)]
      exact stAt_trunc hi
    · have : i = n + 1 := by omega
      subst this
      simp only [stAt]
      rw [if_pos (by simp)]
      congr 1
      funext t
      exact stAt_agree fun j hj hne => absurd (by simp; omega) hne
/-! ### What stands ahead of what -/
theorem mask1_bit {B : List Nat} : ∀ {es : List Nat} {s i : Nat}, (es.foldl (fun s e => s ||| 2 ^ e ||| B.getD e 0) s).testBit i = true → s.testBit i = true ∨ ∃ e ∈ es, e = i ∨ (B.getD e 0).testBit i = true
  | [], s, i, h => .inl h
  | e :: es, s, i, h => by
    rcases mask1_bit (es := es) h with h | ⟨e', he, h⟩
    · simp only [Nat.testBit_or, Bool.or_eq_true] at h
      rcases h with (h | h) | h
      · exact .inl h
      · refine .inr ⟨e, by simp, .inl ?_⟩
        rw [Nat.testBit_two_pow] at h; simpa using h
      · exact .inr ⟨e, by simp, .inr h⟩
    · exact .inr ⟨e', by simp [he], h⟩
theorem masksOk_at {os : List Oper} {B : List Nat} (h : masksOk os B = true) {d : Nat} {o : Oper} (ho : os[d]? = some o) : (∀ e ∈ edges o, e < d) ∧ B.getD d 0 = mask1 B (edges o) := by
  have := List.all_eq_true.1 h d (List.mem_range.2 (List.getElem?_eq_some_iff.1 ho).1)
  rw [ho] at this
  simp only [Bool.and_eq_true, beq_iff_eq] at this
  exact ⟨fun e he => by simpa using List.all_eq_true.1 this.1 e he, this.2⟩
/-- b holds what each of its members waits for. -/
def Closed (ops : Array Oper) (b : Nat → Bool) : Prop := ∀ j o, ops[j]? = some o → b j = true → ∀ e ∈ edges o, b e = true
theorem ord_in {B : List Nat} (hB : masksOk ops.toList B = true) {b : Nat → Bool} (hc : Closed ops b) : ∀ (n j : Nat), j < n → ∀ o, ops[j]? = some o → (∀ e ∈ edges o, b e = true) → ∀ i, ordB B i j = true → b i = true
  | 0, j, h, _, _, _, _, _ => by omega
  | n + 1, j, h, o, ho, hp, i, hi => by
    obtain ⟨h1, h2⟩ := masksOk_at hB (by simpa using ho)
    unfold ordB at hi
    rw [h2] at hi
    unfold mask1 at hi
    rcases mask1_bit hi with hi | ⟨e, he, rfl | hi⟩
    · simp at hi
    · exact hp _ he
    · have hlt := h1 e he
      have hej : j < ops.size := (Array.getElem?_eq_some_iff.1 ho).1
      have heo : ops[e]? = some ops[e] := Array.getElem?_eq_getElem (by omega)
      exact ord_in hB hc n e (by omega) _ heo (hc e _ heo (hp e he)) i hi
theorem slots_at {B : List Nat} (h : slotsOk ops B = true) {i j : Nat} {x y : Oper} (hij : i < j) (hx : ops[i]? = some x) (hy : ops[j]? = some y) : ordB B i j = true ∨ x.apart ops y = true := by
  unfold slotsOk at h
  simp only [Bool.and_eq_true] at h
  have h1 := List.all_eq_true.1 h.2 j (List.mem_range.2 (Array.getElem?_eq_some_iff.1 hy).1)
  have h2 := List.all_eq_true.1 h1 i (List.mem_range.2 hij)
  rw [hx, hy] at h2
  simpa using h2
theorem recs_at {B : List Nat} {recs : List Rec} (h : recsOk B recs = true) {i j : Nat} (hij : i < j) (hj : j < recs.length) : ordB B i j = true ∨ ((∀ k, k ∈ (δF recs i).map (·.1) → k ∉ rF recs j ∧ k ∉ (δF recs j).map (·.1)) ∧ ∀ k, k ∈ rF recs i → k ∉ (δF recs j).map (·.1)) := by
  unfold recsOk at h
  simp only [Bool.and_eq_true] at h
  have h1 := List.all_eq_true.1 h.2 j (List.mem_range.2 hj)
  have hyj : recs[j]? = some recs[j] := List.getElem?_eq_getElem hj
  have hxi : recs[i]? = some recs[i] := List.getElem?_eq_getElem (by omega)
  rw [hyj] at h1
  simp only [Bool.or_eq_true, Bool.and_eq_true] at h1
  have e1 : δF recs i = recs[i].δ := by simp [δF, hxi]
  have e2 : δF recs j = recs[j].δ := by simp [δF, hyj]
  have e3 : rF recs i = recs[i].rd := by simp [rF, hxi]
  have e4 : rF recs j = recs[j].rd := by simp [rF, hyj]
  rw [e1, e2, e3, e4]
  rcases h1 with ⟨h2, h3⟩ | h1
  · right
    have h2' : recs[j].rd = [] := by simpa using h2
    have h3' : recs[j].δ = [] := by simpa using h3
    rw [h2', h3']; simp
  · have h2 := List.all_eq_true.1 h1 i (List.mem_range.2 hij)
    rw [hxi] at h2
    simp only [Bool.or_eq_true] at h2
    rcases h2 with h2 | h2
    · exact .inl h2
    · right
      simp only [Rec.free, Bool.and_eq_true, disj, Rec.wr] at h2
      refine ⟨fun k hk => ?_, fun k hk => ?_⟩
      · have := List.all_eq_true.1 h2.1 k hk
        simp at this ⊢
        exact this
      · have := List.all_eq_true.1 h2.2 k hk
        simp at this ⊢
        exact this
/-- What is owed behind a region, or any code. -/
def Post (P : Program) (G : Gh) (n0 N : Nat) (Q : Exit → Act → World → Prop) : Ex × Fr → Prop
  | (.norm, fr) => ∀ G' a' w', G.le G' → Same G G' (fun k => n0 ≤ k ∧ k < fr.nx) → n0 ≤ fr.nx → Inv P G' fr.st w' → TmR P G' N fr.tm a' → Q .normal a' w'
  | (.exit id, fr) => ∀ G' a' w', G.le G' → Same G G' (fun k => n0 ≤ k ∧ k < fr.nx) → n0 ≤ fr.nx → Inv P G' fr.st w' → TmR P G' N fr.tm a' → Q (.exit id) a' w'
  | (.ret, fr) => ∀ G' a' w', G.le G' → Same G G' (fun k => n0 ≤ k ∧ k < fr.nx) → n0 ≤ fr.nx → Inv P G' fr.st w' → TmR P G' N fr.tm a' → Q .ret a' w'
  | (.pan v, fr) => ∀ G' a' w' u, G.le G' → Same G G' (fun k => n0 ≤ k ∧ k < fr.nx) → n0 ≤ fr.nx → Inv P G' fr.st w' → a'.defers = [] → Rep P G' v u → Q (.panic [{ v := u, recovered := false }]) a' w'
theorem ev_same {o : Oper} (h : ∀ t ∈ o.looksAt ops, tm' t = tm t) : ∀ x ∈ o.op.operands, ev E tm' x = ev E tm x := fun x hx => by
  cases x with
  | tmp t =>
    simp only [ev]
    rw [h t]
    unfold Oper.looksAt
    refine List.mem_append_left _ (List.mem_filterMap.2 ⟨.tmp t, by simpa using hx, rfl⟩)
  | _ => rfl
theorem want_same {o : Oper} (h : ∀ t ∈ o.looksAt ops, tm' t = tm t) : xwant ops tm' o = xwant ops tm o := by
  unfold xwant
  split
  · rfl
  · rename_i j wn hg
    split
    · rename_i d hd
      rw [h d]
      unfold Oper.looksAt
      refine List.mem_append_right _ ?_
      rw [hg]; simp [hd]
    · rfl
theorem getD_tf {l : Array Bool} {j : Nat} : l.getD j true = false ↔ j < l.size ∧ l.getD j false = false := by
  simp only [Array.getD_eq_getD_getElem?]
  cases h : l[j]? with
  | none =>
    have := Array.getElem?_eq_none_iff.1 h
    simp
    omega
  | some b =>
    have := (Array.getElem?_eq_some_iff.1 h).1
    simp [this]
theorem countP_less {α : Type} {p p' : α → Bool} : ∀ {l : List α}, (∀ x ∈ l, p' x = true → p x = true) → (∃ x ∈ l, p x = true ∧ p' x = false) → l.countP p' < l.countP p
  | [], _, ⟨_, h, _⟩ => by cases h
  | x :: l, h, ⟨y, hy, h1, h2⟩ => by
    have hle : l.countP p' ≤ l.countP p := List.countP_mono_left fun z hz => h z (by simp [hz])
    rw [List.countP_cons, List.countP_cons]
    rcases List.mem_cons.1 hy with rfl | hy
    · simp [h1, h2]; omega
    · have := countP_less (fun z hz => h z (by simp [hz])) ⟨y, hy, h1, h2⟩
      have hx := h x (by simp)
      by_cases hp : p' x = true
      · simp [hp, hx hp]; omega
      · simp [hp]; omega
theorem tmAt_none {d : Nat → Option Tmp} {v : Nat → V} {b : Nat → Bool} (h : ∀ j, b j = false) : ∀ {n : Nat}, tmAt d v b tm0 n = tm0
  | 0 => rfl
  | n + 1 => by simp only [tmAt]; rw [h n]; exact tmAt_none h
theorem stAt_none {δ : Nat → List (Nat × Option Ob)} {b : Nat → Bool} (h : ∀ j, b j = false) : ∀ {n : Nat}, stAt δ b st0 n = st0
  | 0 => rfl
  | n + 1 => by simp only [stAt]; rw [h n]; exact stAt_none h
theorem region_draw (hP : ProgOK P) (hE : EnvOK P E) (hgl : GlOK P E.gl G.pr) {id : Nat} {recs : List Rec} (hinv : Inv P G st0 w) (ht : TmR P G N tm0 a) (hfr0 : Fresh G (fun k => n0 ≤ k)) (h8 : 8 ≤ n0) {B : List Nat}
    (hB : masksOk ops.toList B = true) (hS : slotsOk ops B = true) (hR : recsOk B recs = true) (hx : xops P E ops N n0 0 ops.toList tm0 st0 (n0 + 8 * ops.size) = some (.ok tm' st' nx' recs))
    (hK : Post P G n0 N Q (.norm, ⟨tm', st', nx'⟩)) : (Code.region id ops true).wp P Q a w := by
  have hbig : recs.all (fun r => r.big.isNone) = true := by unfold recsOk at hR; simp only [Bool.and_eq_true] at hR; exact hR.1
  obtain ⟨rfl, hlen, htm, hst, hF⟩ := facts (ops := ops) (rest := ops.toList) (i := 0) (tm := tm0) (st := st0) (tm0 := tm0) (st0 := st0) (recs := recs) hbig rfl (Nat.zero_le _) (by rw [List.drop_zero]; exact hx) rfl rfl (Nat.zero_le _)
  refine wp_region_any hP.mix ?_
  have key : ∀ (fuel : Nat) (listed : Array Bool) (G' : Gh) (a : Act) (w : World), listed.size = ops.size → ((List.range ops.size).countP fun j => !listed.getD j false) ≤ fuel → Closed ops (fun j => listed.getD j false) → G.le G' → Same G G' (fun k => n0 ≤ k ∧ k < n0 + 8 * ops.size) →
      Inv P G' (stAt (δF recs) (fun j => listed.getD j false) st0 ops.size) w → TmR P G' N (tmAt (dF ops) (vF recs) (fun j => listed.getD j false) tm0 ops.size) a → (∀ j, j < ops.size → listed.getD j false = false → Fresh G' (R8 (n0 + 8 * j))) →
      wpAny P .any ops Q fuel listed a w := by
    intro fuel
    induction fuel with
    | zero =>
      intro listed G' a w hsz hcnt hcl hle hsame hinv ht hfr
      have hall : ∀ j, j < ops.size → listed.getD j false = true := fun j hj => by
        have := List.countP_eq_zero.1 (Nat.le_zero.1 hcnt) j (List.mem_range.2 hj)
        simpa using this
      have e1 : tmAt (dF ops) (vF recs) (fun j => listed.getD j false) tm0 ops.size = tm' := by
        rw [htm]; funext t; exact tmAt_agree fun j hj hne => absurd (hall j hj) hne
      have e2 : stAt (δF recs) (fun j => listed.getD j false) st0 ops.size = st' := by
        rw [hst]; funext t; exact stAt_agree fun j hj hne => absurd (hall j hj) hne
      rw [e1] at ht; rw [e2] at hinv
      refine ⟨?_, hK G' a w hle hsame (by show n0 ≤ n0 + 8 * ops.size; omega) hinv ht⟩
      rw [List.eq_nil_iff_forall_not_mem]
      intro j hj
      obtain ⟨h1, h2⟩ := getD_tf.1 (mem_ready.1 hj).1
      rw [hall j (by omega)] at h2; cases h2
    | succ fuel ih =>
      intro listed G' a w hsz hcnt hcl hle hsame hinv ht hfr
      refine ⟨fun hnil => ?_, fun i hi => ?_⟩
      · have hall : ∀ n j, j < n → j < ops.size → listed.getD j false = true := by
          intro n
          induction n with
          | zero => intro j h; omega
          | succ n ihn =>
            intro j hj hjs
            by_cases hl : listed.getD j false = true
            · exact hl
            · exfalso
              have hl : listed.getD j false = false := by simpa using hl
              have hoj : ops[j]? = some ops[j] := Array.getElem?_eq_getElem hjs
              have : j ∈ Region.ready .any ops listed := mem_ready.2 ⟨getD_tf.2 ⟨by omega, hl⟩, _, hoj, fun e he hb => by
                have hlt := (masksOk_at hB (d := j) (o := ops[j]) (by simp [hjs])).1 e.on (List.mem_map.2 ⟨e, List.mem_filter.2 ⟨by simpa using he, hb⟩, rfl⟩)
                exact ihn e.on (by omega) (by omega)⟩
              rw [hnil] at this; cases this
        have hall := fun j hj => hall (j + 1) j (by omega) hj
        have e1 : tmAt (dF ops) (vF recs) (fun j => listed.getD j false) tm0 ops.size = tm' := by
          rw [htm]; funext t; exact tmAt_agree fun j hj hne => absurd (hall j hj) hne
        have e2 : stAt (δF recs) (fun j => listed.getD j false) st0 ops.size = st' := by
          rw [hst]; funext t; exact stAt_agree fun j hj hne => absurd (hall j hj) hne
        rw [e1] at ht; rw [e2] at hinv
        exact hK G' a w hle hsame (by show n0 ≤ n0 + 8 * ops.size; omega) hinv ht
      · obtain ⟨hi1, o, ho, hpre'⟩ := mem_ready.1 hi
        obtain ⟨hil, hib⟩ := getD_tf.1 hi1
        have him : i < ops.size := (Array.getElem?_eq_some_iff.1 ho).1
        have hpre : ∀ e ∈ edges o, listed.getD e false = true := fun e he => by
          obtain ⟨x, hx, rfl⟩ := List.mem_map.1 he
          obtain ⟨h1, h2⟩ := List.mem_filter.1 hx
          exact hpre' x (by simpa using h1) h2
        have hord1 : ∀ j, ordB B j i = true → listed.getD j false = true := fun j hj => ord_in hB hcl (i + 1) i (by omega) o ho hpre j hj
        have hord2 : ∀ j, j < ops.size → listed.getD j false = true → ordB B i j = true → False := fun j hj hb ho2 => by
          have hoj : ops[j]? = some ops[j] := Array.getElem?_eq_getElem hj
          have := ord_in hB hcl (j + 1) j (by omega) _ hoj (hcl j _ hoj hb) i ho2
          rw [hib] at this; cases this
        have hdF : ∀ j y, ops[j]? = some y → dF ops j = y.dst := fun j y hy => by simp [dF, hy]
        have hapart : ∀ j, j < ops.size → listed.getD j false ≠ decide (j < i) → ∃ y, ops[j]? = some y ∧ ((j < i ∧ y.apart ops o = true) ∨ (i < j ∧ o.apart ops y = true)) := fun j hj hne => by
          have hoj : ops[j]? = some ops[j] := Array.getElem?_eq_getElem hj
          refine ⟨_, hoj, ?_⟩
          rcases Nat.lt_trichotomy j i with h | h | h
          · left
            refine ⟨h, ?_⟩
            rcases slots_at hS h hoj ho with q | q
            · exact absurd (by rw [hord1 j q]; simp [h]) hne
            · exact q
          · subst h; exact absurd (by rw [hib]; simp) hne
          · right
            refine ⟨h, ?_⟩
            have hb : listed.getD j false = true := by
              cases hq : listed.getD j false with
              | true => rfl
              | false => exact absurd (by rw [hq]; simp; omega) hne
            rcases slots_at hS h ho hoj with q | q
            · exact (hord2 j hj hb q).elim
            · exact q
        have htmA : ∀ t ∈ o.looksAt ops, tmAt (dF ops) (vF recs) (fun j => listed.getD j false) tm0 ops.size t = tmAt (dF ops) (vF recs) (fun _ => true) tm0 i t := fun t htl => by
          rw [← tmAt_trunc (n := ops.size) (Nat.le_of_lt him)]
          refine tmAt_agree fun j hj hne hd => ?_
          obtain ⟨y, hy, h | h⟩ := hapart j hj hne
          · rw [hdF j y hy] at hd; exact (Oper.apart_spec h.2).1 t hd htl
          · rw [hdF j y hy] at hd; exact (Oper.apart_spec h.2).2.2 t hd htl
        have hstA : ∀ k ∈ rF recs i, stAt (δF recs) (fun j => listed.getD j false) st0 ops.size k = stAt (δF recs) (fun _ => true) st0 i k := fun k hk => by
          rw [← stAt_trunc (n := ops.size) (Nat.le_of_lt him)]
          refine stAt_agree fun j hj hne hd => ?_
          rcases Nat.lt_trichotomy j i with h | h | h
          · rcases recs_at hR h (by omega) with q | q
            · exact absurd (by rw [hord1 j q]; simp [h]) hne
            · exact (q.1 k hd).1 hk
          · subst h; exact absurd (by rw [hib]; simp) hne
          · have hb : listed.getD j false = true := by
              cases hq : listed.getD j false with
              | true => rfl
              | false => exact absurd (by rw [hq]; simp; omega) hne
            rcases recs_at hR h (by omega) with q | q
            · exact hord2 j hj hb q
            · exact q.2 k hk hd
        have hins1 := tmAt_insert (d := dF ops) (v := vF recs) (tm0 := tm0) (b := fun j => listed.getD j false) (i := i) hib (n := ops.size) him fun j hij hj hb t hd1 hd2 => by
          have hoj : ops[j]? = some ops[j] := Array.getElem?_eq_getElem hj
          rcases slots_at hS hij ho hoj with q | q
          · exact hord2 j hj hb q
          · rw [hdF i o ho] at hd1; rw [hdF j _ hoj] at hd2
            exact (Oper.apart_spec q).2.1 t hd1 hd2
        have hins2 := stAt_insert (δ := δF recs) (st0 := st0) (b := fun j => listed.getD j false) (i := i) hib (n := ops.size) him fun j hij hj hb k hk1 hk2 => by
          rcases recs_at hR hij (by omega) with q | q
          · exact hord2 j hj hb q
          · exact (q.1 k hk1).2 hk2
        have hupd : (fun j => (listed.setIfInBounds i true).getD j false) = upB (fun j => listed.getD j false) i := by
          funext j
          simp only [upB]
          by_cases hji : j = i
          · subst hji; simp [Array.getD_eq_getD_getElem?, hil]
          · rw [if_neg hji, getD_set_ne _ (fun e => hji e.symm)]
        obtain ⟨o', ho', hdst, hcase⟩ := hF i (Nat.zero_le _) him
        rw [ho] at ho'
        obtain rfl := Option.some.inj ho'
        have hw2 : ∀ b, xwant ops (tmAt (dF ops) (vF recs) (fun _ => true) tm0 i) o = some b → Region.wanted o (yielded ops a.tmps) = b := fun b hb => want_sound ht (by rw [want_same htmA]; exact hb)
        have cont : ∀ G'' w'' v, G'.le G'' → Same G' G'' (R8 (n0 + 8 * i)) → Inv P G'' (upds (δF recs i) (stAt (δF recs) (fun j => listed.getD j false) st0 ops.size)) w'' → Rep P G'' (vF recs i) v → wpAny P .any ops Q fuel (listed.setIfInBounds i true) (a.put o.dst v) w'' := fun G'' w'' v g1 g2 g3 g4 => by
          refine ih (listed.setIfInBounds i true) G'' (a.put o.dst v) w'' (by simpa using hsz) ?_ ?_ (hle.trans g1) (hsame.trans (g2.mono fun k hk => ⟨by have := hk.1; omega, by have := hk.2; omega⟩)) ?_ ?_ fun j hj hjb => ?_
          · have := countP_less (p := fun j => !listed.getD j false) (p' := fun j => !(listed.setIfInBounds i true).getD j false) (l := List.range ops.size) (fun j _ hj => by
              have e := congrFun hupd j
              rw [e] at hj
              simp only [upB] at hj
              split at hj
              · cases hj
              · exact hj) ⟨i, List.mem_range.2 him, by simp [hib], by
              have e := congrFun hupd i
              rw [e]; simp [upB]⟩
            omega
          · rw [hupd]
            intro j y hy hb e he
            simp only [upB] at hb ⊢
            split
            · rfl
            · split at hb
              · rename_i h; subst h; rw [ho] at hy; obtain rfl := Option.some.inj hy; exact hpre e he
              · exact hcl j y hy hb e he
          · rw [hupd, hins2]; exact g3
          · rw [hupd, hins1]
            have := (ht.mono g1).put hdst g4
            rw [hdF i o ho]; exact this
          · have e := congrFun hupd j
            rw [e] at hjb
            simp only [upB] at hjb
            split at hjb
            · cases hjb
            · rename_i hji
              have h1 := hfr j hj hjb
              intro k hk
              have hnk : ¬ R8 (n0 + 8 * i) k := fun q => hji (by have := hk.1; have := hk.2; have := q.1; have := q.2; omega)
              exact ⟨(g2 k hnk).1 (h1 k hk).1, (g2 k hnk).2 (h1 k hk).2⟩
        have hgl' : GlOK P E.gl G'.pr := fun g x hg => (hgl g x hg).mono hle.pr
        unfold wpOp
        simp only [ho]
        rcases hcase with ⟨hw, hxo⟩ | ⟨hw, e1, e2, e3⟩
        · rw [hw2 true hw]
          simp only [if_true]
          refine .inl (xop_sound (i0 := n0 + 8 * i) (nx' := n0 + 8 * ops.size) hP hE hgl' hinv ht (hfr i him hib) (fun k hk => ?_) (by omega) (by omega) (r := .val (vF recs i) (δF recs i) (rF recs i)) ?_ fun G'' w'' v g1 g2 g3 g4 => cont G'' w'' v g1 g2 g3 g4)
          · have h1 := hfr0 k (by omega)
            have hn : ¬ (n0 ≤ k ∧ k < n0 + 8 * ops.size) := by omega
            exact ⟨(hsame k hn).1 h1.1, (hsame k hn).2 h1.2⟩
          · rw [xop_tm (ev_same htmA)]
            exact xop_st hxo hstA
        · rw [hw2 false hw]
          simp only [Bool.false_eq_true, if_false]
          refine cont G' w undef (.refl G') (.refl G' _) ?_ (by rw [e1]; exact .pure (.sc _))
          rw [e2]; exact hinv
  refine key ops.size (Array.replicate ops.size false) G a _ (by simp) (by
    refine Nat.le_trans (List.countP_le_length ..) ?_
    simp) (fun j o _ hb => by
    exfalso
    simp only [Array.getD_eq_getD_getElem?, Array.getElem?_replicate] at hb
    split at hb <;> simp at hb) (.refl G) (.refl G _) ?_ ?_ fun j hj _ k hk => hfr0 k (by have := hk.1; omega)
  · have : stAt (δF recs) (fun j => (Array.replicate ops.size false).getD j false) st0 ops.size = st0 := stAt_none fun j => by
      simp only [Array.getD_eq_getD_getElem?, Array.getElem?_replicate]; split <;> rfl
    rw [this]; exact hinv.heap rfl rfl rfl rfl
  · have : tmAt (dF ops) (vF recs) (fun j => (Array.replicate ops.size false).getD j false) tm0 ops.size = tm0 := tmAt_none fun j => by
      simp only [Array.getD_eq_getD_getElem?, Array.getElem?_replicate]; split <;> rfl
    rw [this]; exact ht
end
end Go.Proofs.YtojbkakdhfmjmaaDoor.Vm
