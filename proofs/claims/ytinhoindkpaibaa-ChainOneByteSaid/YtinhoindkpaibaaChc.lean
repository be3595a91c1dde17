/- The laws ChainContinues and ChainOneByte, over data alone: the checksums of two lists, one behind the other; one changed byte changes all checksums from its record on. -/
import Derived.Test.YtinhoindkpaibaaDhp
import Derived.Test.YtinhoindkpaibaaYSt
import Derived.Laws.Bits64
namespace Go.Proofs.Ytinhoindkpaibaa.Pure
open Go.RowKit Go.Proofs.Ytinhoindkpaibaa.Y Go.Proofs.YtinhoindkpaibaaW.PrintWords Go.Proofs.YtinhoindkpaibaaW.PrintLast

theorem lives_bind : Ev (fun k => (accountinglaw14_lives.f k).bind fun t => some t) true := Ev.bind lives_ev (Ev.now _)
theorem allS_append (h : Int) (a b : List (List Int)) : allS h (a ++ b) = allS h a ++ allS (a.foldl nextS h) b := by
  induction a generalizing h with
  | nil => rfl
  | cons c a ih => simp [allS, ih]

/-! ### two lists -/
theorem cont_l1 (a b : List (List Int)) (all : List Int) (ha : a.length ≤ 1000) (hb : b.length ≤ 1000) (hbb : ∀ c ∈ b, c.length ≤ 9223372036854775807) : ∀ (s : List (List Int)) (i : Nat) (h : Int), b.drop i = s → all.drop (a.length + i) = allS h s →
    Ev (fun k => accountinglaw14_ChainContinues.l1 k a b all h i) true := by
  intro s
  induction s with
  | nil =>
    intro i h hd _
    have := drop_nil_ hd
    exact Ev.step (fun k => by simp only [accountinglaw14_ChainContinues.l1]; rw [if_neg (by omega)]) lives_bind
  | cons c s ih =>
    intro i h hd hall
    obtain ⟨hlt, hc, hd'⟩ := drop_cons_ hd
    obtain ⟨hla, hca, hda⟩ := drop_cons_ (show all.drop (a.length + i) = nextS h c :: allS (nextS h c) s from hall)
    have hw : wrap64 ((a.length : Int) + (i : Int)) = ((a.length + i : Nat) : Int) := by unfold wrap64; omega
    refine Ev.step (f := fun k => (chain_Next.f k h c).bind fun t => if nextS h c = t then accountinglaw14_ChainContinues.l1 k a b all t ((i + 1 : Nat) : Int) else some false) (fun k => ?_) (Ev.bind (next_ev h c (hbb c (List.mem_of_getElem? hc))) ?_)
    · simp only [accountinglaw14_ChainContinues.l1]
      rw [if_pos (by omega), if_pos (by omega), rdL_some hc, wrap_succ hlt (by omega), hw]
      congr 1
      funext t
      rw [if_pos (by omega), if_pos (by omega), rd_some hca]
    · simp only [if_true]
      exact ih (i + 1) (nextS h c) hd' hda
theorem cont_l0 (a b : List (List Int)) (all first : List Int) (ha : a.length ≤ 1000) (hb : b.length ≤ 1000) (hab : ∀ c ∈ a, c.length ≤ 9223372036854775807) (hbb : ∀ c ∈ b, c.length ≤ 9223372036854775807) (hl : all.length = a.length + b.length) :
    ∀ (s : List (List Int)) (i : Nat) (h : Int), a.drop i = s → i ≤ a.length → first.drop i = allS h s → all.drop i = allS h s ++ allS (s.foldl nextS h) b → Ev (fun k => accountinglaw14_ChainContinues.l0 k a b all first h i) true := by
  intro s
  induction s with
  | nil =>
    intro i h hd hi _ hall
    have := drop_nil_ hd
    have e : i = a.length := by omega
    subst e
    refine Ev.step (fun k => by simp only [accountinglaw14_ChainContinues.l0]; rw [if_neg (by omega)]; rfl) (cont_l1 a b all ha hb hbb b 0 h rfl hall)
  | cons c s ih =>
    intro i h hd hi hf hall
    obtain ⟨hlt, hc, hd'⟩ := drop_cons_ hd
    obtain ⟨hlf, hcf, hdf⟩ := drop_cons_ (show first.drop i = nextS h c :: allS (nextS h c) s from hf)
    obtain ⟨hla, hca, hda⟩ := drop_cons_ (show all.drop i = nextS h c :: (allS (nextS h c) s ++ allS (s.foldl nextS (nextS h c)) b) from hall)
    refine Ev.step (f := fun k => (chain_Next.f k h c).bind fun t => if nextS h c = t then if nextS h c = t then accountinglaw14_ChainContinues.l0 k a b all first t ((i + 1 : Nat) : Int) else some false else some false) (fun k => ?_) (Ev.bind (next_ev h c (hab c (List.mem_of_getElem? hc))) ?_)
    · simp only [accountinglaw14_ChainContinues.l0]
      rw [if_pos (by omega), if_pos (by omega), rdL_some hc, wrap_succ hlt (by omega)]
      congr 1
      funext t
      simp only [if_pos (show (i : Int) < (all.length : Int) by omega), if_pos (show (i : Int) < (first.length : Int) by omega), rd_some hca, rd_some hcf]
    · simp only [if_true]
      exact ih (i + 1) (nextS h c) hd' (by omega) hdf hda
theorem ChainContinues : accountinglaw14_ChainContinues.Said := by
  intro a b _ _
  refine Ev.rounds (?_ : Ev (fun k => accountinglaw14_ChainContinues.f k a b) true)
  have hj : Ev (fun k => accountinglaw14_ChainContinues.j0 k a b true) true :=
    Ev.step (fun k => by simp only [accountinglaw14_ChainContinues.j0, if_true]) lives_bind
  unfold accountinglaw14_ChainContinues.f
  refine Ev.bind (large_ev a) ?_
  cases hA : largeS a with
  | true => simp only [if_true]; exact hj
  | false =>
    simp only [Bool.false_eq_true, if_false]
    refine Ev.bind (large_ev b) ?_
    cases hB : largeS b with
    | true => exact hj
    | false =>
      obtain ⟨a1, a2⟩ := largeS_no hA
      obtain ⟨b1, b2⟩ := largeS_no hB
      have ha : ∀ c ∈ a, c.length ≤ 9223372036854775807 := fun c hc => by have := a2 c hc; omega
      have hb : ∀ c ∈ b, c.length ≤ 9223372036854775807 := fun c hc => by have := b2 c hc; omega
      have hab : ∀ c ∈ a ++ b, c.length ≤ 9223372036854775807 := fun c hc => by
        rcases List.mem_append.1 hc with h | h
        · exact ha c h
        · exact hb c h
      have hl : (allS start (a ++ b)).length = a.length + b.length := by rw [allS_length, List.length_append]
      refine Ev.step (f := fun k => (chain_All.f k (a ++ b)).bind fun t => (chain_All.f k a).bind fun u => if (t.length : Int) = (wrap64 ((a.length : Int) + (b.length : Int))) then accountinglaw14_ChainContinues.j1 k a b t u ((u.length : Int) != (a.length : Int)) else accountinglaw14_ChainContinues.j1 k a b t u true) (fun k => ?_) ?_
      · simp only [accountinglaw14_ChainContinues.j0, Bool.false_eq_true, if_false, Option.bind_some, List.nil_append, List.length_nil, Nat.zero_add, if_pos (show a.length < 5864062014805 by omega), if_pos (show a.length + b.length < 5864062014805 by omega)]
      · refine Ev.bind (all_ev (a ++ b) (by rw [List.length_append]; omega) hab) (Ev.bind (all_ev a (by omega) ha) ?_)
        have hw : wrap64 ((a.length : Int) + (b.length : Int)) = ((a.length + b.length : Nat) : Int) := by unfold wrap64; omega
        simp only [hw, if_pos (show ((allS start (a ++ b)).length : Int) = ((a.length + b.length : Nat) : Int) by rw [hl]), show (((allS start a).length : Int) != (a.length : Int)) = false by rw [allS_length]; exact bne_self_eq_false _]
        refine Ev.step (f := fun k => accountinglaw14_ChainContinues.l0 k a b (allS start (a ++ b)) (allS start a) start ((0 : Nat) : Int)) (fun k => by simp only [accountinglaw14_ChainContinues.j1, Bool.false_eq_true, if_false]; rfl) ?_
        exact cont_l0 a b _ _ (by omega) (by omega) ha hb hl a 0 start rfl (Nat.zero_le _) rfl (by rw [List.drop_zero, allS_append])

/-! ### one byte -/
def growN (a b : Nat) : Nat := ((a ^^^ b) * 1099511628211) % 18446744073709551616
theorem growS_nat (a : Nat) (c : Int) (ha : a < 18446744073709551616) : growS (a : Int) c = (growN a (c % 18446744073709551616).toNat : Nat) := by
  unfold growS growN
  obtain ⟨b, hb⟩ := Int.eq_ofNat_of_zero_le (Int.emod_nonneg c (show (18446744073709551616 : Int) ≠ 0 by decide))
  have hb2 : b < 18446744073709551616 := by omega
  rw [IntKind.wrap_u64, IntKind.wrap_u64, hb, bits_xor_u64_nat a b ha hb2, Int.toNat_natCast]
  omega
theorem growN_lt (a b : Nat) : growN a b < 18446744073709551616 := Nat.mod_lt _ (by omega)
theorem mul_inv (x : Nat) (h : x < 18446744073709551616) : ((x * 1099511628211) % 18446744073709551616 * 14886173955864302971) % 18446744073709551616 = x := by omega
theorem growN_inj_left {a a' b : Nat} (ha : a < 18446744073709551616) (ha' : a' < 18446744073709551616) (hb : b < 18446744073709551616) (h : growN a b = growN a' b) : a = a' := by
  have h1 := mul_inv (a ^^^ b) (Nat.xor_lt_two_pow (n := 64) ha hb)
  have h2 := mul_inv (a' ^^^ b) (Nat.xor_lt_two_pow (n := 64) ha' hb)
  unfold growN at h
  rw [h, h2] at h1
  have := congrArg (· ^^^ b) h1
  simpa [Nat.xor_assoc] using this.symm
theorem growN_inj_right {a b b' : Nat} (ha : a < 18446744073709551616) (hb : b < 18446744073709551616) (hb' : b' < 18446744073709551616) (h : growN a b = growN a b') : b = b' := by
  have h1 := mul_inv (a ^^^ b) (Nat.xor_lt_two_pow (n := 64) ha hb)
  have h2 := mul_inv (a ^^^ b') (Nat.xor_lt_two_pow (n := 64) ha hb')
  unfold growN at h
  rw [h, h2] at h1
  have := congrArg (a ^^^ ·) h1
  simpa [← Nat.xor_assoc] using this.symm
/-- A checksum. -/
def Sm (h : Int) : Prop := 0 ≤ h ∧ h < 18446744073709551616
theorem Sm.nat {h : Int} (hs : Sm h) : ∃ a : Nat, h = a ∧ a < 18446744073709551616 := by
  obtain ⟨a, ha⟩ := Int.eq_ofNat_of_zero_le hs.1
  exact ⟨a, ha, by have := hs.2; omega⟩
theorem growS_sm {h : Int} (hs : Sm h) (c : Int) : Sm (growS h c) := by
  obtain ⟨a, rfl, ha⟩ := hs.nat
  rw [growS_nat a c ha]
  have := growN_lt a (c % 18446744073709551616).toNat
  exact ⟨by omega, by omega⟩
theorem growS_ne {h h' : Int} (hs : Sm h) (hs' : Sm h') (c : Int) (hne : h ≠ h') : growS h c ≠ growS h' c := by
  obtain ⟨a, rfl, ha⟩ := hs.nat
  obtain ⟨a', rfl, ha'⟩ := hs'.nat
  rw [growS_nat a c ha, growS_nat a' c ha']
  intro e
  exact hne (by rw [growN_inj_left ha ha' (by omega) (Int.ofNat_inj.mp e)])
theorem growS_ne_byte {h : Int} (hs : Sm h) {c c' : Int} (hc : 0 ≤ c ∧ c < 256) (hc' : 0 ≤ c' ∧ c' < 256) (hne : c ≠ c') : growS h c ≠ growS h c' := by
  obtain ⟨a, rfl, ha⟩ := hs.nat
  rw [growS_nat a c ha, growS_nat a c' ha]
  intro e
  have := growN_inj_right ha (by omega) (by omega) (Int.ofNat_inj.mp e)
  omega
theorem mixS_sm {h : Int} (hs : Sm h) (l : List Int) : Sm (mixS h l) := by
  induction l generalizing h with
  | nil => exact hs
  | cons c l ih => exact ih (growS_sm hs c)
theorem mixS_ne {h h' : Int} (hs : Sm h) (hs' : Sm h') (l : List Int) (hne : h ≠ h') : mixS h l ≠ mixS h' l := by
  induction l generalizing h h' with
  | nil => exact hne
  | cons c l ih => exact ih (growS_sm hs c) (growS_sm hs' c) (growS_ne hs hs' c hne)
theorem mixS_set {h : Int} (hs : Sm h) (x : Int) (hx : 0 ≤ x ∧ x < 256) : ∀ (l : List Int) (k : Nat) (c : Int), l[k]? = some c → 0 ≤ c ∧ c < 256 → c ≠ x → mixS h l ≠ mixS h (l.set k x) := by
  intro l
  induction l generalizing h with
  | nil => intro k c h; simp at h
  | cons b l ih =>
    intro k c hk hc hne
    cases k with
    | zero =>
      simp at hk
      subst hk
      exact mixS_ne (growS_sm hs b) (growS_sm hs x) l (growS_ne_byte hs hc hx hne)
    | succ k => exact ih (growS_sm hs b) k c (by simpa using hk) hc hne
theorem nextS_sm {h : Int} (hs : Sm h) (l : List Int) : Sm (nextS h l) := mixS_sm (mixS_sm hs l) _
theorem nextS_ne {h h' : Int} (hs : Sm h) (hs' : Sm h') (l : List Int) (hne : h ≠ h') : nextS h l ≠ nextS h' l := mixS_ne (mixS_sm hs l) (mixS_sm hs' l) _ (mixS_ne hs hs' l hne)
theorem nextS_set {h : Int} (hs : Sm h) (x : Int) (hx : 0 ≤ x ∧ x < 256) (l : List Int) (k : Nat) (c : Int) (hk : l[k]? = some c) (hc : 0 ≤ c ∧ c < 256) (hne : c ≠ x) : nextS h l ≠ nextS h (l.set k x) := by
  unfold nextS
  rw [List.length_set]
  exact mixS_ne (mixS_sm hs _) (mixS_sm hs _) _ (mixS_set hs x hx l k c hk hc hne)
theorem allS_ne {h h' : Int} (hs : Sm h) (hs' : Sm h') (hne : h ≠ h') : ∀ (s : List (List Int)) (i : Nat) (x y : Int), (allS h s)[i]? = some x → (allS h' s)[i]? = some y → x ≠ y := by
  intro s
  induction s generalizing h h' with
  | nil => intro i x y hx; simp [allS] at hx
  | cons c s ih =>
    intro i x y hx hy
    have hn := nextS_ne hs hs' c hne
    cases i with
    | zero => simp [allS] at hx hy; rw [← hx, ← hy]; exact hn
    | succ i => exact ih (nextS_sm hs c) (nextS_sm hs' c) hn i x y (by simpa [allS] using hx) (by simpa [allS] using hy)
theorem foldl_sm (p : List (List Int)) {h : Int} (hs : Sm h) : Sm (p.foldl nextS h) := by
  induction p generalizing h with
  | nil => exact hs
  | cons c p ih => exact ih (nextS_sm hs c)
theorem start_sm : Sm start := ⟨by decide, by decide⟩
theorem chk_at (A X Y : List Int) (x y : Int) (h : x ≠ y) (i : Nat) : chk (A ++ y :: Y) (A ++ x :: X) i = (i + A.length : Nat) := by
  induction A generalizing i with
  | nil => simp [chk, h]
  | cons c A ih => simp [chk, ih]; omega
theorem one_l0 (l m : List (List Int)) (n : Nat) (a b : List Int) (hl : l.length ≤ 1000) (ha : a.length = l.length) (hb : b.length = l.length) (hab : ∀ i x y, a[i]? = some x → b[i]? = some y → (x = y ↔ i < n))
    (hlast : Ev (fun k => (chain_Check.f k m a).bind fun t => if t = (n : Int) then (accountinglaw14_lives.f k).bind fun t => some t else some false) true) : ∀ (d i : Nat), i + d = l.length → Ev (fun k => accountinglaw14_ChainOneByte.l0 k l n m a b i) true := by
  intro d
  induction d with
  | zero =>
    intro i hi
    exact Ev.step (fun k => by simp only [accountinglaw14_ChainOneByte.l0]; rw [if_neg (by omega)]) hlast
  | succ d ih =>
    intro i hi
    have hia : i < a.length := by omega
    have hib : i < b.length := by omega
    have e := hab i _ _ (List.getElem?_eq_getElem hia) (List.getElem?_eq_getElem hib)
    have h1 : ((a[i] == b[i]) != decide ((i : Int) < (n : Int))) = false := by
      by_cases hin : i < n
      · rw [show decide ((i : Int) < (n : Int)) = true from decide_eq_true (by omega), beq_iff_eq.2 (e.2 hin)]; rfl
      · rw [show decide ((i : Int) < (n : Int)) = false from decide_eq_false (by omega), beq_eq_false_iff_ne.2 (fun h => hin (e.1 h))]; rfl
    refine Ev.step (fun k => ?_) (ih (i + 1) (by omega))
    simp only [accountinglaw14_ChainOneByte.l0]
    rw [if_pos (by omega), if_pos (by omega), if_pos (by omega), if_pos (by omega), rd_some (List.getElem?_eq_getElem hia), rd_some (List.getElem?_eq_getElem hib), h1, wrap_succ (n := l.length) (by omega) (by omega)]
    simp only [Bool.false_eq_true, if_false]
theorem wf_byte {a : Int} (h : (Lit.int .u8 a).wf = true) : 0 ≤ a ∧ a < 256 := by
  have h1 : IntKind.u8.min = 0 := rfl
  have h2 : IntKind.u8.max = 255 := rfl
  simp only [Lit.wf, Bool.and_eq_true, decide_eq_true_eq] at h
  omega
theorem ChainOneByte : accountinglaw14_ChainOneByte.Said := by
  intro x0 hg
  obtain ⟨⟨_, hg0⟩, _, _, hg3⟩ := hg
  obtain ⟨l, at_, kk, x⟩ := x0
  dsimp only at hg0 hg3 ⊢
  have hx := wf_byte hg3
  refine Ev.rounds (?_ : Ev (fun k => accountinglaw14_ChainOneByte.f k l at_ kk x) true)
  have hj : Ev (fun k => accountinglaw14_ChainOneByte.j0 k l at_ kk x true) true :=
    Ev.step (fun k => by simp only [accountinglaw14_ChainOneByte.j0, if_true]) lives_bind
  unfold accountinglaw14_ChainOneByte.f
  refine Ev.bind (large_ev l) ?_
  cases hL : largeS l with
  | true => simp only [if_true]; exact hj
  | false =>
    simp only [Bool.false_eq_true, if_false]
    obtain ⟨h1, h2⟩ := largeS_no hL
    have hb : ∀ b ∈ l, b.length ≤ 9223372036854775807 := fun b hb => by have := h2 b hb; omega
    by_cases c1 : at_ < 0
    · simp only [if_pos c1]; exact hj
    simp only [if_neg c1]
    by_cases c2 : at_ ≥ (l.length : Int)
    · simp only [if_pos c2]; exact hj
    simp only [if_neg c2]
    by_cases c3 : kk < 0
    · simp only [if_pos c3]; exact hj
    simp only [if_neg c3, if_pos (show 0 ≤ at_ by omega), if_pos (show at_ < (l.length : Int) by omega)]
    obtain ⟨n, rfl⟩ := Int.eq_ofNat_of_zero_le (show 0 ≤ at_ by omega)
    obtain ⟨q, rfl⟩ := Int.eq_ofNat_of_zero_le (show 0 ≤ kk by omega)
    have hn : n < l.length := by omega
    have hc := List.getElem?_eq_getElem hn
    generalize hcd : l[n] = c at hc
    rw [rdL_some hc]
    have hcm : c ∈ l := List.mem_of_getElem? hc
    by_cases c4 : (q : Int) ≥ (c.length : Int)
    · simp only [if_pos c4]; exact hj
    simp only [if_neg c4, if_pos (show 0 ≤ (q : Int) by omega), if_pos (show (q : Int) < (c.length : Int) by omega)]
    have hq : q < c.length := by omega
    have hcq := List.getElem?_eq_getElem hq
    generalize hyd : c[q] = y at hcq
    rw [rd_some hcq]
    have hy := wf_byte ((hg0 c hcm).2 y (List.mem_of_getElem? hcq))
    cases c5 : (y == x) with
    | true => exact hj
    | false =>
      have hne : y ≠ x := fun e => by rw [e] at c5; simp at c5
      have hc400 := h2 c hcm
      have hw : wrap64 ((n : Int) + 1) = ((n + 1 : Nat) : Int) := wrap_succ hn (by omega)
      have htk : (l.take n).length = n := by rw [List.length_take]; omega
      have hm : l.take n ++ [c.set q x] ++ l.drop (n + 1) = l.take n ++ c.set q x :: l.drop (n + 1) := by simp
      have hl : l = l.take n ++ c :: l.drop (n + 1) := by rw [← hcd, ← List.drop_eq_getElem_cons hn, List.take_append_drop]
      generalize hp : l.take n = p at *
      generalize hs : l.drop (n + 1) = s at *
      have hM : (p ++ c.set q x :: s).length = l.length := by rw [hl]; simp
      have hMb : ∀ b ∈ p ++ c.set q x :: s, b.length ≤ 9223372036854775807 := fun b hbm => by
        rcases List.mem_append.1 hbm with h | h
        · exact hb b (by rw [hl]; exact List.mem_append.2 (.inl h))
        · rcases List.mem_cons.1 h with h | h
          · rw [h, List.length_set]; omega
          · exact hb b (by rw [hl]; exact List.mem_append.2 (.inr (List.mem_cons_of_mem _ h)))
      have eA : allS start l = allS start p ++ nextS (p.foldl nextS start) c :: allS (nextS (p.foldl nextS start) c) s := by rw [hl, allS_append]; rfl
      have eB : allS start (p ++ c.set q x :: s) = allS start p ++ nextS (p.foldl nextS start) (c.set q x) :: allS (nextS (p.foldl nextS start) (c.set q x)) s := by rw [allS_append]; rfl
      have hfs := foldl_sm p start_sm
      have hxy := nextS_set hfs x hx c q y hcq hy hne
      have hla : (allS start l).length = l.length := allS_length _ _
      have hlb : (allS start (p ++ c.set q x :: s)).length = l.length := by rw [allS_length, hM]
      have hlp : (allS start p).length = n := by rw [allS_length, htk]
      have hdiff : ∀ i u v, (allS start l)[i]? = some u → (allS start (p ++ c.set q x :: s))[i]? = some v → (u = v ↔ i < n) := by
        intro i u v hu hv
        rw [eA] at hu
        rw [eB] at hv
        by_cases hin : i < n
        · rw [List.getElem?_append_left (by omega)] at hu hv
          rw [hu] at hv
          injection hv with hv
          exact ⟨fun _ => hin, fun _ => hv⟩
        · rw [List.getElem?_append_right (by omega), hlp] at hu hv
          refine ⟨fun e => absurd e ?_, fun h => absurd h hin⟩
          obtain ⟨j, hj2⟩ : ∃ j, i - n = j := ⟨_, rfl⟩
          rw [hj2] at hu hv
          cases j with
          | zero => simp at hu hv; rw [← hu, ← hv]; exact hxy
          | succ j => exact allS_ne (nextS_sm hfs _) (nextS_sm hfs _) hxy s j u v (by simpa using hu) (by simpa using hv)
      have hchk := check_ev (p ++ c.set q x :: s) (allS start l) (by omega) hMb
      rw [eA, eB, chk_at _ _ _ _ _ hxy, hlp, Nat.zero_add, ← eA] at hchk
      refine Ev.step (f := fun k => (chain_All.f k l).bind fun t => (chain_All.f k (p ++ c.set q x :: s)).bind fun u => if (t.length : Int) = (l.length : Int) then accountinglaw14_ChainOneByte.j1 k l n (p ++ c.set q x :: s) t u ((u.length : Int) != (l.length : Int)) else accountinglaw14_ChainOneByte.j1 k l n (p ++ c.set q x :: s) t u true) (fun k => ?_) ?_
      · simp only [accountinglaw14_ChainOneByte.j0, Bool.false_eq_true, if_false, Option.bind_some, List.nil_append, List.length_nil, Nat.zero_add, if_pos (show 0 ≤ (n : Int) by omega), if_pos (show (n : Int) < (l.length : Int) by omega), rdL_some hc, if_pos (show c.length < 140737488355328 by omega), if_pos (show 0 ≤ (q : Int) by omega), if_pos (show (q : Int) < (c.length : Int) by omega), if_pos (show (n : Int) ≤ (l.length : Int) by omega), Int.toNat_natCast, hp, htk, if_pos (show n < 5864062014805 by omega), hw, if_pos (show 0 ≤ ((n + 1 : Nat) : Int) by omega), if_pos (show ((n + 1 : Nat) : Int) ≤ (l.length : Int) by omega), hs]
        rw [if_pos (by
          have : (p ++ [c.set q x]).length + s.length = l.length := by rw [← hM]; simp; omega
          omega)]
        rw [hm]
      · refine Ev.bind (all_ev l (by omega) hb) (Ev.bind (all_ev _ (by omega) hMb) ?_)
        simp only [if_pos (show ((allS start l).length : Int) = (l.length : Int) by rw [hla]), show (((allS start (p ++ c.set q x :: s)).length : Int) != (l.length : Int)) = false by rw [hlb]; exact bne_self_eq_false _]
        refine Ev.step (f := fun k => accountinglaw14_ChainOneByte.l0 k l n (p ++ c.set q x :: s) (allS start l) (allS start (p ++ c.set q x :: s)) ((0 : Nat) : Int)) (fun k => by simp only [accountinglaw14_ChainOneByte.j1, Bool.false_eq_true, if_false]; rfl) ?_
        refine one_l0 l _ n _ _ (by omega) hla hlb hdiff (Ev.bind hchk ?_) l.length 0 (by omega)
        simp only [if_true]
        exact lives_bind
end Go.Proofs.Ytinhoindkpaibaa.Pure
