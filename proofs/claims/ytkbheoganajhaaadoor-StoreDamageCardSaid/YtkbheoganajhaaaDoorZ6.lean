/- Proved here: the law, on a machine over pure data, and what it needs, part 6. Conditions: none. -/
import Derived.Laws.Bits64
import Derived.Test.YtkbheoganajhaaaDoorZ5
set_option maxRecDepth 10000
set_option linter.unusedVariables false
set_option linter.unusedSimpArgs false
namespace Go.Proofs.YtkbheoganajhaaaDoor.Vm
open Go Go.Proofs Go.RowKit
theorem entryB_len2 {x : Entry} (hp : plainE x) : (entryB x).length ≤ 15001000 := by
  have h2 := headB_len x hp
  have h3 := linesB_len x.lines x.lines.length fun t ht => hp.lines t (List.mem_of_mem_take ht)
  have h4 := hp.len
  rw [List.take_length] at h3
  rw [entryB, List.length_append]; omega
theorem framesB_len2 : ∀ (xs : List Entry) (s : Int), (∀ e ∈ xs, goodE e) → (framesB s xs).length ≤ 15001016 * xs.length
  | [], _, _ => by simp [framesB]
  | x :: xs, s, h => by
    have h1 := framesB_len2 xs (nextI s (entryB x)) fun e he => h e (List.mem_cons_of_mem _ he)
    have h2 := entryB_len2 (h x (List.mem_cons_self ..)).plain
    simp only [framesB, List.length_append, frameB_len, List.length_cons]; omega
def grwN (a b : Nat) : Nat := ((a ^^^ b) * 1099511628211) % 18446744073709551616
theorem growI_nat (a : Nat) (c : Nat) (ha : a < 18446744073709551616) (hc : c < 18446744073709551616) : growI (a : Int) (c : Int) = (grwN a c : Nat) := by
  unfold growI grwN
  rw [IntKind.wrap_u64, bits_xor_u64_nat a c ha hc]
  omega
theorem mul_inv (x : Nat) (h : x < 18446744073709551616) : ((x * 1099511628211) % 18446744073709551616 * 14886173955864302971) % 18446744073709551616 = x := by omega
theorem grwN_inj_left {a a' b : Nat} (ha : a < 18446744073709551616) (ha' : a' < 18446744073709551616) (hb : b < 18446744073709551616) (h : grwN a b = grwN a' b) : a = a' := by
  have h1 := mul_inv (a ^^^ b) (Nat.xor_lt_two_pow (n := 64) ha hb)
  have h2 := mul_inv (a' ^^^ b) (Nat.xor_lt_two_pow (n := 64) ha' hb)
  unfold grwN at h
  rw [h, h2] at h1
  have := congrArg (· ^^^ b) h1
  simpa [Nat.xor_assoc] using this.symm
theorem grwN_inj_right {a b b' : Nat} (ha : a < 18446744073709551616) (hb : b < 18446744073709551616) (hb' : b' < 18446744073709551616) (h : grwN a b = grwN a b') : b = b' := by
  have h1 := mul_inv (a ^^^ b) (Nat.xor_lt_two_pow (n := 64) ha hb)
  have h2 := mul_inv (a ^^^ b') (Nat.xor_lt_two_pow (n := 64) ha hb')
  unfold grwN at h
  rw [h, h2] at h1
  have := congrArg (a ^^^ ·) h1
  simpa [← Nat.xor_assoc] using this.symm
theorem u64r_nat {h : Int} (hs : u64r h) : ∃ a : Nat, h = a ∧ a < 18446744073709551616 := by
  obtain ⟨a, ha⟩ := Int.eq_ofNat_of_zero_le hs.1
  exact ⟨a, ha, by have := hs.2; omega⟩
theorem growI_ne {h h' c : Int} (hs : u64r h) (hs' : u64r h') (hc : 0 ≤ c ∧ c < 256) (hne : h ≠ h') : growI h c ≠ growI h' c := by
  obtain ⟨a, rfl, ha⟩ := u64r_nat hs
  obtain ⟨a', rfl, ha'⟩ := u64r_nat hs'
  obtain ⟨b, rfl⟩ := Int.eq_ofNat_of_zero_le hc.1
  rw [growI_nat a b ha (by omega), growI_nat a' b ha' (by omega)]
  intro e
  exact hne (by rw [grwN_inj_left ha ha' (by omega) (Int.ofNat_inj.mp e)])
theorem growI_ne_byte {h c c' : Int} (hs : u64r h) (hc : 0 ≤ c ∧ c < 256) (hc' : 0 ≤ c' ∧ c' < 256) (hne : c ≠ c') : growI h c ≠ growI h c' := by
  obtain ⟨a, rfl, ha⟩ := u64r_nat hs
  obtain ⟨b, rfl⟩ := Int.eq_ofNat_of_zero_le hc.1
  obtain ⟨b', rfl⟩ := Int.eq_ofNat_of_zero_le hc'.1
  rw [growI_nat a b ha (by omega), growI_nat a b' ha (by omega)]
  intro e
  have := grwN_inj_right ha (by omega) (by omega) (Int.ofNat_inj.mp e)
  omega
theorem mixI_ne : ∀ (l : List Int) {h h' : Int}, u64r h → u64r h' → bOK l → h ≠ h' → mixI h l ≠ mixI h' l
  | [], _, _, _, _, _, hne => hne
  | c :: l, h, h', hs, hs', hb, hne => mixI_ne l (growI_r h c) (growI_r h' c) (fun b hb' => hb b (List.mem_cons_of_mem _ hb')) (growI_ne hs hs' (hb c (List.mem_cons_self ..)) hne)
theorem mixI_set {x : Int} (hx : 0 ≤ x ∧ x < 256) : ∀ (l : List Int) (k : Nat) (c : Int) {h : Int}, u64r h → bOK l → l[k]? = some c → c ≠ x → mixI h l ≠ mixI h (l.set k x)
  | [], k, c, _, _, _, hk, _ => by simp at hk
  | b :: l, 0, c, h, hs, hb, hk, hne => by
    obtain rfl : b = c := by simpa using hk
    exact mixI_ne l (growI_r h b) (growI_r h x) (fun y hy => hb y (List.mem_cons_of_mem _ hy)) (growI_ne_byte hs (hb b (List.mem_cons_self ..)) hx hne)
  | b :: l, k + 1, c, h, hs, hb, hk, hne => mixI_set hx l k c (growI_r h b) (fun y hy => hb y (List.mem_cons_of_mem _ hy)) (by simpa using hk) hne
theorem nextI_set {h x c : Int} {l : List Int} {k : Nat} (hs : u64r h) (hb : bOK l) (hx : 0 ≤ x ∧ x < 256) (hk : l[k]? = some c) (hne : c ≠ x) : nextI h l ≠ nextI h (l.set k x) := by
  unfold nextI
  rw [List.length_set]
  exact mixI_ne _ (mixI_r l hs) (mixI_r _ hs) (four_ok _) (mixI_set hx l k c hs hb hk hne)
theorem sumB_inj {a b : Int} (ha : u64r a) (hb : u64r b) (h : sumB a = sumB b) : a = b := by
  unfold sumB at h
  unfold u64r at ha hb
  simp only [List.cons.injEq, and_true] at h
  omega
theorem four_inj {a b : Int} (ha : 0 ≤ a ∧ a < 4294967296) (hb : 0 ≤ b ∧ b < 4294967296) (h : four a = four b) : a = b := by
  unfold four at h
  simp only [List.cons.injEq, and_true] at h
  omega
theorem rdB_four (n : Int) (hn : 0 ≤ n ∧ n < 4294967296) (m : List Int) : rdB (four n ++ m) = n := by
  show readI _ _ _ _ = n
  unfold readI; omega
theorem inv_r {n : Int} (hn : 0 ≤ n ∧ n < 4294967296) : 0 ≤ inv n ∧ inv n < 4294967296 := by unfold inv; omega
theorem frameS_full (p sm m : List Int) (hl : p.length < 1000000000) (h8 : sm.length = 8) : frameS (four p.length ++ four (inv p.length) ++ p ++ sm ++ m) = (p, sm, 0) := by
  have hn : (0 : Int) ≤ (p.length : Int) ∧ (p.length : Int) < 4294967296 := ⟨by omega, by omega⟩
  have e0 : four p.length ++ four (inv p.length) ++ p ++ sm ++ m = four p.length ++ (four (inv p.length) ++ (p ++ (sm ++ m))) := by simp only [List.append_assoc]
  have e4 : (four p.length ++ (four (inv p.length) ++ (p ++ (sm ++ m)))).drop 4 = four (inv p.length) ++ (p ++ (sm ++ m)) := rfl
  have e8 : (four p.length ++ (four (inv p.length) ++ (p ++ (sm ++ m)))).drop 8 = p ++ (sm ++ m) := rfl
  have hlen : (four p.length ++ (four (inv p.length) ++ (p ++ (sm ++ m)))).length = 8 + (p.length + (8 + m.length)) := by
    simp only [List.length_append, four_len, h8]; omega
  rw [e0]
  unfold frameS
  rw [e4, e8, hlen, rdB_four _ hn, rdB_four _ (inv_r hn), if_neg (by omega), if_pos rfl, if_neg (by omega), Int.toNat_natCast, List.take_left, List.drop_left]
  rw [show (sm ++ m).take 8 = sm by rw [← h8, List.take_left]]
theorem frameB_eq (p : List Int) (s : Int) : frameB p s = four p.length ++ four (inv p.length) ++ p ++ sumB s := rfl
theorem goodE.small {e : Entry} (h : goodE e) : (entryB e).length < 1000000000 := by have := entryB_len2 h.plain; omega
theorem step_full {x : Entry} (h : goodE x) (s : Int) (n : Nat) (hn : x.no = (n : Int) + 1) (m : List Int) : stepS s n (frameB (entryB x) (nextI s (entryB x)) ++ m) = (((entryB x).length : Int) + 16, 0) ∧ frameS (frameB (entryB x) (nextI s (entryB x)) ++ m) = (entryB x, sumB (nextI s (entryB x)), 0) ∧ (takeS (entryB x)).1 = fixE x := by
  have hf := frameS_full (entryB x) (sumB (nextI s (entryB x))) m h.small (sumB_len _)
  rw [← frameB_eq] at hf
  have ht := take_full x h.plain h.ck []
  rw [List.append_nil] at ht
  refine ⟨?_, hf, by rw [ht]⟩
  unfold stepS
  rw [hf, if_pos rfl, if_pos rfl, ht, if_pos ⟨rfl, rfl⟩]
  exact if_pos hn
theorem step_damage {p m : List Int} {s d c : Int} {n j : Nat} (hp : bOK p) (hm : bOK m) (hl : p.length < 1000000000) (hs : u64r s) (hj : (frameB p (nextI s p))[j]? = some d) (hne : d ≠ c) (hc : 0 ≤ c ∧ c < 256) : (stepS s n ((frameB p (nextI s p) ++ m).set j c)).2 ≠ 0 := by
  intro h
  have hjl : j < p.length + 16 := by rw [← frameB_len p (nextI s p)]; exact (List.getElem?_eq_some_iff.1 hj).1
  have hF : bOK (frameB p (nextI s p)) := by
    intro b hb
    rw [frameB_eq] at hb
    simp only [List.mem_append] at hb
    rcases hb with ((hb | hb) | hb) | hb
    · exact four_ok _ b hb
    · exact four_ok _ b hb
    · exact hp b hb
    · exact sumB_inR _ (nextI_r _ _ hs) b hb
  have hb' : bOK ((frameB p (nextI s p) ++ m).set j c) := by
    intro b hb
    rcases List.mem_or_eq_of_mem_set hb with hb | rfl
    · rcases List.mem_append.1 hb with hb | hb
      · exact hF b hb
      · exact hm b hb
    · exact hc
  obtain ⟨g1, g2⟩ := step_bytes hb' h
  generalize hp' : (frameS ((frameB p (nextI s p) ++ m).set j c)).1 = p' at g1 g2
  rw [List.length_set, List.length_append, frameB_len] at g1
  obtain ⟨m', hm'⟩ : ∃ m', (frameB p (nextI s p) ++ m).set j c = frameB p' (nextI s p') ++ m' := ⟨_, by rw [← g2, List.take_append_drop]⟩
  have hpl' : p'.length < 4294967296 := by
    obtain ⟨k1, _⟩ := step_ok h
    have e : frameS ((frameB p (nextI s p) ++ m).set j c) = (p', (frameS ((frameB p (nextI s p) ++ m).set j c)).2.1, 0) := by rw [← hp', ← k1]
    unfold frameS at e
    split at e
    · cases e
    rename_i h8
    split at e
    · split at e
      · cases e
      · injection e with e1 _
        have := rdB_r _ hb' (by omega)
        rw [← e1, List.length_take]; omega
    · cases e
  have hn : (0 : Int) ≤ (p.length : Int) ∧ (p.length : Int) < 4294967296 := ⟨by omega, by omega⟩
  have hn' : (0 : Int) ≤ (p'.length : Int) ∧ (p'.length : Int) < 4294967296 := ⟨by omega, by omega⟩
  have e1 : frameB p (nextI s p) ++ m = four p.length ++ (four (inv p.length) ++ (p ++ (sumB (nextI s p) ++ m))) := by simp only [frameB_eq, List.append_assoc]
  have e2 : frameB p' (nextI s p') ++ m' = four p'.length ++ (four (inv p'.length) ++ (p' ++ (sumB (nextI s p') ++ m'))) := by simp only [frameB_eq, List.append_assoc]
  have hj2 : (four p.length ++ (four (inv p.length) ++ (p ++ (sumB (nextI s p) ++ m))))[j]? = some d := by
    rw [← e1, List.getElem?_append_left (by rw [frameB_len]; exact hjl)]; exact hj
  rw [e1, e2] at hm'
  have hlen : p'.length = p.length := by
    rcases Nat.lt_or_ge j 4 with h4 | h4
    · have q := congrArg (fun l => (l.drop 4).take 4) hm'
      simp only [List.drop_set, if_pos h4] at q
      have q : four (inv p.length) = four (inv p'.length) := q
      have := four_inj (inv_r hn) (inv_r hn') q
      unfold inv at this; omega
    · have q := congrArg (fun l => l.take 4) hm'
      simp only [List.take_set] at q
      rw [List.set_eq_of_length_le (by simp [four_len]; omega)] at q
      have q : four p.length = four p'.length := q
      have := four_inj hn hn' q
      omega
  rw [hlen] at hm'
  rcases Nat.lt_or_ge j 8 with h8 | h8
  · have q := congrArg (fun l => l[j]?) hm'
    rw [List.getElem?_set_self (by simp only [List.length_append, four_len]; omega)] at q
    have a1 : ∀ m : List Int, (four p.length ++ (four (inv p.length) ++ m))[j]? = (four p.length ++ four (inv p.length))[j]? := fun m => by
      rw [← List.append_assoc, List.getElem?_append_left (by simp only [List.length_append, four_len]; omega)]
    rw [a1] at q
    rw [a1] at hj2
    rw [hj2] at q
    injection q with q
    exact hne q.symm
  obtain ⟨k, rfl⟩ : ∃ k, j = k + 8 := ⟨j - 8, by omega⟩
  have hd : (p ++ (sumB (nextI s p) ++ m)).set k c = p' ++ (sumB (nextI s p') ++ m') := by
    have q := congrArg (fun l => l.drop 8) hm'
    simp only [List.drop_set, if_neg (show ¬ k + 8 < 8 by omega), Nat.add_sub_cancel] at q
    exact q
  have hk2 : (p ++ (sumB (nextI s p) ++ m))[k]? = some d := hj2
  rcases Nat.lt_or_ge k p.length with hk | hk
  · rw [List.set_append_left _ _ hk] at hd
    obtain ⟨q1, q2⟩ := List.append_inj hd (by rw [List.length_set, hlen])
    obtain ⟨q3, _⟩ := List.append_inj q2 (by rw [sumB_len, sumB_len])
    have q4 := sumB_inj (nextI_r s p hs) (nextI_r s p' hs) q3
    rw [← q1] at q4
    rw [List.getElem?_append_left hk] at hk2
    exact nextI_set hs hp hc hk2 hne q4
  · rw [List.set_append_right _ _ hk] at hd
    obtain ⟨q1, q2⟩ := List.append_inj hd hlen.symm
    subst q1
    rw [List.set_append_left _ _ (by rw [sumB_len]; omega)] at q2
    obtain ⟨q3, _⟩ := List.append_inj q2 (by rw [List.length_set])
    rw [List.getElem?_append_right hk, List.getElem?_append_left (by rw [sumB_len]; omega)] at hk2
    have q5 := congrArg (fun l => l[k - p.length]?) q3
    rw [List.getElem?_set_self (by rw [sumB_len]; omega), hk2] at q5
    injection q5 with q5
    exact hne q5.symm
def numOK : Nat → List Entry → Prop
  | _, [] => True
  | n, x :: xs => x.no = (n : Int) + 1 ∧ numOK (n + 1) xs
theorem numOK_snoc : ∀ (xs : List Entry) (n : Nat) (x : Entry), numOK n xs → x.no = ((n + xs.length : Nat) : Int) + 1 → numOK n (xs ++ [x])
  | [], n, x, _, h => ⟨by simpa using h, trivial⟩
  | y :: ys, n, x, h, hx => ⟨h.1, numOK_snoc ys (n + 1) x h.2 (by rw [hx, List.length_cons]; omega)⟩
theorem openS_step {x : Entry} (h : goodE x) (s : Int) (n f : Nat) (hn : x.no = (n : Int) + 1) (m : List Int) : openS (f + 1) s n (frameB (entryB x) (nextI s (entryB x)) ++ m) =
    (fixE x :: (openS f (nextI s (entryB x)) (n + 1) m).1, (openS f (nextI s (entryB x)) (n + 1) m).2.1, (entryB x).length + 16 + (openS f (nextI s (entryB x)) (n + 1) m).2.2.1, (openS f (nextI s (entryB x)) (n + 1) m).2.2.2) := by
  obtain ⟨h1, h2, h3⟩ := step_full h s n hn m
  have hl : ¬ (frameB (entryB x) (nextI s (entryB x)) ++ m).length = 0 := by rw [List.length_append, frameB_len]; omega
  have hd : (frameB (entryB x) (nextI s (entryB x)) ++ m).drop ((entryB x).length + 16) = m := by rw [← frameB_len (entryB x) (nextI s (entryB x)), List.drop_left]
  rw [openS, if_neg hl, h1, if_pos rfl, h2, h3, hd]
theorem openS_bad (s : Int) (n f : Nat) (bs : List Int) (h0 : bs.length ≠ 0) (h : (stepS s n bs).2 ≠ 0) : openS (f + 1) s n bs = ([], s, 0, (stepS s n bs).2) := by
  rw [openS, if_neg h0, if_neg h]
theorem openS_damage {c : Int} (hc : 0 ≤ c ∧ c < 256) : ∀ (es : List Entry) (s d : Int) (n f k : Nat), u64r s → (∀ e ∈ es, goodE e) → numOK n es → (framesB s es)[k]? = some d → d ≠ c → (framesB s es).length ≤ f → ∃ w e, w < es.length ∧ (framesB s (es.take w)).length ≤ k ∧ k < (framesB s (es.take (w + 1))).length ∧ e ≠ 0 ∧
    openS f s n ((framesB s es).set k c) = ((es.take w).map fixE, sumE s (es.take w), (framesB s (es.take w)).length, e)
  | [], s, d, n, f, k, hs, hg, hn, hk, hne, hf => by simp [framesB] at hk
  | x :: xs, s, d, n, f, k, hs, hg, hn, hk, hne, hf => by
    have hx := hg x (List.mem_cons_self ..)
    have hfl := frameB_len (entryB x) (nextI s (entryB x))
    have ht1 : (framesB s ((x :: xs).take 1)).length = (entryB x).length + 16 := by simp [framesB, frameB_len]
    have hlen : (framesB s (x :: xs)).length = (entryB x).length + 16 + (framesB (nextI s (entryB x)) xs).length := by simp only [framesB, List.length_append, hfl]
    obtain ⟨f, rfl⟩ : ∃ f', f = f' + 1 := ⟨f - 1, by omega⟩
    rcases Nat.lt_or_ge k ((entryB x).length + 16) with hlt | hge
    · have hkd : (frameB (entryB x) (nextI s (entryB x)))[k]? = some d := by
        simp only [framesB] at hk
        rw [List.getElem?_append_left (by omega)] at hk; exact hk
      have hrest : ∀ (l : List Entry) (s : Int), u64r s → (∀ e ∈ l, goodE e) → bOK (framesB s l) := by
        intro l
        induction l with
        | nil => intro s _ _ b hb; simp [framesB] at hb
        | cons y r ih =>
          intro s hs hg b hb
          simp only [framesB, frameB_eq, List.mem_append] at hb
          have hy := hg y (List.mem_cons_self ..)
          rcases hb with (((hb | hb) | hb) | hb) | hb
          · exact four_ok _ b hb
          · exact four_ok _ b hb
          · exact entryB_inR hy.plain b hb
          · exact sumB_inR _ (nextI_r _ _ hs) b hb
          · exact ih _ (nextI_r _ _ hs) (fun e he => hg e (List.mem_cons_of_mem _ he)) b hb
      have hd : (stepS s n ((framesB s (x :: xs)).set k c)).2 ≠ 0 := step_damage (n := n) (m := framesB (nextI s (entryB x)) xs) (entryB_inR hx.plain) (hrest xs _ (nextI_r _ _ hs) fun e he => hg e (List.mem_cons_of_mem _ he)) hx.small hs hkd hne hc
      refine ⟨0, (stepS s n ((framesB s (x :: xs)).set k c)).2, by simp, by simp [framesB], by rw [ht1]; exact hlt, hd, ?_⟩
      rw [openS_bad _ _ _ _ (by rw [List.length_set]; omega) hd]
      rfl
    · have hk' : (framesB (nextI s (entryB x)) xs)[k - ((entryB x).length + 16)]? = some d := by
        simp only [framesB] at hk
        rw [List.getElem?_append_right (by omega), hfl] at hk; exact hk
      obtain ⟨w, e, w1, w2, w3, w4, w5⟩ := openS_damage hc xs (nextI s (entryB x)) d (n + 1) f (k - ((entryB x).length + 16)) (nextI_r _ _ hs) (fun e he => hg e (List.mem_cons_of_mem _ he)) hn.2 hk' hne (by omega)
      have el : ∀ v, (framesB s ((x :: xs).take (v + 1))).length = (entryB x).length + 16 + (framesB (nextI s (entryB x)) (xs.take v)).length := fun v => by
        simp only [List.take_succ_cons, framesB, List.length_append, hfl]
      refine ⟨w + 1, e, by simpa using w1, by rw [el]; omega, by rw [el]; omega, w4, ?_⟩
      have et : (framesB s (x :: xs)).set k c = frameB (entryB x) (nextI s (entryB x)) ++ (framesB (nextI s (entryB x)) xs).set (k - ((entryB x).length + 16)) c := by
        simp only [framesB]
        rw [List.set_append_right _ _ (by omega), hfl]
      rw [et, openS_step hx s n f hn.1, w5, el]
      simp only [List.take_succ_cons, List.map_cons, sumE]
end Go.Proofs.YtkbheoganajhaaaDoor.Vm
set_option maxRecDepth 10000
set_option linter.unusedVariables false
set_option linter.unusedSimpArgs false
namespace Go.Proofs.YtkbheoganajhaaaDoor.Vm
open Go Go.Proofs
theorem good_lens {e : Entry} (h : goodE e) : e.lines.length < 1000000 ∧ ∀ l ∈ e.lines, l.tags.length < 1000000 := by
  have hp := h.plain
  exact ⟨by have := hp.len; omega, fun l hl => by have := (hp.lines l hl).len; omega⟩
theorem fix_nil (e : Entry) : nilE (fixE e) := by
  refine ⟨fun h => ?_, fun l hl => ?_⟩
  · have h : e.lines.isEmpty = true := h
    have : e.lines = [] := by simpa using h
    show e.lines.map fixL = []
    rw [this]; rfl
  · obtain ⟨l0, _, rfl⟩ := List.mem_map.1 hl
    intro h
    have h : l0.tags.isEmpty = true := h
    show l0.tags = []
    simpa using h
theorem opened_same (kept : List Entry) (hg : ∀ e ∈ kept, goodE e) (hl : kept.length < 1000000) (t1 t2 r1 r2 : Nat) (h1 : kept = [] ∨ t1 = 31) (h2 : kept = [] ∨ t2 = 31) :
    L.pl 18 [.list t1 (((kept.map fixE).map copE).map encE) r1, .list t2 (kept.map encE) r2] = some (.ret (.sc (.bool true))) := by
  refine sames_true ((kept.map fixE).map copE) kept (by simp only [List.map_map]; apply List.map_congr_left; intro e he; show (copE (fixE e)).k = e.k; rw [cop_k, fix_k]) (fun e he => ?_) (fun e he => (hg e he).sm.nils) (by rw [List.length_map, List.length_map]; omega) t1 t2 r1 r2 (h1.imp_left fun h => by rw [h]; rfl) h2
  obtain ⟨e1, he1, rfl⟩ := List.mem_map.1 he
  obtain ⟨e2, he2, rfl⟩ := List.mem_map.1 he1
  obtain ⟨a, b⟩ := good_lens (hg e2 he2)
  refine ⟨?_, ?_, cop_nil _⟩
  · show ((e2.lines.map fixL).map copL).length < 1000000
    rw [List.length_map, List.length_map]; exact a
  · intro l hl
    obtain ⟨l1, hl1, rfl⟩ := List.mem_map.1 hl
    obtain ⟨l2, hl2, rfl⟩ := List.mem_map.1 hl1
    exact b l2 hl2
theorem frames_inR : ∀ (l : List Entry) (s : Int), u64r s → (∀ e ∈ l, goodE e) → bOK (framesB s l)
  | [], _, _, _ => fun b hb => by simp [framesB] at hb
  | y :: r, s, hs, hg => fun b hb => by
    simp only [framesB, frameB_eq, List.mem_append] at hb
    have hy := hg y (List.mem_cons_self ..)
    rcases hb with (((hb | hb) | hb) | hb) | hb
    · exact four_ok _ b hb
    · exact four_ok _ b hb
    · exact entryB_inR hy.plain b hb
    · exact sumB_inR _ (nextI_r _ _ hs) b hb
    · exact frames_inR r _ (nextI_r _ _ hs) (fun e he => hg e (List.mem_cons_of_mem _ he)) b hb
def endS (kept : List Entry) (i : Nat) : Nat := (framesB start (kept.take i)).length
def endsL (kept : List Entry) : List Int := (List.range kept.length).map fun j => (endS kept (j + 1) : Int)
theorem endS_snoc (kept : List Entry) (x : Entry) (i : Nat) (h : i ≤ kept.length) : endS (kept ++ [x]) i = endS kept i := by
  unfold endS; rw [List.take_append_of_le_length h]
theorem endsL_snoc (kept : List Entry) (x : Entry) : endsL (kept ++ [x]) = endsL kept ++ [((framesB start (kept ++ [x])).length : Int)] := by
  unfold endsL
  rw [List.length_append, List.length_singleton, List.range_succ, List.map_append, List.map_singleton]
  congr 1
  · apply List.map_congr_left
    intro j hj
    rw [endS_snoc kept x _ (by have := List.mem_range.1 hj; omega)]
  · unfold endS
    rw [List.take_of_length_le (by simp)]
theorem endsL_len (kept : List Entry) : (endsL kept).length = kept.length := by simp [endsL]
theorem endsL_get (kept : List Entry) (i : Nat) (h : i < kept.length) : (endsL kept)[i]? = some (endS kept (i + 1) : Int) := by
  simp [endsL, h]
theorem frames_take : ∀ (l : List Entry) (s : Int) (v w : Nat), v ≤ w → (framesB s (l.take v)).length ≤ (framesB s (l.take w)).length
  | [], _, _, _, _ => by simp [framesB]
  | y :: r, s, 0, w, _ => by simp [framesB]
  | y :: r, s, v + 1, 0, h => by omega
  | y :: r, s, v + 1, w + 1, h => by
    have := frames_take r (nextI s (entryB y)) v w (by omega)
    simp only [List.take_succ_cons, framesB, List.length_append]; omega
end Go.Proofs.YtkbheoganajhaaaDoor.Vm
set_option maxRecDepth 10000
set_option linter.unusedVariables false
set_option linter.unusedSimpArgs false
namespace Go.Proofs.YtkbheoganajhaaaDoor.Vm
open Go Go.Proofs
theorem lbytesR_ok {st : St} {nx id : Nat} {out : List Int} {s : Int} {es : List Entry} (h : LG st nx id out s es) (hl : out.length ≤ 100000000000) : W (L.hp 16 [.ptr id 0] st nx) fun r => (out = [] ∧ ∃ nx', r = .ret (.list 0 [] 1) st nx' ∧ nx ≤ nx') ∨ (out ≠ [] ∧ ∃ nx' j, r = .ret (.sl 5 false 1 j 0 out.length) (upd st j (some (.row 5 1 out.length (bv out)))) nx' ∧ nx ≤ j ∧ j < nx') := by
  refine hp_r k16_eq ?_
  simp only [k16]
  obtain ⟨w, ⟨hid, v, hv, hg⟩, hw⟩ := h
  rcases hg with ⟨hb0, rfl⟩ | ⟨q, hr8, hrn, rfl, hst⟩
  · obtain rfl : out = [] := by simpa [bv] using hb0
    repeat' (first | (simp -implicitDefEqProofs only [ze, zd, zr, simprocAttr, LR_pl, LR_hp, LR_hm, cunr_n, cunr_x, cunr_r, cunr_p, List.any_cons, List.any_nil, List.flatten_cons, List.flatten_nil, List.replicate_succ, List.replicate_zero, Bool.or_false, Bool.false_or, List.flatMap_cons, List.flatMap_nil, hv, List.length_nil]) | (with_reducible refine wgd_cases ?_ ?_ <;> intro hb) | (with_reducible refine wcond_cases ?_ ?_ <;> intro hb) | (with_reducible refine qd_i (by kernel_rfl) ?_) | (with_reducible refine W_itn_cases ?_ ?_; omega))
    exact .inl ⟨_, rfl, by omega⟩
  · repeat' (first | (simp -implicitDefEqProofs only [ze, zd, zr, simprocAttr, LR_pl, LR_hp, LR_hm, cunr_n, cunr_x, cunr_r, cunr_p, List.any_cons, List.any_nil, List.flatten_cons, List.flatten_nil, List.replicate_succ, List.replicate_zero, Bool.or_false, Bool.false_or, List.flatMap_cons, List.flatMap_nil, hv, bv_len]) | (with_reducible refine wgd_cases ?_ ?_ <;> intro hb) | (with_reducible refine wcond_cases ?_ ?_ <;> intro hb) | (with_reducible refine qd_i (by kernel_rfl) ?_) | (with_reducible refine W_itn_cases ?_ ?_; omega))
    have hfb : List.flatMap V.cells (bv out) = bv out := by
      have : ∀ l : List Int, List.flatMap V.cells (bv l) = bv l := fun l => by
        induction l with
        | nil => rfl
        | cons x r ih => show V.cells (.sc (.int .u8 x)) ++ List.flatMap V.cells (bv r) = _; rw [ih]; rfl
      exact this out
    by_cases h0 : out.length = 0
    · have he := List.length_eq_zero_iff.1 h0
      have hd : (out.length = 0) = True := eq_true h0
      repeat' (first | (simp -implicitDefEqProofs only [ze, zd, zr, simprocAttr, LR_pl, LR_hp, LR_hm, cunr_n, cunr_x, cunr_r, cunr_p, List.any_cons, List.any_nil, List.flatten_cons, List.flatten_nil, List.replicate_succ, List.replicate_zero, Bool.or_false, Bool.false_or, List.flatMap_cons, List.flatMap_nil, hd]) | (with_reducible refine wgd_cases ?_ ?_ <;> intro hb) | (with_reducible refine wcond_cases ?_ ?_ <;> intro hb) | (with_reducible refine qd_i (by kernel_rfl) ?_) | (with_reducible refine W_itn_cases ?_ ?_; omega))
      exact .inl ⟨he, _, rfl, by omega⟩
    · have hd : (out.length = 0) = False := eq_false h0
      repeat' (first | (simp -implicitDefEqProofs only [ze, zd, zr, simprocAttr, LR_pl, LR_hp, LR_hm, cunr_n, cunr_x, cunr_r, cunr_p, List.any_cons, List.any_nil, List.flatten_cons, List.flatten_nil, List.replicate_succ, List.replicate_zero, Bool.or_false, Bool.false_or, List.flatMap_cons, List.flatMap_nil, hd, hfb]) | (with_reducible refine wgd_cases ?_ ?_ <;> intro hb) | (with_reducible refine wcond_cases ?_ ?_ <;> intro hb) | (with_reducible refine qd_i (by kernel_rfl) ?_) | (with_reducible refine W_itn_cases ?_ ?_; omega))
      exact .inr ⟨fun h => h0 (by rw [h]; rfl), _, _, rfl, by omega, by omega⟩
end Go.Proofs.YtkbheoganajhaaaDoor.Vm
set_option maxRecDepth 100000
namespace Go.Proofs.YtkbheoganajhaaaDoor.Vm
open Go Go.Proofs
theorem slives_ok : L.pl 9 [] = some (.ret (.sc (.bool true))) := pl_calc 60 (by kernel_rfl)
end Go.Proofs.YtkbheoganajhaaaDoor.Vm
set_option maxRecDepth 10000
set_option linter.unusedVariables false
set_option linter.unusedSimpArgs false
namespace Go.Proofs.YtkbheoganajhaaaDoor.Vm
open Go Go.Proofs
def lightE (e : Entry) : Prop := e.lines.length ≤ 120 ∧ e.ref.size ≤ 200
theorem encE_get (es : List Entry) (i : Nat) : (es.map encE)[i]? = (es[i]?).map encE := by simp
theorem light_ok (es : List Entry) (hs : ∀ e ∈ es, smallE e) (hl : es.length < 4611686018427387904) (r : Nat) : W (L.pl 8 [.list 31 (es.map encE) r]) fun q => ∃ b, q = .ret (.sc (.bool b)) ∧ (b = true → es.length ≤ 12 ∧ ∀ e ∈ es, lightE e) := by
  refine pl_w k8_eq ?_
  simp only [k8]
  by_cases hc : 12 < es.length
  · have hd : decide ((12 : Int) < (es.length : Int)) = true := decide_eq_true (by omega)
    repeat' (first | (simp -implicitDefEqProofs only [ze, zd, simprocAttr, hd, List.length_map]) | (with_reducible refine wgd_cases ?_ ?_ <;> intro hb) | (with_reducible refine wcond_cases ?_ ?_ <;> intro hb) | (with_reducible refine qd_i (by kernel_rfl) ?_) | (with_reducible refine W_itn_cases ?_ ?_; omega))
    exact ⟨false, rfl, fun h => by cases h⟩
  have hd : decide ((12 : Int) < (es.length : Int)) = false := decide_eq_false (by omega)
  repeat' (first | (simp -implicitDefEqProofs only [ze, zd, simprocAttr, hd, List.length_map]) | (with_reducible refine wgd_cases ?_ ?_ <;> intro hb) | (with_reducible refine wcond_cases ?_ ?_ <;> intro hb) | (with_reducible refine qd_i (by kernel_rfl) ?_) | (with_reducible refine W_itn_cases ?_ ?_; omega))
  refine loop_w (fun n tm st nx => ∃ (i : Nat), n = es.length - i ∧ i ≤ es.length ∧ tm 3 = .i64 i ∧ tm 0 = .list 31 (es.map encE) r ∧ ∀ e ∈ es.take i, lightE e) es.length ⟨0, by omega, by omega, ?_, ?_, by simp⟩ ?_
  · simp -implicitDefEqProofs only [ze, zd, simprocAttr]; try rfl
  · simp -implicitDefEqProofs only [ze, zd, simprocAttr]; try rfl
  rintro n tm st nx ⟨i, hn, hi, h3, h0, hp⟩
  simp only [k8_l0, k8_t0]
  by_cases hlt : i < es.length
  · have hd2 : decide ((i : Int) < (es.length : Int)) = true := decide_eq_true (by omega)
    obtain ⟨e, he1⟩ := get_lt (l := es) (i := i) hlt
    have hm := List.mem_of_getElem? he1
    have hse := hs e hm
    have hlen := hse.len
    have hup : IntKind.i64.wrap ((i : Int) + 1) = ((i + 1 : Nat) : Int) := wrap_i64 (by omega) (by omega)
    by_cases h1 : 120 < e.lines.length
    · have hd3 : decide ((120 : Int) < (e.lines.length : Int)) = true := decide_eq_true (by omega)
      repeat' (first | (simp -implicitDefEqProofs only [ze, zd, simprocAttr, h3, h0, hd2, encE_get, he1, encE, hd3, List.length_map]) | (with_reducible refine wgd_cases ?_ ?_ <;> intro hb) | (with_reducible refine wcond_cases ?_ ?_ <;> intro hb) | (with_reducible refine qd_i (by kernel_rfl) ?_) | (with_reducible refine W_itn_cases ?_ ?_; omega))
      exact ⟨false, rfl, fun h => by cases h⟩
    · have hd3 : decide ((120 : Int) < (e.lines.length : Int)) = false := decide_eq_false (by omega)
      by_cases h2 : 200 < e.ref.size
      · have hd4 : decide ((200 : Int) < (e.ref.size : Int)) = true := decide_eq_true (by omega)
        repeat' (first | (simp -implicitDefEqProofs only [ze, zd, simprocAttr, h3, h0, hd2, encE_get, he1, encE, hd3, hd4, List.length_map]) | (with_reducible refine wgd_cases ?_ ?_ <;> intro hb) | (with_reducible refine wcond_cases ?_ ?_ <;> intro hb) | (with_reducible refine qd_i (by kernel_rfl) ?_) | (with_reducible refine W_itn_cases ?_ ?_; omega))
        exact ⟨false, rfl, fun h => by cases h⟩
      · have hd4 : decide ((200 : Int) < (e.ref.size : Int)) = false := decide_eq_false (by omega)
        repeat' (first | (simp -implicitDefEqProofs only [ze, zd, simprocAttr, h3, h0, hd2, encE_get, he1, encE, hd3, hd4, hup, List.length_map]) | (with_reducible refine wgd_cases ?_ ?_ <;> intro hb) | (with_reducible refine wcond_cases ?_ ?_ <;> intro hb) | (with_reducible refine qd_i (by kernel_rfl) ?_) | (with_reducible refine W_itn_cases ?_ ?_; omega))
        refine ⟨es.length - (i + 1), by omega, i + 1, rfl, by omega, rfl, fun x hx => ?_⟩
        rw [List.take_add_one, he1] at hx
        simp only [Option.toList_some, List.mem_append, List.mem_singleton] at hx
        rcases hx with hx | rfl
        · exact hp x hx
        · exact ⟨by omega, by omega⟩
  · have hd2 : decide ((i : Int) < (es.length : Int)) = false := decide_eq_false (by omega)
    have hin : i = es.length := by omega
    rw [hin, List.take_length] at hp
    repeat' (first | (simp -implicitDefEqProofs only [ze, zd, simprocAttr, h3, h0, hd2, List.length_map]) | (with_reducible refine wgd_cases ?_ ?_ <;> intro hb) | (with_reducible refine wcond_cases ?_ ?_ <;> intro hb) | (with_reducible refine qd_i (by kernel_rfl) ?_) | (with_reducible refine W_itn_cases ?_ ?_; omega))
    exact ⟨true, rfl, fun _ => ⟨by omega, hp⟩⟩
end Go.Proofs.YtkbheoganajhaaaDoor.Vm
set_option maxRecDepth 10000
set_option linter.unusedVariables false
set_option linter.unusedSimpArgs false
namespace Go.Proofs.YtkbheoganajhaaaDoor.Vm
open Go Go.Proofs
def RowG (st : St) (nx id e : Nat) (g : Bool) (s : Nat) (xs : List V) (v : V) : Prop := (xs = [] ∧ v = .list 0 [] 1) ∨ ∃ q, 8 ≤ q ∧ q < nx ∧ q ≠ id ∧ q ∉ toksAt st id ∧ v = .sl e g s q 0 xs.length ∧ st q = some (.row e s xs.length (xs.flatMap V.cells)) ∧ xs ≠ []
theorem rowG_le {st : St} {nx nx' id e s : Nat} {g : Bool} {xs : List V} {v : V} (h : RowG st nx id e g s xs v) (hn : nx ≤ nx') : RowG st nx' id e g s xs v := by
  rcases h with h | ⟨q, a, b, c⟩
  · exact .inl h
  · exact .inr ⟨q, a, by omega, c⟩
theorem rowG_U {st : St} {nx nx' id e s j : Nat} {g : Bool} {xs : List V} {v : V} (h : RowG st nx id e g s xs v) (hid : id < nx) (hj : nx ≤ j) (hn : nx ≤ nx') (o : Option Ob) : RowG (upd st j o) nx' id e g s xs v := by
  rcases h with h | ⟨q, a, b, c, d, f, g, g'⟩
  · exact .inl h
  · exact .inr ⟨q, a, by omega, c, by rw [toks_upd _ (show id ≠ j by omega)]; exact d, f, by rw [upd_at, if_neg (by omega)]; exact g, g'⟩
theorem rowG_N {st : St} {nx id e s j : Nat} {g : Bool} {xs : List V} {v : V} (h : RowG st nx id e g s xs v) (hid : id ≠ j) (hj : ∀ s n cs, st j ≠ some (.row e s n cs)) (o : Option Ob) : RowG (upd st j o) nx id e g s xs v := by
  rcases h with h | ⟨q, a, b, c, d, f, g, g'⟩
  · exact .inl h
  · exact .inr ⟨q, a, b, c, by rw [toks_upd _ hid]; exact d, f, by rw [upd_at, if_neg (fun e => hj _ _ _ (e ▸ g))]; exact g, g'⟩
theorem rowG_Q {st st' : St} {nx nx' nx2 id e s : Nat} {g : Bool} {xs : List V} {v : V} (h : RowG st nx id e g s xs v) (hk : KQ st st' nx' id) (hn : nx ≤ nx') (hn2 : nx' ≤ nx2) : RowG st' nx2 id e g s xs v := by
  rcases h with h | ⟨q, a, b, c, d, f, g, g'⟩
  · exact .inl h
  · exact .inr ⟨q, a, by omega, c, fun hm => (hk.2 q hm).elim d (by omega), f, by rw [hk.1 q (by omega) c d]; exact g, g'⟩
def endsD (kept : List Entry) : List V := (0 :: endsL kept).map V.i64
theorem endsD_snoc (kept : List Entry) (x : Entry) : endsD (kept ++ [x]) = endsD kept ++ [.i64 ((framesB start (kept ++ [x])).length : Int)] := by
  unfold endsD; rw [endsL_snoc, ← List.cons_append, List.map_append]; rfl
theorem endsD_len (kept : List Entry) : (endsD kept).length = kept.length + 1 := by unfold endsD; rw [List.length_map, List.length_cons, endsL_len]
theorem endsD_get (kept : List Entry) (i : Nat) (h : i ≤ kept.length) : (endsD kept)[i]? = some (.i64 (endS kept i : Nat)) := by
  unfold endsD
  cases i with
  | zero => simp [endS, framesB]
  | succ i => rw [List.getElem?_map, List.getElem?_cons_succ, endsL_get kept i (by omega)]; rfl
theorem flat_i64 : ∀ l : List Int, (l.map V.i64).flatMap V.cells = l.map V.i64
  | [] => rfl
  | x :: l => by
    show V.cells (V.i64 x) ++ (l.map V.i64).flatMap V.cells = _
    rw [flat_i64 l]; rfl
theorem flat_ends (kept : List Entry) : (endsD kept).flatMap V.cells = endsD kept := flat_i64 _
theorem flat_nine (x : Entry) : (encE x).cells.length = 9 := rfl
theorem flatE_len : ∀ l : List Entry, ((l.map encE).flatMap V.cells).length = l.length * 9
  | [] => rfl
  | x :: l => by
    have := flatE_len l
    simp only [List.map_cons, List.flatMap_cons, List.length_append, flat_nine, List.length_cons, this]; omega
theorem flat_chunk : ∀ (l : List Entry) (n : Nat), n ≤ l.length → chunk true 9 n ((l.map encE).flatMap V.cells) = (l.take n).map encE
  | _, 0, _ => by simp [chunk]
  | [], n + 1, h => by simp at h
  | x :: l, n + 1, h => by
    have ih := flat_chunk l n (by simpa using h)
    simp only [List.map_cons, List.flatMap_cons, chunk, if_true, List.take_succ_cons]
    rw [List.take_left' (flat_nine x), List.drop_left' (flat_nine x), ih]
    rfl
theorem flat_pur1 (b : Bool) (e : Nat) (xs : List V) : V.pur1? (.list (te b e) xs (nr b)) = some (.list (te b e) xs (nr b)) := by cases b <;> rfl
theorem mapM_app {α β : Type} (f : α → Option β) {a b : List α} {a' b' : List β} (h : a.mapM f = some a') (k : b.mapM f = some b') : (a ++ b).mapM f = some (a' ++ b') := by
  rw [List.mapM_append, h, k]; rfl
theorem flat_pur : ∀ l : List Entry, ((l.map encE).flatMap V.cells).mapM V.pur1? = some ((l.map encE).flatMap V.cells)
  | [] => rfl
  | x :: l => by
    have ih := flat_pur l
    rw [List.map_cons, List.flatMap_cons]
    refine mapM_app _ ?_ ih
    show List.mapM V.pur1? [V.i64 x.no, V.str x.ent, V.i64 x.book, V.i64 x.val, V.i64 x.kind, V.str x.ref, V.str x.who, V.i64 x.rev, V.list (te x.lr 61) (List.map encL x.lines) (nr x.lr)] = some [V.i64 x.no, V.str x.ent, V.i64 x.book, V.i64 x.val, V.i64 x.kind, V.str x.ref, V.str x.who, V.i64 x.rev, V.list (te x.lr 61) (List.map encL x.lines) (nr x.lr)]
    simp only [List.mapM_cons, List.mapM_nil, flat_pur1]
    rfl
theorem xor8_all : ∀ a : Nat, a < 256 → ∀ c : Nat, c < 256 → c ≠ 0 → (0 ≤ Go.bits .xor .u8 (a : Int) (c : Int) ∧ Go.bits .xor .u8 (a : Int) (c : Int) < 256) ∧ (a : Int) ≠ Go.bits .xor .u8 (a : Int) (c : Int) := by
  intro a ha c hc h0
  have e : Go.bits .xor .u8 (a : Int) (c : Int) = ((a ^^^ c : Nat) : Int) := by
    show IntKind.u8.wrap ((BitVec.ofInt 8 (a : Int) ^^^ BitVec.ofInt 8 (c : Int)).toNat : Int) = _
    have h1 : (BitVec.ofInt 8 (a : Int)).toNat = a := by rw [BitVec.toNat_ofInt]; omega
    have h2 : (BitVec.ofInt 8 (c : Int)).toNat = c := by rw [BitVec.toNat_ofInt]; omega
    have h3 : a ^^^ c < 2 ^ 8 := Nat.xor_lt_two_pow ha hc
    rw [BitVec.toNat_xor, h1, h2, IntKind.wrap_u8]
    omega
  rw [e]
  have h3 : a ^^^ c < 2 ^ 8 := Nat.xor_lt_two_pow ha hc
  refine ⟨⟨by omega, by omega⟩, fun h => h0 ?_⟩
  have h4 : a = a ^^^ c := by omega
  have h5 := congrArg (a ^^^ ·) h4
  simp only [← Nat.xor_assoc, Nat.xor_self, Nat.zero_xor] at h5
  exact h5.symm
theorem xor8 {a c : Int} (ha : 0 ≤ a ∧ a < 256) (hc : 0 ≤ c ∧ c < 256) (h0 : c ≠ 0) : (0 ≤ Go.bits .xor .u8 a c ∧ Go.bits .xor .u8 a c < 256) ∧ a ≠ Go.bits .xor .u8 a c := by
  obtain ⟨a, rfl⟩ := Int.eq_ofNat_of_zero_le ha.1
  obtain ⟨c, rfl⟩ := Int.eq_ofNat_of_zero_le hc.1
  exact xor8_all a (by omega) c (by omega) (by omega)
set_option maxHeartbeats 1000000 in
theorem sdamage_ok (l : List Entry) (at_ ch : Int) (ha : i64r at_) (hch : 0 ≤ ch ∧ ch < 256) (hs : ∀ e ∈ l, smallE e ∧ rangeE e) (hl : l.length < 4611686018427387904) : L.pl 6 [.list 31 (l.map encE) 0, .i64 at_, .sc (.int .u8 ch)] = some (.ret (.sc (.bool true))) := by
  refine W_of (pl_r k6_eq ?_)
  simp only [k6]
  obtain ⟨_, hq, b, rfl, hb1⟩ := light_ok l (fun e he => (hs e he).1) hl 0
  cases b
  · repeat' (first | (simp -implicitDefEqProofs only [ze, zd, zr, simprocAttr, LR_pl, LR_hp, LR_hm, cunr_n, cunr_x, cunr_r, cunr_p, List.any_cons, List.any_nil, List.flatten_cons, List.flatten_nil, List.replicate_succ, List.replicate_zero, Bool.or_false, Bool.false_or, List.flatMap_cons, List.flatMap_nil, hq, slives_ok]) | (with_reducible refine wgd_cases ?_ ?_ <;> intro hb) | (with_reducible refine wcond_cases ?_ ?_ <;> intro hb) | (with_reducible refine qd_i (by kernel_rfl) ?_) | (with_reducible refine W_itn_cases ?_ ?_; omega))
  obtain ⟨hl12, hlight⟩ := hb1 rfl
  by_cases hc0 : at_ < 0
  · have hdc : decide (at_ < 0) = true := decide_eq_true hc0
    repeat' (first | (simp -implicitDefEqProofs only [ze, zd, zr, simprocAttr, LR_pl, LR_hp, LR_hm, cunr_n, cunr_x, cunr_r, cunr_p, List.any_cons, List.any_nil, List.flatten_cons, List.flatten_nil, List.replicate_succ, List.replicate_zero, Bool.or_false, Bool.false_or, List.flatMap_cons, List.flatMap_nil, hq, hdc, slives_ok]) | (with_reducible refine wgd_cases ?_ ?_ <;> intro hb) | (with_reducible refine wcond_cases ?_ ?_ <;> intro hb) | (with_reducible refine qd_i (by kernel_rfl) ?_) | (with_reducible refine W_itn_cases ?_ ?_; omega))
  have hdc : decide (at_ < 0) = false := decide_eq_false hc0
  by_cases hz0 : ch = 0
  · have hdz : decide (ch = 0) = true := decide_eq_true hz0
    repeat' (first | (simp -implicitDefEqProofs only [ze, zd, zr, simprocAttr, LR_pl, LR_hp, LR_hm, cunr_n, cunr_x, cunr_r, cunr_p, List.any_cons, List.any_nil, List.flatten_cons, List.flatten_nil, List.replicate_succ, List.replicate_zero, Bool.or_false, Bool.false_or, List.flatMap_cons, List.flatMap_nil, hq, hdc, hdz, slives_ok]) | (with_reducible refine wgd_cases ?_ ?_ <;> intro hb) | (with_reducible refine wcond_cases ?_ ?_ <;> intro hb) | (with_reducible refine qd_i (by kernel_rfl) ?_) | (with_reducible refine W_itn_cases ?_ ?_; omega))
  have hdz : decide (ch = 0) = false := decide_eq_false hz0
  repeat' (first | (simp -implicitDefEqProofs only [ze, zd, zr, simprocAttr, LR_pl, LR_hp, LR_hm, cunr_n, cunr_x, cunr_r, cunr_p, List.any_cons, List.any_nil, List.flatten_cons, List.flatten_nil, List.replicate_succ, List.replicate_zero, Bool.or_false, Bool.false_or, List.flatMap_cons, List.flatMap_nil, hq, hdc, hdz, slives_ok]) | (with_reducible refine wgd_cases ?_ ?_ <;> intro hb) | (with_reducible refine wcond_cases ?_ ?_ <;> intro hb) | (with_reducible refine qd_i (by kernel_rfl) ?_) | (with_reducible refine W_itn_cases ?_ ?_; omega))
  refine W_hp (new_ok2 _ _) ?_
  rintro _ ⟨st1, nx1, id, rfl, hn1, hi1, hLG, hk1, h1n⟩
  repeat' (first | (simp -implicitDefEqProofs only [ze, zd, zr, simprocAttr, LR_pl, LR_hp, LR_hm, cunr_n, cunr_x, cunr_r, cunr_p, List.any_cons, List.any_nil, List.flatten_cons, List.flatten_nil, List.replicate_succ, List.replicate_zero, Bool.or_false, Bool.false_or, List.flatMap_cons, List.flatMap_nil]) | (with_reducible refine wgd_cases ?_ ?_ <;> intro hb) | (with_reducible refine wcond_cases ?_ ?_ <;> intro hb) | (with_reducible refine qd_i (by kernel_rfl) ?_) | (with_reducible refine W_itn_cases ?_ ?_; omega))
  have hidn1 : id < nx1 := hLG.choose_spec.1.1
  refine loop_w (fun n tm st' nx' => ∃ (i : Nat) (kept : List Entry) (v w : V), n = l.length - i ∧ i ≤ l.length ∧ nx1 ≤ nx' ∧ tm 7 = .ptr id 0 ∧ tm 10 = .i64 i ∧ tm 0 = .list 31 (l.map encE) 0 ∧ tm 1 = .i64 at_ ∧ tm 2 = .sc (.int .u8 ch) ∧ tm 9 = v ∧ tm 8 = w ∧ kept.length ≤ i ∧ (∀ e ∈ kept, goodE e) ∧ numOK 0 kept ∧ LG st' nx' id (framesB start kept) (sumE start kept) (kept.map copE) ∧ RowG st' nx' id 31 true 9 (kept.map encE) v ∧ RowG st' nx' id 3 false 1 (endsD kept) w) l.length ⟨0, [], .list 0 [] 1, .sl 3 false 1 (nx1) 0 1, by omega, by omega, ?_, ?_, ?_, ?_, ?_, ?_, ?_, ?_, by simp, (fun e he => by cases he), trivial, lgU hLG (by omega) (by omega) _, .inl ⟨rfl, rfl⟩, .inr ⟨nx1, by omega, by omega, by omega, ?_, rfl, by rw [upd_at, if_pos rfl]; rfl, by simp [endsD]⟩⟩ ?_
  · omega
  · simp -implicitDefEqProofs only [ze, zd, zr, simprocAttr, LR_pl, LR_hp, LR_hm, cunr_n, cunr_x, cunr_r, cunr_p, List.any_cons, List.any_nil, List.flatten_cons, List.flatten_nil, List.replicate_succ, List.replicate_zero, Bool.or_false, Bool.false_or, List.flatMap_cons, List.flatMap_nil]; try rfl
  · simp -implicitDefEqProofs only [ze, zd, zr, simprocAttr, LR_pl, LR_hp, LR_hm, cunr_n, cunr_x, cunr_r, cunr_p, List.any_cons, List.any_nil, List.flatten_cons, List.flatten_nil, List.replicate_succ, List.replicate_zero, Bool.or_false, Bool.false_or, List.flatMap_cons, List.flatMap_nil]; try rfl
  · simp -implicitDefEqProofs only [ze, zd, zr, simprocAttr, LR_pl, LR_hp, LR_hm, cunr_n, cunr_x, cunr_r, cunr_p, List.any_cons, List.any_nil, List.flatten_cons, List.flatten_nil, List.replicate_succ, List.replicate_zero, Bool.or_false, Bool.false_or, List.flatMap_cons, List.flatMap_nil]; try rfl
  · simp -implicitDefEqProofs only [ze, zd, zr, simprocAttr, LR_pl, LR_hp, LR_hm, cunr_n, cunr_x, cunr_r, cunr_p, List.any_cons, List.any_nil, List.flatten_cons, List.flatten_nil, List.replicate_succ, List.replicate_zero, Bool.or_false, Bool.false_or, List.flatMap_cons, List.flatMap_nil]; try rfl
  · simp -implicitDefEqProofs only [ze, zd, zr, simprocAttr, LR_pl, LR_hp, LR_hm, cunr_n, cunr_x, cunr_r, cunr_p, List.any_cons, List.any_nil, List.flatten_cons, List.flatten_nil, List.replicate_succ, List.replicate_zero, Bool.or_false, Bool.false_or, List.flatMap_cons, List.flatMap_nil]; try rfl
  · simp -implicitDefEqProofs only [ze, zd, zr, simprocAttr, LR_pl, LR_hp, LR_hm, cunr_n, cunr_x, cunr_r, cunr_p, List.any_cons, List.any_nil, List.flatten_cons, List.flatten_nil, List.replicate_succ, List.replicate_zero, Bool.or_false, Bool.false_or, List.flatMap_cons, List.flatMap_nil]; try rfl
  · simp -implicitDefEqProofs only [ze, zd, zr, simprocAttr, LR_pl, LR_hp, LR_hm, cunr_n, cunr_x, cunr_r, cunr_p, List.any_cons, List.any_nil, List.flatten_cons, List.flatten_nil, List.replicate_succ, List.replicate_zero, Bool.or_false, Bool.false_or, List.flatMap_cons, List.flatMap_nil]; try rfl
  · intro hm
    rw [toks_upd _ (show id ≠ nx1 by omega)] at hm
    have := h1n _ hm
    omega
  rintro n tm st2 nx2 ⟨i, kept, v, w, hn, hi, hnx, h7, h10, h0, h1, h2, h9, h8, hkl, hgood, hnum, hG, hown, howe⟩
  simp only [k6_l0, k6_t0]
  have hfl := framesB_len2 kept start hgood
  have hkc : (kept.map copE).length = kept.length := List.length_map _
  have hidn : id < nx2 := hG.choose_spec.1.1
  have hel8 := endsD_len kept
  by_cases hlt : i < l.length
  · have hd : decide ((i : Int) < (l.length : Int)) = true := decide_eq_true (by omega)
    obtain ⟨x, hx1⟩ := get_lt (l := l) (i := i) hlt
    obtain ⟨hxs, hxr⟩ := hs x (List.mem_of_getElem? hx1)
    have hap := fun (nx' : Nat) (h : nx2 ≤ nx') => append_ok (lgLe hG h) x hxs hxr (sumE_r _ start_r) (by omega) (by rw [hkc]; omega)
    rw [hkc] at hap
    have hup : IntKind.i64.wrap ((i : Int) + 1) = ((i + 1 : Nat) : Int) := wrap_i64 (by omega) (by omega)
    have hel : encE x = .agg [.i64 x.no, .str x.ent, .i64 x.book, .i64 x.val, .i64 x.kind, .str x.ref, .str x.who, .i64 x.rev, .list (te x.lr 61) (x.lines.map encL) (nr x.lr)] := rfl
    rw [hel] at hap
    repeat' (first | (simp -implicitDefEqProofs only [ze, zd, zr, simprocAttr, LR_pl, LR_hp, LR_hm, cunr_n, cunr_x, cunr_r, cunr_p, List.any_cons, List.any_nil, List.flatten_cons, List.flatten_nil, List.replicate_succ, List.replicate_zero, Bool.or_false, Bool.false_or, List.flatMap_cons, List.flatMap_nil, h7, h10, h0, h1, hd, enc_get, hx1, hel, nr_pur, List.length_map]) | (with_reducible refine wgd_cases ?_ ?_ <;> intro hb) | (with_reducible refine wcond_cases ?_ ?_ <;> intro hb) | (with_reducible refine qd_i (by kernel_rfl) ?_) | (with_reducible refine W_itn_cases ?_ ?_; omega))
    refine W_hp (hap _ (by omega)) ?_
    rintro _ ⟨st3, nx3, rfl, hn3, hKO, hKQ, hor⟩
    have hown3 := rowG_Q hown hKQ (by omega) hn3
    have howe3 := rowG_Q howe hKQ (by omega) hn3
    by_cases hac : appC kept.length x = 0
    · have hd2 : decide ((0 : Int) = 0) = true := rfl
      have hchk : (checkS x).2 = 0 ∧ x.no = (kept.length : Int) + 1 := by
        unfold appC at hac
        split at hac
        · split at hac
          · exact ⟨by assumption, by assumption⟩
          · cases hac
        · rename_i h; exact absurd hac h
      have hG3 : LG st3 nx3 id (framesB start (kept ++ [x])) (sumE start (kept ++ [x])) ((kept ++ [x]).map copE) := by
        rcases hor with ⟨_, h⟩ | ⟨h, _⟩
        · rw [framesB_snoc, sumE_snoc, List.map_append]; exact h
        · exact absurd hac h
      have hgx : goodE x := ⟨hxs, hxr, hchk.1⟩
      have hgood3 : ∀ e ∈ kept ++ [x], goodE e := fun e he => by
        rcases List.mem_append.1 he with h | h
        · exact hgood e h
        · rw [List.mem_singleton.1 h]; exact hgx
      have hnum3 : numOK 0 (kept ++ [x]) := numOK_snoc kept 0 x hnum (by rw [hchk.2]; omega)
      have hfl3 := framesB_len2 (kept ++ [x]) start hgood3
      rw [List.length_append, List.length_singleton] at hfl3
      have hidl : id < nx3 := by omega
      have hmx : (kept ++ [x]).map encE = kept.map encE ++ [encE x] := by rw [List.map_append]; rfl
      rcases howe3 with ⟨c1, c2⟩ | ⟨p, p1, p2, p3, p4, p5, p6, p7⟩
      · exact absurd (congrArg List.length c1) (by rw [hel8]; simp)
      subst p5
      rw [flat_ends] at p6
      have hne : framesB start (kept ++ [x]) ≠ [] := by
        rw [framesB_snoc]
        intro h
        have := congrArg List.length h
        rw [List.length_append, frameB_len] at this
        simp at this
      rcases hown3 with ⟨a1, a2⟩ | ⟨q, q1, q2, q3, q4, q5, q6, q7⟩
      · have hk0 : kept = [] := by simpa using a1
        subst hk0
        subst a2
        have hac0 : appC 0 x = 0 := hac
        repeat' (first | (simp -implicitDefEqProofs only [ze, zd, zr, simprocAttr, LR_pl, LR_hp, LR_hm, cunr_n, cunr_x, cunr_r, cunr_p, List.any_cons, List.any_nil, List.flatten_cons, List.flatten_nil, List.replicate_succ, List.replicate_zero, Bool.or_false, Bool.false_or, List.flatMap_cons, List.flatMap_nil, h7, h10, h0, h1, h9, h8, hd2, enc_get, hx1, hel, nxj, nr_pur, List.length_map, hup, hac0, List.map_nil, List.length_nil]) | (with_reducible refine wgd_cases ?_ ?_ <;> intro hb) | (with_reducible refine wcond_cases ?_ ?_ <;> intro hb) | (with_reducible refine qd_i (by kernel_rfl) ?_) | (with_reducible refine W_itn_cases ?_ ?_; omega))
        have hGA := lgU (nx' := nx3 + 56) (lgU hG3 (show nx3 ≤ nx3 + 40 by omega) (Nat.le_refl _) (some (.row 31 9 1 [V.i64 x.no, V.str x.ent, V.i64 x.book, V.i64 x.val, V.i64 x.kind, V.str x.ref, V.str x.who, V.i64 x.rev, V.list (te x.lr 61) (List.map encL x.lines) (nr x.lr)]))) (show nx3 ≤ nx3 + 48 by omega) (by omega) (some (.row 31 9 1 [V.i64 x.no, V.str x.ent, V.i64 x.book, V.i64 x.val, V.i64 x.kind, V.str x.ref, V.str x.who, V.i64 x.rev, V.list (te x.lr 61) (List.map encL x.lines) (nr x.lr)]))
        refine W_hp (lbytesR_ok (lgLe (nx' := nx3 + 120) hGA (by omega)) (by omega)) ?_
        rintro _ (⟨h, _⟩ | ⟨_, nx4, j, rfl, hj1, hj2⟩)
        · exact absurd h hne
        have hpx : ∀ j, (p = nx3 + j) = False := fun j => eq_false (by omega)
        have hpx' : ∀ j, (nx3 + j = p) = False := fun j => eq_false (by omega)
        have hpj : (p = j) = False := eq_false (by omega)
        have hjx : (nx3 + 96 = j) = False := eq_false (by omega)
        repeat' (first | (simp -implicitDefEqProofs only [ze, zd, zr, simprocAttr, LR_pl, LR_hp, LR_hm, cunr_n, cunr_x, cunr_r, cunr_p, List.any_cons, List.any_nil, List.flatten_cons, List.flatten_nil, List.replicate_succ, List.replicate_zero, Bool.or_false, Bool.false_or, List.flatMap_cons, List.flatMap_nil, h7, h10, h0, h1, h2, h9, h8, hup, nxj, hpx, hpx', hpj, hjx, p6]) | (with_reducible refine wgd_cases ?_ ?_ <;> intro hb) | (with_reducible refine wcond_cases ?_ ?_ <;> intro hb) | (with_reducible refine qd_i (by kernel_rfl) ?_) | (with_reducible refine W_itn_cases ?_ ?_; omega))
        have hzz : endsD [x] = endsD [] ++ [.i64 ((framesB start [x]).length : Int)] := endsD_snoc [] x
        have hRA : RowG (upd (upd st3 (nx3 + 40) (some (.row 31 9 1 [V.i64 x.no, V.str x.ent, V.i64 x.book, V.i64 x.val, V.i64 x.kind, V.str x.ref, V.str x.who, V.i64 x.rev, V.list (te x.lr 61) (List.map encL x.lines) (nr x.lr)]))) (nx3 + 48) (some (.row 31 9 1 [V.i64 x.no, V.str x.ent, V.i64 x.book, V.i64 x.val, V.i64 x.kind, V.str x.ref, V.str x.who, V.i64 x.rev, V.list (te x.lr 61) (List.map encL x.lines) (nr x.lr)]))) (nx3 + 56) id 31 true 9 ([x].map encE) (.sl 31 true 9 (nx3 + 48) 0 1) := .inr ⟨nx3 + 48, by omega, by omega, by omega, fun hm => by rw [toks_upd _ (show id ≠ nx3 + 48 by omega), toks_upd _ (show id ≠ nx3 + 40 by omega)] at hm; rcases lgTok hG3 hm with h | h <;> omega, rfl, by rw [upd_at, if_pos rfl]; rfl, by simp⟩
        have hpA : p ∉ toksAt (upd (upd st3 (nx3 + 40) (some (.row 31 9 1 [V.i64 x.no, V.str x.ent, V.i64 x.book, V.i64 x.val, V.i64 x.kind, V.str x.ref, V.str x.who, V.i64 x.rev, V.list (te x.lr 61) (List.map encL x.lines) (nr x.lr)]))) (nx3 + 48) (some (.row 31 9 1 [V.i64 x.no, V.str x.ent, V.i64 x.book, V.i64 x.val, V.i64 x.kind, V.str x.ref, V.str x.who, V.i64 x.rev, V.list (te x.lr 61) (List.map encL x.lines) (nr x.lr)]))) id := fun hm => by rw [toks_upd _ (show id ≠ nx3 + 48 by omega), toks_upd _ (show id ≠ nx3 + 40 by omega)] at hm; exact p4 hm
        have hpS : (upd (upd st3 (nx3 + 40) (some (.row 31 9 1 [V.i64 x.no, V.str x.ent, V.i64 x.book, V.i64 x.val, V.i64 x.kind, V.str x.ref, V.str x.who, V.i64 x.rev, V.list (te x.lr 61) (List.map encL x.lines) (nr x.lr)]))) (nx3 + 48) (some (.row 31 9 1 [V.i64 x.no, V.str x.ent, V.i64 x.book, V.i64 x.val, V.i64 x.kind, V.str x.ref, V.str x.who, V.i64 x.rev, V.list (te x.lr 61) (List.map encL x.lines) (nr x.lr)]))) p = some (.row 3 1 (endsD []).length (endsD [])) := by rw [upd_at, if_neg (by omega), upd_at, if_neg (by omega)]; exact p6
        have hGB := lgU (nx' := nx3 + 56) (lgU (nx' := nx3 + 56) hGA (show nx3 + 56 ≤ j by omega) (Nat.le_refl _) (some (.row 5 1 (framesB start [x]).length (bv (framesB start [x]))))) (show nx3 + 56 ≤ nx3 + 96 by omega) (Nat.le_refl _) (some (.row 3 1 1 [V.i64 ((framesB start [x]).length : Int)]))
        have hRA2 := rowG_U (nx' := nx3 + 56) (rowG_U (nx' := nx3 + 56) hRA (by omega) (show nx3 + 56 ≤ j by omega) (Nat.le_refl _) (some (.row 5 1 (framesB start [x]).length (bv (framesB start [x]))))) (by omega) (show nx3 + 56 ≤ nx3 + 96 by omega) (Nat.le_refl _) (some (.row 3 1 1 [V.i64 ((framesB start [x]).length : Int)]))
        have hpt : p ∉ toksAt (upd (upd (upd (upd st3 (nx3 + 40) (some (.row 31 9 1 [V.i64 x.no, V.str x.ent, V.i64 x.book, V.i64 x.val, V.i64 x.kind, V.str x.ref, V.str x.who, V.i64 x.rev, V.list (te x.lr 61) (List.map encL x.lines) (nr x.lr)]))) (nx3 + 48) (some (.row 31 9 1 [V.i64 x.no, V.str x.ent, V.i64 x.book, V.i64 x.val, V.i64 x.kind, V.str x.ref, V.str x.who, V.i64 x.rev, V.list (te x.lr 61) (List.map encL x.lines) (nr x.lr)]))) j (some (.row 5 1 (framesB start [x]).length (bv (framesB start [x]))))) (nx3 + 96) (some (.row 3 1 1 [V.i64 ((framesB start [x]).length : Int)]))) id := fun hm => by
          rw [toks_upd _ (show id ≠ nx3 + 96 by omega), toks_upd _ (show id ≠ j by omega)] at hm
          exact hpA hm
        have hp7 : (upd (upd (upd (upd st3 (nx3 + 40) (some (.row 31 9 1 [V.i64 x.no, V.str x.ent, V.i64 x.book, V.i64 x.val, V.i64 x.kind, V.str x.ref, V.str x.who, V.i64 x.rev, V.list (te x.lr 61) (List.map encL x.lines) (nr x.lr)]))) (nx3 + 48) (some (.row 31 9 1 [V.i64 x.no, V.str x.ent, V.i64 x.book, V.i64 x.val, V.i64 x.kind, V.str x.ref, V.str x.who, V.i64 x.rev, V.list (te x.lr 61) (List.map encL x.lines) (nr x.lr)]))) j (some (.row 5 1 (framesB start [x]).length (bv (framesB start [x]))))) (nx3 + 96) (some (.row 3 1 1 [V.i64 ((framesB start [x]).length : Int)]))) p = some (.row 3 1 (endsD []).length (endsD [])) := by
          rw [upd_at, if_neg (by omega), upd_at, if_neg (by omega)]; exact hpS
        have hRA3 := rowG_N hRA2 (fun e => p3 e.symm) (fun s n cs e => by rw [hp7] at e; cases e) (none : Option Ob)
        have hGC := lgN (nx' := nx3 + 56) hGB hpt p3 (by omega) (none : Option Ob)
        refine ⟨l.length - (i + 1), by omega, i + 1, [x], _, _, rfl, by omega, by omega, rfl, rfl, rfl, by simp, hgood3, hnum3, lgU (nx' := nx4 + 24) hGC (by omega) (by omega) _, ?_, ?_⟩
        · exact rowG_U (nx' := nx4 + 24) hRA3 (by omega) (by omega) (by omega) _
        · refine .inr ⟨nx3 + 104, by omega, by omega, by omega, fun hm => ?_, ?_, ?_, ?_⟩
          · rw [toks_upd _ (show id ≠ nx3 + 104 by omega)] at hm
            rcases lgTok hGC hm with h | h <;> omega
          · rw [hzz, List.length_append]; rfl
          · rw [upd_at, if_pos rfl, flat_ends, hzz, List.length_append]; rfl
          · rw [hzz]; simp
      · subst q5
        rw [List.length_map] at q6
        have hpq : p ≠ q := fun e => by subst e; rw [q6] at p6; cases p6
        have hrx : ∀ j, (q = nx3 + j) = False := fun j => eq_false (by omega)
        have hrx' : ∀ j, (nx3 + j = q) = False := fun j => eq_false (by omega)
        repeat' (first | (simp -implicitDefEqProofs only [ze, zd, zr, simprocAttr, LR_pl, LR_hp, LR_hm, cunr_n, cunr_x, cunr_r, cunr_p, List.any_cons, List.any_nil, List.flatten_cons, List.flatten_nil, List.replicate_succ, List.replicate_zero, Bool.or_false, Bool.false_or, List.flatMap_cons, List.flatMap_nil, h7, h10, h0, h1, h9, h8, hac, hd2, enc_get, hx1, hel, nxj, nr_pur, List.length_map, hup, hrx, hrx', q6]) | (with_reducible refine wgd_cases ?_ ?_ <;> intro hb) | (with_reducible refine wcond_cases ?_ ?_ <;> intro hb) | (with_reducible refine qd_i (by kernel_rfl) ?_) | (with_reducible refine W_itn_cases ?_ ?_; omega))
        have hq40 : q ∉ toksAt (upd st3 (nx3 + 40) (some (.row 31 9 1 [V.i64 x.no, V.str x.ent, V.i64 x.book, V.i64 x.val, V.i64 x.kind, V.str x.ref, V.str x.who, V.i64 x.rev, V.list (te x.lr 61) (List.map encL x.lines) (nr x.lr)]))) id := fun hm => by rw [toks_upd _ (show id ≠ nx3 + 40 by omega)] at hm; exact q4 hm
        have hGA := lgU (nx' := nx3 + 56) (lgN (nx' := nx3 + 48) (lgU hG3 (show nx3 ≤ nx3 + 40 by omega) (Nat.le_refl _) (some (.row 31 9 1 [V.i64 x.no, V.str x.ent, V.i64 x.book, V.i64 x.val, V.i64 x.kind, V.str x.ref, V.str x.who, V.i64 x.rev, V.list (te x.lr 61) (List.map encL x.lines) (nr x.lr)]))) hq40 q3 (by omega) (none : Option Ob)) (show nx3 + 48 ≤ nx3 + 48 by omega) (by omega) (some (.row 31 9 (kept.length + 1) (List.flatMap V.cells (List.map encE kept) ++ [V.i64 x.no, V.str x.ent, V.i64 x.book, V.i64 x.val, V.i64 x.kind, V.str x.ref, V.str x.who, V.i64 x.rev, V.list (te x.lr 61) (List.map encL x.lines) (nr x.lr)])))
        refine W_hp (lbytesR_ok (lgLe (nx' := nx3 + 120) hGA (by omega)) (by omega)) ?_
        rintro _ (⟨h, _⟩ | ⟨_, nx4, j, rfl, hj1, hj2⟩)
        · exact absurd h hne
        have hpx : ∀ j, (p = nx3 + j) = False := fun j => eq_false (by omega)
        have hpx' : ∀ j, (nx3 + j = p) = False := fun j => eq_false (by omega)
        have hpj : (p = j) = False := eq_false (by omega)
        have hjx : (nx3 + 96 = j) = False := eq_false (by omega)
        have hpq' : (p = q) = False := eq_false hpq
        repeat' (first | (simp -implicitDefEqProofs only [ze, zd, zr, simprocAttr, LR_pl, LR_hp, LR_hm, cunr_n, cunr_x, cunr_r, cunr_p, List.any_cons, List.any_nil, List.flatten_cons, List.flatten_nil, List.replicate_succ, List.replicate_zero, Bool.or_false, Bool.false_or, List.flatMap_cons, List.flatMap_nil, h7, h10, h0, h1, h2, h9, h8, hup, nxj, hpx, hpx', hpj, hjx, hpq', p6]) | (with_reducible refine wgd_cases ?_ ?_ <;> intro hb) | (with_reducible refine wcond_cases ?_ ?_ <;> intro hb) | (with_reducible refine qd_i (by kernel_rfl) ?_) | (with_reducible refine W_itn_cases ?_ ?_; omega))
        have hzz : endsD (kept ++ [x]) = endsD kept ++ [.i64 ((framesB start (kept ++ [x])).length : Int)] := endsD_snoc kept x
        have hRA : RowG (upd (upd (upd st3 (nx3 + 40) (some (.row 31 9 1 [V.i64 x.no, V.str x.ent, V.i64 x.book, V.i64 x.val, V.i64 x.kind, V.str x.ref, V.str x.who, V.i64 x.rev, V.list (te x.lr 61) (List.map encL x.lines) (nr x.lr)]))) q none) (nx3 + 48) (some (.row 31 9 (kept.length + 1) (List.flatMap V.cells (List.map encE kept) ++ [V.i64 x.no, V.str x.ent, V.i64 x.book, V.i64 x.val, V.i64 x.kind, V.str x.ref, V.str x.who, V.i64 x.rev, V.list (te x.lr 61) (List.map encL x.lines) (nr x.lr)])))) (nx3 + 56) id 31 true 9 ((kept ++ [x]).map encE) (.sl 31 true 9 (nx3 + 48) 0 (kept.length + 1)) := .inr ⟨nx3 + 48, by omega, by omega, by omega, fun hm => by rw [toks_upd _ (show id ≠ nx3 + 48 by omega), toks_upd _ (fun e => q3 e.symm), toks_upd _ (show id ≠ nx3 + 40 by omega)] at hm; rcases lgTok hG3 hm with h | h <;> omega, by rw [List.length_map, List.length_append]; rfl, by rw [upd_at, if_pos rfl, hmx, List.flatMap_append, List.length_append, List.length_map]; rfl, by simp⟩
        have hpA : p ∉ toksAt (upd (upd (upd st3 (nx3 + 40) (some (.row 31 9 1 [V.i64 x.no, V.str x.ent, V.i64 x.book, V.i64 x.val, V.i64 x.kind, V.str x.ref, V.str x.who, V.i64 x.rev, V.list (te x.lr 61) (List.map encL x.lines) (nr x.lr)]))) q none) (nx3 + 48) (some (.row 31 9 (kept.length + 1) (List.flatMap V.cells (List.map encE kept) ++ [V.i64 x.no, V.str x.ent, V.i64 x.book, V.i64 x.val, V.i64 x.kind, V.str x.ref, V.str x.who, V.i64 x.rev, V.list (te x.lr 61) (List.map encL x.lines) (nr x.lr)])))) id := fun hm => by rw [toks_upd _ (show id ≠ nx3 + 48 by omega), toks_upd _ (fun e => q3 e.symm), toks_upd _ (show id ≠ nx3 + 40 by omega)] at hm; exact p4 hm
        have hpS : (upd (upd (upd st3 (nx3 + 40) (some (.row 31 9 1 [V.i64 x.no, V.str x.ent, V.i64 x.book, V.i64 x.val, V.i64 x.kind, V.str x.ref, V.str x.who, V.i64 x.rev, V.list (te x.lr 61) (List.map encL x.lines) (nr x.lr)]))) q none) (nx3 + 48) (some (.row 31 9 (kept.length + 1) (List.flatMap V.cells (List.map encE kept) ++ [V.i64 x.no, V.str x.ent, V.i64 x.book, V.i64 x.val, V.i64 x.kind, V.str x.ref, V.str x.who, V.i64 x.rev, V.list (te x.lr 61) (List.map encL x.lines) (nr x.lr)])))) p = some (.row 3 1 (endsD kept).length (endsD kept)) := by rw [upd_at, if_neg (by omega), upd_at, if_neg hpq, upd_at, if_neg (by omega)]; exact p6
        have hGB := lgU (nx' := nx3 + 56) (lgU (nx' := nx3 + 56) hGA (show nx3 + 56 ≤ j by omega) (Nat.le_refl _) (some (.row 5 1 (framesB start (kept ++ [x])).length (bv (framesB start (kept ++ [x])))))) (show nx3 + 56 ≤ nx3 + 96 by omega) (Nat.le_refl _) (some (.row 3 1 1 [V.i64 ((framesB start (kept ++ [x])).length : Int)]))
        have hRA2 := rowG_U (nx' := nx3 + 56) (rowG_U (nx' := nx3 + 56) hRA (by omega) (show nx3 + 56 ≤ j by omega) (Nat.le_refl _) (some (.row 5 1 (framesB start (kept ++ [x])).length (bv (framesB start (kept ++ [x])))))) (by omega) (show nx3 + 56 ≤ nx3 + 96 by omega) (Nat.le_refl _) (some (.row 3 1 1 [V.i64 ((framesB start (kept ++ [x])).length : Int)]))
        have hpt : p ∉ toksAt (upd (upd (upd (upd (upd st3 (nx3 + 40) (some (.row 31 9 1 [V.i64 x.no, V.str x.ent, V.i64 x.book, V.i64 x.val, V.i64 x.kind, V.str x.ref, V.str x.who, V.i64 x.rev, V.list (te x.lr 61) (List.map encL x.lines) (nr x.lr)]))) q none) (nx3 + 48) (some (.row 31 9 (kept.length + 1) (List.flatMap V.cells (List.map encE kept) ++ [V.i64 x.no, V.str x.ent, V.i64 x.book, V.i64 x.val, V.i64 x.kind, V.str x.ref, V.str x.who, V.i64 x.rev, V.list (te x.lr 61) (List.map encL x.lines) (nr x.lr)])))) j (some (.row 5 1 (framesB start (kept ++ [x])).length (bv (framesB start (kept ++ [x])))))) (nx3 + 96) (some (.row 3 1 1 [V.i64 ((framesB start (kept ++ [x])).length : Int)]))) id := fun hm => by
          rw [toks_upd _ (show id ≠ nx3 + 96 by omega), toks_upd _ (show id ≠ j by omega)] at hm
          exact hpA hm
        have hp7 : (upd (upd (upd (upd (upd st3 (nx3 + 40) (some (.row 31 9 1 [V.i64 x.no, V.str x.ent, V.i64 x.book, V.i64 x.val, V.i64 x.kind, V.str x.ref, V.str x.who, V.i64 x.rev, V.list (te x.lr 61) (List.map encL x.lines) (nr x.lr)]))) q none) (nx3 + 48) (some (.row 31 9 (kept.length + 1) (List.flatMap V.cells (List.map encE kept) ++ [V.i64 x.no, V.str x.ent, V.i64 x.book, V.i64 x.val, V.i64 x.kind, V.str x.ref, V.str x.who, V.i64 x.rev, V.list (te x.lr 61) (List.map encL x.lines) (nr x.lr)])))) j (some (.row 5 1 (framesB start (kept ++ [x])).length (bv (framesB start (kept ++ [x])))))) (nx3 + 96) (some (.row 3 1 1 [V.i64 ((framesB start (kept ++ [x])).length : Int)]))) p = some (.row 3 1 (endsD kept).length (endsD kept)) := by
          rw [upd_at, if_neg (by omega), upd_at, if_neg (by omega)]; exact hpS
        have hRA3 := rowG_N hRA2 (fun e => p3 e.symm) (fun s n cs e => by rw [hp7] at e; cases e) (none : Option Ob)
        have hGC := lgN (nx' := nx3 + 56) hGB hpt p3 (by omega) (none : Option Ob)
        refine ⟨l.length - (i + 1), by omega, i + 1, (kept ++ [x]), _, _, rfl, by omega, by omega, rfl, rfl, rfl, by rw [List.length_append]; show kept.length + 1 ≤ i + 1; omega, hgood3, hnum3, lgU (nx' := nx4 + 24) hGC (by omega) (by omega) _, ?_, ?_⟩
        · exact rowG_U (nx' := nx4 + 24) hRA3 (by omega) (by omega) (by omega) _
        · refine .inr ⟨nx3 + 104, by omega, by omega, by omega, fun hm => ?_, ?_, ?_, ?_⟩
          · rw [toks_upd _ (show id ≠ nx3 + 104 by omega)] at hm
            rcases lgTok hGC hm with h | h <;> omega
          · rw [hzz, List.length_append]; rfl
          · rw [upd_at, if_pos rfl, flat_ends, hzz, List.length_append]; rfl
          · rw [hzz]; simp
    · have hd2 : decide (appC kept.length x = 0) = false := decide_eq_false hac
      have hG3 : LG st3 nx3 id (framesB start kept) (sumE start kept) (kept.map copE) := by
        rcases hor with ⟨h, _⟩ | ⟨_, h⟩
        · exact absurd h hac
        · exact h
      repeat' (first | (simp -implicitDefEqProofs only [ze, zd, zr, simprocAttr, LR_pl, LR_hp, LR_hm, cunr_n, cunr_x, cunr_r, cunr_p, List.any_cons, List.any_nil, List.flatten_cons, List.flatten_nil, List.replicate_succ, List.replicate_zero, Bool.or_false, Bool.false_or, List.flatMap_cons, List.flatMap_nil, h7, h10, h0, h1, h2, hd2, enc_get, hx1, hel, nxj, nr_pur, List.length_map, hup]) | (with_reducible refine wgd_cases ?_ ?_ <;> intro hb) | (with_reducible refine wcond_cases ?_ ?_ <;> intro hb) | (with_reducible refine qd_i (by kernel_rfl) ?_) | (with_reducible refine W_itn_cases ?_ ?_; omega))
      exact ⟨l.length - (i + 1), by omega, i + 1, kept, v, w, rfl, by omega, by omega, rfl, h9, h8, by omega, hgood, hnum, lgLe hG3 (by omega), rowG_le hown3 (by omega), rowG_le howe3 (by omega)⟩
  · have hd : decide ((i : Int) < (l.length : Int)) = false := decide_eq_false (by omega)
    repeat' (first | (simp -implicitDefEqProofs only [ze, zd, zr, simprocAttr, LR_pl, LR_hp, LR_hm, cunr_n, cunr_x, cunr_r, cunr_p, List.any_cons, List.any_nil, List.flatten_cons, List.flatten_nil, List.replicate_succ, List.replicate_zero, Bool.or_false, Bool.false_or, List.flatMap_cons, List.flatMap_nil, h7, h10, h0, h1, hd, List.length_map]) | (with_reducible refine wgd_cases ?_ ?_ <;> intro hb) | (with_reducible refine wcond_cases ?_ ?_ <;> intro hb) | (with_reducible refine qd_i (by kernel_rfl) ?_) | (with_reducible refine W_itn_cases ?_ ?_; omega))
    simp only [k6_t1]
    rcases howe with ⟨c1, c2⟩ | ⟨p, p1, p2, p3, p4, p5, p6, p7⟩
    · exact absurd (congrArg List.length c1) (by rw [hel8]; simp)
    subst p5
    rw [flat_ends] at p6
    repeat' (first | (simp -implicitDefEqProofs only [ze, zd, zr, simprocAttr, LR_pl, LR_hp, LR_hm, cunr_n, cunr_x, cunr_r, cunr_p, List.any_cons, List.any_nil, List.flatten_cons, List.flatten_nil, List.replicate_succ, List.replicate_zero, Bool.or_false, Bool.false_or, List.flatMap_cons, List.flatMap_nil, h7]) | (with_reducible refine wgd_cases ?_ ?_ <;> intro hb) | (with_reducible refine wcond_cases ?_ ?_ <;> intro hb) | (with_reducible refine qd_i (by kernel_rfl) ?_) | (with_reducible refine W_itn_cases ?_ ?_; omega))
    refine W_hp (lbytesR_ok (lgLe hG (by omega)) (by omega)) ?_
    rintro _ (⟨hemp, nx3, rfl, hn3⟩ | ⟨hne, nx3, j, rfl, hj1, hj2⟩)
    · have hk0 : kept = [] := by
        cases kept with
        | nil => rfl
        | cons x xs =>
          have := congrArg List.length hemp
          simp only [framesB, List.length_append, frameB_len, List.length_nil] at this
          omega
      subst hk0
      rcases hown with ⟨a1, a2⟩ | ⟨q, q1, q2, q3, q4, q5, q6, q7⟩
      · subst a2
        repeat' (first | (simp -implicitDefEqProofs only [ze, zd, zr, simprocAttr, LR_pl, LR_hp, LR_hm, cunr_n, cunr_x, cunr_r, cunr_p, List.any_cons, List.any_nil, List.flatten_cons, List.flatten_nil, List.replicate_succ, List.replicate_zero, Bool.or_false, Bool.false_or, List.flatMap_cons, List.flatMap_nil, h9, slives_ok]) | (with_reducible refine wgd_cases ?_ ?_ <;> intro hb) | (with_reducible refine wcond_cases ?_ ?_ <;> intro hb) | (with_reducible refine qd_i (by kernel_rfl) ?_) | (with_reducible refine W_itn_cases ?_ ?_; omega))
      · exact absurd rfl q7
    · have hol : 0 < (framesB start kept).length := List.length_pos_iff.mpr hne
      have hd0 : decide (((framesB start kept).length : Int) = 0) = false := decide_eq_false (by omega)
      obtain ⟨k, hk⟩ : ∃ k : Nat, at_.tmod ((framesB start kept).length : Int) = k := Int.eq_ofNat_of_zero_le (Int.tmod_nonneg _ (by omega))
      have hkl2 : k < (framesB start kept).length := by
        have := Int.tmod_lt_of_pos at_ (show (0 : Int) < ((framesB start kept).length : Int) by omega)
        omega
      have hne0 : (((framesB start kept).length : Int) = 0) = False := eq_false (by omega)
      obtain ⟨d, hd1⟩ := get_lt (l := framesB start kept) (i := k) hkl2
      have hdr := frames_inR kept start start_r hgood d (List.mem_of_getElem? hd1)
      obtain ⟨hcr, hcn⟩ := xor8 hdr hch hz0
      have hget : (bv (framesB start kept))[k]? = some (.sc (.int .u8 d)) := by rw [bv_get, hd1]; rfl
      have hjj : ∀ o, upd (upd st2 j (some (.row 5 1 (framesB start kept).length (bv (framesB start kept))))) j o = upd st2 j o := fun o => by
        funext i; by_cases h : i = j <;> simp [upd_at, h]
      repeat' (first | (simp -implicitDefEqProofs only [ze, zd, zr, simprocAttr, LR_pl, LR_hp, LR_hm, cunr_n, cunr_x, cunr_r, cunr_p, List.any_cons, List.any_nil, List.flatten_cons, List.flatten_nil, List.replicate_succ, List.replicate_zero, Bool.or_false, Bool.false_or, List.flatMap_cons, List.flatMap_nil, h1, h2, hd0, hne0, hk, hget, hkl2, bv_len, Nat.mul_one, hjj]) | (with_reducible refine wgd_cases ?_ ?_ <;> intro hb) | (with_reducible refine wcond_cases ?_ ?_ <;> intro hb) | (with_reducible refine qd_i (by kernel_rfl) ?_) | (with_reducible refine W_itn_cases ?_ ?_; omega))
      generalize hz : Go.bits .xor .u8 d ch = z at hcr hcn
      have hset : List.take k (bv (framesB start kept)) ++ [V.sc (Value.int IntKind.u8 z)] ++ List.drop (k + 1) (bv (framesB start kept)) = bv ((framesB start kept).set k z) := by
        rw [bv_tk, bv_dp, List.set_eq_take_append_cons_drop, if_pos hkl2, bv_app, List.append_assoc]; rfl
      rw [hset]
      obtain ⟨w, e, w1, w2, w3, w4, hopen⟩ := openS_damage hcr kept start d 0 (framesB start kept).length k start_r hgood hnum hd1 hcn (Nat.le_refl _)
      have hEm : ∀ v w, v ≤ w → endS kept v ≤ endS kept w := fun v w h => frames_take kept start v w h
      have w2 : endS kept w ≤ k := w2
      have w3 : k < endS kept (w + 1) := w3
      have hpj : (p = j) = False := eq_false (by omega)
      have hpr : upd st2 j (some (.row 5 1 (framesB start kept).length (bv ((framesB start kept).set k z)))) p = some (.row 3 1 (endsD kept).length (endsD kept)) := by rw [upd_at, if_neg (by omega)]; exact p6
      generalize hS : upd st2 j (some (.row 5 1 (framesB start kept).length (bv ((framesB start kept).set k z)))) = S at hpr ⊢
      refine loop_w (fun n tm st' nx' => ∃ (i : Nat), n = w - i ∧ i ≤ w ∧ nx3 + 136 ≤ nx' ∧ st' = S ∧ tm 9 = v ∧ tm 8 = .sl 3 false 1 p 0 (endsD kept).length ∧ tm 11 = .sl 5 false 1 j 0 (framesB start kept).length ∧ tm 12 = .i64 k ∧ tm 13 = .i64 i) w ⟨0, by omega, by omega, by omega, rfl, ?_, ?_, ?_, ?_, ?_⟩ ?_
      · simp -implicitDefEqProofs only [ze, zd, zr, simprocAttr, LR_pl, LR_hp, LR_hm, cunr_n, cunr_x, cunr_r, cunr_p, List.any_cons, List.any_nil, List.flatten_cons, List.flatten_nil, List.replicate_succ, List.replicate_zero, Bool.or_false, Bool.false_or, List.flatMap_cons, List.flatMap_nil, h9]; try rfl
      · simp -implicitDefEqProofs only [ze, zd, zr, simprocAttr, LR_pl, LR_hp, LR_hm, cunr_n, cunr_x, cunr_r, cunr_p, List.any_cons, List.any_nil, List.flatten_cons, List.flatten_nil, List.replicate_succ, List.replicate_zero, Bool.or_false, Bool.false_or, List.flatMap_cons, List.flatMap_nil, h8]; try rfl
      · simp -implicitDefEqProofs only [ze, zd, zr, simprocAttr, LR_pl, LR_hp, LR_hm, cunr_n, cunr_x, cunr_r, cunr_p, List.any_cons, List.any_nil, List.flatten_cons, List.flatten_nil, List.replicate_succ, List.replicate_zero, Bool.or_false, Bool.false_or, List.flatMap_cons, List.flatMap_nil]; try rfl
      · simp -implicitDefEqProofs only [ze, zd, zr, simprocAttr, LR_pl, LR_hp, LR_hm, cunr_n, cunr_x, cunr_r, cunr_p, List.any_cons, List.any_nil, List.flatten_cons, List.flatten_nil, List.replicate_succ, List.replicate_zero, Bool.or_false, Bool.false_or, List.flatMap_cons, List.flatMap_nil]; try rfl
      · simp -implicitDefEqProofs only [ze, zd, zr, simprocAttr, LR_pl, LR_hp, LR_hm, cunr_n, cunr_x, cunr_r, cunr_p, List.any_cons, List.any_nil, List.flatten_cons, List.flatten_nil, List.replicate_succ, List.replicate_zero, Bool.or_false, Bool.false_or, List.flatMap_cons, List.flatMap_nil]; try rfl
      rintro n2 tm2 st4 nx4 ⟨i2, hn2, hi2, hnx4, rfl, m9, m8, m11, m12, m13⟩
      simp only [k6_l1, k6_t0]
      have hup2 : IntKind.i64.wrap ((i2 : Int) + 1) = ((i2 + 1 : Nat) : Int) := wrap_i64 (by omega) (by omega)
      have hdl2 : decide (((i2 + 1 : Nat) : Int) < ((kept.length + 1 : Nat) : Int)) = true := decide_eq_true (by omega)
      have hge := endsD_get kept (i2 + 1) (by omega)
      have hil : i2 + 1 < kept.length + 1 := by omega
      by_cases hlt2 : i2 < w
      · have hle : decide (((endS kept (i2 + 1) : Nat) : Int) ≤ (k : Int)) = true := decide_eq_true (by have := hEm (i2 + 1) w hlt2; omega)
        repeat' (first | (simp -implicitDefEqProofs only [ze, zd, zr, simprocAttr, LR_pl, LR_hp, LR_hm, cunr_n, cunr_x, cunr_r, cunr_p, List.any_cons, List.any_nil, List.flatten_cons, List.flatten_nil, List.replicate_succ, List.replicate_zero, Bool.or_false, Bool.false_or, List.flatMap_cons, List.flatMap_nil, m9, m8, m11, m12, m13, hup2, hel8, hdl2, hpr, hge, hil, hle, Nat.mul_one]) | (with_reducible refine wgd_cases ?_ ?_ <;> intro hb) | (with_reducible refine wcond_cases ?_ ?_ <;> intro hb) | (with_reducible refine qd_i (by kernel_rfl) ?_) | (with_reducible refine W_itn_cases ?_ ?_; omega))
        exact ⟨w - (i2 + 1), by omega, i2 + 1, rfl, by omega, by omega, rfl⟩
      · have hiw : i2 = w := by omega
        subst hiw
        have hle : decide (((endS kept (i2 + 1) : Nat) : Int) ≤ (k : Int)) = false := decide_eq_false (by omega)
        repeat' (first | (simp -implicitDefEqProofs only [ze, zd, zr, simprocAttr, LR_pl, LR_hp, LR_hm, cunr_n, cunr_x, cunr_r, cunr_p, List.any_cons, List.any_nil, List.flatten_cons, List.flatten_nil, List.replicate_succ, List.replicate_zero, Bool.or_false, Bool.false_or, List.flatMap_cons, List.flatMap_nil, m9, m8, m11, m12, m13, hup2, hel8, hdl2, hpr, hge, hil, hle, Nat.mul_one]) | (with_reducible refine wgd_cases ?_ ?_ <;> intro hb) | (with_reducible refine wcond_cases ?_ ?_ <;> intro hb) | (with_reducible refine qd_i (by kernel_rfl) ?_) | (with_reducible refine W_itn_cases ?_ ?_; omega))
        have hsl : ((framesB start kept).set k z).length = (framesB start kept).length := List.length_set
        have hO := open_sl ((framesB start kept).set k z) (fun b hb => by
          rcases List.mem_or_eq_of_mem_set hb with hb | rfl
          · exact frames_inR kept start start_r hgood b hb
          · exact hcr) (by rw [hsl]; omega) st4 (nx4 + 184) (by omega) j (by rw [← hS, upd_at, if_pos rfl, hsl])
        rw [hsl] at hO
        refine W_hp hO ?_
        unfold openPost
        rw [hsl, hopen]
        have hek : (framesB start (kept.take i2)).length = endS kept i2 := rfl
        simp only [hek]
        rintro _ ⟨st5, nx5, h, rfl, hn5, hh5, hH, hk5, hnewh⟩
        have hjl : j < nx3 := hj2
        have hpr5 : st5 p = some (.row 3 1 (endsD kept).length (endsD kept)) := by rw [hk5 p p1 (by omega), upd_at, if_neg (by omega)]; exact hpr
        rcases hown with ⟨a1, a2⟩ | ⟨q, q1, q2, q3, q4, q5, q6, q7⟩
        · exfalso
          have : kept = [] := by simpa using a1
          rw [this] at w1; simp at w1
        subst q5
        rw [List.length_map] at q6
        have hq5 : st5 q = some (.row 31 9 kept.length ((kept.map encE).flatMap V.cells)) := by
          rw [hk5 q q1 (by omega), upd_at, if_neg (by omega), ← hS, upd_at, if_neg (by omega)]; exact q6
        have hgw : ∀ e ∈ kept.take i2, goodE e := fun e he => hgood e (List.mem_of_mem_take he)
        have hkf : ((kept.take i2).map fixE).length = (kept.take i2).length := List.length_map _
        have hkw : (kept.take i2).length = i2 := by rw [List.length_take]; omega
        have hlent := fun (nx' : Nat) (hh : nx5 ≤ nx') => lent_ok (lgLe hH hh) (by rw [hkf]; omega) (fun e he => by
          obtain ⟨e2, he2, rfl⟩ := List.mem_map.1 he
          obtain ⟨a, b⟩ := good_lens (hgw e2 he2)
          refine ⟨fix_nil _, ?_, ?_⟩
          · show (e2.lines.map fixL).length < 1000000
            rw [List.length_map]; exact a
          · intro l hl
            obtain ⟨l2, hl2, rfl⟩ := List.mem_map.1 hl
            exact b l2 hl2)
        have hmm : (((kept.take i2).map fixE).map fun e => encE (copE e)) = (((kept.take i2).map fixE).map copE).map encE := by simp only [List.map_map]; rfl
        rw [hmm] at hlent
        have hde : decide (e = 0) = false := decide_eq_false w4
        have hdw : decide (((endS kept i2 : Nat) : Int) = ((endS kept i2 : Nat) : Int)) = true := decide_eq_true rfl
        have hge2 := endsD_get kept i2 (by omega)
        have hil2 : i2 < kept.length + 1 := by omega
        repeat' (first | (simp -implicitDefEqProofs only [ze, zd, zr, simprocAttr, LR_pl, LR_hp, LR_hm, cunr_n, cunr_x, cunr_r, cunr_p, List.any_cons, List.any_nil, List.flatten_cons, List.flatten_nil, List.replicate_succ, List.replicate_zero, Bool.or_false, Bool.false_or, List.flatMap_cons, List.flatMap_nil, m9, m8, m11, m12, m13, hel8, hpr5, hge2, hil2, hde, hdw, Nat.mul_one, wnx_tb, wnx_tbn]) | (with_reducible refine W_itn_cases ?_ ?_; omega))
        refine W_hp (hlent _ (by omega)) ?_
        rintro _ ⟨st6, nx6, t6, q6', rfl, hn6, ht6, hk6⟩
        have hq6 : st6 q = some (.row 31 9 kept.length ((kept.map encE).flatMap V.cells)) := by rw [hk6 q (by omega)]; exact hq5
        have hE := fun (r : Nat) => opened_same (kept.take i2) hgw (by omega) t6 31 r 0 (ht6.imp_left fun h => by simpa using h) (.inr rfl)
        have hwk : ((0 : Int) ≤ (i2 : Int) ∧ (i2 : Int) ≤ (kept.length : Int)) := ⟨by omega, by omega⟩
        have hfp := flat_pur kept
        have hfc := flat_chunk kept i2 (by omega)
        have hfl9 := flatE_len kept
        have hi9 : i2 * 9 ≤ kept.length * 9 := by omega
        repeat' (first | (simp -implicitDefEqProofs only [ze, zd, zr, simprocAttr, LR_pl, LR_hp, LR_hm, cunr_n, cunr_x, cunr_r, cunr_p, List.any_cons, List.any_nil, List.flatten_cons, List.flatten_nil, List.replicate_succ, List.replicate_zero, Bool.or_false, Bool.false_or, List.flatMap_cons, List.flatMap_nil, m9, m13, hwk, hq6, hfp, hfc, hfl9, hi9, hE, slives_ok, wnx_tb, wnx_tbn, List.length_map, Nat.sub_zero, Nat.zero_mul]) | (with_reducible refine W_itn_cases ?_ ?_; omega))
        refine qd_2 ?_ ?_
        · simp [recsOk2, ordB, pairOk, bigF, δF, rF, disj, List.range, List.range.loop, seqSt, upds_nil]
          exact ⟨.inl (by decide), .inl (by decide), by decide⟩
        · simp -implicitDefEqProofs only [ze, zd, zr, simprocAttr, LR_pl, LR_hp, LR_hm, cunr_n, cunr_x, cunr_r, cunr_p, List.any_cons, List.any_nil, List.flatten_cons, List.flatten_nil, List.replicate_succ, List.replicate_zero, Bool.or_false, Bool.false_or, List.flatMap_cons, List.flatMap_nil]
          try rfl
end Go.Proofs.YtkbheoganajhaaaDoor.Vm
namespace Go.Proofs.YtkbheoganajhaaaDoor.storeDamage
open Go.ChangeShapes Go.WideShapes Go.ChangeAt Go.RowKit Go.Proofs Go.Proofs.YtkbheoganajhaaaDoor.Vm
set_option linter.unusedVariables false
theorem own : ownKnob Tryd.prog.godebug = none := by kernel_rfl
theorem laidOut : laidOutB Tryd.prog = true := by kernel_rfl
set_option maxRecDepth 100000 in
theorem door_met (os : Os) (args : Array Value) : laidMetH Tryd.prog Rows.storeDamageRow.laid ((World.doorLaid Tryd.prog 400 os).forCall (fun _ _ => 0) ⟨#[], args, []⟩).memory :=
  laidMetH_of_parts3 (fuel := 8) (laidMet_of_run' 8 (by kernel_rfl) (by kernel_rfl)) (by kernel_rfl) (by kernel_rfl)
set_option maxRecDepth 100000 in
theorem lifted (os : Os) (started : os.Started) (H : Type) (enc : TypeId × Value → H) :
    ReturnsInHanded {} Tryd.checked os 6 .any (fun w args => (Rows.storeDamageSpec.pre enc Tryd.prog Tryd.f6 [] false w args ∧ laidMetH Tryd.prog Rows.storeDamageRow.laid w) ∧ sizedMet enc Tryd.prog Tryd.f6 (OpenSpec.ofChange Rows.storeDamageSpec) false w args) (Rows.storeDamageSpec.post enc Tryd.prog Tryd.f6 false true false false) := by
  refine returnsInHanded_of_change_and (C := Tryd.checked) (X := fun w _ => laidMetH Tryd.prog Rows.storeDamageRow.laid w) (fun _ _ _ hh h => h.of_heap hh) own started (by kernel_rfl) Tryd.func6
    (ChangeSpec.witness_shaped (enc := enc) (C := Tryd.checked) (os := os) (X := fun w _ => laidMetH Tryd.prog Rows.storeDamageRow.laid w) false (World.doorLaid Tryd.prog 400 os) #[.slice none 0 0, .int .i64 0, .int .u8 0] 8 rfl (World.shaped_of_RefB (by kernel_rfl) (by kernel_rfl)) (by kernel_rfl) (by kernel_rfl) (by kernel_rfl) (door_met os _)) ?_
  intro W base args ds gs before hval0 hW hcnd hsz0 hL _
  have hval : ∀ (j : Nat) t v, Tryd.f6.params[j]? = some t → args[j]? = some v → Value.okWide Tryd.prog W .any base t v := hval0
  have hW' := hW
  obtain ⟨p, q, hA0, hV, rfl, hfz, hnd⟩ := hW
  have hA : DataW.TrodAll enc Tryd.prog W 0 (fun _ => true) true Tryd.f6.params.toList args.toList ds p := hA0
  rw [Tryd.params6] at hA hval
  obtain ⟨v0, vs0, d0, ds0, p0, q0, hargs, rfl, rfl, h0, r0⟩ := trodAll_cons hA
  obtain ⟨v1, vs1, d1, ds1, p1, q1, rfl, rfl, rfl, h1, r1⟩ := trodAll_cons r0
  obtain ⟨v2, vs2, d2, ds2, p2, q2, rfl, rfl, rfl, h2, r2⟩ := trodAll_cons r1
  obtain ⟨rfl, rfl, rfl⟩ := trodAll_nil r2
  obtain rfl : args = #[v0, v1, v2] := by cases args; simp_all
  obtain ⟨rfl, rfl⟩ := trodVars_none hV
  have hw0 : ∀ n ∈ d0.weights Tryd.prog 22, n ≤ reachBytes := fun n hn => by have := List.all_eq_true.1 hsz0 n (DataW.weights_mem_each (t := 22) (d := d0) (j := 0) (by kernel_rfl) rfl n hn); simpa using this
  have k0 := h0
  have lt0 : ∀ x ∈ p0, x.block < W.heap.size := by obtain ⟨m, hm⟩ := k0; exact DataW.trod_lt m _ _ _ hm
  obtain ⟨a0, len0, cap0, rfl⟩ := okWide_slice Tryd.underlying22 (hval 0 22 v0 rfl rfl)
  obtain ⟨fuel0, hf0⟩ := h0
  obtain ⟨x0, K0, o0, g0⟩ := opEntries hf0 hw0
  have R0 : RepP Tryd.prog (pw W) (V.list 31 (x0.map encE) 0) (.slice a0 len0 cap0) := by
    cases K0 with
    | cons h _ => exact h
  have hw1 : ∀ n ∈ d1.weights Tryd.prog 3, n ≤ reachBytes := fun n hn => by have := List.all_eq_true.1 hsz0 n (DataW.weights_mem_each (t := 3) (d := d1) (j := 1) (by kernel_rfl) rfl n hn); simpa using this
  have k1 := h1
  have lt1 : ∀ x ∈ p1, x.block < W.heap.size := by obtain ⟨m, hm⟩ := k1; exact DataW.trod_lt m _ _ _ hm
  obtain ⟨n1, rfl⟩ := okWide_int Tryd.underlying3 (hval 1 3 v1 rfl rfl)
  obtain ⟨fuel1, hf1⟩ := h1
  obtain ⟨x1, K1, o1, g1⟩ := opV_int Tryd.underlying3 hf1 hw1
  have R1 : RepP Tryd.prog (pw W) (V.i64 x1) (.int .i64 n1) := by
    cases K1 with
    | cons h _ => exact h
  have hw2 : ∀ n ∈ d2.weights Tryd.prog 5, n ≤ reachBytes := fun n hn => by have := List.all_eq_true.1 hsz0 n (DataW.weights_mem_each (t := 5) (d := d2) (j := 2) (by kernel_rfl) rfl n hn); simpa using this
  have k2 := h2
  have lt2 : ∀ x ∈ p2, x.block < W.heap.size := by obtain ⟨m, hm⟩ := k2; exact DataW.trod_lt m _ _ _ hm
  obtain ⟨n2, rfl⟩ := okWide_int Tryd.underlying5 (hval 2 5 v2 rfl rfl)
  obtain ⟨fuel2, hf2⟩ := h2
  obtain ⟨x2, K2, o2, g2⟩ := opV_int Tryd.underlying5 hf2 hw2
  have R2 : RepP Tryd.prog (pw W) (V.sc (.int .u8 x2)) (.int .u8 n2) := by
    cases K2 with
    | cons h _ => exact h
  have hx := sdamage_ok x0 x1 x2 (wf_r g1) (wf_b g2) (fun e he => ⟨gE_small (g0.2 e he), gE_range (g0.2 e he)⟩) (gEs_len g0)
  refine (lim_bool (p := pw W) progOK (extOK_none _ _) (f := 6) (by kernel_rfl) hx (glOK_of (lens_of_laid hL)) (fun _ _ _ h => h) (.cons R0 (.cons R1 (.cons R2 .nil)))).mono fun e W' ⟨he, bel0⟩ => ?_
  have bel : Below W.heap.size W W' := bel0
  subst he
  exact ⟨_, rfl, _, _, _, [], _, [], hW', trodAll_mk1 (shut_bool Tryd.underlying4 _), (trodAll_cons_mk (Below.trod laidOut (by kernel_rfl) (of_decide_eq_true (by kernel_rfl)) k0 bel lt0) (trodAll_cons_mk (Below.trod laidOut (by kernel_rfl) (of_decide_eq_true (by kernel_rfl)) k1 bel lt1) (trodAll_cons_mk (Below.trod laidOut (by kernel_rfl) (of_decide_eq_true (by kernel_rfl)) k2 bel lt2) trodAll_mk0))), rfl, bel.frame _, fun h => by cases h⟩
theorem over : Rows.storeDamageRow.holds Tryd.pinned (OpenSpec.ofChange Rows.storeDamageSpec) :=
  OpenClaim.holds_of_wide 6 Tryd.f6 rfl rfl rfl rfl rfl rfl rfl ⟨rfl, rfl, rfl, rfl, rfl⟩ rfl rfl rfl rfl rfl (by kernel_rfl) Tryd.func6 (by kernel_rfl)
    (of_decide_eq_true (by kernel_rfl)) (by unfold Func.isWrapper; first | (rw [if_pos (by decide +kernel)]; kernel_rfl) | (rw [if_neg (by decide +kernel)]; exact ⟨rfl, rfl⟩))
    (fun os started H enc _ => lifted os started H enc)
theorem proved : Rows.StoreDamageCardSaid :=
  Claim7.holds_tied_plain_at .later [] [.data] true (true, "dab5baafd3f7e2d3dd590dded3ffba4af860eca88e8101f43347723f7eadb8b9") true
    over (fun _ h => by cases h) (by kernel_rfl) (fun _ h => by cases h) storeDamage_row_tie rfl ⟨rfl, rfl⟩ (by kernel_rfl) rfl
    (fun f fn hf hfn => by
      obtain rfl : f = 6 := Option.some.inj ((show Tryd.prog.funcNamed "accounting/accountinglaw18.StoreDamage" = some 6 by kernel_rfl).symm.trans hf) |>.symm
      obtain rfl : fn = Tryd.f6 := (Option.some.inj (Tryd.func6.symm.trans hfn)).symm
      exact ⟨by kernel_rfl, fun j t ht => by
        rw [Tryd.params6] at ht
        have hm : t ∈ [22, 3, 5] := by simpa using Array.mem_of_getElem? ht
        have hall : ([22, 3, 5].all fun u => !Tryd.prog.wantsStandIn u) = true := by kernel_rfl
        exact (show Tryd.prog.wantsStandIn t = false by simpa using List.all_eq_true.1 hall t hm)⟩)
    (by kernel_rfl)
end Go.Proofs.YtkbheoganajhaaaDoor.storeDamage
namespace Go.Proofs.YtkbheoganajhaaaDoor
theorem storeDamage_holds : Rows.StoreDamageCardSaid := storeDamage.proved
end Go.Proofs.YtkbheoganajhaaaDoor
