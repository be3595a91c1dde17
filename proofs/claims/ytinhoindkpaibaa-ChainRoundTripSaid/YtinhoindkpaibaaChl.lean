/- The laws of the chain of checksums, over data alone: Next, All, Check against the reference; Check finds a wrong checksum. -/
import Derived.Test.YtinhoindkpaibaaChp
import Derived.Test.YtinhoindkpaibaaXSt
namespace Go.Proofs.Ytinhoindkpaibaa.Pure
open Go.RowKit Go.Proofs.Ytinhoindkpaibaa.X Go.Proofs.YtinhoindkpaibaaW.PrintWords Go.Proofs.YtinhoindkpaibaaW.PrintLast

theorem lives_bind : Ev (fun k => (accountinglaw14_lives.f k).bind fun t => some t) true := Ev.bind lives_ev (Ev.now _)

theorem ChainNextReference : accountinglaw14_ChainNextReference.Said := by
  intro h l _ hl
  obtain ⟨hl, _⟩ := hl
  have hm : l.length ≤ 9223372036854775807 := hl
  refine Ev.rounds (?_ : Ev (fun k => accountinglaw14_ChainNextReference.f k h l) true)
  unfold accountinglaw14_ChainNextReference.f
  by_cases hb : (l.length : Int) > 2000
  · simp only [if_pos hb]; exact lives_bind
  · simp only [if_neg hb, Option.bind_some, List.length_nil, Nat.zero_add, if_pos (show l.length < 140737488355328 by omega), List.nil_append]
    refine Ev.bind (next_ev h l hm) (Ev.bind (rnext_ev h l hm) ?_)
    simp only [if_true]
    exact lives_bind

theorem ChainAllReference : accountinglaw14_ChainAllReference.Said := by
  intro l _
  refine Ev.rounds (?_ : Ev (fun k => accountinglaw14_ChainAllReference.f k l) true)
  unfold accountinglaw14_ChainAllReference.f
  refine Ev.bind (large_ev l) ?_
  cases hL : largeS l with
  | true => simp only [if_true]; exact lives_bind
  | false =>
    obtain ⟨h1, h2⟩ := largeS_no hL
    have hb : ∀ b ∈ l, b.length ≤ 9223372036854775807 := fun b hb => by have := h2 b hb; omega
    simp only [Bool.false_eq_true, if_false]
    refine Ev.bind (all_ev l (by omega) hb) (Ev.bind (rall_ev l (by omega) hb) (Ev.bind (same_ev _ (by rw [allS_length]; omega)) ?_))
    simp only [if_true]
    exact lives_bind

theorem ChainCheckReference : accountinglaw14_ChainCheckReference.Said := by
  intro l s _ _
  refine Ev.rounds (?_ : Ev (fun k => accountinglaw14_ChainCheckReference.f k l s) true)
  have hj : Ev (fun k => accountinglaw14_ChainCheckReference.j0 k l s true) true :=
    Ev.step (fun k => by simp only [accountinglaw14_ChainCheckReference.j0, if_true]) lives_bind
  unfold accountinglaw14_ChainCheckReference.f
  refine Ev.bind (large_ev l) ?_
  cases hL : largeS l with
  | true => simp only [if_true]; exact hj
  | false =>
    obtain ⟨h1, h2⟩ := largeS_no hL
    have hb : ∀ b ∈ l, b.length ≤ 9223372036854775807 := fun b hb => by have := h2 b hb; omega
    simp only [Bool.false_eq_true, if_false]
    cases decide ((s.length : Int) > 60) with
    | true => exact hj
    | false =>
      refine Ev.step (f := fun k => (chain_Check.f k l s).bind fun a => (accountingref14_Check.f k l s).bind fun b => if a = b then (accountinglaw14_lives.f k).bind fun t => some t else some false) (fun k => by simp only [accountinglaw14_ChainCheckReference.j0, Bool.false_eq_true, if_false]) ?_
      refine Ev.bind (check_ev l s (by omega) hb) (Ev.bind (rcheck_ev l s (by omega) hb) ?_)
      simp only [if_true]
      exact lives_bind

theorem chk_same (r : List Int) (i : Nat) : chk r r i = -1 := by
  induction r generalizing i with
  | nil => rfl
  | cons c r ih => simp [chk, ih]
theorem chk_more (r : List Int) (x : Int) (i : Nat) : chk r (r ++ [x]) i = (i + r.length : Nat) := by
  induction r generalizing i with
  | nil => rfl
  | cons c r ih => simp [chk, ih]; omega
theorem chk_set (r : List Int) (x : Int) (i : Nat) : ∀ n, n < r.length → r[n]? ≠ some x → chk r (r.set n x) i = (i + n : Nat) := by
  induction r generalizing i with
  | nil => intro n h; simp at h
  | cons c r ih =>
    intro n h hx
    cases n with
    | zero =>
      have : ¬ x = c := fun e => hx (by simp [e])
      simp [chk, this]
    | succ n =>
      simp only [List.set_cons_succ, chk, if_true]
      rw [ih (i + 1) n (by simpa using h) (by simpa using hx)]
      omega
theorem chk_take (r : List Int) (i : Nat) : ∀ n, n < r.length → chk r (r.take n) i = (i + n : Nat) := by
  induction r generalizing i with
  | nil => intro n h; simp at h
  | cons c r ih =>
    intro n h
    cases n with
    | zero => rfl
    | succ n =>
      simp only [List.take_succ_cons, chk, if_true]
      rw [ih (i + 1) n (by simpa using h)]
      omega

theorem ChainWrongSum : accountinglaw14_ChainWrongSum.Said := by
  intro l at_ x _ _ _
  refine Ev.rounds (?_ : Ev (fun k => accountinglaw14_ChainWrongSum.f k l at_ x) true)
  unfold accountinglaw14_ChainWrongSum.f
  refine Ev.bind (large_ev l) ?_
  cases hL : largeS l with
  | true => simp only [if_true]; exact lives_bind
  | false =>
    obtain ⟨h1, h2⟩ := largeS_no hL
    have hb : ∀ b ∈ l, b.length ≤ 9223372036854775807 := fun b hb => by have := h2 b hb; omega
    simp only [Bool.false_eq_true, if_false]
    refine Ev.bind (all_ev l (by omega) hb) ?_
    have hn : (allS start l).length = l.length := allS_length _ _
    generalize hr : allS start l = r at *
    have hck := fun s => hr ▸ check_ev l s (by omega) hb
    simp only [if_pos (show (r.length : Int) = (l.length : Int) by omega)]
    refine Ev.bind (hck r) ?_
    rw [chk_same]
    simp only [if_true, Option.bind_some, List.length_nil, Nat.zero_add, if_pos (show r.length < 17592186044416 by omega), List.nil_append]
    refine Ev.bind (hck _) ?_
    rw [chk_more, show (((0 + r.length : Nat) : Int) != (l.length : Int)) = false by rw [bne_eq_false_iff_eq]; omega]
    have hj : Ev (fun k => accountinglaw14_ChainWrongSum.j1 k l at_ x r true) true :=
      Ev.step (fun k => by simp only [accountinglaw14_ChainWrongSum.j1, if_true]) lives_bind
    by_cases c1 : at_ < 0
    · exact Ev.step (fun k => by simp only [accountinglaw14_ChainWrongSum.j0, Bool.false_eq_true, if_false, if_pos c1]) hj
    by_cases c2 : at_ ≥ (l.length : Int)
    · exact Ev.step (fun k => by simp only [accountinglaw14_ChainWrongSum.j0, Bool.false_eq_true, if_false, if_neg c1, if_pos c2]) hj
    refine Ev.step (f := fun k => accountinglaw14_ChainWrongSum.j1 k l at_ x r (rd r at_ == x)) (fun k => by simp only [accountinglaw14_ChainWrongSum.j0, Bool.false_eq_true, if_false, if_neg c1, if_neg c2, if_pos (show 0 ≤ at_ by omega), if_pos (show at_ < (r.length : Int) by omega)]) ?_
    cases c3 : (rd r at_ == x) with
    | true => exact hj
    | false =>
      obtain ⟨n, rfl⟩ := Int.eq_ofNat_of_zero_le (show 0 ≤ at_ by omega)
      have hnl : n < r.length := by omega
      have hne : r[n]? ≠ some x := fun e => by rw [rd_some e] at c3; simp at c3
      refine Ev.step (f := fun k => (chain_Check.f k l (r.set n x)).bind fun t270 => (if t270 = (n : Int) then ((chain_Check.f k l (r.take n)).bind fun t275 => (if t275 = (n : Int) then ((accountinglaw14_lives.f k).bind fun t276 => (some t276)) else (some false))) else (some false))) (fun k => ?_) ?_
      · simp only [accountinglaw14_ChainWrongSum.j1, Bool.false_eq_true, if_false, Option.bind_some, List.length_nil, Nat.zero_add, if_pos (show r.length < 17592186044416 by omega), List.nil_append, if_pos (show 0 ≤ (n : Int) by omega), if_pos (show (n : Int) < (r.length : Int) by omega), if_pos (show (n : Int) ≤ (r.length : Int) by omega), Int.toNat_natCast]
      · refine Ev.bind (hck _) ?_
        rw [chk_set r x 0 n hnl hne, Nat.zero_add]
        simp only [if_true]
        refine Ev.bind (hck _) ?_
        rw [chk_take r 0 n hnl, Nat.zero_add]
        simp only [if_true]
        exact lives_bind
end Go.Proofs.Ytinhoindkpaibaa.Pure
