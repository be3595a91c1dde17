-- written by xprint.py (a program of this session's, over the kit's print.py). Lean checks it.
import Derived.Test.YtaefaadjncehmaaDoorT0
import Derived.Test.YtaefaadjncehmaaDoorT1
namespace Go.Proofs.YtaefaadjncehmaaDoor.T
open Go.RowKit Go.Proofs.YtaefaadjncehmaaDoorW.PrintWords Go.Proofs.YtaefaadjncehmaaDoorW.PrintLast Go.Proofs.YtaefaadjncehmaaDoorW.PrintMore
attribute [local go_sem] max2_int min2_int max_two min_two max_three min_three max_four min_four   -- for this text's walks alone
set_option linter.unusedVariables false
set_option linter.unusedSimpArgs false

attribute [local go_sem high] eqA26
/-! ### accountingref53_Same: function 4 -/
def accountingref53_Same.l0 : Nat → List (S26) → List (S26) → Int → Option (Bool)
  | 0, _, _, _ => none
  | k + 1, x0, x1, x5 => if x5 < (x0.length : Int) then (if 0 ≤ x5 then (if x5 < (x1.length : Int) then (if (!(((rd_T26 x0 x5).f0) == ((rd_T26 x1 x5).f0)) || (!(((rd_T26 x0 x5).f1) == ((rd_T26 x1 x5).f1)) || (!((((rd_T26 x0 x5).f2).toList) == (((rd_T26 x1 x5).f2).toList))))) = true then (some false) else (accountingref53_Same.l0 k x0 x1 (wrap64 (x5 + 1)))) else (none)) else (none)) else (some true)
def accountingref53_Same.f (k : Nat) (l0 : List (S26)) (l1 : List (S26)) : Option (Bool) := if (l0.length : Int) = (l1.length : Int) then (accountingref53_Same.l0 k l0 l1 0) else (some false)
theorem accountingref53_Same.mono_l : ∀ k, (∀ y0 y1 y2, LeO (accountingref53_Same.l0 k y0 y1 y2) (accountingref53_Same.l0 (k + 1) y0 y1 y2))
  | 0 => fun _ _ _ r h => by simp [accountingref53_Same.l0] at h
  | k + 1 => by
    have ih0 := accountingref53_Same.mono_l k
    · intro y0 y1 y2
      unfold accountingref53_Same.l0
      repeat' first
      | (with_reducible exact ih0 _ _ _)
      | (with_reducible exact LeO.refl _)
      | (with_reducible exact LeO.none _)
      | (with_reducible refine LeO.ite ?_ ?_)
      | (with_reducible refine LeO.bind ?_ (fun _ => ?_))
      | exact ih0 _ _ _
      | exact LeO.none _
      | refine LeO.ite ?_ ?_
      | refine LeO.bind ?_ (fun _ => ?_)
theorem accountingref53_Same.mono : ∀ a0 a1 k, LeO (accountingref53_Same.f k a0 a1) (accountingref53_Same.f (k + 1) a0 a1) := by
  intro a0 a1 k
  have ih0 := accountingref53_Same.mono_l k
  unfold accountingref53_Same.f
  repeat' first
      | (with_reducible exact ih0 _ _ _)
      | (with_reducible exact LeO.refl _)
      | (with_reducible exact LeO.none _)
      | (with_reducible refine LeO.ite ?_ ?_)
      | (with_reducible refine LeO.bind ?_ (fun _ => ?_))
      | exact ih0 _ _ _
      | exact LeO.none _
      | refine LeO.ite ?_ ?_
      | refine LeO.bind ?_ (fun _ => ?_)
set_option maxHeartbeats 8000000 in
set_option maxRecDepth 100000 in
theorem accountingref53_Same.calls (k : Nat) (A0 : Option Addr) (c0 : Nat) (l0 : List (S26)) (A1 : Option Addr) (c1 : Nat) (l1 : List (S26)) (r : Bool) (w : World) (hr0 : Kd.C k26 w A0 l0.length l0) (hc0 : l0.length ≤ c0) (hr1 : Kd.C k26 w A1 l1.length l1) (hc1 : l1.length ≤ c1) (h : accountingref53_Same.f k l0 l1 = some r) :
    Calls Tryd.prog 4 #[.slice A0 l0.length c0, .slice A1 l1.length c1] w fun e w' => e = .returned (.bool r) ∧ Drawn0 w w' := by
  have hu26 := Tryd.underlying26
  have HR0 := Aside0.mk hr0
  have HC0 := Aside0.mk hc0
  clear hr0 hc0
  have HR1 := Aside0.mk hr1
  have HC1 := Aside0.mk hc1
  clear hr1 hc1
  have H : (if (l0.length : Int) = (l1.length : Int) then (accountingref53_Same.l0 k l0 l1 0) else (some false)) = some r := h
  clear h
  by_cases c3 : (l0.length : Int) = (l1.length : Int)
  · rw [if_pos c3] at H
    have c3b0 : ((l0.length : Int) == (l1.length : Int)) = true := beq_iff_eq.mpr c3
    have c3b1 : ((l0.length : Int) != (l1.length : Int)) = false := bne_eq_false_iff_eq.mpr c3
    have c3b2 : (l0.length == l1.length) = true := by first | simpa using c3 | (simp at c3 ⊢; omega)
    clear c3
    have H' := Aside0.mk H
    clear H
    go_enter Tryd.func4, Tryd.ntmps4
    go_wp2
    repeat (go_quiet (fail); try go_wp2)
    go_loopg [5] k (fun kq v5 w' => ∃ (x5_1 : Int), v5 = .int .i64 x5_1 ∧ Aside0 (accountingref53_Same.l0 kq l0 l1 x5_1 = some r) ∧ Aside0 (kq ≤ k) ∧ Drawn0 w w')
    case atStart => exact ⟨(0), (by first | rfl | (simp; done) | (simp [*]; done)), H', ⟨Nat.le_refl _⟩, by repeat (first | exact Drawn0.refl _ | apply Drawn0.step)⟩
    case round =>
      clear H'
      try clear c1
      try clear p2
      try clear c3
      try clear c3b0
      try clear c3b1
      try clear c3b2
      obtain ⟨x5_1, rfl, HA, HK1, ⟨m1, rfl⟩⟩ := hrel
      cases gk with
      | zero => exact absurd HA.out (by simp [accountingref53_Same.l0])
      | succ k1 =>
        have H := HA.out
        clear HA
        simp only [accountingref53_Same.l0] at H
        by_cases c4 : x5_1 < (l0.length : Int)
        · rw [if_pos c4] at H
          have c4b0 : decide (x5_1 < (l0.length : Int)) = true := decide_eq_true c4
          clear c4
          by_cases c5 : 0 ≤ x5_1
          · rw [if_pos c5] at H
            have c5b0 : decide (0 ≤ x5_1) = true := decide_eq_true c5
            clear c5
            by_cases c6 : x5_1 < (l1.length : Int)
            · rw [if_pos c6] at H
              have c6b0 : decide (x5_1 < (l1.length : Int)) = true := decide_eq_true c6
              clear c6
              by_cases c7 : (!(((rd_T26 l0 x5_1).f0) == ((rd_T26 l1 x5_1).f0)) || (!(((rd_T26 l0 x5_1).f1) == ((rd_T26 l1 x5_1).f1)) || (!((((rd_T26 l0 x5_1).f2).toList) == (((rd_T26 l1 x5_1).f2).toList))))) = true
              · rw [if_pos c7] at H
                have c7b0 : (!(((rd_T26 l0 x5_1).f0) == ((rd_T26 l1 x5_1).f0)) || (!(((rd_T26 l0 x5_1).f1) == ((rd_T26 l1 x5_1).f1)) || (!((((rd_T26 l0 x5_1).f2).toList) == (((rd_T26 l1 x5_1).f2).toList))))) = true := c7
                clear c7
                obtain rfl := Option.some.inj H
                have p101 : 0 ≤ (x5_1 : Int) := of_decide_eq_true (by first | (with_reducible assumption) | assumption)
                have q101 : x5_1 < (l0.length : Int) := of_decide_eq_true (by first | (with_reducible assumption) | assumption)
                obtain ⟨ad101, e101, hx101_0, hx101_1, hx101_2⟩ := at_T26 HR0.out x5_1 p101 q101
                cases e101
                replace p101 := eq_true p101
                replace q101 := eq_true q101
                have p102 : 0 ≤ (x5_1 : Int) := of_decide_eq_true (by first | (with_reducible assumption) | assumption)
                have q102 : x5_1 < (l1.length : Int) := of_decide_eq_true (by first | (with_reducible assumption) | assumption)
                obtain ⟨ad102, e102, hx102_0, hx102_1, hx102_2⟩ := at_T26 HR1.out x5_1 p102 q102
                cases e102
                replace p102 := eq_true p102
                replace q102 := eq_true q102
                go_wp2
                repeat (go_quiet (fail); try go_wp2)
                go_ret
                exact ⟨by first | rfl | (simp; done) | (simp [*]; done), by repeat (first | exact Drawn0.refl _ | apply Drawn0.step)⟩
              · rw [if_neg c7] at H
                have c7b0 : (!(((rd_T26 l0 x5_1).f0) == ((rd_T26 l1 x5_1).f0)) || (!(((rd_T26 l0 x5_1).f1) == ((rd_T26 l1 x5_1).f1)) || (!((((rd_T26 l0 x5_1).f2).toList) == (((rd_T26 l1 x5_1).f2).toList))))) = false := by simpa using c7
                clear c7
                have H' := Aside0.mk H
                clear H
                have p101 : 0 ≤ (x5_1 : Int) := of_decide_eq_true (by first | (with_reducible assumption) | assumption)
                have q101 : x5_1 < (l0.length : Int) := of_decide_eq_true (by first | (with_reducible assumption) | assumption)
                obtain ⟨ad101, e101, hx101_0, hx101_1, hx101_2⟩ := at_T26 HR0.out x5_1 p101 q101
                cases e101
                replace p101 := eq_true p101
                replace q101 := eq_true q101
                have p102 : 0 ≤ (x5_1 : Int) := of_decide_eq_true (by first | (with_reducible assumption) | assumption)
                have q102 : x5_1 < (l1.length : Int) := of_decide_eq_true (by first | (with_reducible assumption) | assumption)
                obtain ⟨ad102, e102, hx102_0, hx102_1, hx102_2⟩ := at_T26 HR1.out x5_1 p102 q102
                cases e102
                replace p102 := eq_true p102
                replace q102 := eq_true q102
                go_wp2
                repeat (go_quiet (fail); try go_wp2)
                go_roundg k1
                case measure => have := HK1.out; omega
                case rel => exact ⟨(wrap64 (x5_1 + 1)), (by first | rfl | (simp; done) | (simp [*]; done)), H', ⟨by have := HK1.out; omega⟩, by repeat (first | exact Drawn0.refl _ | apply Drawn0.step)⟩
            · rw [if_neg c6] at H
              exact absurd H (by simp)
          · rw [if_neg c5] at H
            exact absurd H (by simp)
        · rw [if_neg c4] at H
          have c4b0 : decide (x5_1 < (l0.length : Int)) = false := decide_eq_false c4
          clear c4
          obtain rfl := Option.some.inj H
          go_wp2
          repeat (go_quiet (fail); try go_wp2)
          go_ret
          exact ⟨by first | rfl | (simp; done) | (simp [*]; done), by repeat (first | exact Drawn0.refl _ | apply Drawn0.step)⟩
  · rw [if_neg c3] at H
    have c3b0 : ((l0.length : Int) == (l1.length : Int)) = false := beq_eq_false_iff_ne.mpr c3
    have c3b1 : ((l0.length : Int) != (l1.length : Int)) = true := bne_iff_ne.mpr c3
    have c3b2 : (l0.length == l1.length) = false := by first | simpa using c3 | (simp at c3 ⊢; omega)
    obtain rfl := Option.some.inj H
    go_enter Tryd.func4, Tryd.ntmps4
    go_wp2
    repeat (go_quiet (fail); try go_wp2)
    go_ret
    exact ⟨by first | rfl | (simp; done) | (simp [*]; done), by repeat (first | exact Drawn0.refl _ | apply Drawn0.step)⟩

/-! ### audit_Control: function 5 -/
def audit_Control.f (a0 : Int) (a1 : ByteArray) (a2 : Int) (a3 : Int) : Option ((List (S26))) := if a2 = a3 then (some ([] : List (S26))) else (some (([(⟨a0, 0, a1⟩ : S26)] : List (S26))))
set_option maxHeartbeats 8000000 in
set_option maxRecDepth 100000 in
theorem audit_Control.calls (a0 : Int) (a1 : ByteArray) (a2 : Int) (a3 : Int) (r : List (S26)) (w : World) (h : audit_Control.f a0 a1 a2 a3 = some r) :
    Calls Tryd.prog 5 #[.int .i64 a0, .string a1, .int .i64 a2, .int .i64 a3] w fun e w' => ∃ v0_ : Value, e = .returned (v0_) ∧ Kd.R k26 26 w' w.heap.size (fun _ => True) v0_ r ∧ Below w.heap.size w w' := by
  have hu26 := Tryd.underlying26
  have HB := Aside0.mk (Below.refl w.heap.size w)
  have H : (if a2 = a3 then (some ([] : List (S26))) else (some (([(⟨a0, 0, a1⟩ : S26)] : List (S26))))) = some r := h
  clear h
  by_cases c5 : a2 = a3
  · rw [if_pos c5] at H
    have c5b0 : (a2 == a3) = true := beq_iff_eq.mpr c5
    have c5b1 : (a2 != a3) = false := bne_eq_false_iff_eq.mpr c5
    clear c5
    obtain rfl := Option.some.inj H
    go_enter Tryd.func5, Tryd.ntmps5
    go_wp2
    go_ret
    exact ⟨_, by first | rfl | (simp [errW_none, errW_some] <;> rfl) | (simp [*, errW_none, errW_some] <;> rfl), by first | exact Kd.R_nil _ _ _ _ _ | exact Kd.N_nil _ _ _ _ _ | exact Kd.V_nil _ _ _ _ _ | exact Kd.Q_nil _ _ _ _ _ | exact Kd.S_nil _ _ _ _ _, by repeat (first | (with_reducible first | exact HB.out | apply below_alloc | apply pw_below_drewN | apply below_drew1) | exact HB.out)⟩
  · rw [if_neg c5] at H
    have c5b0 : (a2 == a3) = false := beq_eq_false_iff_ne.mpr c5
    have c5b1 : (a2 != a3) = true := bne_iff_ne.mpr c5
    obtain ⟨y103, hy103⟩ : ∃ y_ : List (S26), y_ = (([(⟨a0, 0, a1⟩ : S26)] : List (S26))) := ⟨_, rfl⟩
    replace H : (some y103) = some r := by first | (rw [hy103]; with_reducible exact H) | (have H2_ := (Option.bind_some _ _).symm.trans H; rw [hy103]; with_reducible exact H2_) | (have H2_ := (Option.bind_some _ _).symm.trans H; with_reducible exact H2_) | with_reducible exact H | (rw [hy103]; exact H) | exact H
    have Ny103 := Aside0.mk hy103
    clear hy103
    obtain rfl := Option.some.inj H
    go_enter Tryd.func5, Tryd.ntmps5
    go_wp2_with (first | ((with_reducible refine gate_dst (N := 15) rfl ?_); refine Kd.R_lit k26 _ 26 ?hg (N := 15) ?hd (xs := ([(⟨a0, 0, a1⟩ : S26)] : List (S26))) (inner := [.int .i64 a0, .int .i64 0, .string a1]) (ok := fun _ => True) (okp := fun _ => True) ?hr ?hp (fun _ hk => hk) trivial (Below.refl _ _) (Nat.le_refl _) (by simp) ?_; (case hd => rfl); (case hg => rfl); (case hr => first | (go_simp; done) | (go_simp; rfl)); (case hp => exact (Reps.c3 (show Kd.M k26 _ _ _ (⟨a0, 0, a1⟩ : S26) [.int .i64 a0, .int .i64 0, .string a1] from (k26_mkM _ _ _ (⟨a0, 0, a1⟩ : S26) )) (Reps.none _ _))); intro v104 w6 ho7 hb hg_ hnew_; clear hg_ hnew_; (first | rw [← Ny103.out] at ho7 | (simp only [Int.reduceToNat] at ho7; rw [← Ny103.out] at ho7)); have n0_ := Aside0.mk (Kd.R_lower ho7 (below_size (by repeat (first | (with_reducible first | exact HB.out | apply below_alloc | apply pw_below_drewN | apply below_drew1) | exact HB.out)))); have n1_ := Aside0.mk (below_step (by repeat (first | (with_reducible first | exact HB.out | apply below_alloc | apply pw_below_drewN | apply below_drew1) | exact HB.out)) hb); clear HB; have HO105 := n0_; have HB := n1_; clear n0_ n1_; clear hb ho7))
    go_ret
    exact ⟨_, by first | rfl | (simp [errW_none, errW_some] <;> rfl) | (simp [*, errW_none, errW_some] <;> rfl), by (with_reducible repeat (first | apply Kd.R_alloc | apply Kd.R_drewN | apply Kd.R_drew)); exact HO105.out, by repeat (first | (with_reducible first | exact HB.out | apply below_alloc | apply pw_below_drewN | apply below_drew1) | exact HB.out)⟩

/-! ### accountingref53_Control: function 6 -/
def accountingref53_Control.f (a0 : Int) (a1 : ByteArray) (a2 : Int) (a3 : Int) : Option ((List (S26))) := if a2 = a3 then (some ([] : List (S26))) else (some (([(⟨a0, 0, a1⟩ : S26)] : List (S26))))
set_option maxHeartbeats 8000000 in
set_option maxRecDepth 100000 in
theorem accountingref53_Control.calls (a0 : Int) (a1 : ByteArray) (a2 : Int) (a3 : Int) (r : List (S26)) (w : World) (h : accountingref53_Control.f a0 a1 a2 a3 = some r) :
    Calls Tryd.prog 6 #[.int .i64 a0, .string a1, .int .i64 a2, .int .i64 a3] w fun e w' => ∃ v0_ : Value, e = .returned (v0_) ∧ Kd.R k26 26 w' w.heap.size (fun _ => True) v0_ r ∧ Below w.heap.size w w' := by
  have hu26 := Tryd.underlying26
  have HB := Aside0.mk (Below.refl w.heap.size w)
  have H : (if a2 = a3 then (some ([] : List (S26))) else (some (([(⟨a0, 0, a1⟩ : S26)] : List (S26))))) = some r := h
  clear h
  by_cases c5 : a2 = a3
  · rw [if_pos c5] at H
    have c5b0 : (a2 == a3) = true := beq_iff_eq.mpr c5
    have c5b1 : (a2 != a3) = false := bne_eq_false_iff_eq.mpr c5
    clear c5
    obtain rfl := Option.some.inj H
    go_enter Tryd.func6, Tryd.ntmps6
    go_wp2
    go_ret
    exact ⟨_, by first | rfl | (simp [errW_none, errW_some] <;> rfl) | (simp [*, errW_none, errW_some] <;> rfl), by first | exact Kd.R_nil _ _ _ _ _ | exact Kd.N_nil _ _ _ _ _ | exact Kd.V_nil _ _ _ _ _ | exact Kd.Q_nil _ _ _ _ _ | exact Kd.S_nil _ _ _ _ _, by repeat (first | (with_reducible first | exact HB.out | apply below_alloc | apply pw_below_drewN | apply below_drew1) | exact HB.out)⟩
  · rw [if_neg c5] at H
    have c5b0 : (a2 == a3) = false := beq_eq_false_iff_ne.mpr c5
    have c5b1 : (a2 != a3) = true := bne_iff_ne.mpr c5
    obtain ⟨y106, hy106⟩ : ∃ y_ : List (S26), y_ = (([(⟨a0, 0, a1⟩ : S26)] : List (S26))) := ⟨_, rfl⟩
    replace H : (some y106) = some r := by first | (rw [hy106]; with_reducible exact H) | (have H2_ := (Option.bind_some _ _).symm.trans H; rw [hy106]; with_reducible exact H2_) | (have H2_ := (Option.bind_some _ _).symm.trans H; with_reducible exact H2_) | with_reducible exact H | (rw [hy106]; exact H) | exact H
    have Ny106 := Aside0.mk hy106
    clear hy106
    obtain rfl := Option.some.inj H
    go_enter Tryd.func6, Tryd.ntmps6
    go_wp2_with (first | ((with_reducible refine gate_dst (N := 15) rfl ?_); refine Kd.R_lit k26 _ 26 ?hg (N := 15) ?hd (xs := ([(⟨a0, 0, a1⟩ : S26)] : List (S26))) (inner := [.int .i64 a0, .int .i64 0, .string a1]) (ok := fun _ => True) (okp := fun _ => True) ?hr ?hp (fun _ hk => hk) trivial (Below.refl _ _) (Nat.le_refl _) (by simp) ?_; (case hd => rfl); (case hg => rfl); (case hr => first | (go_simp; done) | (go_simp; rfl)); (case hp => exact (Reps.c3 (show Kd.M k26 _ _ _ (⟨a0, 0, a1⟩ : S26) [.int .i64 a0, .int .i64 0, .string a1] from (k26_mkM _ _ _ (⟨a0, 0, a1⟩ : S26) )) (Reps.none _ _))); intro v107 w6 ho7 hb hg_ hnew_; clear hg_ hnew_; (first | rw [← Ny106.out] at ho7 | (simp only [Int.reduceToNat] at ho7; rw [← Ny106.out] at ho7)); have n0_ := Aside0.mk (Kd.R_lower ho7 (below_size (by repeat (first | (with_reducible first | exact HB.out | apply below_alloc | apply pw_below_drewN | apply below_drew1) | exact HB.out)))); have n1_ := Aside0.mk (below_step (by repeat (first | (with_reducible first | exact HB.out | apply below_alloc | apply pw_below_drewN | apply below_drew1) | exact HB.out)) hb); clear HB; have HO108 := n0_; have HB := n1_; clear n0_ n1_; clear hb ho7))
    go_ret
    exact ⟨_, by first | rfl | (simp [errW_none, errW_some] <;> rfl) | (simp [*, errW_none, errW_some] <;> rfl), by (with_reducible repeat (first | apply Kd.R_alloc | apply Kd.R_drewN | apply Kd.R_drew)); exact HO108.out, by repeat (first | (with_reducible first | exact HB.out | apply below_alloc | apply pw_below_drewN | apply below_drew1) | exact HB.out)⟩

/-! ### num_size: function 13 -/
def num_size.f (a0 : Int) : Option (Int) := if a0 < 0 then (some (IntKind.u64.wrap (-(IntKind.u64.wrap (a0))))) else (some (IntKind.u64.wrap (a0)))
set_option maxHeartbeats 8000000 in
set_option maxRecDepth 100000 in
theorem num_size.calls (a0 : Int) (r : Int) (w : World) (h : num_size.f a0 = some r) :
    Calls Tryd.prog 13 #[.int .i64 a0] w fun e w' => e = .returned (.int .u64 r) ∧ Drawn0 w w' := by
  have H : (if a0 < 0 then (some (IntKind.u64.wrap (-(IntKind.u64.wrap (a0))))) else (some (IntKind.u64.wrap (a0)))) = some r := h
  clear h
  by_cases c2 : a0 < 0
  · rw [if_pos c2] at H
    have c2b0 : decide (a0 < 0) = true := decide_eq_true c2
    clear c2
    obtain rfl := Option.some.inj H
    go_enter Tryd.func13, Tryd.ntmps13
    go_wp2
    go_ret
    exact ⟨by first | rfl | (simp; done) | (simp [*]; done), by repeat (first | exact Drawn0.refl _ | apply Drawn0.step)⟩
  · rw [if_neg c2] at H
    have c2b0 : decide (a0 < 0) = false := decide_eq_false c2
    clear c2
    obtain rfl := Option.some.inj H
    go_enter Tryd.func13, Tryd.ntmps13
    go_wp2
    go_ret
    exact ⟨by first | rfl | (simp; done) | (simp [*]; done), by repeat (first | exact Drawn0.refl _ | apply Drawn0.step)⟩

/-! ### num_Text: function 10 -/
def digL : Nat → Int → List Int → List Int
  | 0, _, acc => acc
  | f + 1, x, acc => if x / 10 = 0 then (48 + x % 10) :: acc else digL f (x / 10) ((48 + x % 10) :: acc)
def numL (n x : Int) : List Int := if n < 0 then 45 :: digL 19 x [] else digL 19 x []
def num_Text.f (a0 : Int) : Option (ByteArray) := (num_size.f a0).bind fun x => if 0 ≤ x ∧ x < 18446744073709551616 then some (strOfNums (numL a0 x)) else none
def rowV (acc : List Int) : Array Value := (List.replicate (20 - acc.length) (Value.int .u8 0) ++ acc.map (Value.int .u8)).toArray
theorem rowV_set (acc : List Int) (q : Nat) (c : Int) (h : q + 1 + acc.length = 20) : (rowV acc).setIfInBounds q (.int .u8 c) = rowV (c :: acc) := by
  unfold rowV
  rw [List.setIfInBounds_toArray, show 20 - acc.length = q + 1 by omega, show 20 - (c :: acc).length = q by simp; omega, List.replicate_succ']
  congr 1
  rw [List.append_assoc, List.set_append_right _ _ (by simp), List.length_replicate, Nat.sub_self]
  rfl
/-- The block of the array, of which the last places are written. -/
structure ArrAt (w wr : World) (acc : List Int) : Prop where
  below : Below w.heap.size w wr
  row : wr.heap[w.heap.size]? = some (.cells (rowV acc) 32 (0, 0))
theorem ArrAt.cell {w wr : World} {acc : List Int} (h : ArrAt w wr acc) (j : Nat) (hj : j < (rowV acc).size) : wr.cell? ⟨w.heap.size, j, none⟩ = some ((rowV acc)[j]'hj) := by
  simp [World.cell?, h.row, hj]
theorem rowV_size (acc : List Int) (h : acc.length ≤ 20) : (rowV acc).size = 20 := by unfold rowV; simp; omega
theorem ArrAt.put {w wr : World} {acc : List Int} (h : ArrAt w wr acc) {q : Nat} (c : Int) (hq : q + 1 + acc.length = 20) : ArrAt w (wr.setCell ⟨w.heap.size, q, none⟩ (.int .u8 c)) (c :: acc) :=
  ⟨below_set h.below (Nat.le_refl _), by rw [heap_setCell_same wr w.heap.size q _ _ _ h.row, rowV_set acc q c hq]⟩
theorem ArrAt.text {w wr : World} {acc : List Int} (h : ArrAt w wr acc) {m : Nat} (hm : m + acc.length = 20) :
    (convert 35 9 (.slice (some ⟨w.heap.size, m, none⟩) (20 - m) (20 - m))).run Tryd.prog wr = .ok (.string (strOfNums acc)) wr := by
  refine run_convert_bytes_arg wr 35 5 Tryd.underlying35 Tryd.underlying5 w.heap.size m (20 - m) (20 - m) acc (by omega) (fun i hi => ?_) 9 Tryd.underlying9
  have hs := rowV_size acc (by omega)
  rw [h.cell (m + i) (by omega)]
  unfold rowV
  have hi' : i < acc.length := by omega
  rw [List.getD_eq_getElem?_getD, List.getElem?_eq_getElem hi', Option.getD_some]
  have e : (List.replicate (20 - acc.length) (Value.int .u8 0) ++ acc.map (Value.int .u8))[m + i]? = some (Value.int .u8 acc[i]) := by
    rw [List.getElem?_append_right (by simp; omega), List.length_replicate, show m + i - (20 - acc.length) = i by omega, List.getElem?_map, List.getElem?_eq_getElem hi']
    rfl
  rw [← e]
  simp
set_option maxHeartbeats 4000000 in
set_option maxRecDepth 100000 in
theorem num_Text.calls (a0 : Int) (r : ByteArray) (w : World) (h : num_Text.f a0 = some r) :
    Calls Tryd.prog 10 #[.int .i64 a0] w fun e w' => e = .returned (.string r) ∧ Below w.heap.size w w' := by
  obtain ⟨x, hx, h⟩ := Option.bind_eq_some_iff.mp h
  by_cases hb : 0 ≤ x ∧ x < 18446744073709551616
  · rw [if_pos hb] at h
    obtain rfl := Option.some.inj h
    clear h
    obtain ⟨hb0, hb1⟩ := hb
    have HX := Aside0.mk hx
    clear hx
    go_enter Tryd.func10, Tryd.ntmps10
    go_wp2_with (go_at_call 13; refine (num_size.calls a0 x _ HX.out).mono ?_; rintro e w' ⟨rfl, ⟨nd, rfl⟩⟩)
    go_loopw [4, 5, 8] (fun v4 v5 v8 w' => ∃ (m : Nat) (left : Int) (acc : List Int), v4 = .int .i64 m ∧ v5 = .int .u64 left ∧ v8 = .int .i64 (acc.length : Int) ∧ m + acc.length = 20 ∧ acc.length ≤ 19 ∧ 0 ≤ left ∧ left < 18446744073709551616 ∧ Aside0 (ArrAt w w' acc) ∧ Aside0 (digL (19 - acc.length) left acc = digL 19 x [])) (fun _ _ v8 _ => 19 - (intOf v8).toNat)
    case atStart => exact ⟨20, x, [], rfl, rfl, rfl, rfl, by simp, hb0, hb1, ⟨pw_below_drewN (below_alloc (Below.refl _ _) _) _, heap_alloc_new w _⟩, ⟨rfl⟩⟩
    case round =>
      obtain ⟨m, left, acc, rfl, rfl, rfl, hm, hl, h3, h6, HA, HD⟩ := hrel
      by_cases hlt : acc.length < 19
      · have hd : decide ((acc.length : Int) < 19) = true := decide_eq_true (by omega)
        obtain ⟨q, rfl⟩ : ∃ q, m = q + 1 := ⟨m - 1, by omega⟩
        have hq : ((q + 1 : Nat) : Int) - 1 = (q : Int) := by omega
        have h1 : (0 : Int) ≤ q := by omega
        have h2 : (q : Int) < 20 := by omega
        have hcv := HA.out.cell q (by rw [rowV_size acc (by omega)]; omega)
        have hfz := frozen_of_row _ _ q _ _ HA.out.row
        have ht : Int.tmod left 10 = left % 10 := Int.tmod_eq_emod_of_nonneg h3
        have h4 : 0 ≤ left % 10 := by omega
        have h5 : left % 10 < 10 := by omega
        have htd : IntKind.u64.wrap (Int.tdiv left 10) = left / 10 := by
          rw [Int.tdiv_eq_ediv_of_nonneg h3, IntKind.wrap_u64]; omega
        have HA2 : Aside0 (ArrAt w (wr.setCell ⟨w.heap.size, q, none⟩ (.int .u8 (48 + left % 10))) ((48 + left % 10) :: acc)) := ⟨HA.out.put _ hm⟩
        have HD2 : Aside0 ((if left / 10 = 0 then (48 + left % 10) :: acc else digL (18 - acc.length) (left / 10) ((48 + left % 10) :: acc)) = digL 19 x []) := ⟨by
          have := HD.out
          rw [show 19 - acc.length = (18 - acc.length) + 1 by omega] at this
          exact this⟩
        clear HA HD
        by_cases hz : left / 10 = 0
        · have hz1 : (left / 10 == 0) = true := by rw [hz]; rfl
          have HE : Aside0 ((48 + left % 10) :: acc = digL 19 x []) := ⟨by have := HD2.out; rwa [if_pos hz] at this⟩
          clear HD2 hz
          have hct := HA2.out.text (m := q) (by simp; omega)
          cases hn : decide (a0 < 0) with
          | true =>
            obtain ⟨p, rfl⟩ : ∃ p, q = p + 1 := ⟨q - 1, by omega⟩
            have hp : ((p + 1 : Nat) : Int) - 1 = (p : Int) := by omega
            have hp1 : (0 : Int) ≤ p := by omega
            have hp2 : (p : Int) < 20 := by omega
            have hp3 : (p : Int) ≤ 20 := by omega
            have hcv2 := HA2.out.cell p (by rw [rowV_size _ (by simp; omega)]; omega)
            have hfz2 := frozen_of_row _ _ p _ _ HA2.out.row
            have HA3 : Aside0 _ := ⟨HA2.out.put (q := p) 45 (by simp; omega)⟩
            have hct := HA3.out.text (m := p) (by simp; omega)
            clear HA2
            go_wp2
            go_ret
            exact ⟨by rw [numL, if_pos (of_decide_eq_true hn), ← HE.out]; rfl, HA3.out.below⟩
          | false =>
            have h7 : (q : Int) ≤ 20 := by omega
            go_wp2
            go_ret
            exact ⟨by rw [numL, if_neg (of_decide_eq_false hn), ← HE.out]; rfl, HA2.out.below⟩
        · have hz1 : (left / 10 == 0) = false := by simpa using hz
          have HE : Aside0 (digL (18 - acc.length) (left / 10) ((48 + left % 10) :: acc) = digL 19 x []) := ⟨by have := HD2.out; rwa [if_neg hz] at this⟩
          clear HD2 hz
          go_wp2
          go_round
          case rel => exact ⟨q, left / 10, (48 + left % 10) :: acc, rfl, rfl, by simp, by simp; omega, by simp; omega, by omega, by omega, HA2, ⟨by have := HE.out; rwa [show 19 - ((48 + left % 10) :: acc).length = 18 - acc.length by simp only [List.length_cons]; omega]⟩⟩
          case measure => simp [intOf]; omega
      · have hd : decide ((acc.length : Int) < 19) = false := decide_eq_false (by omega)
        have HE : Aside0 (acc = digL 19 x []) := ⟨by have := HD.out; rwa [show 19 - acc.length = 0 by omega] at this⟩
        have hct := HA.out.text (m := m) (by omega)
        clear HD
        cases hn : decide (a0 < 0) with
        | true =>
          obtain ⟨p, rfl⟩ : ∃ p, m = p + 1 := ⟨m - 1, by omega⟩
          have hp : ((p + 1 : Nat) : Int) - 1 = (p : Int) := by omega
          have hp1 : (0 : Int) ≤ p := by omega
          have hp2 : (p : Int) < 20 := by omega
          have hp3 : (p : Int) ≤ 20 := by omega
          have hcv2 := HA.out.cell p (by rw [rowV_size _ (by omega)]; omega)
          have hfz2 := frozen_of_row _ _ p _ _ HA.out.row
          have HA3 : Aside0 _ := ⟨HA.out.put (q := p) 45 (by omega)⟩
          have hct := HA3.out.text (m := p) (by simp; omega)
          clear HA
          go_wp2
          go_ret
          exact ⟨by rw [numL, if_pos (of_decide_eq_true hn), ← HE.out]; rfl, HA3.out.below⟩
        | false =>
          have h7 : (m : Int) ≤ 20 := by omega
          go_wp2
          go_ret
          exact ⟨by rw [numL, if_neg (of_decide_eq_false hn), ← HE.out]; rfl, HA.out.below⟩
  · rw [if_neg hb] at h; cases h

/-! ### audit_Text: function 7 -/
def noteS (k : Int) : ByteArray := if 0 < k ∧ k < 10 then notesT.getD k.toNat ⟨#[]⟩ else ⟨#[63]⟩
/-- A finding's line; t: the number's notation. -/
def lineS (x : S26) (t : ByteArray) : ByteArray := (noteS x.f0 ++ (⟨#[32]⟩ : ByteArray)) ++ t
def tailS (x : S26) (s : ByteArray) : ByteArray := if x.f2.toList = [] then s else s ++ ((⟨#[32]⟩ : ByteArray) ++ x.f2)
def textG : List S26 → ByteArray → Option ByteArray
  | [], s => some s
  | x :: r, s => (num_Text.f x.f1).bind fun t => if s.size + t.size + x.f2.size ≤ 9223372036854700000 then textG r (tailS x (s ++ lineS x t) ++ (⟨#[10]⟩ : ByteArray)) else none
def audit_Text.f (l0 : List S26) : Option (ByteArray) := textG l0 ⟨#[]⟩
theorem noteS_size (k : Int) : (noteS k).size ≤ 8 := by
  unfold noteS
  split
  · rename_i h
    obtain ⟨n, rfl⟩ := Int.eq_ofNat_of_zero_le (show 0 ≤ k by omega)
    have : ∀ n : Nat, n < 10 → (notesT.getD n ⟨#[]⟩).size ≤ 8 := by decide
    exact this n (by omega)
  · decide
theorem Gl.note {w : World} (h : Gl w) (k : Int) (h0 : 0 < k) (h1 : k < 10) : w.cell? ⟨0, k.toNat, none⟩ = some (.string (noteS k)) := by
  obtain ⟨n, rfl⟩ := Int.eq_ofNat_of_zero_le (show 0 ≤ k by omega)
  rw [noteS, if_pos ⟨h0, h1⟩, Int.toNat_natCast]
  refine h n _ ?_
  have : ∀ n : Nat, n < 10 → notesT[n]? = some (notesT.getD n ⟨#[]⟩) := by decide
  exact this n (by omega)
theorem cell_below {w w' : World} (hb : Below w.heap.size w w') {a : Addr} {v : Value} (h : w.cell? a = some v) : w'.cell? a = some v := by
  have h2 := hb.block a.block (block_lt_of_cell h)
  rw [← h]
  simp only [World.cell?, h2]
theorem less_ {n i : Nat} {j : Int} (h : j = ((i + 1 : Nat) : Int)) (hl : i < n) : n - (intOf (.int .i64 j)).toNat < n - (intOf (.int .i64 (i : Int))).toNat := by
  subst h
  show n - ((i + 1 : Nat) : Int).toNat < n - (i : Int).toNat
  rw [Int.toNat_natCast, Int.toNat_natCast]
  omega
set_option maxHeartbeats 8000000 in
set_option maxRecDepth 100000 in
theorem audit_Text.calls (A0 : Option Addr) (c0 : Nat) (l0 : List S26) (r : ByteArray) (w : World) (hr0 : Kd.C k26 w A0 l0.length l0) (hc0 : l0.length ≤ c0) (h : audit_Text.f l0 = some r) (hG : Gl w) :
    Calls Tryd.prog 7 #[.slice A0 l0.length c0] w fun e w' => e = .returned (.string r) ∧ Below w.heap.size w w' := by
  have HR := Aside0.mk hr0
  have HC := Aside0.mk hc0
  have HH := Aside0.mk h
  have HG := Aside0.mk hG
  clear hr0 hc0 h hG
  go_enter Tryd.func7, Tryd.ntmps7
  go_wp2
  go_loopw [2, 8] (fun v2 v8 w' => ∃ (s : ByteArray) (i : Nat), v2 = .string s ∧ v8 = .int .i64 i ∧ i ≤ l0.length ∧ Aside0 (textG (l0.drop i) s = some r) ∧ Aside0 (Below w.heap.size w w')) (fun _ v8 _ => l0.length - (intOf v8).toNat)
  case atStart => exact ⟨_, 0, rfl, rfl, by omega, HH, ⟨Below.refl _ _⟩⟩
  case round =>
    obtain ⟨s, i, rfl, rfl, hi, HS, HB⟩ := hrel
    by_cases hlt : i < l0.length
    · have hd : decide ((i : Int) < (l0.length : Int)) = true := decide_eq_true (by omega)
      have HL := Aside0.mk hlt
      have hw : wrap64 ((i : Int) + 1) = ((i + 1 : Nat) : Int) := by
        have : l0.length ≤ 9223372036854775807 := HR.out.2.1
        unfold wrap64; omega
      have HW := Aside0.mk hw
      clear hw
      have hx0 : (0 : Int) ≤ i := by omega
      have hx1 : (i : Int) < (l0.length : Int) := by omega
      have e1 : rd_T26 l0 i = l0[i] := by unfold rd_T26; simp [List.getD_eq_getElem?_getD, List.getElem?_eq_getElem hlt]
      have HS1 : Aside0 (textG (l0[i] :: l0.drop (i + 1)) s = some r) := ⟨by rw [← List.drop_eq_getElem_cons hlt]; exact HS.out⟩
      rw [← e1] at HS1
      obtain ⟨ad, ea, hc1, hc2, hc3⟩ := at_T26 (Kd.C_below HR.out HB.out) (i : Int) hx0 (by omega)
      cases ea
      rw [Int.toNat_natCast] at hc1 hc2 hc3
      generalize rd_T26 l0 i = x at *
      obtain ⟨t, ht, hs⟩ := Option.bind_eq_some_iff.mp HS1.out
      have HT := Aside0.mk ht
      clear ht HS1 HS e1
      by_cases hsz : s.size + t.size + x.f2.size ≤ 9223372036854700000
      · rw [if_pos hsz] at hs
        have HN := Aside0.mk hs
        clear hs
        have hsw := noteS_size x.f0
        have htab := fun (o : Obj) (k0 : 0 < x.f0) (k1 : x.f0 < 10) => ((HG.out.below HB.out).below (below_alloc (Below.refl _ _) o)).note x.f0 k0 k1
        have g1 : (9223372036854775807 < (noteS x.f0).size + 1) = False := eq_false (by omega)
        have g2 : (9223372036854775807 < (noteS x.f0).size + 1 + t.size) = False := eq_false (by omega)
        have g3 : (9223372036854775807 < s.size + ((noteS x.f0).size + 1 + t.size)) = False := eq_false (by omega)
        have g4 : (9223372036854775807 < 1 + x.f2.size) = False := eq_false (by omega)
        have g5 : (9223372036854775807 < s.size + ((noteS x.f0).size + 1 + t.size) + (1 + x.f2.size)) = False := eq_false (by omega)
        have g6 : (9223372036854775807 < s.size + ((noteS x.f0).size + 1 + t.size) + (1 + x.f2.size) + 1) = False := eq_false (by omega)
        have g7 : (9223372036854775807 < s.size + ((noteS x.f0).size + 1 + t.size) + 1) = False := eq_false (by omega)
        cases k0 : decide (0 < x.f0) with
        | true =>
          cases k1 : decide (x.f0 < 10) with
          | true =>
            have hk0 : 0 < x.f0 := of_decide_eq_true k0
            have hk1 : x.f0 < 10 := of_decide_eq_true k1
            have hk2 : 0 ≤ x.f0 := by omega
            replace htab := fun o => htab o hk0 hk1
            cases he : (x.f2.toList == ([] : List UInt8)) with
            | true =>
              have HN2 : Aside0 (textG (l0.drop (i + 1)) ((s ++ ((noteS x.f0 ++ (⟨#[32]⟩ : ByteArray)) ++ t)) ++ (⟨#[10]⟩ : ByteArray)) = some r) := ⟨by have := HN.out; rwa [tailS, if_pos (by simpa using he), lineS] at this⟩
              go_wp2_with (go_at_call 10; refine (num_Text.calls x.f1 t _ HT.out).mono ?_; rintro e w2 ⟨rfl, hb⟩; have hcv := fun j v (h : (wr.alloc (Obj.cells #[.int .i64 x.f0, .int .i64 x.f1, .string x.f2] 26)).cell? ⟨wr.heap.size, j, none⟩ = some v) => cell_below hb h; have hcv2 := hcv 2 (.string x.f2) (World.cell?_alloc_at _ _ _ _ rfl); clear hcv; have HB2 := Aside0.mk (below_step (below_alloc HB.out _) hb); clear hb)
              go_round
              case rel => exact ⟨_, i + 1, rfl, by rw [← HW.out], by have := HL.out; omega, HN2, HB2⟩
              case measure => exact less_ HW.out HL.out
            | false =>
              have HN2 : Aside0 (textG (l0.drop (i + 1)) (((s ++ ((noteS x.f0 ++ (⟨#[32]⟩ : ByteArray)) ++ t)) ++ ((⟨#[32]⟩ : ByteArray) ++ x.f2)) ++ (⟨#[10]⟩ : ByteArray)) = some r) := ⟨by have := HN.out; rwa [tailS, if_neg (by simpa using he), lineS] at this⟩
              go_wp2_with (go_at_call 10; refine (num_Text.calls x.f1 t _ HT.out).mono ?_; rintro e w2 ⟨rfl, hb⟩; have hcv := fun j v (h : (wr.alloc (Obj.cells #[.int .i64 x.f0, .int .i64 x.f1, .string x.f2] 26)).cell? ⟨wr.heap.size, j, none⟩ = some v) => cell_below hb h; have hcv2 := hcv 2 (.string x.f2) (World.cell?_alloc_at _ _ _ _ rfl); clear hcv; have HB2 := Aside0.mk (below_step (below_alloc HB.out _) hb); clear hb)
              go_round
              case rel => exact ⟨_, i + 1, rfl, by rw [← HW.out], by have := HL.out; omega, HN2, HB2⟩
              case measure => exact less_ HW.out HL.out
          | false =>
            have hn : noteS x.f0 = (⟨#[63]⟩ : ByteArray) := by rw [noteS, if_neg (by have := of_decide_eq_false k1; omega)]
            have e63 : (⟨#[63]⟩ : ByteArray).size = 1 := rfl
            have f2 : (9223372036854775807 < 1 + 1 + t.size) = False := eq_false (by omega)
            have f3 : (9223372036854775807 < s.size + (1 + 1 + t.size)) = False := eq_false (by omega)
            have f5 : (9223372036854775807 < s.size + (1 + 1 + t.size) + (1 + x.f2.size)) = False := eq_false (by omega)
            have f6 : (9223372036854775807 < s.size + (1 + 1 + t.size) + (1 + x.f2.size) + 1) = False := eq_false (by omega)
            have f7 : (9223372036854775807 < s.size + (1 + 1 + t.size) + 1) = False := eq_false (by omega)
            clear g1 g2 g3 g5 g6 g7 htab
            cases he : (x.f2.toList == ([] : List UInt8)) with
            | true =>
              have HN2 : Aside0 (textG (l0.drop (i + 1)) ((s ++ (((⟨#[63]⟩ : ByteArray) ++ (⟨#[32]⟩ : ByteArray)) ++ t)) ++ (⟨#[10]⟩ : ByteArray)) = some r) := ⟨by have := HN.out; rwa [tailS, if_pos (by simpa using he), lineS, hn] at this⟩
              go_wp2_with (go_at_call 10; refine (num_Text.calls x.f1 t _ HT.out).mono ?_; rintro e w2 ⟨rfl, hb⟩; have hcv := fun j v (h : (wr.alloc (Obj.cells #[.int .i64 x.f0, .int .i64 x.f1, .string x.f2] 26)).cell? ⟨wr.heap.size, j, none⟩ = some v) => cell_below hb h; have hcv2 := hcv 2 (.string x.f2) (World.cell?_alloc_at _ _ _ _ rfl); clear hcv; have HB2 := Aside0.mk (below_step (below_alloc HB.out _) hb); clear hb)
              go_round
              case rel => exact ⟨_, i + 1, rfl, by rw [← HW.out], by have := HL.out; omega, HN2, HB2⟩
              case measure => exact less_ HW.out HL.out
            | false =>
              have HN2 : Aside0 (textG (l0.drop (i + 1)) (((s ++ (((⟨#[63]⟩ : ByteArray) ++ (⟨#[32]⟩ : ByteArray)) ++ t)) ++ ((⟨#[32]⟩ : ByteArray) ++ x.f2)) ++ (⟨#[10]⟩ : ByteArray)) = some r) := ⟨by have := HN.out; rwa [tailS, if_neg (by simpa using he), lineS, hn] at this⟩
              go_wp2_with (go_at_call 10; refine (num_Text.calls x.f1 t _ HT.out).mono ?_; rintro e w2 ⟨rfl, hb⟩; have hcv := fun j v (h : (wr.alloc (Obj.cells #[.int .i64 x.f0, .int .i64 x.f1, .string x.f2] 26)).cell? ⟨wr.heap.size, j, none⟩ = some v) => cell_below hb h; have hcv2 := hcv 2 (.string x.f2) (World.cell?_alloc_at _ _ _ _ rfl); clear hcv; have HB2 := Aside0.mk (below_step (below_alloc HB.out _) hb); clear hb)
              go_round
              case rel => exact ⟨_, i + 1, rfl, by rw [← HW.out], by have := HL.out; omega, HN2, HB2⟩
              case measure => exact less_ HW.out HL.out
        | false =>
          cases k1 : decide (x.f0 < 10) with
          | true =>
            have hn : noteS x.f0 = (⟨#[63]⟩ : ByteArray) := by rw [noteS, if_neg (by have := of_decide_eq_false k0; omega)]
            have e63 : (⟨#[63]⟩ : ByteArray).size = 1 := rfl
            have f2 : (9223372036854775807 < 1 + 1 + t.size) = False := eq_false (by omega)
            have f3 : (9223372036854775807 < s.size + (1 + 1 + t.size)) = False := eq_false (by omega)
            have f5 : (9223372036854775807 < s.size + (1 + 1 + t.size) + (1 + x.f2.size)) = False := eq_false (by omega)
            have f6 : (9223372036854775807 < s.size + (1 + 1 + t.size) + (1 + x.f2.size) + 1) = False := eq_false (by omega)
            have f7 : (9223372036854775807 < s.size + (1 + 1 + t.size) + 1) = False := eq_false (by omega)
            clear g1 g2 g3 g5 g6 g7 htab
            cases he : (x.f2.toList == ([] : List UInt8)) with
            | true =>
              have HN2 : Aside0 (textG (l0.drop (i + 1)) ((s ++ (((⟨#[63]⟩ : ByteArray) ++ (⟨#[32]⟩ : ByteArray)) ++ t)) ++ (⟨#[10]⟩ : ByteArray)) = some r) := ⟨by have := HN.out; rwa [tailS, if_pos (by simpa using he), lineS, hn] at this⟩
              go_wp2_with (go_at_call 10; refine (num_Text.calls x.f1 t _ HT.out).mono ?_; rintro e w2 ⟨rfl, hb⟩; have hcv := fun j v (h : (wr.alloc (Obj.cells #[.int .i64 x.f0, .int .i64 x.f1, .string x.f2] 26)).cell? ⟨wr.heap.size, j, none⟩ = some v) => cell_below hb h; have hcv2 := hcv 2 (.string x.f2) (World.cell?_alloc_at _ _ _ _ rfl); clear hcv; have HB2 := Aside0.mk (below_step (below_alloc HB.out _) hb); clear hb)
              go_round
              case rel => exact ⟨_, i + 1, rfl, by rw [← HW.out], by have := HL.out; omega, HN2, HB2⟩
              case measure => exact less_ HW.out HL.out
            | false =>
              have HN2 : Aside0 (textG (l0.drop (i + 1)) (((s ++ (((⟨#[63]⟩ : ByteArray) ++ (⟨#[32]⟩ : ByteArray)) ++ t)) ++ ((⟨#[32]⟩ : ByteArray) ++ x.f2)) ++ (⟨#[10]⟩ : ByteArray)) = some r) := ⟨by have := HN.out; rwa [tailS, if_neg (by simpa using he), lineS, hn] at this⟩
              go_wp2_with (go_at_call 10; refine (num_Text.calls x.f1 t _ HT.out).mono ?_; rintro e w2 ⟨rfl, hb⟩; have hcv := fun j v (h : (wr.alloc (Obj.cells #[.int .i64 x.f0, .int .i64 x.f1, .string x.f2] 26)).cell? ⟨wr.heap.size, j, none⟩ = some v) => cell_below hb h; have hcv2 := hcv 2 (.string x.f2) (World.cell?_alloc_at _ _ _ _ rfl); clear hcv; have HB2 := Aside0.mk (below_step (below_alloc HB.out _) hb); clear hb)
              go_round
              case rel => exact ⟨_, i + 1, rfl, by rw [← HW.out], by have := HL.out; omega, HN2, HB2⟩
              case measure => exact less_ HW.out HL.out
          | false =>
            have hn : noteS x.f0 = (⟨#[63]⟩ : ByteArray) := by rw [noteS, if_neg (by have := of_decide_eq_false k0; omega)]
            have e63 : (⟨#[63]⟩ : ByteArray).size = 1 := rfl
            have f2 : (9223372036854775807 < 1 + 1 + t.size) = False := eq_false (by omega)
            have f3 : (9223372036854775807 < s.size + (1 + 1 + t.size)) = False := eq_false (by omega)
            have f5 : (9223372036854775807 < s.size + (1 + 1 + t.size) + (1 + x.f2.size)) = False := eq_false (by omega)
            have f6 : (9223372036854775807 < s.size + (1 + 1 + t.size) + (1 + x.f2.size) + 1) = False := eq_false (by omega)
            have f7 : (9223372036854775807 < s.size + (1 + 1 + t.size) + 1) = False := eq_false (by omega)
            clear g1 g2 g3 g5 g6 g7 htab
            cases he : (x.f2.toList == ([] : List UInt8)) with
            | true =>
              have HN2 : Aside0 (textG (l0.drop (i + 1)) ((s ++ (((⟨#[63]⟩ : ByteArray) ++ (⟨#[32]⟩ : ByteArray)) ++ t)) ++ (⟨#[10]⟩ : ByteArray)) = some r) := ⟨by have := HN.out; rwa [tailS, if_pos (by simpa using he), lineS, hn] at this⟩
              go_wp2_with (go_at_call 10; refine (num_Text.calls x.f1 t _ HT.out).mono ?_; rintro e w2 ⟨rfl, hb⟩; have hcv := fun j v (h : (wr.alloc (Obj.cells #[.int .i64 x.f0, .int .i64 x.f1, .string x.f2] 26)).cell? ⟨wr.heap.size, j, none⟩ = some v) => cell_below hb h; have hcv2 := hcv 2 (.string x.f2) (World.cell?_alloc_at _ _ _ _ rfl); clear hcv; have HB2 := Aside0.mk (below_step (below_alloc HB.out _) hb); clear hb)
              go_round
              case rel => exact ⟨_, i + 1, rfl, by rw [← HW.out], by have := HL.out; omega, HN2, HB2⟩
              case measure => exact less_ HW.out HL.out
            | false =>
              have HN2 : Aside0 (textG (l0.drop (i + 1)) (((s ++ (((⟨#[63]⟩ : ByteArray) ++ (⟨#[32]⟩ : ByteArray)) ++ t)) ++ ((⟨#[32]⟩ : ByteArray) ++ x.f2)) ++ (⟨#[10]⟩ : ByteArray)) = some r) := ⟨by have := HN.out; rwa [tailS, if_neg (by simpa using he), lineS, hn] at this⟩
              go_wp2_with (go_at_call 10; refine (num_Text.calls x.f1 t _ HT.out).mono ?_; rintro e w2 ⟨rfl, hb⟩; have hcv := fun j v (h : (wr.alloc (Obj.cells #[.int .i64 x.f0, .int .i64 x.f1, .string x.f2] 26)).cell? ⟨wr.heap.size, j, none⟩ = some v) => cell_below hb h; have hcv2 := hcv 2 (.string x.f2) (World.cell?_alloc_at _ _ _ _ rfl); clear hcv; have HB2 := Aside0.mk (below_step (below_alloc HB.out _) hb); clear hb)
              go_round
              case rel => exact ⟨_, i + 1, rfl, by rw [← HW.out], by have := HL.out; omega, HN2, HB2⟩
              case measure => exact less_ HW.out HL.out
      · rw [if_neg hsz] at hs; cases hs
    · have hd : decide ((i : Int) < (l0.length : Int)) = false := decide_eq_false (by omega)
      have HS1 : Aside0 (s = r) := ⟨by have := HS.out; rw [List.drop_eq_nil_of_le (by omega)] at this; exact Option.some.inj this⟩
      clear HS
      go_wp2
      go_ret
      exact ⟨by rw [← HS1.out]; rfl, HB.out⟩

/-! ### accountingref53_word: function 11 -/
def accountingref53_word.f (a0 : Int) : Option (ByteArray) := if a0 = 1 then (some (⟨#[101, 110, 116, 114, 121]⟩ : ByteArray)) else (if a0 = 2 then (some (⟨#[111, 114, 100, 101, 114]⟩ : ByteArray)) else (if a0 = 3 then (some (⟨#[114, 101, 118, 101, 114, 115, 101]⟩ : ByteArray)) else (if a0 = 4 then (some (⟨#[112, 101, 114, 105, 111, 100]⟩ : ByteArray)) else (if a0 = 5 then (some (⟨#[98, 97, 108, 97, 110, 99, 101]⟩ : ByteArray)) else (if a0 = 6 then (some (⟨#[99, 111, 110, 116, 114, 111, 108]⟩ : ByteArray)) else (if a0 = 7 then (some (⟨#[115, 116, 111, 99, 107]⟩ : ByteArray)) else (if a0 = 8 then (some (⟨#[97, 115, 115, 101, 116]⟩ : ByteArray)) else (if a0 = 9 then (some (⟨#[108, 111, 103]⟩ : ByteArray)) else (some (⟨#[63]⟩ : ByteArray))))))))))
set_option maxHeartbeats 8000000 in
set_option maxRecDepth 100000 in
theorem accountingref53_word.calls (a0 : Int) (r : ByteArray) (w : World) (h : accountingref53_word.f a0 = some r) :
    Calls Tryd.prog 11 #[.int .i64 a0] w fun e w' => e = .returned (.string r) ∧ Drawn0 w w' := by
  have H : (if a0 = 1 then (some (⟨#[101, 110, 116, 114, 121]⟩ : ByteArray)) else (if a0 = 2 then (some (⟨#[111, 114, 100, 101, 114]⟩ : ByteArray)) else (if a0 = 3 then (some (⟨#[114, 101, 118, 101, 114, 115, 101]⟩ : ByteArray)) else (if a0 = 4 then (some (⟨#[112, 101, 114, 105, 111, 100]⟩ : ByteArray)) else (if a0 = 5 then (some (⟨#[98, 97, 108, 97, 110, 99, 101]⟩ : ByteArray)) else (if a0 = 6 then (some (⟨#[99, 111, 110, 116, 114, 111, 108]⟩ : ByteArray)) else (if a0 = 7 then (some (⟨#[115, 116, 111, 99, 107]⟩ : ByteArray)) else (if a0 = 8 then (some (⟨#[97, 115, 115, 101, 116]⟩ : ByteArray)) else (if a0 = 9 then (some (⟨#[108, 111, 103]⟩ : ByteArray)) else (some (⟨#[63]⟩ : ByteArray))))))))))) = some r := h
  clear h
  by_cases c2 : a0 = 1
  · rw [if_pos c2] at H
    have c2b0 : (a0 == 1) = true := beq_iff_eq.mpr c2
    have c2b1 : (a0 != 1) = false := bne_eq_false_iff_eq.mpr c2
    clear c2
    obtain rfl := Option.some.inj H
    go_enter Tryd.func11, Tryd.ntmps11
    go_wp2
    go_ret
    exact ⟨by first | rfl | (simp; done) | (simp [*]; done), by repeat (first | exact Drawn0.refl _ | apply Drawn0.step)⟩
  · rw [if_neg c2] at H
    have c2b0 : (a0 == 1) = false := beq_eq_false_iff_ne.mpr c2
    have c2b1 : (a0 != 1) = true := bne_iff_ne.mpr c2
    by_cases c3 : a0 = 2
    · rw [if_pos c3] at H
      have c3b0 : (a0 == 2) = true := beq_iff_eq.mpr c3
      have c3b1 : (a0 != 2) = false := bne_eq_false_iff_eq.mpr c3
      clear c3
      obtain rfl := Option.some.inj H
      go_enter Tryd.func11, Tryd.ntmps11
      go_wp2
      go_ret
      exact ⟨by first | rfl | (simp; done) | (simp [*]; done), by repeat (first | exact Drawn0.refl _ | apply Drawn0.step)⟩
    · rw [if_neg c3] at H
      have c3b0 : (a0 == 2) = false := beq_eq_false_iff_ne.mpr c3
      have c3b1 : (a0 != 2) = true := bne_iff_ne.mpr c3
      by_cases c4 : a0 = 3
      · rw [if_pos c4] at H
        have c4b0 : (a0 == 3) = true := beq_iff_eq.mpr c4
        have c4b1 : (a0 != 3) = false := bne_eq_false_iff_eq.mpr c4
        clear c4
        obtain rfl := Option.some.inj H
        go_enter Tryd.func11, Tryd.ntmps11
        go_wp2
        go_ret
        exact ⟨by first | rfl | (simp; done) | (simp [*]; done), by repeat (first | exact Drawn0.refl _ | apply Drawn0.step)⟩
      · rw [if_neg c4] at H
        have c4b0 : (a0 == 3) = false := beq_eq_false_iff_ne.mpr c4
        have c4b1 : (a0 != 3) = true := bne_iff_ne.mpr c4
        by_cases c5 : a0 = 4
        · rw [if_pos c5] at H
          have c5b0 : (a0 == 4) = true := beq_iff_eq.mpr c5
          have c5b1 : (a0 != 4) = false := bne_eq_false_iff_eq.mpr c5
          clear c5
          obtain rfl := Option.some.inj H
          go_enter Tryd.func11, Tryd.ntmps11
          go_wp2
          go_ret
          exact ⟨by first | rfl | (simp; done) | (simp [*]; done), by repeat (first | exact Drawn0.refl _ | apply Drawn0.step)⟩
        · rw [if_neg c5] at H
          have c5b0 : (a0 == 4) = false := beq_eq_false_iff_ne.mpr c5
          have c5b1 : (a0 != 4) = true := bne_iff_ne.mpr c5
          by_cases c6 : a0 = 5
          · rw [if_pos c6] at H
            have c6b0 : (a0 == 5) = true := beq_iff_eq.mpr c6
            have c6b1 : (a0 != 5) = false := bne_eq_false_iff_eq.mpr c6
            clear c6
            obtain rfl := Option.some.inj H
            go_enter Tryd.func11, Tryd.ntmps11
            go_wp2
            go_ret
            exact ⟨by first | rfl | (simp; done) | (simp [*]; done), by repeat (first | exact Drawn0.refl _ | apply Drawn0.step)⟩
          · rw [if_neg c6] at H
            have c6b0 : (a0 == 5) = false := beq_eq_false_iff_ne.mpr c6
            have c6b1 : (a0 != 5) = true := bne_iff_ne.mpr c6
            by_cases c7 : a0 = 6
            · rw [if_pos c7] at H
              have c7b0 : (a0 == 6) = true := beq_iff_eq.mpr c7
              have c7b1 : (a0 != 6) = false := bne_eq_false_iff_eq.mpr c7
              clear c7
              obtain rfl := Option.some.inj H
              go_enter Tryd.func11, Tryd.ntmps11
              go_wp2
              go_ret
              exact ⟨by first | rfl | (simp; done) | (simp [*]; done), by repeat (first | exact Drawn0.refl _ | apply Drawn0.step)⟩
            · rw [if_neg c7] at H
              have c7b0 : (a0 == 6) = false := beq_eq_false_iff_ne.mpr c7
              have c7b1 : (a0 != 6) = true := bne_iff_ne.mpr c7
              by_cases c8 : a0 = 7
              · rw [if_pos c8] at H
                have c8b0 : (a0 == 7) = true := beq_iff_eq.mpr c8
                have c8b1 : (a0 != 7) = false := bne_eq_false_iff_eq.mpr c8
                clear c8
                obtain rfl := Option.some.inj H
                go_enter Tryd.func11, Tryd.ntmps11
                go_wp2
                go_ret
                exact ⟨by first | rfl | (simp; done) | (simp [*]; done), by repeat (first | exact Drawn0.refl _ | apply Drawn0.step)⟩
              · rw [if_neg c8] at H
                have c8b0 : (a0 == 7) = false := beq_eq_false_iff_ne.mpr c8
                have c8b1 : (a0 != 7) = true := bne_iff_ne.mpr c8
                by_cases c9 : a0 = 8
                · rw [if_pos c9] at H
                  have c9b0 : (a0 == 8) = true := beq_iff_eq.mpr c9
                  have c9b1 : (a0 != 8) = false := bne_eq_false_iff_eq.mpr c9
                  clear c9
                  obtain rfl := Option.some.inj H
                  go_enter Tryd.func11, Tryd.ntmps11
                  go_wp2
                  go_ret
                  exact ⟨by first | rfl | (simp; done) | (simp [*]; done), by repeat (first | exact Drawn0.refl _ | apply Drawn0.step)⟩
                · rw [if_neg c9] at H
                  have c9b0 : (a0 == 8) = false := beq_eq_false_iff_ne.mpr c9
                  have c9b1 : (a0 != 8) = true := bne_iff_ne.mpr c9
                  by_cases c10 : a0 = 9
                  · rw [if_pos c10] at H
                    have c10b0 : (a0 == 9) = true := beq_iff_eq.mpr c10
                    have c10b1 : (a0 != 9) = false := bne_eq_false_iff_eq.mpr c10
                    clear c10
                    obtain rfl := Option.some.inj H
                    go_enter Tryd.func11, Tryd.ntmps11
                    go_wp2
                    go_ret
                    exact ⟨by first | rfl | (simp; done) | (simp [*]; done), by repeat (first | exact Drawn0.refl _ | apply Drawn0.step)⟩
                  · rw [if_neg c10] at H
                    have c10b0 : (a0 == 9) = false := beq_eq_false_iff_ne.mpr c10
                    have c10b1 : (a0 != 9) = true := bne_iff_ne.mpr c10
                    obtain rfl := Option.some.inj H
                    go_enter Tryd.func11, Tryd.ntmps11
                    go_wp2
                    go_ret
                    exact ⟨by first | rfl | (simp; done) | (simp [*]; done), by repeat (first | exact Drawn0.refl _ | apply Drawn0.step)⟩

end Go.Proofs.YtaefaadjncehmaaDoor.T
