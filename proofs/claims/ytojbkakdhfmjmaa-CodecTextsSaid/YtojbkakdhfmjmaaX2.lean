-- written by xprint.py (a program of this session's, over the kit's print.py). Lean checks it.
import Derived.Test.YtojbkakdhfmjmaaX0
import Derived.Test.YtojbkakdhfmjmaaX1
namespace Go.Proofs.Ytojbkakdhfmjmaa.X
open Go.RowKit Go.Proofs.YtojbkakdhfmjmaaW.PrintWords Go.Proofs.YtojbkakdhfmjmaaW.PrintLast Go.Proofs.YtojbkakdhfmjmaaW.PrintMore
attribute [local go_sem] max2_int min2_int max_two min_two max_three min_three max_four min_four   -- for this text's walks alone
set_option linter.unusedVariables false
set_option linter.unusedSimpArgs false

/-! ### codec_TakeText: function 14 -/
def codec_TakeText.j0 : Nat → List Int → Int → Int → Bool → Option (ByteArray × Int × Int)
  | 0, _, _, _, _ => none
  | k + 1, x0, x5, x6, x17 => if x17 = true then (some ((⟨#[]⟩ : ByteArray), 0, 9)) else (if (wrap64 ((x0.length : Int) - x6)) < x5 then (some ((⟨#[]⟩ : ByteArray), 0, 6)) else (if 0 ≤ x6 then (if x6 ≤ (wrap64 (x6 + x5)) then (if (wrap64 (x6 + x5)) ≤ (x0.length : Int) then ((words_Plain.f (strOfNums ((x0.take ((wrap64 (x6 + x5)) : Int).toNat).drop (x6 : Int).toNat))).bind fun t125 => (if t125 = true then (some (strOfNums ((x0.take ((wrap64 (x6 + x5)) : Int).toNat).drop (x6 : Int).toNat), wrap64 (x6 + x5), 0)) else (some ((⟨#[]⟩ : ByteArray), 0, 5)))) else (none)) else (none)) else (none)))
def codec_TakeText.f (k : Nat) (l0 : List Int) : Option (ByteArray × Int × Int) := (codec_TakeInt.f k l0).bind fun bt121 => (if bt121.2.2 = 0 then (if bt121.1 < 0 then (codec_TakeText.j0 k l0 bt121.1 bt121.2.1 true) else (codec_TakeText.j0 k l0 bt121.1 bt121.2.1 (decide (bt121.1 > 60)))) else (some ((⟨#[]⟩ : ByteArray), 0, bt121.2.2)))
theorem codec_TakeText.mono_l : ∀ k, (∀ y0 y1 y2 y3, LeO (codec_TakeText.j0 k y0 y1 y2 y3) (codec_TakeText.j0 (k + 1) y0 y1 y2 y3))
  | 0 => fun _ _ _ _ r h => by simp [codec_TakeText.j0] at h
  | k + 1 => by
    have ih0 := codec_TakeText.mono_l k
    · intro y0 y1 y2 y3
      unfold codec_TakeText.j0
      repeat' first
      | (with_reducible exact ih0 _ _ _ _)
      | (with_reducible exact codec_TakeInt.mono _ _)
      | (with_reducible exact LeO.refl _)
      | (with_reducible exact LeO.none _)
      | (with_reducible refine LeO.ite ?_ ?_)
      | (with_reducible refine LeO.bind ?_ (fun _ => ?_))
      | exact ih0 _ _ _ _
      | exact codec_TakeInt.mono _ _
      | exact LeO.none _
      | refine LeO.ite ?_ ?_
      | refine LeO.bind ?_ (fun _ => ?_)
theorem codec_TakeText.mono : ∀ a0 k, LeO (codec_TakeText.f k a0) (codec_TakeText.f (k + 1) a0) := by
  intro a0 k
  have ih0 := codec_TakeText.mono_l k
  unfold codec_TakeText.f
  repeat' first
      | (with_reducible exact ih0 _ _ _ _)
      | (with_reducible exact codec_TakeInt.mono _ _)
      | (with_reducible exact LeO.refl _)
      | (with_reducible exact LeO.none _)
      | (with_reducible refine LeO.ite ?_ ?_)
      | (with_reducible refine LeO.bind ?_ (fun _ => ?_))
      | exact ih0 _ _ _ _
      | exact codec_TakeInt.mono _ _
      | exact LeO.none _
      | refine LeO.ite ?_ ?_
      | refine LeO.bind ?_ (fun _ => ?_)
set_option maxHeartbeats 8000000 in
set_option maxRecDepth 100000 in
theorem codec_TakeText.calls (k : Nat) (A0 : Option Addr) (c0 : Nat) (l0 : List Int) (r1 : ByteArray) (r2 : Int) (r3 : Int) (w : World) (hr0 : Kd.C (Kd.int .u8) w A0 l0.length l0) (hc0 : l0.length ≤ c0) (h : codec_TakeText.f k l0 = some (r1, r2, r3)) :
    Calls Try.prog 14 #[.slice A0 l0.length c0] w fun e w' => e = .returned (.tuple #[.string r1, .int .i64 r2, .int .i64 r3]) ∧ Drawn0 w w' := by
  have HR0 := Aside0.mk hr0
  have HC0 := Aside0.mk hc0
  clear hr0 hc0
  have H : ((codec_TakeInt.f k l0).bind fun bt121 => (if bt121.2.2 = 0 then (if bt121.1 < 0 then (codec_TakeText.j0 k l0 bt121.1 bt121.2.1 true) else (codec_TakeText.j0 k l0 bt121.1 bt121.2.1 (decide (bt121.1 > 60)))) else (some ((⟨#[]⟩ : ByteArray), 0, bt121.2.2)))) = some (r1, r2, r3) := h
  clear h
  replace H := Option.bind_eq_some_iff.mp H
  obtain ⟨⟨t121, t122, t123⟩, A20, H⟩ := H
  replace H : (if t123 = 0 then (if t121 < 0 then (codec_TakeText.j0 k l0 t121 t122 true) else (codec_TakeText.j0 k l0 t121 t122 (decide (t121 > 60)))) else (some ((⟨#[]⟩ : ByteArray), 0, t123))) = some (r1, r2, r3) := H
  have A2 := Aside0.mk A20
  clear A20
  by_cases c3 : t123 = 0
  · rw [if_pos c3] at H
    have c3b0 : (t123 == 0) = true := beq_iff_eq.mpr c3
    have c3b1 : (t123 != 0) = false := bne_eq_false_iff_eq.mpr c3
    clear c3
    have HC4 := Aside0.mk H
    clear H
    go_enter Try.func14, Try.ntmps14
    go_upto_region 4 with (first | ((with_reducible refine gate_callee (f := 8) rfl ?_); refine goesL_ (some 9) rfl rfl Try.func8 (by kernel_rfl) rfl #[.slice A0 l0.length c0] rfl (by (try simp only [List.map_toArray, List.map_cons, List.map_nil]); first | done | rfl | (simp only [List.length_drop, List.length_take]; rfl)) ?_; (with_reducible refine (codec_TakeInt.calls k _ _ l0 t121 t122 t123 _ ?side1 ?side2 A2.out).mono ?_); (case side1 => repeat (first | exact HR0.out | (with_reducible refine Kd.C_alloc ?_ _) | (with_reducible refine Kd.C_drewN ?_ _) | (with_reducible refine Kd.C_drew ?_))); (case side2 => exact HC0.out); rintro e w' ⟨rfl, ⟨nd, rfl⟩⟩; refine ⟨_, rfl, ?_⟩))
    (try simp only [Act.put, List.setIfInBounds_toArray, List.set_cons_zero, List.set_cons_succ])
    go_cut [17] (fun v17 wc => ∃ (kq : Nat) (x17_3 : Bool), v17 = .bool x17_3 ∧ Aside0 (codec_TakeText.j0 kq l0 t121 t122 x17_3 = some (r1, r2, r3)) ∧ Aside0 (kq ≤ k) ∧ Drawn0 w wc)
    case first =>
      have H := HC4.out
      clear HC4
      by_cases c5 : t121 < 0
      · rw [if_pos c5] at H
        have c5b0 : decide (t121 < 0) = true := decide_eq_true c5
        clear c5
        (first | rw [c5b0] | (simp only [i64_w, i32_w]; rw [c5b0]) | skip)
        have H' := Aside0.mk H
        clear H
        go_wp2
        go_meet
        case rel => exact ⟨_, (true), (by first | rfl | (simp; done) | (simp [*]; done)), H', ⟨by first | omega | exact Nat.le_refl _⟩, by repeat (first | exact Drawn0.refl _ | apply Drawn0.step)⟩
      · rw [if_neg c5] at H
        have c5b0 : decide (t121 < 0) = false := decide_eq_false c5
        clear c5
        (first | rw [c5b0] | (simp only [i64_w, i32_w]; rw [c5b0]) | skip)
        have H' := Aside0.mk H
        clear H
        go_wp2
        go_meet
        case rel => exact ⟨_, (decide (t121 > 60)), (by first | rfl | (simp; done) | (simp [*]; done)), H', ⟨by first | omega | exact Nat.le_refl _⟩, by repeat (first | exact Drawn0.refl _ | apply Drawn0.step)⟩
    case rest =>
      clear HC4
      try clear c1
      try clear p2
      try clear c3
      try clear c3b0
      try clear c3b1
      try clear c5
      try clear c5b0
      obtain ⟨kq, x17_3, rfl, HA, HJ3, ⟨mc3, rfl⟩⟩ := hcut
      cases kq with
      | zero => exact absurd HA.out (by simp [codec_TakeText.j0])
      | succ kj3 =>
        have H := HA.out
        clear HA
        simp only [codec_TakeText.j0] at H
        by_cases c6 : x17_3 = true
        · subst c6
          have H1 : (some ((⟨#[]⟩ : ByteArray), 0, 9)) = some (r1, r2, r3) := by rw [if_pos rfl] at H; exact H
          clear H
          have H := H1
          clear H1
          simp only [Option.some.injEq, Prod.mk.injEq] at H
          obtain ⟨rfl, rfl, rfl⟩ := H
          go_wp2
          go_ret3
          exact ⟨by first | rfl | (simp; done) | (simp [*]; done), by repeat (first | exact Drawn0.refl _ | apply Drawn0.step)⟩
        · replace c6 := Bool.eq_false_iff.mpr c6
          subst c6
          have H1 : (if (wrap64 ((l0.length : Int) - t122)) < t121 then (some ((⟨#[]⟩ : ByteArray), 0, 6)) else (if 0 ≤ t122 then (if t122 ≤ (wrap64 (t122 + t121)) then (if (wrap64 (t122 + t121)) ≤ (l0.length : Int) then ((words_Plain.f (strOfNums ((l0.take ((wrap64 (t122 + t121)) : Int).toNat).drop (t122 : Int).toNat))).bind fun t125 => (if t125 = true then (some (strOfNums ((l0.take ((wrap64 (t122 + t121)) : Int).toNat).drop (t122 : Int).toNat), wrap64 (t122 + t121), 0)) else (some ((⟨#[]⟩ : ByteArray), 0, 5)))) else (none)) else (none)) else (none))) = some (r1, r2, r3) := by rw [if_neg (show ¬ (false = true) by decide)] at H; exact H
          clear H
          have H := H1
          clear H1
          by_cases c7 : (wrap64 ((l0.length : Int) - t122)) < t121
          · rw [if_pos c7] at H
            have c7b0 : decide ((wrap64 ((l0.length : Int) - t122)) < t121) = true := decide_eq_true c7
            clear c7
            simp only [Option.some.injEq, Prod.mk.injEq] at H
            obtain ⟨rfl, rfl, rfl⟩ := H
            go_wp2
            go_ret3
            exact ⟨by first | rfl | (simp; done) | (simp [*]; done), by repeat (first | exact Drawn0.refl _ | apply Drawn0.step)⟩
          · rw [if_neg c7] at H
            have c7b0 : decide ((wrap64 ((l0.length : Int) - t122)) < t121) = false := decide_eq_false c7
            clear c7
            by_cases c8 : 0 ≤ t122
            · rw [if_pos c8] at H
              have c8b0 := eq_true c8
              have c8b1 : decide (0 ≤ t122) = true := decide_eq_true c8
              clear c8
              by_cases c9 : t122 ≤ (wrap64 (t122 + t121))
              · rw [if_pos c9] at H
                have c9b0 := eq_true c9
                have c9b1 : decide (t122 ≤ (wrap64 (t122 + t121))) = true := decide_eq_true c9
                by_cases c10 : (wrap64 (t122 + t121)) ≤ (l0.length : Int)
                · rw [if_pos c10] at H
                  have c10b0 := eq_true c10
                  have c10b1 : decide ((wrap64 (t122 + t121)) ≤ (l0.length : Int)) = true := decide_eq_true c10
                  replace H := Option.bind_eq_some_iff.mp H
                  obtain ⟨t125, A110, H⟩ := H
                  replace H : (if t125 = true then (some (strOfNums ((l0.take ((wrap64 (t122 + t121)) : Int).toNat).drop (t122 : Int).toNat), wrap64 (t122 + t121), 0)) else (some ((⟨#[]⟩ : ByteArray), 0, 5))) = some (r1, r2, r3) := H
                  have A11 := Aside0.mk A110
                  clear A110
                  by_cases c12 : t125 = true
                  · subst c12
                    have H1 : (some (strOfNums ((l0.take ((wrap64 (t122 + t121)) : Int).toNat).drop (t122 : Int).toNat), wrap64 (t122 + t121), 0)) = some (r1, r2, r3) := by rw [if_pos rfl] at H; exact H
                    clear H
                    have H := H1
                    clear H1
                    simp only [Option.some.injEq, Prod.mk.injEq] at H
                    obtain ⟨rfl, rfl, rfl⟩ := H
                    obtain ⟨i013, hi013, _, hsz13, _⟩ := info_parts info5
                    obtain ⟨A13, hcut13, hA13, hC13⟩ := print_mid_of (P := Try.prog) (Value.int .u8) 0 22 5 .i64 .i64 Try.underlying22 hi013 hsz13 A0 c0 l0 t122 (wrap64 (t122 + t121)) (of_decide_eq_true (by first | (with_reducible assumption) | assumption)) (by first | omega | exact of_decide_eq_true (by first | (with_reducible assumption) | assumption)) (of_decide_eq_true (by first | (with_reducible assumption) | assumption)) HC0.out
                    have HR124 := Aside0.mk (Kd.C_of_reads (h1 := fun _ => rfl) (hA13 _ (Kd.reads_of_C HR0.out)))
                    have HC124 := Aside0.mk hC13
                    clear hA13 hC13 hi013 hsz13
                    have hcv14 := Kd.C_string (P := Try.prog) (A := A13) (c := (c0 - t122.toNat)) Try.underlying22 Try.underlying5 Try.underlying9 (HR124.out)
                    have hcv15 := fun m_ : Nat => Kd.C_string (P := Try.prog) (A := A13) (c := (c0 - t122.toNat)) Try.underlying22 Try.underlying5 Try.underlying9 (Kd.C_drewN (HR124.out) m_)
                    (try (have hl_ : ((l0.take ((wrap64 (t122 + t121)) : Int).toNat).drop (t122 : Int).toNat).length = ((wrap64 (t122 + t121)) : Int).toNat - (t122 : Int).toNat := by simp only [List.length_drop, List.length_take]; omega); have hcv14e := hcv14; simp only [hl_] at hcv14e; have hcv15e := hcv15; simp only [hl_] at hcv15e; clear hl_)
                    go_wp2_with (first | ((with_reducible refine gate_callee (f := 16) rfl ?_); refine goesL_ (some 39) rfl rfl Try.func16 (by kernel_rfl) rfl #[.string (strOfNums ((l0.take ((wrap64 (t122 + t121)) : Int).toNat).drop (t122 : Int).toNat))] rfl (by (try simp only [List.map_toArray, List.map_cons, List.map_nil]); first | done | rfl | (simp only [List.length_drop, List.length_take]; rfl)) ?_; (with_reducible refine (words_Plain.calls (strOfNums ((l0.take ((wrap64 (t122 + t121)) : Int).toNat).drop (t122 : Int).toNat)) true _ A11.out).mono ?_); rintro e w' ⟨rfl, ⟨nd, rfl⟩⟩; refine ⟨_, rfl, ?_⟩))
                    go_ret3
                    exact ⟨by first | rfl | (simp; done) | (simp [*]; done), by repeat (first | exact Drawn0.refl _ | apply Drawn0.step)⟩
                  · replace c12 := Bool.eq_false_iff.mpr c12
                    subst c12
                    have H1 : (some ((⟨#[]⟩ : ByteArray), 0, 5)) = some (r1, r2, r3) := by rw [if_neg (show ¬ (false = true) by decide)] at H; exact H
                    clear H
                    have H := H1
                    clear H1
                    simp only [Option.some.injEq, Prod.mk.injEq] at H
                    obtain ⟨rfl, rfl, rfl⟩ := H
                    obtain ⟨i016, hi016, _, hsz16, _⟩ := info_parts info5
                    obtain ⟨A16, hcut16, hA16, hC16⟩ := print_mid_of (P := Try.prog) (Value.int .u8) 0 22 5 .i64 .i64 Try.underlying22 hi016 hsz16 A0 c0 l0 t122 (wrap64 (t122 + t121)) (of_decide_eq_true (by first | (with_reducible assumption) | assumption)) (by first | omega | exact of_decide_eq_true (by first | (with_reducible assumption) | assumption)) (of_decide_eq_true (by first | (with_reducible assumption) | assumption)) HC0.out
                    have HR124 := Aside0.mk (Kd.C_of_reads (h1 := fun _ => rfl) (hA16 _ (Kd.reads_of_C HR0.out)))
                    have HC124 := Aside0.mk hC16
                    clear hA16 hC16 hi016 hsz16
                    have hcv17 := Kd.C_string (P := Try.prog) (A := A16) (c := (c0 - t122.toNat)) Try.underlying22 Try.underlying5 Try.underlying9 (HR124.out)
                    have hcv18 := fun m_ : Nat => Kd.C_string (P := Try.prog) (A := A16) (c := (c0 - t122.toNat)) Try.underlying22 Try.underlying5 Try.underlying9 (Kd.C_drewN (HR124.out) m_)
                    (try (have hl_ : ((l0.take ((wrap64 (t122 + t121)) : Int).toNat).drop (t122 : Int).toNat).length = ((wrap64 (t122 + t121)) : Int).toNat - (t122 : Int).toNat := by simp only [List.length_drop, List.length_take]; omega); have hcv17e := hcv17; simp only [hl_] at hcv17e; have hcv18e := hcv18; simp only [hl_] at hcv18e; clear hl_)
                    go_wp2_with (first | ((with_reducible refine gate_callee (f := 16) rfl ?_); refine goesL_ (some 39) rfl rfl Try.func16 (by kernel_rfl) rfl #[.string (strOfNums ((l0.take ((wrap64 (t122 + t121)) : Int).toNat).drop (t122 : Int).toNat))] rfl (by (try simp only [List.map_toArray, List.map_cons, List.map_nil]); first | done | rfl | (simp only [List.length_drop, List.length_take]; rfl)) ?_; (with_reducible refine (words_Plain.calls (strOfNums ((l0.take ((wrap64 (t122 + t121)) : Int).toNat).drop (t122 : Int).toNat)) false _ A11.out).mono ?_); rintro e w' ⟨rfl, ⟨nd, rfl⟩⟩; refine ⟨_, rfl, ?_⟩))
                    go_ret3
                    exact ⟨by first | rfl | (simp; done) | (simp [*]; done), by repeat (first | exact Drawn0.refl _ | apply Drawn0.step)⟩
                · rw [if_neg c10] at H
                  exact absurd H (by simp)
              · rw [if_neg c9] at H
                exact absurd H (by simp)
            · rw [if_neg c8] at H
              exact absurd H (by simp)
  · rw [if_neg c3] at H
    have c3b0 : (t123 == 0) = false := beq_eq_false_iff_ne.mpr c3
    have c3b1 : (t123 != 0) = true := bne_iff_ne.mpr c3
    simp only [Option.some.injEq, Prod.mk.injEq] at H
    obtain ⟨rfl, rfl, rfl⟩ := H
    go_enter Try.func14, Try.ntmps14
    go_wp2_with (first | ((with_reducible refine gate_callee (f := 8) rfl ?_); refine goesL_ (some 9) rfl rfl Try.func8 (by kernel_rfl) rfl #[.slice A0 l0.length c0] rfl (by (try simp only [List.map_toArray, List.map_cons, List.map_nil]); first | done | rfl | (simp only [List.length_drop, List.length_take]; rfl)) ?_; (with_reducible refine (codec_TakeInt.calls k _ _ l0 t121 t122 t123 _ ?side1 ?side2 A2.out).mono ?_); (case side1 => repeat (first | exact HR0.out | (with_reducible refine Kd.C_alloc ?_ _) | (with_reducible refine Kd.C_drewN ?_ _) | (with_reducible refine Kd.C_drew ?_))); (case side2 => exact HC0.out); rintro e w' ⟨rfl, ⟨nd, rfl⟩⟩; refine ⟨_, rfl, ?_⟩))
    go_ret3
    exact ⟨by first | rfl | (simp; done) | (simp [*]; done), by repeat (first | exact Drawn0.refl _ | apply Drawn0.step)⟩

/-! ### accountinglaw13_lives: function 10 -/
def accountinglaw13_lives.f (k : Nat)  : Option (Bool) := (codec_TakeInt.f k (([200, 1, 7] : List Int))).bind fun bt129 => ((codec_PutText.f k (⟨#[97, 98]⟩ : ByteArray)).bind fun bt132 => ((codec_TakeInt.f k (([128, 0] : List Int))).bind fun bt139 => ((codec_TakeText.f k (([4, 97] : List Int))).bind fun bt145 => ((codec_PutInt.f k (-3)).bind fun t148 => (if (strOfNums t148).toList = ([5] : List UInt8) then ((codec_PutInt.f k 100).bind fun t151 => (if (strOfNums t151).toList = ([200, 1] : List UInt8) then (if bt129.1 = 100 then (if bt129.2.1 = 2 then (if bt129.2.2 = 0 then (if (strOfNums bt132.1).toList = ([4, 97, 98] : List UInt8) then (if bt132.2 = 0 then (if bt139.2.2 = 5 then (some (bt145.2.2 == 6)) else (none)) else (none)) else (none)) else (none)) else (none)) else (none)) else (none))) else (none))))))
theorem accountinglaw13_lives.mono : ∀ k, LeO (accountinglaw13_lives.f k ) (accountinglaw13_lives.f (k + 1) ) := by
  intro  k
  unfold accountinglaw13_lives.f
  repeat' first
      | (with_reducible exact codec_PutInt.mono _ _)
      | (with_reducible exact codec_PutText.mono _ _)
      | (with_reducible exact codec_TakeInt.mono _ _)
      | (with_reducible exact codec_TakeText.mono _ _)
      | (with_reducible exact LeO.refl _)
      | (with_reducible exact LeO.none _)
      | (with_reducible refine LeO.ite ?_ ?_)
      | (with_reducible refine LeO.bind ?_ (fun _ => ?_))
      | exact codec_PutInt.mono _ _
      | exact codec_PutText.mono _ _
      | exact codec_TakeInt.mono _ _
      | exact codec_TakeText.mono _ _
      | exact LeO.none _
      | refine LeO.ite ?_ ?_
      | refine LeO.bind ?_ (fun _ => ?_)
set_option maxHeartbeats 8000000 in
set_option maxRecDepth 100000 in
theorem accountinglaw13_lives.calls (k : Nat)  (r : Bool) (w : World) (h : accountinglaw13_lives.f k  = some r) :
    Calls Try.prog 10 #[] w fun e w' => e = .returned (.bool r) ∧ Below w.heap.size w w' := by
  have HB := Aside0.mk (Below.refl w.heap.size w)
  have H : ((codec_TakeInt.f k (([200, 1, 7] : List Int))).bind fun bt129 => ((codec_PutText.f k (⟨#[97, 98]⟩ : ByteArray)).bind fun bt132 => ((codec_TakeInt.f k (([128, 0] : List Int))).bind fun bt139 => ((codec_TakeText.f k (([4, 97] : List Int))).bind fun bt145 => ((codec_PutInt.f k (-3)).bind fun t148 => (if (strOfNums t148).toList = ([5] : List UInt8) then ((codec_PutInt.f k 100).bind fun t151 => (if (strOfNums t151).toList = ([200, 1] : List UInt8) then (if bt129.1 = 100 then (if bt129.2.1 = 2 then (if bt129.2.2 = 0 then (if (strOfNums bt132.1).toList = ([4, 97, 98] : List UInt8) then (if bt132.2 = 0 then (if bt139.2.2 = 5 then (some (bt145.2.2 == 6)) else (none)) else (none)) else (none)) else (none)) else (none)) else (none)) else (none))) else (none))))))) = some r := h
  clear h
  obtain ⟨y126, hy126⟩ : ∃ y_ : List Int, y_ = (([200, 1, 7] : List Int)) := ⟨_, rfl⟩
  replace H : ((codec_TakeInt.f k y126).bind fun bt129 => ((codec_PutText.f k (⟨#[97, 98]⟩ : ByteArray)).bind fun bt132 => ((codec_TakeInt.f k (([128, 0] : List Int))).bind fun bt139 => ((codec_TakeText.f k (([4, 97] : List Int))).bind fun bt145 => ((codec_PutInt.f k (-3)).bind fun t148 => (if (strOfNums t148).toList = ([5] : List UInt8) then ((codec_PutInt.f k 100).bind fun t151 => (if (strOfNums t151).toList = ([200, 1] : List UInt8) then (if bt129.1 = 100 then (if bt129.2.1 = 2 then (if bt129.2.2 = 0 then (if (strOfNums bt132.1).toList = ([4, 97, 98] : List UInt8) then (if bt132.2 = 0 then (if bt139.2.2 = 5 then (some (bt145.2.2 == 6)) else (none)) else (none)) else (none)) else (none)) else (none)) else (none)) else (none))) else (none))))))) = some r := by first | (rw [hy126]; with_reducible exact H) | (have H2_ := (Option.bind_some _ _).symm.trans H; rw [hy126]; with_reducible exact H2_) | (have H2_ := (Option.bind_some _ _).symm.trans H; with_reducible exact H2_) | with_reducible exact H | (rw [hy126]; exact H) | exact H
  have Ny126 := Aside0.mk hy126
  clear hy126
  replace H := Option.bind_eq_some_iff.mp H
  obtain ⟨⟨t129, t130, t131⟩, A10, H⟩ := H
  replace H : ((codec_PutText.f k (⟨#[97, 98]⟩ : ByteArray)).bind fun bt132 => ((codec_TakeInt.f k (([128, 0] : List Int))).bind fun bt139 => ((codec_TakeText.f k (([4, 97] : List Int))).bind fun bt145 => ((codec_PutInt.f k (-3)).bind fun t148 => (if (strOfNums t148).toList = ([5] : List UInt8) then ((codec_PutInt.f k 100).bind fun t151 => (if (strOfNums t151).toList = ([200, 1] : List UInt8) then (if t129 = 100 then (if t130 = 2 then (if t131 = 0 then (if (strOfNums bt132.1).toList = ([4, 97, 98] : List UInt8) then (if bt132.2 = 0 then (if bt139.2.2 = 5 then (some (bt145.2.2 == 6)) else (none)) else (none)) else (none)) else (none)) else (none)) else (none)) else (none))) else (none)))))) = some r := H
  have A1 := Aside0.mk A10
  clear A10
  replace H := Option.bind_eq_some_iff.mp H
  obtain ⟨⟨t132, t133⟩, A20, H⟩ := H
  replace H : ((codec_TakeInt.f k (([128, 0] : List Int))).bind fun bt139 => ((codec_TakeText.f k (([4, 97] : List Int))).bind fun bt145 => ((codec_PutInt.f k (-3)).bind fun t148 => (if (strOfNums t148).toList = ([5] : List UInt8) then ((codec_PutInt.f k 100).bind fun t151 => (if (strOfNums t151).toList = ([200, 1] : List UInt8) then (if t129 = 100 then (if t130 = 2 then (if t131 = 0 then (if (strOfNums t132).toList = ([4, 97, 98] : List UInt8) then (if t133 = 0 then (if bt139.2.2 = 5 then (some (bt145.2.2 == 6)) else (none)) else (none)) else (none)) else (none)) else (none)) else (none)) else (none))) else (none))))) = some r := H
  have A2 := Aside0.mk A20
  clear A20
  obtain ⟨y136, hy136⟩ : ∃ y_ : List Int, y_ = (([128, 0] : List Int)) := ⟨_, rfl⟩
  replace H : ((codec_TakeInt.f k y136).bind fun bt139 => ((codec_TakeText.f k (([4, 97] : List Int))).bind fun bt145 => ((codec_PutInt.f k (-3)).bind fun t148 => (if (strOfNums t148).toList = ([5] : List UInt8) then ((codec_PutInt.f k 100).bind fun t151 => (if (strOfNums t151).toList = ([200, 1] : List UInt8) then (if t129 = 100 then (if t130 = 2 then (if t131 = 0 then (if (strOfNums t132).toList = ([4, 97, 98] : List UInt8) then (if t133 = 0 then (if bt139.2.2 = 5 then (some (bt145.2.2 == 6)) else (none)) else (none)) else (none)) else (none)) else (none)) else (none)) else (none))) else (none))))) = some r := by first | (rw [hy136]; with_reducible exact H) | (have H2_ := (Option.bind_some _ _).symm.trans H; rw [hy136]; with_reducible exact H2_) | (have H2_ := (Option.bind_some _ _).symm.trans H; with_reducible exact H2_) | with_reducible exact H | (rw [hy136]; exact H) | exact H
  have Ny136 := Aside0.mk hy136
  clear hy136
  replace H := Option.bind_eq_some_iff.mp H
  obtain ⟨⟨t139, t140, t141⟩, A30, H⟩ := H
  replace H : ((codec_TakeText.f k (([4, 97] : List Int))).bind fun bt145 => ((codec_PutInt.f k (-3)).bind fun t148 => (if (strOfNums t148).toList = ([5] : List UInt8) then ((codec_PutInt.f k 100).bind fun t151 => (if (strOfNums t151).toList = ([200, 1] : List UInt8) then (if t129 = 100 then (if t130 = 2 then (if t131 = 0 then (if (strOfNums t132).toList = ([4, 97, 98] : List UInt8) then (if t133 = 0 then (if t141 = 5 then (some (bt145.2.2 == 6)) else (none)) else (none)) else (none)) else (none)) else (none)) else (none)) else (none))) else (none)))) = some r := H
  have A3 := Aside0.mk A30
  clear A30
  obtain ⟨y142, hy142⟩ : ∃ y_ : List Int, y_ = (([4, 97] : List Int)) := ⟨_, rfl⟩
  replace H : ((codec_TakeText.f k y142).bind fun bt145 => ((codec_PutInt.f k (-3)).bind fun t148 => (if (strOfNums t148).toList = ([5] : List UInt8) then ((codec_PutInt.f k 100).bind fun t151 => (if (strOfNums t151).toList = ([200, 1] : List UInt8) then (if t129 = 100 then (if t130 = 2 then (if t131 = 0 then (if (strOfNums t132).toList = ([4, 97, 98] : List UInt8) then (if t133 = 0 then (if t141 = 5 then (some (bt145.2.2 == 6)) else (none)) else (none)) else (none)) else (none)) else (none)) else (none)) else (none))) else (none)))) = some r := by first | (rw [hy142]; with_reducible exact H) | (have H2_ := (Option.bind_some _ _).symm.trans H; rw [hy142]; with_reducible exact H2_) | (have H2_ := (Option.bind_some _ _).symm.trans H; with_reducible exact H2_) | with_reducible exact H | (rw [hy142]; exact H) | exact H
  have Ny142 := Aside0.mk hy142
  clear hy142
  replace H := Option.bind_eq_some_iff.mp H
  obtain ⟨⟨t145, t146, t147⟩, A40, H⟩ := H
  replace H : ((codec_PutInt.f k (-3)).bind fun t148 => (if (strOfNums t148).toList = ([5] : List UInt8) then ((codec_PutInt.f k 100).bind fun t151 => (if (strOfNums t151).toList = ([200, 1] : List UInt8) then (if t129 = 100 then (if t130 = 2 then (if t131 = 0 then (if (strOfNums t132).toList = ([4, 97, 98] : List UInt8) then (if t133 = 0 then (if t141 = 5 then (some (t147 == 6)) else (none)) else (none)) else (none)) else (none)) else (none)) else (none)) else (none))) else (none))) = some r := H
  have A4 := Aside0.mk A40
  clear A40
  replace H := Option.bind_eq_some_iff.mp H
  obtain ⟨t148, A50, H⟩ := H
  replace H : (if (strOfNums t148).toList = ([5] : List UInt8) then ((codec_PutInt.f k 100).bind fun t151 => (if (strOfNums t151).toList = ([200, 1] : List UInt8) then (if t129 = 100 then (if t130 = 2 then (if t131 = 0 then (if (strOfNums t132).toList = ([4, 97, 98] : List UInt8) then (if t133 = 0 then (if t141 = 5 then (some (t147 == 6)) else (none)) else (none)) else (none)) else (none)) else (none)) else (none)) else (none))) else (none)) = some r := H
  have A5 := Aside0.mk A50
  clear A50
  by_cases c6 : (strOfNums t148).toList = ([5] : List UInt8)
  · rw [if_pos c6] at H
    have c6b0 : ((strOfNums t148).toList == ([5] : List UInt8)) = true := beq_iff_eq.mpr c6
    have c6b1 : ((strOfNums t148).toList != ([5] : List UInt8)) = false := bne_eq_false_iff_eq.mpr c6
    clear c6
    replace H := Option.bind_eq_some_iff.mp H
    obtain ⟨t151, A70, H⟩ := H
    replace H : (if (strOfNums t151).toList = ([200, 1] : List UInt8) then (if t129 = 100 then (if t130 = 2 then (if t131 = 0 then (if (strOfNums t132).toList = ([4, 97, 98] : List UInt8) then (if t133 = 0 then (if t141 = 5 then (some (t147 == 6)) else (none)) else (none)) else (none)) else (none)) else (none)) else (none)) else (none)) = some r := H
    have A7 := Aside0.mk A70
    clear A70
    by_cases c8 : (strOfNums t151).toList = ([200, 1] : List UInt8)
    · rw [if_pos c8] at H
      have c8b0 : ((strOfNums t151).toList == ([200, 1] : List UInt8)) = true := beq_iff_eq.mpr c8
      have c8b1 : ((strOfNums t151).toList != ([200, 1] : List UInt8)) = false := bne_eq_false_iff_eq.mpr c8
      clear c8
      by_cases c9 : t129 = 100
      · rw [if_pos c9] at H
        have c9b0 : (t129 == 100) = true := beq_iff_eq.mpr c9
        have c9b1 : (t129 != 100) = false := bne_eq_false_iff_eq.mpr c9
        clear c9
        by_cases c10 : t130 = 2
        · rw [if_pos c10] at H
          have c10b0 : (t130 == 2) = true := beq_iff_eq.mpr c10
          have c10b1 : (t130 != 2) = false := bne_eq_false_iff_eq.mpr c10
          clear c10
          by_cases c11 : t131 = 0
          · rw [if_pos c11] at H
            have c11b0 : (t131 == 0) = true := beq_iff_eq.mpr c11
            have c11b1 : (t131 != 0) = false := bne_eq_false_iff_eq.mpr c11
            clear c11
            by_cases c12 : (strOfNums t132).toList = ([4, 97, 98] : List UInt8)
            · rw [if_pos c12] at H
              have c12b0 : ((strOfNums t132).toList == ([4, 97, 98] : List UInt8)) = true := beq_iff_eq.mpr c12
              have c12b1 : ((strOfNums t132).toList != ([4, 97, 98] : List UInt8)) = false := bne_eq_false_iff_eq.mpr c12
              clear c12
              by_cases c13 : t133 = 0
              · rw [if_pos c13] at H
                have c13b0 : (t133 == 0) = true := beq_iff_eq.mpr c13
                have c13b1 : (t133 != 0) = false := bne_eq_false_iff_eq.mpr c13
                clear c13
                by_cases c14 : t141 = 5
                · rw [if_pos c14] at H
                  have c14b0 : (t141 == 5) = true := beq_iff_eq.mpr c14
                  have c14b1 : (t141 != 5) = false := bne_eq_false_iff_eq.mpr c14
                  clear c14
                  obtain rfl := Option.some.inj H
                  go_enter Try.func10, Try.ntmps10
                  go_wp2_with (first | ((with_reducible refine gate_dst (N := 13) rfl ?_); refine Kd.R_lit (Kd.int .u8) _ 5 ?hg (N := 13) ?hd (xs := ([200, 1, 7] : List Int)) (inner := [.int .u8 200, .int .u8 1, .int .u8 7]) (ok := fun _ => True) (okp := fun _ => True) ?hr ?hp (fun _ hk => hk) trivial (Below.refl _ _) (Nat.le_refl _) (by simp) ?_; (case hd => rfl); (case hg => rfl); (case hr => first | (go_simp; done) | (go_simp; rfl)); (case hp => exact (Reps.one (show Kd.M (Kd.int .u8) _ _ _ 200 [.int .u8 200] from rfl) (Reps.one (show Kd.M (Kd.int .u8) _ _ _ 1 [.int .u8 1] from rfl) (Reps.one (show Kd.M (Kd.int .u8) _ _ _ 7 [.int .u8 7] from rfl) (Reps.none _ _))))); intro v127 w15 ho16 hb hg_ hnew_; clear hg_ hnew_; (first | rw [← Ny126.out] at ho16 | (simp only [Int.reduceToNat] at ho16; rw [← Ny126.out] at ho16)); have n0_ := Aside0.mk (Kd.R_lower ho16 (below_size (by repeat (first | (with_reducible first | exact HB.out | apply below_alloc | apply pw_below_drewN | apply below_drew1) | exact HB.out)))); have n1_ := Aside0.mk (below_step (by repeat (first | (with_reducible first | exact HB.out | apply below_alloc | apply pw_below_drewN | apply below_drew1) | exact HB.out)) hb); clear HB; have HO128 := n0_; have HB := n1_; clear n0_ n1_; clear hb ho16; obtain ⟨Ao17, co17, eo17⟩ := Kd.R_slice HO128.out; subst eo17) | ((with_reducible refine gate_callee (f := 8) rfl ?_); refine goesL_ (some 14) rfl rfl Try.func8 (by kernel_rfl) rfl #[.slice Ao17 y126.length co17] rfl (by (try simp only [List.map_toArray, List.map_cons, List.map_nil]); first | done | rfl | (simp only [List.length_drop, List.length_take]; rfl)) ?_; (with_reducible refine (codec_TakeInt.calls k _ _ y126 t129 t130 t131 _ ?side1 ?side2 A1.out).mono ?_); (case side1 => repeat (first | exact (Kd.R_reads' HO128.out).2.2 | (with_reducible refine Kd.C_alloc ?_ _) | (with_reducible refine Kd.C_drewN ?_ _) | (with_reducible refine Kd.C_drew ?_))); (case side2 => exact (Kd.R_reads' HO128.out).2.1); rintro e w' ⟨rfl, ⟨nd, rfl⟩⟩; refine ⟨_, rfl, ?_⟩) | ((with_reducible refine gate_callee (f := 12) rfl ?_); refine goesL_ (some 19) rfl rfl Try.func12 (by kernel_rfl) rfl #[.string (⟨#[97, 98]⟩ : ByteArray)] rfl (by (try simp only [List.map_toArray, List.map_cons, List.map_nil]); first | done | rfl | (simp only [List.length_drop, List.length_take]; rfl)) ?_; (with_reducible refine (codec_PutText.calls k (⟨#[97, 98]⟩ : ByteArray) t132 t133 _ A2.out).mono ?_); rintro e w18 ⟨v134, rfl, ho0, hb⟩; refine ⟨_, rfl, ?_⟩; have n0_ := Aside0.mk (Kd.R_elder' (by (with_reducible repeat (first | apply Kd.R_alloc | apply Kd.R_drewN | apply Kd.R_drew)); exact HO128.out) (Kd.R_base ho0) hb); have n1_ := Aside0.mk (Kd.R_lower (Kd.R_new' ho0 (Kd.R_lt (by (with_reducible repeat (first | apply Kd.R_alloc | apply Kd.R_drewN | apply Kd.R_drew)); exact HO128.out))) (below_size (by repeat (first | (with_reducible first | exact HB.out | apply below_alloc | apply pw_below_drewN | apply below_drew1) | exact HB.out)))); have n2_ := Aside0.mk (below_step (by repeat (first | (with_reducible first | exact HB.out | apply below_alloc | apply pw_below_drewN | apply below_drew1) | exact HB.out)) hb); clear HO128; clear HB; have HO128 := n0_; have HO135 := n1_; have HB := n2_; clear n0_ n1_ n2_; (try clear hb); (try clear hb2); (try clear hk); (try clear hi); (try clear ho0)) | ((with_reducible refine gate_dst (N := 23) rfl ?_); refine Kd.R_lit (Kd.int .u8) _ 5 ?hg (N := 23) ?hd (xs := ([128, 0] : List Int)) (inner := [.int .u8 128, .int .u8 0]) (ok := fun _ => True) (okp := fun _ => True) ?hr ?hp (fun _ hk => hk) trivial (Below.refl _ _) (Nat.le_refl _) (by simp) ?_; (case hd => rfl); (case hg => rfl); (case hr => first | (go_simp; done) | (go_simp; rfl)); (case hp => exact (Reps.one (show Kd.M (Kd.int .u8) _ _ _ 128 [.int .u8 128] from rfl) (Reps.one (show Kd.M (Kd.int .u8) _ _ _ 0 [.int .u8 0] from rfl) (Reps.none _ _)))); intro v137 w19 ho20 hb hg_ hnew_; clear hg_ hnew_; (first | rw [← Ny136.out] at ho20 | (simp only [Int.reduceToNat] at ho20; rw [← Ny136.out] at ho20)); have n0_ := Aside0.mk (Kd.R_elder' (by (with_reducible repeat (first | apply Kd.R_alloc | apply Kd.R_drewN | apply Kd.R_drew)); exact HO128.out) (Kd.R_base ho20) hb); have n1_ := Aside0.mk (Kd.R_elder' (by (with_reducible repeat (first | apply Kd.R_alloc | apply Kd.R_drewN | apply Kd.R_drew)); exact HO135.out) (Kd.R_base ho20) hb); have n2_ := Aside0.mk (Kd.R_lower (Kd.R_new' (Kd.R_new' ho20 (Kd.R_lt (by (with_reducible repeat (first | apply Kd.R_alloc | apply Kd.R_drewN | apply Kd.R_drew)); exact HO128.out))) (Kd.R_lt (by (with_reducible repeat (first | apply Kd.R_alloc | apply Kd.R_drewN | apply Kd.R_drew)); exact HO135.out))) (below_size (by repeat (first | (with_reducible first | exact HB.out | apply below_alloc | apply pw_below_drewN | apply below_drew1) | exact HB.out)))); have n3_ := Aside0.mk (below_step (by repeat (first | (with_reducible first | exact HB.out | apply below_alloc | apply pw_below_drewN | apply below_drew1) | exact HB.out)) hb); clear HO128; clear HO135; clear HB; have HO128 := n0_; have HO135 := n1_; have HO138 := n2_; have HB := n3_; clear n0_ n1_ n2_ n3_; clear hb ho20; obtain ⟨Ao21, co21, eo21⟩ := Kd.R_slice HO138.out; subst eo21) | ((with_reducible refine gate_callee (f := 8) rfl ?_); refine goesL_ (some 24) rfl rfl Try.func8 (by kernel_rfl) rfl #[.slice Ao21 y136.length co21] rfl (by (try simp only [List.map_toArray, List.map_cons, List.map_nil]); first | done | rfl | (simp only [List.length_drop, List.length_take]; rfl)) ?_; (with_reducible refine (codec_TakeInt.calls k _ _ y136 t139 t140 t141 _ ?side1 ?side2 A3.out).mono ?_); (case side1 => repeat (first | exact (Kd.R_reads' HO138.out).2.2 | (with_reducible refine Kd.C_alloc ?_ _) | (with_reducible refine Kd.C_drewN ?_ _) | (with_reducible refine Kd.C_drew ?_))); (case side2 => exact (Kd.R_reads' HO138.out).2.1); rintro e w' ⟨rfl, ⟨nd, rfl⟩⟩; refine ⟨_, rfl, ?_⟩) | ((with_reducible refine gate_dst (N := 29) rfl ?_); refine Kd.R_lit (Kd.int .u8) _ 5 ?hg (N := 29) ?hd (xs := ([4, 97] : List Int)) (inner := [.int .u8 4, .int .u8 97]) (ok := fun _ => True) (okp := fun _ => True) ?hr ?hp (fun _ hk => hk) trivial (Below.refl _ _) (Nat.le_refl _) (by simp) ?_; (case hd => rfl); (case hg => rfl); (case hr => first | (go_simp; done) | (go_simp; rfl)); (case hp => exact (Reps.one (show Kd.M (Kd.int .u8) _ _ _ 4 [.int .u8 4] from rfl) (Reps.one (show Kd.M (Kd.int .u8) _ _ _ 97 [.int .u8 97] from rfl) (Reps.none _ _)))); intro v143 w22 ho23 hb hg_ hnew_; clear hg_ hnew_; (first | rw [← Ny142.out] at ho23 | (simp only [Int.reduceToNat] at ho23; rw [← Ny142.out] at ho23)); have n0_ := Aside0.mk (Kd.R_elder' (by (with_reducible repeat (first | apply Kd.R_alloc | apply Kd.R_drewN | apply Kd.R_drew)); exact HO128.out) (Kd.R_base ho23) hb); have n1_ := Aside0.mk (Kd.R_elder' (by (with_reducible repeat (first | apply Kd.R_alloc | apply Kd.R_drewN | apply Kd.R_drew)); exact HO135.out) (Kd.R_base ho23) hb); have n2_ := Aside0.mk (Kd.R_elder' (by (with_reducible repeat (first | apply Kd.R_alloc | apply Kd.R_drewN | apply Kd.R_drew)); exact HO138.out) (Kd.R_base ho23) hb); have n3_ := Aside0.mk (Kd.R_lower (Kd.R_new' (Kd.R_new' (Kd.R_new' ho23 (Kd.R_lt (by (with_reducible repeat (first | apply Kd.R_alloc | apply Kd.R_drewN | apply Kd.R_drew)); exact HO128.out))) (Kd.R_lt (by (with_reducible repeat (first | apply Kd.R_alloc | apply Kd.R_drewN | apply Kd.R_drew)); exact HO135.out))) (Kd.R_lt (by (with_reducible repeat (first | apply Kd.R_alloc | apply Kd.R_drewN | apply Kd.R_drew)); exact HO138.out))) (below_size (by repeat (first | (with_reducible first | exact HB.out | apply below_alloc | apply pw_below_drewN | apply below_drew1) | exact HB.out)))); have n4_ := Aside0.mk (below_step (by repeat (first | (with_reducible first | exact HB.out | apply below_alloc | apply pw_below_drewN | apply below_drew1) | exact HB.out)) hb); clear HO128; clear HO135; clear HO138; clear HB; have HO128 := n0_; have HO135 := n1_; have HO138 := n2_; have HO144 := n3_; have HB := n4_; clear n0_ n1_ n2_ n3_ n4_; clear hb ho23; obtain ⟨Ao24, co24, eo24⟩ := Kd.R_slice HO144.out; subst eo24) | ((with_reducible refine gate_callee (f := 14) rfl ?_); refine goesL_ (some 30) rfl rfl Try.func14 (by kernel_rfl) rfl #[.slice Ao24 y142.length co24] rfl (by (try simp only [List.map_toArray, List.map_cons, List.map_nil]); first | done | rfl | (simp only [List.length_drop, List.length_take]; rfl)) ?_; (with_reducible refine (codec_TakeText.calls k _ _ y142 t145 t146 t147 _ ?side1 ?side2 A4.out).mono ?_); (case side1 => repeat (first | exact (Kd.R_reads' HO144.out).2.2 | (with_reducible refine Kd.C_alloc ?_ _) | (with_reducible refine Kd.C_drewN ?_ _) | (with_reducible refine Kd.C_drew ?_))); (case side2 => exact (Kd.R_reads' HO144.out).2.1); rintro e w' ⟨rfl, ⟨nd, rfl⟩⟩; refine ⟨_, rfl, ?_⟩) | ((with_reducible refine gate_callee (f := 7) rfl ?_); refine goesL_ (some 34) rfl rfl Try.func7 (by kernel_rfl) rfl #[.int .i64 (-3)] rfl (by (try simp only [List.map_toArray, List.map_cons, List.map_nil]); first | done | rfl | (simp only [List.length_drop, List.length_take]; rfl)) ?_; (with_reducible refine (codec_PutInt.calls k (-3) t148 _ A5.out).mono ?_); rintro e w25 ⟨v149, rfl, ho0, hb⟩; refine ⟨_, rfl, ?_⟩; have n0_ := Aside0.mk (Kd.R_elder' (by (with_reducible repeat (first | apply Kd.R_alloc | apply Kd.R_drewN | apply Kd.R_drew)); exact HO128.out) (Kd.R_base ho0) hb); have n1_ := Aside0.mk (Kd.R_elder' (by (with_reducible repeat (first | apply Kd.R_alloc | apply Kd.R_drewN | apply Kd.R_drew)); exact HO135.out) (Kd.R_base ho0) hb); have n2_ := Aside0.mk (Kd.R_elder' (by (with_reducible repeat (first | apply Kd.R_alloc | apply Kd.R_drewN | apply Kd.R_drew)); exact HO138.out) (Kd.R_base ho0) hb); have n3_ := Aside0.mk (Kd.R_elder' (by (with_reducible repeat (first | apply Kd.R_alloc | apply Kd.R_drewN | apply Kd.R_drew)); exact HO144.out) (Kd.R_base ho0) hb); have n4_ := Aside0.mk (Kd.R_lower (Kd.R_new' (Kd.R_new' (Kd.R_new' (Kd.R_new' ho0 (Kd.R_lt (by (with_reducible repeat (first | apply Kd.R_alloc | apply Kd.R_drewN | apply Kd.R_drew)); exact HO128.out))) (Kd.R_lt (by (with_reducible repeat (first | apply Kd.R_alloc | apply Kd.R_drewN | apply Kd.R_drew)); exact HO135.out))) (Kd.R_lt (by (with_reducible repeat (first | apply Kd.R_alloc | apply Kd.R_drewN | apply Kd.R_drew)); exact HO138.out))) (Kd.R_lt (by (with_reducible repeat (first | apply Kd.R_alloc | apply Kd.R_drewN | apply Kd.R_drew)); exact HO144.out))) (below_size (by repeat (first | (with_reducible first | exact HB.out | apply below_alloc | apply pw_below_drewN | apply below_drew1) | exact HB.out)))); have n5_ := Aside0.mk (below_step (by repeat (first | (with_reducible first | exact HB.out | apply below_alloc | apply pw_below_drewN | apply below_drew1) | exact HB.out)) hb); clear HO128; clear HO135; clear HO138; clear HO144; clear HB; have HO128 := n0_; have HO135 := n1_; have HO138 := n2_; have HO144 := n3_; have HO150 := n4_; have HB := n5_; clear n0_ n1_ n2_ n3_ n4_ n5_; (try clear hb); (try clear hb2); (try clear hk); (try clear hi); (try clear ho0); have hcv26 := own_string (P := Try.prog) Try.underlying22 Try.underlying5 Try.underlying9 (Kd.own_of_R HO150.out); have hcv27 := fun m_ : Nat => own_string (P := Try.prog) Try.underlying22 Try.underlying5 Try.underlying9 (Kd.own_of_R (Kd.R_drewN HO150.out m_))) | (go_at_call 7; (with_reducible refine (codec_PutInt.calls k 100 t151 _ A7.out).mono ?_); rintro e w28 ⟨v152, rfl, ho0, hb⟩; have n0_ := Aside0.mk (Kd.R_elder' (by (with_reducible repeat (first | apply Kd.R_alloc | apply Kd.R_drewN | apply Kd.R_drew)); exact HO128.out) (Kd.R_base ho0) hb); have n1_ := Aside0.mk (Kd.R_elder' (by (with_reducible repeat (first | apply Kd.R_alloc | apply Kd.R_drewN | apply Kd.R_drew)); exact HO135.out) (Kd.R_base ho0) hb); have n2_ := Aside0.mk (Kd.R_elder' (by (with_reducible repeat (first | apply Kd.R_alloc | apply Kd.R_drewN | apply Kd.R_drew)); exact HO138.out) (Kd.R_base ho0) hb); have n3_ := Aside0.mk (Kd.R_elder' (by (with_reducible repeat (first | apply Kd.R_alloc | apply Kd.R_drewN | apply Kd.R_drew)); exact HO144.out) (Kd.R_base ho0) hb); have n4_ := Aside0.mk (Kd.R_elder' (by (with_reducible repeat (first | apply Kd.R_alloc | apply Kd.R_drewN | apply Kd.R_drew)); exact HO150.out) (Kd.R_base ho0) hb); have n5_ := Aside0.mk (Kd.R_lower (Kd.R_new' (Kd.R_new' (Kd.R_new' (Kd.R_new' (Kd.R_new' ho0 (Kd.R_lt (by (with_reducible repeat (first | apply Kd.R_alloc | apply Kd.R_drewN | apply Kd.R_drew)); exact HO128.out))) (Kd.R_lt (by (with_reducible repeat (first | apply Kd.R_alloc | apply Kd.R_drewN | apply Kd.R_drew)); exact HO135.out))) (Kd.R_lt (by (with_reducible repeat (first | apply Kd.R_alloc | apply Kd.R_drewN | apply Kd.R_drew)); exact HO138.out))) (Kd.R_lt (by (with_reducible repeat (first | apply Kd.R_alloc | apply Kd.R_drewN | apply Kd.R_drew)); exact HO144.out))) (Kd.R_lt (by (with_reducible repeat (first | apply Kd.R_alloc | apply Kd.R_drewN | apply Kd.R_drew)); exact HO150.out))) (below_size (by repeat (first | (with_reducible first | exact HB.out | apply below_alloc | apply pw_below_drewN | apply below_drew1) | exact HB.out)))); have n6_ := Aside0.mk (below_step (by repeat (first | (with_reducible first | exact HB.out | apply below_alloc | apply pw_below_drewN | apply below_drew1) | exact HB.out)) hb); clear HO128; clear HO135; clear HO138; clear HO144; clear HO150; clear HB; have HO128 := n0_; have HO135 := n1_; have HO138 := n2_; have HO144 := n3_; have HO150 := n4_; have HO153 := n5_; have HB := n6_; clear n0_ n1_ n2_ n3_ n4_ n5_ n6_; (try clear hb); (try clear hb2); (try clear hk); (try clear hi); (try clear ho0); have hcv29 := own_string (P := Try.prog) Try.underlying22 Try.underlying5 Try.underlying9 (Kd.own_of_R HO153.out); have hcv30 := fun m_ : Nat => own_string (P := Try.prog) Try.underlying22 Try.underlying5 Try.underlying9 (Kd.own_of_R (Kd.R_drewN HO153.out m_)); have hcv31 := own_string (P := Try.prog) Try.underlying22 Try.underlying5 Try.underlying9 (Kd.own_of_R HO135.out); have hcv32 := fun m_ : Nat => own_string (P := Try.prog) Try.underlying22 Try.underlying5 Try.underlying9 (Kd.own_of_R (Kd.R_drewN HO135.out m_))))
                  go_ret
                  exact ⟨by first | rfl | (simp [errW_none, errW_some] <;> rfl) | (simp [*, errW_none, errW_some] <;> rfl), by repeat (first | (with_reducible first | exact HB.out | apply below_alloc | apply pw_below_drewN | apply below_drew1) | exact HB.out)⟩
                · rw [if_neg c14] at H
                  exact absurd H (by simp)
              · rw [if_neg c13] at H
                exact absurd H (by simp)
            · rw [if_neg c12] at H
              exact absurd H (by simp)
          · rw [if_neg c11] at H
            exact absurd H (by simp)
        · rw [if_neg c10] at H
          exact absurd H (by simp)
      · rw [if_neg c9] at H
        exact absurd H (by simp)
    · rw [if_neg c8] at H
      exact absurd H (by simp)
  · rw [if_neg c6] at H
    exact absurd H (by simp)

end Go.Proofs.Ytojbkakdhfmjmaa.X
