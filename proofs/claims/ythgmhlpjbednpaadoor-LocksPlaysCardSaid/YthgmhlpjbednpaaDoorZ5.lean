/- Proved here: the law, on a machine over pure data, and what it needs, part 5. Conditions: none. -/
import Derived.Test.YthgmhlpjbednpaaDoorZ4
set_option maxRecDepth 10000
set_option linter.unusedVariables false
set_option linter.unusedSimpArgs false
namespace Go.Proofs.YthgmhlpjbednpaaDoor.Vm
open Go Go.Proofs
theorem rleap_ok (y : Int) (h : 1900 ≤ y) : L.pl 105 [.i64 y] = some (.ret (.bool (leapZ y))) := by
  refine W_of (pl_w k105_eq ?_)
  simp only [k105]
  have h4 : y.tmod 4 = y % 4 := Int.tmod_eq_emod_of_nonneg (by omega)
  have h100 : y.tmod 100 = y % 100 := Int.tmod_eq_emod_of_nonneg (by omega)
  have h400 : y.tmod 400 = y % 400 := Int.tmod_eq_emod_of_nonneg (by omega)
  repeat' (first | (simp -implicitDefEqProofs only [ze, zd, simprocAttr, h4, h100, h400]) | (with_reducible refine wgd_cases ?_ ?_ <;> intro hb) | (with_reducible refine wcond_cases ?_ ?_ <;> intro hb) | (with_reducible refine qd_i (by kernel_rfl) ?_) | (with_reducible refine W_itn_cases ?_ ?_; omega))
  all_goals (refine ret_b ?_; simp_all [leapZ])
theorem rlength_i (y : Int) (h : 1900 ≤ y) (m : Int) (hm : 1 ≤ m) (hm2 : m ≤ 12) : L.pl 90 [.i64 y, .i64 m] = some (.ret (.i64 (lenM y m.toNat))) := by
  refine W_of (pl_w k90_eq ?_)
  simp only [k90]
  have hl := rleap_ok y h
  have w0 : IntKind.i64.wrap 0 = 0 := rfl
  have w1 : IntKind.i64.wrap 1 = 1 := rfl
  have w2 : IntKind.i64.wrap 2 = 2 := rfl
  have w3 : IntKind.i64.wrap 3 = 3 := rfl
  have w4 : IntKind.i64.wrap 4 = 4 := rfl
  have w5 : IntKind.i64.wrap 5 = 5 := rfl
  have w6 : IntKind.i64.wrap 6 = 6 := rfl
  have w7 : IntKind.i64.wrap 7 = 7 := rfl
  have w8 : IntKind.i64.wrap 8 = 8 := rfl
  have w9 : IntKind.i64.wrap 9 = 9 := rfl
  have w10 : IntKind.i64.wrap 10 = 10 := rfl
  have w11 : IntKind.i64.wrap 11 = 11 := rfl
  have c12 : m = 1 ∨ m = 2 ∨ m = 3 ∨ m = 4 ∨ m = 5 ∨ m = 6 ∨ m = 7 ∨ m = 8 ∨ m = 9 ∨ m = 10 ∨ m = 11 ∨ m = 12 := by omega
  rcases c12 with rfl | rfl | rfl | rfl | rfl | rfl | rfl | rfl | rfl | rfl | rfl | rfl
  · repeat' (first | (simp -implicitDefEqProofs only [ze, zd, simprocAttr, w0, w1, w2, w3, w4, w5, w6, w7, w8, w9, w10, w11]) | (with_reducible refine wgd_cases ?_ ?_ <;> intro hb) | (with_reducible refine wcond_cases ?_ ?_ <;> intro hb) | (with_reducible refine qd_i (by kernel_rfl) ?_) | (with_reducible refine W_itn_cases ?_ ?_; omega))
    rfl
  · cases hz : leapZ y with
    | true =>
      rw [hz] at hl
      repeat' (first | (simp -implicitDefEqProofs only [ze, zd, simprocAttr, hl]) | (with_reducible refine wgd_cases ?_ ?_ <;> intro hb) | (with_reducible refine wcond_cases ?_ ?_ <;> intro hb) | (with_reducible refine qd_i (by kernel_rfl) ?_) | (with_reducible refine W_itn_cases ?_ ?_; omega))
      refine ret_i ?_; simp [lenM, lp, hz]
    | false =>
      rw [hz] at hl
      repeat' (first | (simp -implicitDefEqProofs only [ze, zd, simprocAttr, hl, w0, w1, w2, w3, w4, w5, w6, w7, w8, w9, w10, w11]) | (with_reducible refine wgd_cases ?_ ?_ <;> intro hb) | (with_reducible refine wcond_cases ?_ ?_ <;> intro hb) | (with_reducible refine qd_i (by kernel_rfl) ?_) | (with_reducible refine W_itn_cases ?_ ?_; omega))
      refine ret_i ?_; simp [lenM, lp, hz]
  all_goals (repeat' (first | (simp -implicitDefEqProofs only [ze, zd, simprocAttr, w0, w1, w2, w3, w4, w5, w6, w7, w8, w9, w10, w11]) | (with_reducible refine wgd_cases ?_ ?_ <;> intro hb) | (with_reducible refine wcond_cases ?_ ?_ <;> intro hb) | (with_reducible refine qd_i (by kernel_rfl) ?_) | (with_reducible refine W_itn_cases ?_ ?_; omega)))
  all_goals rfl
theorem rlen_at (M : Nat) (hM : M < 3600) : L.pl 90 [.i64 (1900 + ((M / 12 : Nat) : Int)), .i64 (((M % 12 : Nat) : Int) + 1)] = some (.ret (.i64 (fm (M + 1) - fm M))) := by
  rw [rlength_i _ (by omega) _ (by omega) (by omega)]
  have e : (((M % 12 : Nat) : Int) + 1).toNat = M % 12 + 1 := by omega
  rw [e]
  refine congrArg some (ret_i ?_)
  simp only [fm]; omega
theorem rfirst_ok (K : Nat) (hK : K ≤ 3600) : L.pl 104 [.i64 K] = some (.ret (.i64 (fm K))) := by
  refine W_of (pl_w k104_eq ?_)
  simp only [k104]
  repeat' (first | (simp -implicitDefEqProofs only [ze, zd, simprocAttr]) | (with_reducible refine wgd_cases ?_ ?_ <;> intro hb) | (with_reducible refine wcond_cases ?_ ?_ <;> intro hb) | (with_reducible refine qd_i (by kernel_rfl) ?_) | (with_reducible refine W_itn_cases ?_ ?_; omega))
  refine loop_w (fun n tm st nx => ∃ j : Nat, n = K - j ∧ j ≤ K ∧ tm 4 = .i64 j ∧ tm 0 = .i64 K ∧ tm 3 = .i64 (fm j)) _ ⟨0, rfl, by omega, ?_, ?_, ?_⟩ ?_
  · simp -implicitDefEqProofs only [ze, zd, simprocAttr]; try rfl
  · simp -implicitDefEqProofs only [ze, zd, simprocAttr]
  · simp -implicitDefEqProofs only [ze, zd, simprocAttr]; try rfl
  rintro n tm st nx ⟨j, hn, hj, h4, h0, h3⟩
  simp only [k104_l0]
  by_cases hc : j < K
  · have hd : decide ((j : Int) < (K : Int)) = true := decide_eq_true (by omega)
    have d1 : (j : Int).tdiv 12 = ((j / 12 : Nat) : Int) := by rw [Int.tdiv_eq_ediv_of_nonneg (by omega)]; omega
    have d2 : (j : Int).tmod 12 = ((j % 12 : Nat) : Int) := by rw [Int.tmod_eq_emod_of_nonneg (by omega)]; omega
    have w1 : IntKind.i64.wrap ((j / 12 : Nat) : Int) = ((j / 12 : Nat) : Int) := wrap_i64 (by omega) (by omega)
    have w2 : IntKind.i64.wrap (1900 + ((j / 12 : Nat) : Int)) = 1900 + ((j / 12 : Nat) : Int) := wrap_i64 (by omega) (by omega)
    have w3 : IntKind.i64.wrap (((j % 12 : Nat) : Int) + 1) = ((j % 12 : Nat) : Int) + 1 := wrap_i64 (by omega) (by omega)
    have hf := fm_add 0 j
    have hf1 := fm_lt j
    have hf0 : fm 0 = 0 := rfl
    rw [Nat.zero_add, hf0] at hf
    have w4 : IntKind.i64.wrap (fm j + (fm (j + 1) - fm j)) = fm (j + 1) := by rw [wrap_i64 (by omega) (by omega)]; omega
    have hl := rlen_at j (by omega)
    repeat' (first | (simp -implicitDefEqProofs only [ze, zd, simprocAttr, h4, h0, h3, hd, d1, d2, w1, w2, w3, hl, w4]) | (with_reducible refine wgd_cases ?_ ?_ <;> intro hb) | (with_reducible refine wcond_cases ?_ ?_ <;> intro hb) | (with_reducible refine qd_i (by kernel_rfl) ?_) | (with_reducible refine W_itn_cases ?_ ?_; omega))
    exact ⟨K - (j + 1), by omega, j + 1, rfl, by omega, up64 (by omega), rfl⟩
  · have hd : decide ((j : Int) < (K : Int)) = false := decide_eq_false (by omega)
    have : j = K := by omega
    subst this
    repeat' (first | (simp -implicitDefEqProofs only [ze, zd, simprocAttr, h4, h0, h3, hd, k104_t0]) | (with_reducible refine wgd_cases ?_ ?_ <;> intro hb) | (with_reducible refine wcond_cases ?_ ?_ <;> intro hb) | (with_reducible refine qd_i (by kernel_rfl) ?_) | (with_reducible refine W_itn_cases ?_ ?_; omega))
theorem rof_late (y m d : Int) (hy : 2199 < y) : L.pl 89 [.agg [.i64 y, .i64 m, .i64 d]] = some (.ret (.tup [.i64 0, .i64 11])) := by
  refine W_of (pl_w k89_eq ?_)
  simp only [k89]
  have h1 : decide (y < 1900) = false := decide_eq_false (by omega)
  have h2 : decide (2199 < y) = true := decide_eq_true hy
  repeat' (first | (simp -implicitDefEqProofs only [ze, zd, simprocAttr, h1, h2]) | (with_reducible refine wgd_cases ?_ ?_ <;> intro hb) | (with_reducible refine wcond_cases ?_ ?_ <;> intro hb) | (with_reducible refine qd_i (by kernel_rfl) ?_) | (with_reducible refine W_itn_cases ?_ ?_; omega))
theorem rof_yes (k : Nat) (m d : Int) (hk : k < 300) (hm : 1 ≤ m) (hm2 : m ≤ 12) (hd : 1 ≤ d) (hd2 : d ≤ lenM (1900 + (k : Int)) m.toNat) : L.pl 89 [.agg [.i64 (1900 + (k : Int)), .i64 m, .i64 d]] = some (.ret (.tup [.i64 (fm (12 * k + (m - 1).toNat) + d - 1), .i64 0])) := by
  refine W_of (pl_w k89_eq ?_)
  simp only [k89]
  have g1 : decide (1900 + (k : Int) < 1900) = false := decide_eq_false (by omega)
  have g2 : decide (2199 < 1900 + (k : Int)) = false := decide_eq_false (by omega)
  have g3 : decide (d < 1) = false := decide_eq_false (by omega)
  have g4 : decide (lenM (1900 + (k : Int)) m.toNat < d) = false := decide_eq_false (by omega)
  have hlen := rlength_i (1900 + (k : Int)) (by omega) m hm hm2
  have hb31 := lenM_pos (1900 + (k : Int)) m.toNat (by omega) (by omega)
  have hf := fm_add 0 (12 * k + (m - 1).toNat)
  have hf0 : fm 0 = 0 := rfl
  rw [Nat.zero_add, hf0] at hf
  have w1 : IntKind.i64.wrap (1900 + (k : Int) - 1900) = k := by rw [wrap_i64 (by omega) (by omega)]; omega
  have w2 : IntKind.i64.wrap ((k : Int) * 12) = 12 * k := by rw [wrap_i64 (by omega) (by omega)]; omega
  have w3 : IntKind.i64.wrap (12 * (k : Int) + m) = 12 * k + m := wrap_i64 (by omega) (by omega)
  have w4 : IntKind.i64.wrap (12 * (k : Int) + m - 1) = ((12 * k + (m - 1).toNat : Nat) : Int) := by rw [wrap_i64 (by omega) (by omega)]; omega
  have w5 : IntKind.i64.wrap (fm (12 * k + (m - 1).toNat) + d) = fm (12 * k + (m - 1).toNat) + d := wrap_i64 (by omega) (by omega)
  have w6 : IntKind.i64.wrap (fm (12 * k + (m - 1).toNat) + d - 1) = fm (12 * k + (m - 1).toNat) + d - 1 := wrap_i64 (by omega) (by omega)
  have hfi := rfirst_ok (12 * k + (m - 1).toNat) (by omega)
  repeat' (first | (simp -implicitDefEqProofs only [ze, zd, simprocAttr, g1, g2, g3, g4, hlen, w1, w2, w3, w4, w5, w6, hfi]) | (with_reducible refine wgd_cases ?_ ?_ <;> intro hb) | (with_reducible refine wcond_cases ?_ ?_ <;> intro hb) | (with_reducible refine qd_i (by kernel_rfl) ?_) | (with_reducible refine W_itn_cases ?_ ?_; omega))
theorem ris_ok (n : Int) : L.pl 106 [.i64 n] = some (.ret (.bool (dayS n))) := by
  refine W_of (pl_w k106_eq ?_)
  simp only [k106]
  repeat' (first | (simp -implicitDefEqProofs only [ze, zd, simprocAttr]) | (with_reducible refine wgd_cases ?_ ?_ <;> intro hb) | (with_reducible refine wcond_cases ?_ ?_ <;> intro hb) | (with_reducible refine qd_i (by kernel_rfl) ?_) | (with_reducible refine W_itn_cases ?_ ?_; omega))
  all_goals (refine ret_b (Bool.eq_iff_iff.mpr ?_); simp_all [dayS]; try omega)
theorem rdate_no (n : Int) (h : dayS n = false) : L.pl 94 [.i64 n] = some (.ret (.tup [.agg [.i64 0, .i64 0, .i64 0], .i64 11])) := by
  refine W_of (pl_w k94_eq ?_)
  simp only [k94]
  repeat' (first | (simp -implicitDefEqProofs only [ze, zd, simprocAttr, ris_ok, h, ne_eq, not_true_eq_false]) | (with_reducible refine wgd_cases ?_ ?_ <;> intro hb) | (with_reducible refine wcond_cases ?_ ?_ <;> intro hb) | (with_reducible refine qd_i (by kernel_rfl) ?_) | (with_reducible refine W_itn_cases ?_ ?_; omega))
theorem rdate_ok (n : Int) (M : Nat) (h : isD n M) : L.pl 94 [.i64 n] = some (.ret (.tup [.agg [.i64 (1900 + (M / 12 : Nat)), .i64 ((M % 12 + 1 : Nat) : Int), .i64 (n - fm M + 1)], .i64 0])) := by
  have hday := isD_day h
  have hn : 0 ≤ n ∧ n ≤ 109572 := by simpa [dayS] using hday
  have hM := h.2.2
  refine W_of (pl_w k94_eq ?_)
  simp only [k94]
  repeat' (first | (simp -implicitDefEqProofs only [ze, zd, simprocAttr, ris_ok, hday, ne_eq, not_true_eq_false]) | (with_reducible refine wgd_cases ?_ ?_ <;> intro hb) | (with_reducible refine wcond_cases ?_ ?_ <;> intro hb) | (with_reducible refine qd_i (by kernel_rfl) ?_) | (with_reducible refine W_itn_cases ?_ ?_; omega))
  refine loop_w (fun k tm st nx => ∃ j : Nat, k = M - j ∧ j ≤ M ∧ tm 4 = .i64 j ∧ tm 5 = .i64 (n - fm j) ∧ tm 2 = .ptr 8 0 ∧ st 8 = some (.cells [.i64 0, .i64 0, .i64 0])) _ ⟨0, rfl, by omega, ?_, ?_, ?_, ?_⟩ ?_
  · simp -implicitDefEqProofs only [ze, zd, simprocAttr]; try rfl
  · simp -implicitDefEqProofs only [ze, zd, simprocAttr]
    have : fm 0 = 0 := rfl
    rw [this, Int.sub_zero]
  · simp -implicitDefEqProofs only [ze, zd, simprocAttr]
  · simp -implicitDefEqProofs only [ze, zd, simprocAttr]; try rfl
  rintro k tm st nx ⟨j, hk, hj, h4, h5, h2, hst⟩
  simp only [k94_l0]
  have d1 : (j : Int).tdiv 12 = ((j / 12 : Nat) : Int) := by rw [Int.tdiv_eq_ediv_of_nonneg (by omega)]; omega
  have d2 : (j : Int).tmod 12 = ((j % 12 : Nat) : Int) := by rw [Int.tmod_eq_emod_of_nonneg (by omega)]; omega
  have w1 : IntKind.i64.wrap ((j / 12 : Nat) : Int) = ((j / 12 : Nat) : Int) := wrap_i64 (by omega) (by omega)
  have w2 : IntKind.i64.wrap (1900 + ((j / 12 : Nat) : Int)) = 1900 + ((j / 12 : Nat) : Int) := wrap_i64 (by omega) (by omega)
  have w3 : IntKind.i64.wrap (((j % 12 : Nat) : Int) + 1) = ((j % 12 : Nat) : Int) + 1 := wrap_i64 (by omega) (by omega)
  have hf1 := fm_lt j
  have hf2 := fm_nonneg j
  have hf3 := fm_mono hj
  have hfM := h.1
  have hl := rlen_at j (by omega)
  by_cases hc : j < M
  · have hf4 := fm_mono (show j + 1 ≤ M from hc)
    have hd : decide (fm (j + 1) - fm j ≤ n - fm j) = true := decide_eq_true (by omega)
    have w4 : IntKind.i64.wrap (n - fm j - (fm (j + 1) - fm j)) = n - fm (j + 1) := by rw [wrap_i64 (by omega) (by omega)]; omega
    repeat' (first | (simp -implicitDefEqProofs only [ze, zd, simprocAttr, h4, h5, h2, hst, hd, d1, d2, w1, w2, w3, hl, w4]) | (with_reducible refine wgd_cases ?_ ?_ <;> intro hb) | (with_reducible refine wcond_cases ?_ ?_ <;> intro hb) | (with_reducible refine qd_i (by kernel_rfl) ?_) | (with_reducible refine W_itn_cases ?_ ?_; omega))
    exact ⟨M - (j + 1), by omega, j + 1, rfl, by omega, up64 (by omega), rfl⟩
  · have : j = M := by omega
    subst this
    have hlt := h.2.1
    have hd : decide (fm (j + 1) - fm j ≤ n - fm j) = false := decide_eq_false (by omega)
    have w4 : IntKind.i64.wrap (n - fm j + 1) = n - fm j + 1 := wrap_i64 (by omega) (by omega)
    repeat' (first | (simp -implicitDefEqProofs only [ze, zd, simprocAttr, h4, h5, h2, hst, hd, d1, d2, w1, w2, w3, hl, w4, k94_t0, ne_eq, not_true_eq_false]) | (with_reducible refine wgd_cases ?_ ?_ <;> intro hb) | (with_reducible refine wcond_cases ?_ ?_ <;> intro hb) | (with_reducible refine qd_i (by kernel_rfl) ?_) | (with_reducible refine W_itn_cases ?_ ?_; omega))
    rfl
theorem rright_ok (c : Int) : L.pl 32 [.agg [.i64 c]] = some (.ret (.bool (rightC c))) := by
  refine W_of (pl_w k32_eq ?_)
  simp only [k32]
  repeat' (first | (simp -implicitDefEqProofs only [ze, zd, simprocAttr]) | (with_reducible refine wgd_cases ?_ ?_ <;> intro hb) | (with_reducible refine wcond_cases ?_ ?_ <;> intro hb) | (with_reducible refine qd_i (by kernel_rfl) ?_) | (with_reducible refine W_itn_cases ?_ ?_; omega))
  all_goals (refine ret_b (Bool.eq_iff_iff.mpr ?_); simp_all [rightC]; try omega)
theorem rmonth_ok (c y a : Int) (hc : 1 ≤ c) (hc2 : c ≤ 12) (ha : 0 ≤ a) (ha2 : a ≤ 11) :
    L.pl 63 [.agg [.i64 c], .i64 y, .i64 a] = some (.ret (if 1900 ≤ y ∧ y ≤ 2199 ∧ yM c y + a.toNat < 3600 then .tup [.i64 (fm (yM c y + a.toNat)), .i64 (fm (yM c y + a.toNat + 1) - 1), .bool true] else .tup [.i64 0, .i64 0, .bool false])) := by
  refine W_of (pl_w k63_eq ?_)
  simp only [k63]
  by_cases hy : 1900 ≤ y ∧ y ≤ 2199
  · obtain ⟨hy, hy2⟩ := hy
    have g1 : decide (y < 1900) = false := decide_eq_false (by omega)
    have g2 : decide (2199 < y) = false := decide_eq_false (by omega)
    have w1 : IntKind.i64.wrap (c - 1) = c - 1 := wrap_i64 (by omega) (by omega)
    have w2 : IntKind.i64.wrap (c - 1 + a) = c - 1 + a := wrap_i64 (by omega) (by omega)
    have hK : (yM c y : Int) = 12 * (y - 1900) + c - 1 := by unfold yM; omega
    -- the month's year and number
    have main : ∀ (Y m : Int), 12 * (Y - 1900) + m = (yM c y + a.toNat : Nat) → 0 ≤ m → m ≤ 11 → 1900 ≤ Y →
        (yM c y + a.toNat < 3600 → L.pl 89 [.agg [.i64 Y, .i64 (m + 1), .i64 1]] = some (.ret (.tup [.i64 (fm (yM c y + a.toNat)), .i64 0])) ∧ L.pl 89 [.agg [.i64 Y, .i64 (m + 1), .i64 (lenM Y (m + 1).toNat)]] = some (.ret (.tup [.i64 (fm (yM c y + a.toNat + 1) - 1), .i64 0]))) ∧
        (¬ yM c y + a.toNat < 3600 → ∀ d, L.pl 89 [.agg [.i64 Y, .i64 (m + 1), .i64 d]] = some (.ret (.tup [.i64 0, .i64 11]))) := by
      intro Y m he hm hm2 hY
      refine ⟨fun hlt => ?_, fun hlt d => rof_late _ _ _ (by omega)⟩
      have hYe : Y = 1900 + (((Y - 1900).toNat : Nat) : Int) := by omega
      have hl := lenM_pos Y (m + 1).toNat (by omega) (by omega)
      have ek : 12 * (Y - 1900).toNat + (m + 1 - 1).toNat = yM c y + a.toNat := by omega
      have h1 := rof_yes (Y - 1900).toNat (m + 1) 1 (by omega) (by omega) (by omega) (by omega) (by rw [← hYe]; omega)
      have h2 := rof_yes (Y - 1900).toNat (m + 1) (lenM Y (m + 1).toNat) (by omega) (by omega) (by omega) (by omega) (by rw [← hYe]; exact Int.le_refl _)
      rw [← hYe, ek] at h1 h2
      have hfm := fm_at (Y - 1900).toNat m.toNat (by omega)
      have e1 : 12 * (Y - 1900).toNat + (m.toNat + 1) = yM c y + a.toNat + 1 := by omega
      have e2 : 12 * (Y - 1900).toNat + m.toNat = yM c y + a.toNat := by omega
      have e3 : m.toNat + 1 = (m + 1).toNat := by omega
      rw [e1, e2, ← hYe, e3] at hfm
      rw [Int.add_sub_cancel] at h1
      refine ⟨h1, ?_⟩
      rw [hfm, h2]
    by_cases hm : 12 ≤ c - 1 + a
    · have g3 : decide (12 ≤ c - 1 + a) = true := decide_eq_true hm
      have w3 : IntKind.i64.wrap (c - 1 + a - 12) = c - 1 + a - 12 := wrap_i64 (by omega) (by omega)
      have w4 : IntKind.i64.wrap (y + 1) = y + 1 := wrap_i64 (by omega) (by omega)
      have w5 : IntKind.i64.wrap (c - 1 + a - 12 + 1) = c - 1 + a - 12 + 1 := wrap_i64 (by omega) (by omega)
      obtain ⟨m1, m2⟩ := main (y + 1) (c - 1 + a - 12) (by omega) (by omega) (by omega) (by omega)
      have hl := rlength_i (y + 1) (by omega) (c - 1 + a - 12 + 1) (by omega) (by omega)
      by_cases hlt : yM c y + a.toNat < 3600
      · rw [if_pos ⟨hy, hy2, hlt⟩]
        obtain ⟨m3, m4⟩ := m1 hlt
        repeat' (first | (simp -implicitDefEqProofs only [ze, zd, simprocAttr, g1, g2, g3, w1, w2, w3, w4, w5, hl, m3, m4, ne_eq, not_true_eq_false]) | (with_reducible refine wgd_cases ?_ ?_ <;> intro hb) | (with_reducible refine wcond_cases ?_ ?_ <;> intro hb) | (with_reducible refine qd_i (by kernel_rfl) ?_) | (with_reducible refine W_itn_cases ?_ ?_; omega))
      · rw [if_neg (fun h => hlt h.2.2)]
        have m5 := m2 hlt
        repeat' (first | (simp -implicitDefEqProofs only [ze, zd, simprocAttr, g1, g2, g3, w1, w2, w3, w4, w5, hl, m5, ne_eq, not_true_eq_false]) | (with_reducible refine wgd_cases ?_ ?_ <;> intro hb) | (with_reducible refine wcond_cases ?_ ?_ <;> intro hb) | (with_reducible refine qd_i (by kernel_rfl) ?_) | (with_reducible refine W_itn_cases ?_ ?_; omega))
    · have g3 : decide (12 ≤ c - 1 + a) = false := decide_eq_false hm
      have w5 : IntKind.i64.wrap (c - 1 + a + 1) = c - 1 + a + 1 := wrap_i64 (by omega) (by omega)
      obtain ⟨m1, m2⟩ := main y (c - 1 + a) (by omega) (by omega) (by omega) (by omega)
      have hl := rlength_i y (by omega) (c - 1 + a + 1) (by omega) (by omega)
      have hlt : yM c y + a.toNat < 3600 := by omega
      rw [if_pos ⟨hy, hy2, hlt⟩]
      obtain ⟨m3, m4⟩ := m1 hlt
      repeat' (first | (simp -implicitDefEqProofs only [ze, zd, simprocAttr, g1, g2, g3, w1, w2, w5, hl, m3, m4, ne_eq, not_true_eq_false]) | (with_reducible refine wgd_cases ?_ ?_ <;> intro hb) | (with_reducible refine wcond_cases ?_ ?_ <;> intro hb) | (with_reducible refine qd_i (by kernel_rfl) ?_) | (with_reducible refine W_itn_cases ?_ ?_; omega))
  · rw [if_neg (fun h => hy ⟨h.1, h.2.1⟩)]
    repeat' (first | (simp -implicitDefEqProofs only [ze, zd, simprocAttr]) | (with_reducible refine wgd_cases ?_ ?_ <;> intro hb) | (with_reducible refine wcond_cases ?_ ?_ <;> intro hb) | (with_reducible refine qd_i (by kernel_rfl) ?_) | (with_reducible refine W_itn_cases ?_ ?_; omega))
    all_goals (simp only [decide_eq_true_eq, decide_eq_false_iff_not] at *; exfalso; omega)
end Go.Proofs.YthgmhlpjbednpaaDoor.Vm
set_option maxRecDepth 10000
set_option linter.unusedVariables false
set_option linter.unusedSimpArgs false
namespace Go.Proofs.YthgmhlpjbednpaaDoor.Vm
open Go Go.Proofs
theorem yM_eq {c y : Int} (hc : 1 ≤ c) (hy : 1900 ≤ y) : (yM c y : Int) = 12 * (y - 1900) + c - 1 := by unfold yM; omega
theorem ryear_ok (c y : Int) (hc : 1 ≤ c) (hc2 : c ≤ 12) : L.pl 88 [.agg [.i64 c], .i64 y] = some (.ret (.bool (yrS c y))) := by
  refine W_of (pl_w k88_eq ?_)
  simp only [k88]
  have m0 := rmonth_ok c y 0 hc hc2 (by omega) (by omega)
  have m11 := rmonth_ok c y 11 hc hc2 (by omega) (by omega)
  have e0 : yM c y + (0 : Int).toNat = yM c y := rfl
  have e11 : yM c y + (11 : Int).toNat = yM c y + 11 := rfl
  rw [e0] at m0
  rw [e11] at m11
  by_cases h : 1900 ≤ y ∧ y ≤ 2199
  · have hK := yM_eq hc h.1
    rw [if_pos ⟨h.1, h.2, by omega⟩] at m0
    by_cases h2 : yM c y + 11 < 3600
    · rw [if_pos ⟨h.1, h.2, h2⟩] at m11
      have hyr : yrS c y = true := by simp only [yrS, Bool.and_eq_true, decide_eq_true_eq]; omega
      rw [hyr]
      repeat' (first | (simp -implicitDefEqProofs only [ze, zd, simprocAttr, m0, m11]) | (with_reducible refine wgd_cases ?_ ?_ <;> intro hb) | (with_reducible refine wcond_cases ?_ ?_ <;> intro hb) | (with_reducible refine qd_i (by kernel_rfl) ?_) | (with_reducible refine W_itn_cases ?_ ?_; omega))
    · rw [if_neg (fun q => h2 q.2.2)] at m11
      have hyr : yrS c y = false := by simp only [yrS, Bool.and_eq_false_iff, decide_eq_false_iff_not]; omega
      rw [hyr]
      repeat' (first | (simp -implicitDefEqProofs only [ze, zd, simprocAttr, m0, m11]) | (with_reducible refine wgd_cases ?_ ?_ <;> intro hb) | (with_reducible refine wcond_cases ?_ ?_ <;> intro hb) | (with_reducible refine qd_i (by kernel_rfl) ?_) | (with_reducible refine W_itn_cases ?_ ?_; omega))
  · have hyr : yrS c y = false := by simp only [yrS, Bool.and_eq_false_iff, decide_eq_false_iff_not]; omega
    rw [if_neg (fun q => h ⟨q.1, q.2.1⟩)] at m0 m11
    rw [hyr]
    repeat' (first | (simp -implicitDefEqProofs only [ze, zd, simprocAttr, m0, m11]) | (with_reducible refine wgd_cases ?_ ?_ <;> intro hb) | (with_reducible refine wcond_cases ?_ ?_ <;> intro hb) | (with_reducible refine qd_i (by kernel_rfl) ?_) | (with_reducible refine W_itn_cases ?_ ?_; omega))
theorem rexists_ok (c y n : Int) (hc : 1 ≤ c) (hc2 : c ≤ 12) : L.pl 62 [.agg [.i64 c], .agg [.i64 y, .i64 n]] = some (.ret (.bool (exS c y n))) := by
  refine W_of (pl_w k62_eq ?_)
  simp only [k62]
  have hy := ryear_ok c y hc hc2
  repeat' (first | (simp -implicitDefEqProofs only [ze, zd, simprocAttr, hy]) | (with_reducible refine wgd_cases ?_ ?_ <;> intro hb) | (with_reducible refine wcond_cases ?_ ?_ <;> intro hb) | (with_reducible refine qd_i (by kernel_rfl) ?_) | (with_reducible refine W_itn_cases ?_ ?_; omega))
  all_goals (refine ret_b (Bool.eq_iff_iff.mpr ?_); simp_all [exS]; try (intros; omega))
theorem rspan_ok (c y n : Int) : L.pl 33 [.agg [.i64 c], .agg [.i64 y, .i64 n]] = some (.ret (.tup [.i64 (spanS c y n).1, .i64 (spanS c y n).2.1, .i64 (spanS c y n).2.2])) := by
  refine W_of (pl_w k33_eq ?_)
  simp only [k33]
  cases hr : rightC c with
  | false =>
    have e : spanS c y n = (0, 0, 2) := by simp [spanS, hr]
    rw [e]
    repeat' (first | (simp -implicitDefEqProofs only [ze, zd, simprocAttr, rright_ok, hr]) | (with_reducible refine wgd_cases ?_ ?_ <;> intro hb) | (with_reducible refine wcond_cases ?_ ?_ <;> intro hb) | (with_reducible refine qd_i (by kernel_rfl) ?_) | (with_reducible refine W_itn_cases ?_ ?_; omega))
  | true =>
    obtain ⟨hc, hc2⟩ := rightC_b hr
    have hex := rexists_ok c y n hc hc2
    cases hx : exS c y n with
    | false =>
      have e : spanS c y n = (0, 0, 16) := by simp [spanS, hr, hx]
      rw [e]
      rw [hx] at hex
      repeat' (first | (simp -implicitDefEqProofs only [ze, zd, simprocAttr, rright_ok, hr, hex]) | (with_reducible refine wgd_cases ?_ ?_ <;> intro hb) | (with_reducible refine wcond_cases ?_ ?_ <;> intro hb) | (with_reducible refine qd_i (by kernel_rfl) ?_) | (with_reducible refine W_itn_cases ?_ ?_; omega))
    | true =>
      rw [hx] at hex
      obtain ⟨hy, hn, hn2⟩ := exS_b hx
      obtain ⟨y1, y2, y3⟩ := yrS_b hy
      have hK := yM_eq hc y1
      by_cases h13 : n = 13
      · subst h13
        have e : spanS c y 13 = (lastS c y, lastS c y, 0) := by simp [spanS, hr, hx]
        rw [e]
        have hm := rmonth_ok c y 11 hc hc2 (by omega) (by omega)
        have e11 : yM c y + (11 : Int).toNat = yM c y + 11 := rfl
        rw [e11, if_pos ⟨y1, y2, by omega⟩] at hm
        repeat' (first | (simp -implicitDefEqProofs only [ze, zd, simprocAttr, rright_ok, hr, hex, hm]) | (with_reducible refine wgd_cases ?_ ?_ <;> intro hb) | (with_reducible refine wcond_cases ?_ ?_ <;> intro hb) | (with_reducible refine qd_i (by kernel_rfl) ?_) | (with_reducible refine W_itn_cases ?_ ?_; omega))
        rfl
      · have e : spanS c y n = (fm (yM c y + (n - 1).toNat), fm (yM c y + (n - 1).toNat + 1) - 1, 0) := by simp [spanS, hr, hx, h13]
        rw [e]
        have g1 : decide (n = 13) = false := decide_eq_false h13
        have w1 : IntKind.i64.wrap (n - 1) = n - 1 := wrap_i64 (by omega) (by omega)
        have hm := rmonth_ok c y (n - 1) hc hc2 (by omega) (by omega)
        rw [if_pos ⟨y1, y2, by omega⟩] at hm
        repeat' (first | (simp -implicitDefEqProofs only [ze, zd, simprocAttr, rright_ok, hr, hex, g1, w1, hm]) | (with_reducible refine wgd_cases ?_ ?_ <;> intro hb) | (with_reducible refine wcond_cases ?_ ?_ <;> intro hb) | (with_reducible refine qd_i (by kernel_rfl) ?_) | (with_reducible refine W_itn_cases ?_ ?_; omega))
theorem rofP_ok (c n : Int) : L.pl 73 [.agg [.i64 c], .i64 n] = some (.ret (encPE (ofP c n))) := by
  refine W_of (pl_w k73_eq ?_)
  simp only [k73]
  cases hr : rightC c with
  | false =>
    have e : ofP c n = ((0, 0), 2) := by simp [ofP, hr]
    rw [e]
    repeat' (first | (simp -implicitDefEqProofs only [ze, zd, simprocAttr, rright_ok, hr, encPE, ne_eq, not_true_eq_false]) | (with_reducible refine wgd_cases ?_ ?_ <;> intro hb) | (with_reducible refine wcond_cases ?_ ?_ <;> intro hb) | (with_reducible refine qd_i (by kernel_rfl) ?_) | (with_reducible refine W_itn_cases ?_ ?_; omega))
  | true =>
    obtain ⟨hc, hc2⟩ := rightC_b hr
    cases hday : dayS n with
    | false =>
      have e : ofP c n = ((0, 0), 11) := by simp [ofP, hr, hday]
      rw [e]
      repeat' (first | (simp -implicitDefEqProofs only [ze, zd, simprocAttr, rright_ok, hr, rdate_no n hday, encPE, ne_eq, not_true_eq_false]) | (with_reducible refine wgd_cases ?_ ?_ <;> intro hb) | (with_reducible refine wcond_cases ?_ ?_ <;> intro hb) | (with_reducible refine qd_i (by kernel_rfl) ?_) | (with_reducible refine W_itn_cases ?_ ?_; omega))
    | true =>
      have hM := isD_mon hday
      have hd := rdate_ok n _ hM
      have hlt := hM.2.2
      have hex := ryear_ok c (perS c (monOf n)).1 hc hc2
      generalize hM0 : monOf n = M at *
      have w1 : IntKind.i64.wrap (((M % 12 + 1 : Nat) : Int) - c) = ((M % 12 + 1 : Nat) : Int) - c := wrap_i64 (by omega) (by omega)
      have w2 : IntKind.i64.wrap (((M % 12 + 1 : Nat) : Int) - c + 1) = ((M % 12 + 1 : Nat) : Int) - c + 1 := wrap_i64 (by omega) (by omega)
      have w3 : IntKind.i64.wrap (((M % 12 + 1 : Nat) : Int) - c + 13) = ((M % 12 + 1 : Nat) : Int) - c + 13 := wrap_i64 (by omega) (by omega)
      have w4 : IntKind.i64.wrap (1900 + ((M / 12 : Nat) : Int) - 1) = 1900 + ((M / 12 : Nat) : Int) - 1 := wrap_i64 (by omega) (by omega)
      by_cases h1 : ((M % 12 + 1 : Nat) : Int) < c
      · have g1 : decide (((M % 12 + 1 : Nat) : Int) < c) = true := decide_eq_true h1
        have e1 : 1900 + ((M / 12 : Nat) : Int) - 1 = (perS c M).1 := by unfold perS; omega
        have e2 : ((M % 12 + 1 : Nat) : Int) - c + 13 = (perS c M).2 := by unfold perS; omega
        rw [← e1] at hex
        cases hy : yrS c (perS c M).1 with
        | true =>
          have e : ofP c n = (perS c M, 0) := by simp [ofP, hr, hday, hM0, hy]
          rw [e]
          rw [e1, hy, ← e1] at hex
          repeat' (first | (simp -implicitDefEqProofs only [ze, zd, simprocAttr, rright_ok, hr, hd, w1, w2, w3, w4, g1, hex, encPE, ne_eq, not_true_eq_false]) | (with_reducible refine wgd_cases ?_ ?_ <;> intro hb) | (with_reducible refine wcond_cases ?_ ?_ <;> intro hb) | (with_reducible refine qd_i (by kernel_rfl) ?_) | (with_reducible refine W_itn_cases ?_ ?_; omega))
          rw [e1, e2]
        | false =>
          have e : ofP c n = ((0, 0), 16) := by simp [ofP, hr, hday, hM0, hy]
          rw [e]
          rw [e1, hy, ← e1] at hex
          repeat' (first | (simp -implicitDefEqProofs only [ze, zd, simprocAttr, rright_ok, hr, hd, w1, w2, w3, w4, g1, hex, encPE, ne_eq, not_true_eq_false]) | (with_reducible refine wgd_cases ?_ ?_ <;> intro hb) | (with_reducible refine wcond_cases ?_ ?_ <;> intro hb) | (with_reducible refine qd_i (by kernel_rfl) ?_) | (with_reducible refine W_itn_cases ?_ ?_; omega))
      · have g1 : decide (((M % 12 + 1 : Nat) : Int) < c) = false := decide_eq_false h1
        have e1 : 1900 + ((M / 12 : Nat) : Int) = (perS c M).1 := by unfold perS; omega
        have e2 : ((M % 12 + 1 : Nat) : Int) - c + 1 = (perS c M).2 := by unfold perS; omega
        rw [← e1] at hex
        cases hy : yrS c (perS c M).1 with
        | true =>
          have e : ofP c n = (perS c M, 0) := by simp [ofP, hr, hday, hM0, hy]
          rw [e]
          rw [e1, hy, ← e1] at hex
          repeat' (first | (simp -implicitDefEqProofs only [ze, zd, simprocAttr, rright_ok, hr, hd, w1, w2, g1, hex, encPE, ne_eq, not_true_eq_false]) | (with_reducible refine wgd_cases ?_ ?_ <;> intro hb) | (with_reducible refine wcond_cases ?_ ?_ <;> intro hb) | (with_reducible refine qd_i (by kernel_rfl) ?_) | (with_reducible refine W_itn_cases ?_ ?_; omega))
          rw [e1, e2]
        | false =>
          have e : ofP c n = ((0, 0), 16) := by simp [ofP, hr, hday, hM0, hy]
          rw [e]
          rw [e1, hy, ← e1] at hex
          repeat' (first | (simp -implicitDefEqProofs only [ze, zd, simprocAttr, rright_ok, hr, hd, w1, w2, g1, hex, encPE, ne_eq, not_true_eq_false]) | (with_reducible refine wgd_cases ?_ ?_ <;> intro hb) | (with_reducible refine wcond_cases ?_ ?_ <;> intro hb) | (with_reducible refine qd_i (by kernel_rfl) ?_) | (with_reducible refine W_itn_cases ?_ ?_; omega))
theorem ofP_bad {c n : Int} (h : (ofP c n).2 ≠ 0) : (ofP c n).1 = (0, 0) := by
  unfold ofP at h ⊢
  by_cases h1 : rightC c = false
  · rw [if_pos h1]
  · rw [if_neg h1] at h ⊢
    by_cases h2 : dayS n = false
    · rw [if_pos h2]
    · rw [if_neg h2] at h ⊢
      by_cases h3 : yrS c (perS c (monOf n)).1 = false
      · rw [if_pos h3]
      · rw [if_neg h3] at h; exact absurd rfl h
theorem rforP_ok (c n k : Int) : L.pl 47 [.agg [.i64 c], .i64 n, .i64 k] = some (.ret (encPE (forP c n k))) := by
  refine W_of (pl_w k47_eq ?_)
  simp only [k47]
  have ho := rofP_ok c n
  by_cases h0 : (ofP c n).2 = 0
  · obtain ⟨hr, hd, hy, _⟩ := ofP_good h0
    obtain ⟨hc, hc2⟩ := rightC_b hr
    obtain ⟨y1, y2, y3⟩ := yrS_b hy
    have hK := yM_eq hc y1
    have hm := rmonth_ok c (ofP c n).1.1 11 hc hc2 (by omega) (by omega)
    have e11 : yM c (ofP c n).1.1 + (11 : Int).toNat = yM c (ofP c n).1.1 + 11 := rfl
    rw [e11, if_pos ⟨y1, y2, by omega⟩] at hm
    have el : fm (yM c (ofP c n).1.1 + 11 + 1) - 1 = lastS c (ofP c n).1.1 := rfl
    rw [el] at hm
    simp only [encPE, h0] at ho
    have gs : decide (n = lastS c (ofP c n).1.1) = decide (lastS c (ofP c n).1.1 = n) := by
      by_cases h : n = lastS c (ofP c n).1.1
      · rw [decide_eq_true h, decide_eq_true h.symm]
      · rw [decide_eq_false h, decide_eq_false (fun q => h q.symm)]
    by_cases hk : k = 3 ∨ k = 4
    · by_cases hl : lastS c (ofP c n).1.1 = n
      · have e : forP c n k = (((ofP c n).1.1, 13), 0) := by
          unfold forP; rw [if_neg (by simp [h0]), if_pos ⟨hk, hl⟩]
        rw [e]
        have g1 : decide (n = lastS c (ofP c n).1.1) = true := by rw [gs]; exact decide_eq_true hl
        rcases hk with rfl | rfl
        · repeat' (first | (simp -implicitDefEqProofs only [ze, zd, simprocAttr, ho, hm, g1, encPE, ne_eq, not_true_eq_false]) | (with_reducible refine wgd_cases ?_ ?_ <;> intro hb) | (with_reducible refine wcond_cases ?_ ?_ <;> intro hb) | (with_reducible refine qd_i (by kernel_rfl) ?_) | (with_reducible refine W_itn_cases ?_ ?_; omega))
        · repeat' (first | (simp -implicitDefEqProofs only [ze, zd, simprocAttr, ho, hm, g1, encPE, ne_eq, not_true_eq_false]) | (with_reducible refine wgd_cases ?_ ?_ <;> intro hb) | (with_reducible refine wcond_cases ?_ ?_ <;> intro hb) | (with_reducible refine qd_i (by kernel_rfl) ?_) | (with_reducible refine W_itn_cases ?_ ?_; omega))
      · have e : forP c n k = ofP c n := by
          unfold forP; rw [if_neg (by simp [h0]), if_neg (fun h => hl h.2)]
        rw [e]
        have g1 : decide (n = lastS c (ofP c n).1.1) = false := by rw [gs]; exact decide_eq_false hl
        rcases hk with rfl | rfl
        · repeat' (first | (simp -implicitDefEqProofs only [ze, zd, simprocAttr, ho, hm, g1, encPE, h0, ne_eq, not_true_eq_false]) | (with_reducible refine wgd_cases ?_ ?_ <;> intro hb) | (with_reducible refine wcond_cases ?_ ?_ <;> intro hb) | (with_reducible refine qd_i (by kernel_rfl) ?_) | (with_reducible refine W_itn_cases ?_ ?_; omega))
        · repeat' (first | (simp -implicitDefEqProofs only [ze, zd, simprocAttr, ho, hm, g1, encPE, h0, ne_eq, not_true_eq_false]) | (with_reducible refine wgd_cases ?_ ?_ <;> intro hb) | (with_reducible refine wcond_cases ?_ ?_ <;> intro hb) | (with_reducible refine qd_i (by kernel_rfl) ?_) | (with_reducible refine W_itn_cases ?_ ?_; omega))
    · have e : forP c n k = ofP c n := by
        unfold forP; rw [if_neg (by simp [h0]), if_neg (fun h => hk h.1)]
      rw [e]
      have g3 : decide (k = 3) = false := decide_eq_false (fun h => hk (.inl h))
      have g4 : decide (k = 4) = false := decide_eq_false (fun h => hk (.inr h))
      repeat' (first | (simp -implicitDefEqProofs only [ze, zd, simprocAttr, ho, hm, g3, g4, encPE, h0, ne_eq, not_true_eq_false]) | (with_reducible refine wgd_cases ?_ ?_ <;> intro hb) | (with_reducible refine wcond_cases ?_ ?_ <;> intro hb) | (with_reducible refine qd_i (by kernel_rfl) ?_) | (with_reducible refine W_itn_cases ?_ ?_; omega))
  · have e : forP c n k = ofP c n := by unfold forP; rw [if_pos h0]
    rw [e]
    have hb := ofP_bad h0
    simp only [encPE] at ho
    have g1 : decide ((ofP c n).2 = 0) = false := decide_eq_false h0
    repeat' (first | (simp -implicitDefEqProofs only [ze, zd, simprocAttr, ho, g1, encPE, hb, ne_eq, not_true_eq_false]) | (with_reducible refine wgd_cases ?_ ?_ <;> intro hb) | (with_reducible refine wcond_cases ?_ ?_ <;> intro hb) | (with_reducible refine qd_i (by kernel_rfl) ?_) | (with_reducible refine W_itn_cases ?_ ?_; omega))
theorem rstepP_ok (c y n y2 n2 : Int) : L.pl 91 [.agg [.i64 c], .agg [.i64 y, .i64 n], .agg [.i64 y2, .i64 n2]] = some (.ret (encPE (stepP c y n y2 n2))) := by
  refine W_of (pl_w k91_eq ?_)
  simp only [k91]
  cases hr : rightC c with
  | false =>
    have e : stepP c y n y2 n2 = ((0, 0), 2) := by simp [stepP, hr]
    rw [e]
    repeat' (first | (simp -implicitDefEqProofs only [ze, zd, simprocAttr, rright_ok, hr, encPE, ne_eq, not_true_eq_false]) | (with_reducible refine wgd_cases ?_ ?_ <;> intro hb) | (with_reducible refine wcond_cases ?_ ?_ <;> intro hb) | (with_reducible refine qd_i (by kernel_rfl) ?_) | (with_reducible refine W_itn_cases ?_ ?_; omega))
  | true =>
    obtain ⟨hc, hc2⟩ := rightC_b hr
    have hx1 := rexists_ok c y n hc hc2
    have hx2 := rexists_ok c y2 n2 hc hc2
    cases h1 : exS c y n with
    | false =>
      have e : stepP c y n y2 n2 = ((0, 0), 16) := by simp [stepP, hr, h1]
      rw [e]
      rw [h1] at hx1
      repeat' (first | (simp -implicitDefEqProofs only [ze, zd, simprocAttr, rright_ok, hr, hx1, encPE, ne_eq, not_true_eq_false]) | (with_reducible refine wgd_cases ?_ ?_ <;> intro hb) | (with_reducible refine wcond_cases ?_ ?_ <;> intro hb) | (with_reducible refine qd_i (by kernel_rfl) ?_) | (with_reducible refine W_itn_cases ?_ ?_; omega))
    | true =>
      rw [h1] at hx1
      cases h2 : exS c y2 n2 with
      | false =>
        have e : stepP c y n y2 n2 = ((0, 0), 16) := by simp [stepP, hr, h1, h2]
        rw [e]
        rw [h2] at hx2
        repeat' (first | (simp -implicitDefEqProofs only [ze, zd, simprocAttr, rright_ok, hr, hx1, hx2, encPE, ne_eq, not_true_eq_false]) | (with_reducible refine wgd_cases ?_ ?_ <;> intro hb) | (with_reducible refine wcond_cases ?_ ?_ <;> intro hb) | (with_reducible refine qd_i (by kernel_rfl) ?_) | (with_reducible refine W_itn_cases ?_ ?_; omega))
      | true =>
        have e : stepP c y n y2 n2 = ((y2, n2), 0) := by simp [stepP, hr, h1, h2]
        rw [e]
        rw [h2] at hx2
        repeat' (first | (simp -implicitDefEqProofs only [ze, zd, simprocAttr, rright_ok, hr, hx1, hx2, encPE, ne_eq, not_true_eq_false]) | (with_reducible refine wgd_cases ?_ ?_ <;> intro hb) | (with_reducible refine wcond_cases ?_ ?_ <;> intro hb) | (with_reducible refine qd_i (by kernel_rfl) ?_) | (with_reducible refine W_itn_cases ?_ ?_; omega))
theorem rnextP_ok (c y n : Int) : L.pl 67 [.agg [.i64 c], .agg [.i64 y, .i64 n]] = some (.ret (encPE (nextP c y n))) := by
  refine W_of (pl_w k67_eq ?_)
  simp only [k67]
  by_cases h : n = 13
  · subst h
    have e : nextP c y 13 = stepP c y 13 (IntKind.i64.wrap (y + 1)) 1 := by unfold nextP; rw [if_pos rfl]
    rw [e]
    have hs := rstepP_ok c y 13 (IntKind.i64.wrap (y + 1)) 1
    simp only [encPE] at hs
    repeat' (first | (simp -implicitDefEqProofs only [ze, zd, simprocAttr, hs, encPE, ne_eq, not_true_eq_false]) | (with_reducible refine wgd_cases ?_ ?_ <;> intro hb) | (with_reducible refine wcond_cases ?_ ?_ <;> intro hb) | (with_reducible refine qd_i (by kernel_rfl) ?_) | (with_reducible refine W_itn_cases ?_ ?_; omega))
  · have e : nextP c y n = stepP c y n y (IntKind.i64.wrap (n + 1)) := by unfold nextP; rw [if_neg h]
    rw [e]
    have hs := rstepP_ok c y n y (IntKind.i64.wrap (n + 1))
    simp only [encPE] at hs
    have g : decide (n = 13) = false := decide_eq_false h
    repeat' (first | (simp -implicitDefEqProofs only [ze, zd, simprocAttr, hs, g, encPE, ne_eq, not_true_eq_false]) | (with_reducible refine wgd_cases ?_ ?_ <;> intro hb) | (with_reducible refine wcond_cases ?_ ?_ <;> intro hb) | (with_reducible refine qd_i (by kernel_rfl) ?_) | (with_reducible refine W_itn_cases ?_ ?_; omega))
theorem rprevP_ok (c y n : Int) : L.pl 92 [.agg [.i64 c], .agg [.i64 y, .i64 n]] = some (.ret (encPE (prevP c y n))) := by
  refine W_of (pl_w k92_eq ?_)
  simp only [k92]
  by_cases h : n = 1
  · subst h
    have e : prevP c y 1 = stepP c y 1 (IntKind.i64.wrap (y - 1)) 13 := by unfold prevP; rw [if_pos rfl]
    rw [e]
    have hs := rstepP_ok c y 1 (IntKind.i64.wrap (y - 1)) 13
    simp only [encPE] at hs
    repeat' (first | (simp -implicitDefEqProofs only [ze, zd, simprocAttr, hs, encPE, ne_eq, not_true_eq_false]) | (with_reducible refine wgd_cases ?_ ?_ <;> intro hb) | (with_reducible refine wcond_cases ?_ ?_ <;> intro hb) | (with_reducible refine qd_i (by kernel_rfl) ?_) | (with_reducible refine W_itn_cases ?_ ?_; omega))
  · have e : prevP c y n = stepP c y n y (IntKind.i64.wrap (n - 1)) := by unfold prevP; rw [if_neg h]
    rw [e]
    have hs := rstepP_ok c y n y (IntKind.i64.wrap (n - 1))
    simp only [encPE] at hs
    have g : decide (n = 1) = false := decide_eq_false h
    repeat' (first | (simp -implicitDefEqProofs only [ze, zd, simprocAttr, hs, g, encPE, ne_eq, not_true_eq_false]) | (with_reducible refine wgd_cases ?_ ?_ <;> intro hb) | (with_reducible refine wcond_cases ?_ ?_ <;> intro hb) | (with_reducible refine qd_i (by kernel_rfl) ?_) | (with_reducible refine W_itn_cases ?_ ?_; omega))
theorem rcmpP_ok (y n y2 n2 : Int) : L.pl 48 [.agg [.i64 y, .i64 n], .agg [.i64 y2, .i64 n2]] = some (.ret (.i64 (cmpP y n y2 n2))) := by
  refine W_of (pl_w k48_eq ?_)
  simp only [k48]
  repeat' (first | (simp -implicitDefEqProofs only [ze, zd, simprocAttr]) | (with_reducible refine wgd_cases ?_ ?_ <;> intro hb) | (with_reducible refine wcond_cases ?_ ?_ <;> intro hb) | (with_reducible refine qd_i (by kernel_rfl) ?_) | (with_reducible refine W_itn_cases ?_ ?_; omega))
  all_goals (refine ret_i ?_; simp only [bne_iff_ne, ne_eq, Bool.not_eq_false, bne_eq_false_iff_eq, Bool.and_eq_true, Bool.and_eq_false_iff, decide_eq_true_eq, decide_eq_false_iff_not, Bool.not_eq_true', Bool.not_eq_false'] at *; unfold cmpP; (repeat' split) <;> first | rfl | omega)
end Go.Proofs.YthgmhlpjbednpaaDoor.Vm
set_option linter.unusedVariables false
set_option linter.unusedSimpArgs false
namespace Go.Proofs.YthgmhlpjbednpaaDoor.Vm
open Go Go.Proofs
section
variable {α : Type}
def kmap (f : α → V) (l : List (ByteArray × α)) : List (V × V) := l.map fun p => (V.str p.1, f p.2)
def aidx : List (ByteArray × α) → ByteArray → Option (Nat × α)
  | [], _ => none
  | p :: l, k => if k = p.1 then some (0, p.2) else (aidx l k).map fun q => (q.1 + 1, q.2)
def aget (l : List (ByteArray × α)) (k : ByteArray) : Option α := (aidx l k).map (·.2)
def aset (l : List (ByteArray × α)) (k : ByteArray) (v : α) : List (ByteArray × α) := match aidx l k with
  | some (i, _) => l.set i (k, v)
  | none => l ++ [(k, v)]
def adel (l : List (ByteArray × α)) (k : ByteArray) : List (ByteArray × α) := match aidx l k with
  | some (i, _) => l.eraseIdx i
  | none => l
theorem mfind_kmap (f : α → V) (k : ByteArray) : ∀ (l : List (ByteArray × α)) (j : Nat), mfind (.string k) (kmap f l) j = some ((aidx l k).map fun q => (j + q.1, f q.2))
  | [], j => rfl
  | p :: l, j => by
    have e : kmap f (p :: l) = (V.sc (.string p.1), f p.2) :: kmap f l := rfl
    rw [e, mfind]
    by_cases h : k = p.1
    · have hk : keyEq (.string k) (.string p.1) = some true := by simp only [keyEq]; rw [ba_beq, decide_eq_true h]
      rw [hk]; simp [aidx, h]
    · have hk : keyEq (.string k) (.string p.1) = some false := by simp only [keyEq]; rw [ba_beq, decide_eq_false h]
      rw [hk]
      simp only [aidx, if_neg h]
      rw [mfind_kmap f k l (j + 1)]
      cases aidx l k with
      | none => rfl
      | some q => simp only [Option.map_some, Option.some.injEq, Prod.mk.injEq, and_true]; omega
theorem aidx_some {l : List (ByteArray × α)} {k : ByteArray} {i : Nat} {v : α} (h : aidx l k = some (i, v)) : l[i]? = some (k, v) := by
  induction l generalizing i with
  | nil => simp [aidx] at h
  | cons p l ih =>
    simp only [aidx] at h
    split at h
    · rename_i hk; simp only [Option.some.injEq, Prod.mk.injEq] at h; obtain ⟨rfl, rfl⟩ := h; subst hk; rfl
    · simp only [Option.map_eq_some_iff, Prod.mk.injEq] at h
      obtain ⟨⟨i', v'⟩, h1, rfl, rfl⟩ := h
      exact ih h1
theorem aidx_none {l : List (ByteArray × α)} {k : ByteArray} : aidx l k = none ↔ k ∉ l.map (·.1) := by
  induction l with
  | nil => simp [aidx]
  | cons p l ih =>
    simp only [aidx]
    split
    · rename_i hk; simp [hk]
    · rename_i hk
      rw [Option.map_eq_none_iff, ih]
      simp [hk]
theorem kmap_set (f : α → V) (l : List (ByteArray × α)) (i : Nat) (k : ByteArray) (v : α) : (kmap f l).set i (V.str k, f v) = kmap f (l.set i (k, v)) := by simp only [kmap, List.map_set]
theorem kmap_app (f : α → V) (l : List (ByteArray × α)) (k : ByteArray) (v : α) : kmap f l ++ [(V.str k, f v)] = kmap f (l ++ [(k, v)]) := by simp [kmap]
theorem kmap_erase (f : α → V) (l : List (ByteArray × α)) (i : Nat) : (kmap f l).eraseIdx i = kmap f (l.eraseIdx i) := by
  induction l generalizing i with
  | nil => rfl
  | cons p l ih =>
    cases i with
    | zero => rfl
    | succ i =>
      have := ih i
      simp only [kmap] at this
      simp only [kmap, List.map_cons, List.eraseIdx_cons_succ, this]
theorem aget_nil (k : ByteArray) : aget ([] : List (ByteArray × α)) k = none := rfl
theorem aget_cons (p : ByteArray × α) (l : List (ByteArray × α)) (k : ByteArray) : aget (p :: l) k = if k = p.1 then some p.2 else aget l k := by
  simp only [aget, aidx]
  split
  · rfl
  · cases aidx l k <;> rfl
theorem aget_app (l : List (ByteArray × α)) (p : ByteArray × α) (k : ByteArray) : aget (l ++ [p]) k = (aget l k).or (if k = p.1 then some p.2 else none) := by
  induction l with
  | nil => rw [List.nil_append, aget_cons, aget_nil]; simp
  | cons q l ih =>
    rw [List.cons_append, aget_cons, aget_cons, ih]
    split <;> simp
theorem aget_none {l : List (ByteArray × α)} {k : ByteArray} : aget l k = none ↔ k ∉ l.map (·.1) := by rw [aget, Option.map_eq_none_iff, aidx_none]
theorem aset_keys {l : List (ByteArray × α)} {k : ByteArray} {v w : α} (h : aget l k = some w) : (aset l k v).map (·.1) = l.map (·.1) := by
  unfold aget at h
  rw [Option.map_eq_some_iff] at h
  obtain ⟨⟨i, u⟩, h1, _⟩ := h
  have h2 := aidx_some h1
  unfold aset
  rw [h1]
  simp only [List.map_set]
  apply List.ext_getElem?
  intro j
  rw [List.getElem?_set]
  split
  · rename_i hj
    subst hj
    have hl : i < l.length := (List.getElem?_eq_some_iff.1 h2).1
    rw [if_pos (by simpa using hl), List.getElem?_map, h2]; rfl
  · rfl
theorem aget_set {l : List (ByteArray × α)} {k j : ByteArray} {v : α} : aget (aset l k v) j = if j = k then some v else aget l j := by
  have main : ∀ (l : List (ByteArray × α)) (i : Nat) (u : α), aidx l k = some (i, u) → aget (l.set i (k, v)) j = if j = k then some v else aget l j := by
    intro l
    induction l with
    | nil => intro i u h; simp [aidx] at h
    | cons p l ih =>
      intro i u h
      simp only [aidx] at h
      split at h
      · rename_i hk
        simp only [Option.some.injEq, Prod.mk.injEq] at h; obtain ⟨rfl, rfl⟩ := h
        rw [List.set_cons_zero, aget_cons, aget_cons]
        subst hk
        simp only
        split <;> rfl
      · rename_i hk
        simp only [Option.map_eq_some_iff, Prod.mk.injEq] at h
        obtain ⟨⟨i', v'⟩, h1, rfl, rfl⟩ := h
        rw [List.set_cons_succ, aget_cons, aget_cons, ih _ _ h1]
        by_cases hj : j = p.1
        · rw [if_pos hj, if_pos hj, if_neg (fun e : j = k => hk (by rw [← e, hj]))]
        · rw [if_neg hj, if_neg hj]
  unfold aset
  cases h : aidx l k with
  | some q => obtain ⟨i, u⟩ := q; exact main l i u h
  | none =>
    simp only
    rw [aget_app]
    by_cases hj : j = k
    · subst hj
      have : aget l j = none := by rw [aget, h]; rfl
      simp [this]
    · rw [if_neg hj, if_neg hj]; cases aget l j <;> rfl
theorem aget_del {l : List (ByteArray × α)} {k j : ByteArray} (hn : (l.map (·.1)).Nodup) : aget (adel l k) j = if j = k then none else aget l j := by
  induction l with
  | nil => simp [adel, aidx, aget]
  | cons p l ih =>
    rw [List.map_cons, List.nodup_cons] at hn
    have ih := ih hn.2
    unfold adel at ih ⊢
    simp only [aidx]
    by_cases hk : k = p.1
    · rw [if_pos hk]
      simp only [List.eraseIdx_cons_zero]
      rw [aget_cons]
      subst hk
      split
      · rename_i hj; subst hj; exact aget_none.2 hn.1
      · rfl
    · rw [if_neg hk]
      cases h : aidx l k with
      | none =>
        rw [h] at ih
        simp only [Option.map_none]
        simp only at ih
        rw [aget_cons, ih]
        by_cases hj : j = p.1
        · rw [if_pos hj, if_neg (fun e : j = k => hk (by rw [← e, hj]))]
        · rw [if_neg hj]; by_cases hjk : j = k
          · rw [if_pos hjk, if_pos hjk]
          · rw [if_neg hjk, if_neg hjk]
      | some q =>
        rw [h] at ih
        simp only [Option.map_some, List.eraseIdx_cons_succ]
        rw [aget_cons, aget_cons, ih]
        by_cases hj : j = p.1
        · rw [if_pos hj, if_pos hj, if_neg (fun e : j = k => hk (by rw [← e, hj]))]
        · rw [if_neg hj, if_neg hj]
theorem adel_sub {l : List (ByteArray × α)} {k : ByteArray} : ((adel l k).map (·.1)).Sublist (l.map (·.1)) := by
  unfold adel
  split
  · exact (List.eraseIdx_sublist ..).map _
  · exact List.Sublist.refl _
theorem aset_nodup {l : List (ByteArray × α)} {k : ByteArray} {v : α} (hn : (l.map (·.1)).Nodup) : ((aset l k v).map (·.1)).Nodup := by
  cases h : aget l k with
  | some w => rw [aset_keys h]; exact hn
  | none =>
    have h2 := aget_none.1 h
    have h3 : aidx l k = none := by rw [aget, Option.map_eq_none_iff] at h; exact h
    unfold aset
    rw [h3]
    simp only [List.map_append, List.map_cons, List.map_nil]
    rw [List.nodup_append]
    exact ⟨hn, by simp, fun a ha b hb => by simp at hb; subst hb; exact fun e => h2 (e ▸ ha)⟩
end
def grown (S : Nat → Prop) (nx nx' : Nat) (i : Nat) : Prop := S i ∨ (nx ≤ i ∧ i < nx')
def KeepS (S : Nat → Prop) (nx : Nat) (st st' : St) : Prop := ∀ i, i < nx → ¬ S i → st' i = st i
theorem KeepS.refl (S : Nat → Prop) (nx : Nat) (st : St) : KeepS S nx st st := fun _ _ _ => rfl
theorem KeepS.trans {S : Nat → Prop} {nx nx' : Nat} {st st' st2 : St} (h : KeepS S nx st st') (k : KeepS (grown S nx nx') nx' st' st2) (hn : nx ≤ nx') : KeepS S nx st st2 := fun i hi hs => by
  rw [k i (by omega) (fun h => by rcases h with h | h; exact hs h; omega), h i hi hs]
theorem recsOk_ro {B : List Nat} {recs : List Rec} (h : (recs.all fun r => r.δ.isEmpty && r.big.isNone) = true) : recsOk B recs = true := by
  have hw : ∀ r ∈ recs, r.δ = [] ∧ r.big.isNone = true := fun r hr => by
    have := List.all_eq_true.1 h r hr
    simp only [Bool.and_eq_true, List.isEmpty_iff] at this
    exact this
  unfold recsOk
  rw [Bool.and_eq_true]
  refine ⟨List.all_eq_true.2 fun r hr => (hw r hr).2, List.all_eq_true.2 fun j hj => ?_⟩
  cases hy : recs[j]? with
  | none => rfl
  | some y =>
    simp only
    rw [Bool.or_eq_true]
    right
    refine List.all_eq_true.2 fun i hi => ?_
    cases hx : recs[i]? with
    | none => simp
    | some x =>
      have h1 := (hw x (List.mem_of_getElem? hx)).1
      have h2 := (hw y (List.mem_of_getElem? hy)).1
      rw [Bool.or_eq_true]
      right
      simp [Rec.free, Rec.wr, disj, h1, h2]
end Go.Proofs.YthgmhlpjbednpaaDoor.Vm
namespace Go.Proofs.YthgmhlpjbednpaaDoor.Vm
open Go Go.Proofs
theorem klives_ok : L.pl 12 [] = some (.ret (.bool true)) := pl_calc 60 (by kernel_rfl)
end Go.Proofs.YthgmhlpjbednpaaDoor.Vm
set_option maxRecDepth 10000
set_option linter.unusedVariables false
set_option linter.unusedSimpArgs false
namespace Go.Proofs.YthgmhlpjbednpaaDoor.Vm
open Go Go.Proofs
def Still (st : St) (nx : Nat) (v : V) (r : HR) : Prop := ∃ st' nx', r = .ret v st' nx' ∧ nx ≤ nx' ∧ ∀ i, i < nx → st' i = st i
theorem Still.of {st st' : St} {nx nx' : Nat} {v : V} (h : nx ≤ nx') (k : ∀ i, i < nx → st' i = st i) : Still st nx v (.ret v st' nx') := ⟨st', nx', rfl, h, k⟩
end Go.Proofs.YthgmhlpjbednpaaDoor.Vm
set_option maxRecDepth 10000
set_option linter.unusedVariables false
set_option linter.unusedSimpArgs false
namespace Go.Proofs.YthgmhlpjbednpaaDoor.Vm
open Go Go.Proofs
structure Ev where
  k : Int
  e : ByteArray
  p : Int × Int
  u : ByteArray
def evC (x : Ev) : List V := [.i64 x.k, .str x.e, .i64 x.p.1, .i64 x.p.2, .str x.u]
def encP (p : Int × Int) : V := .agg [.i64 p.1, .i64 p.2]
structure Lk where
  c : Int
  s : Int × Int
  op : List (ByteArray × (Int × Int))
  ak : List (ByteArray × ByteArray)
  nm : List ByteArray
  ev : List Ev
def rowV (S : Nat → Prop) (st : St) (e : Nat) (g : Bool) (s n : Nat) (cs : List V) (v : V) : Prop :=
  (n = 0 ∧ cs = [] ∧ v = .list 0 [] 1) ∨ (0 < n ∧ ∃ id, S id ∧ v = .sl e g s id 0 n ∧ st id = some (.row e s n cs))
structure LKp (k : Nat) (a : Lk) (S : Nat → Prop) (st : St) (mo ma : Nat) (vn ve : V) : Prop where
  hk : st k = some (.cells [.i64 a.c, .i64 a.s.1, .i64 a.s.2, .map mo, .map ma, vn, ve])
  ho : st mo = some (.map (kmap encP a.op) true)
  ha : ∃ d, st ma = some (.map (kmap V.str a.ak) d)
  hn : rowV S st 9 false 1 a.nm.length (a.nm.map V.str) vn
  he : rowV S st 50 true 5 a.ev.length (a.ev.flatMap evC) ve
  sk : S k
  so : S mo
  sa : S ma
  na : mo ≠ ma
theorem LKp.ko {k : Nat} {a : Lk} {S : Nat → Prop} {st : St} {mo ma : Nat} {vn ve : V} (h : LKp k a S st mo ma vn ve) : k ≠ mo := fun e => by subst e; have := h.hk; rw [h.ho] at this; cases this
theorem LKp.ka {k : Nat} {a : Lk} {S : Nat → Prop} {st : St} {mo ma : Nat} {vn ve : V} (h : LKp k a S st mo ma vn ve) : k ≠ ma := fun e => by subst e; obtain ⟨d, hd⟩ := h.ha; have := h.hk; rw [hd] at this; cases this
theorem LKp.row {k : Nat} {a : Lk} {S : Nat → Prop} {st : St} {mo ma : Nat} {vn ve : V} (h : LKp k a S st mo ma vn ve) {id e s n : Nat} {cs : List V} (hr : st id = some (.row e s n cs)) : id ≠ k ∧ id ≠ mo ∧ id ≠ ma := by
  refine ⟨fun q => ?_, fun q => ?_, fun q => ?_⟩
  · subst q; have := h.hk; rw [hr] at this; cases this
  · subst q; have := h.ho; rw [hr] at this; cases this
  · subst q; obtain ⟨d, hd⟩ := h.ha; rw [hr] at hd; cases hd
def LK (k : Nat) (a : Lk) (S : Nat → Prop) (st : St) : Prop := ∃ mo ma vn ve, LKp k a S st mo ma vn ve
theorem rowV.mono {S S' : Nat → Prop} {st st' : St} {e : Nat} {g : Bool} {s n : Nat} {cs : List V} {v : V} (h : rowV S st e g s n cs v) (hS : ∀ i, S i → S' i) (hs : ∀ i, S i → st' i = st i) : rowV S' st' e g s n cs v := by
  rcases h with h | ⟨h0, id, h1, h2, h3⟩
  · exact .inl h
  · exact .inr ⟨h0, id, hS id h1, h2, by rw [hs id h1]; exact h3⟩
theorem LK.mono {k : Nat} {a : Lk} {S S' : Nat → Prop} {st st' : St} (h : LK k a S st) (hS : ∀ i, S i → S' i) (hs : ∀ i, S i → st' i = st i) : LK k a S' st' := by
  obtain ⟨mo, ma, vn, ve, h⟩ := h
  refine ⟨mo, ma, vn, ve, by rw [hs _ h.sk]; exact h.hk, by rw [hs _ h.so]; exact h.ho, ?_, h.hn.mono hS hs, h.he.mono hS hs, hS _ h.sk, hS _ h.so, hS _ h.sa, h.na⟩
  obtain ⟨d, hd⟩ := h.ha
  exact ⟨d, by rw [hs _ h.sa]; exact hd⟩
def firstK (a : Lk) (e : ByteArray) : (Int × Int) × Int := match aget a.op e with
  | some p => (p, 0)
  | none => ((0, 0), 1)
theorem first_ok {k : Nat} {a : Lk} {S : Nat → Prop} {st : St} {nx : Nat} (h : LK k a S st) (hS : ∀ i, S i → i < nx) (e : ByteArray) : W (L.hp 18 [.ptr k 0, .str e] st nx) (Still st nx (encPE (firstK a e))) := by
  obtain ⟨mo, ma, vn, ve, h⟩ := h
  refine hp_r k18_eq ?_
  simp only [k18]
  have k1 : (k = nx) = False := eq_false (by have := hS _ h.sk; omega)
  have o1 : (mo = nx) = False := eq_false (by have := hS _ h.so; omega)
  have hm := mfind_kmap encP e a.op 0
  cases hi : aidx a.op e with
  | none =>
    have e1 : firstK a e = ((0, 0), 1) := by simp [firstK, aget, hi]
    rw [e1]
    rw [hi] at hm
    repeat' (first | (simp -implicitDefEqProofs only [ze, zd, zr, simprocAttr, LR_pl, LR_hp, LR_hm, cunr_n, cunr_x, cunr_r, cunr_p, List.any_cons, List.any_nil, List.flatten_cons, List.flatten_nil, List.replicate_succ, List.replicate_zero, Bool.or_false, Bool.false_or, List.flatMap_cons, List.flatMap_nil, h.hk, h.ho, k1, o1, hm, Option.map_none, encPE, ne_eq, not_true_eq_false]) | (with_reducible refine wgd_cases ?_ ?_ <;> intro hb) | (with_reducible refine wcond_cases ?_ ?_ <;> intro hb) | (with_reducible refine qd_i (by kernel_rfl) ?_) | (with_reducible refine W_itn_cases ?_ ?_; omega))
    refine .of (by omega) fun i hi => ?_
    simp (disch := omega) only [upds, upd, List.foldl_cons, List.foldl_nil, if_neg]
  | some q =>
    obtain ⟨j, p⟩ := q
    have e1 : firstK a e = (p, 0) := by simp [firstK, aget, hi]
    rw [e1]
    rw [hi] at hm
    repeat' (first | (simp -implicitDefEqProofs only [ze, zd, zr, simprocAttr, LR_pl, LR_hp, LR_hm, cunr_n, cunr_x, cunr_r, cunr_p, List.any_cons, List.any_nil, List.flatten_cons, List.flatten_nil, List.replicate_succ, List.replicate_zero, Bool.or_false, Bool.false_or, List.flatMap_cons, List.flatMap_nil, h.hk, h.ho, k1, o1, hm, Option.map_some, encP, encPE, ne_eq, not_true_eq_false]) | (with_reducible refine wgd_cases ?_ ?_ <;> intro hb) | (with_reducible refine wcond_cases ?_ ?_ <;> intro hb) | (with_reducible refine qd_i (by kernel_rfl) ?_) | (with_reducible refine W_itn_cases ?_ ?_; omega))
    refine .of (by omega) fun i hi => ?_
    simp (disch := omega) only [upds, upd, List.foldl_cons, List.foldl_nil, if_neg]
end Go.Proofs.YthgmhlpjbednpaaDoor.Vm
set_option maxRecDepth 10000
set_option linter.unusedVariables false
set_option linter.unusedSimpArgs false
namespace Go.Proofs.YthgmhlpjbednpaaDoor.Vm
open Go Go.Proofs
def Does (S : Nat → Prop) (st : St) (nx : Nat) (v : V) (φ : (Nat → Prop) → St → Prop) (r : HR) : Prop := ∃ st' nx', r = .ret v st' nx' ∧ nx ≤ nx' ∧ φ (grown S nx nx') st' ∧ KeepS S nx st st'
def beginK (a : Lk) (e u : ByteArray) : (Int × Int) × Int := if (firstK a e).2 = 0 ∧ codeS u = false then ((0, 0), 7) else firstK a e
theorem begin2_ok {k : Nat} {a : Lk} {S : Nat → Prop} {st : St} {nx : Nat} (h : LK k a S st) (hS : ∀ i, S i → i < nx) (e u : ByteArray) : W (L.hp 42 [.ptr k 0, .str e, .str u] st nx) (Still st nx (encPE (beginK a e u))) := by
  refine hp_r k42_eq ?_
  simp only [k42]
  repeat' (first | (simp -implicitDefEqProofs only [ze, zd, zr, simprocAttr, LR_pl, LR_hp, LR_hm, cunr_n, cunr_x, cunr_r, cunr_p, List.any_cons, List.any_nil, List.flatten_cons, List.flatten_nil, List.replicate_succ, List.replicate_zero, Bool.or_false, Bool.false_or, List.flatMap_cons, List.flatMap_nil]) | (with_reducible refine wgd_cases ?_ ?_ <;> intro hb) | (with_reducible refine wcond_cases ?_ ?_ <;> intro hb) | (with_reducible refine W_itn_cases ?_ ?_; omega))
  refine W_hp (first_ok (h.mono (S' := S) (fun _ h => h) (fun i hi => ?_)) (fun i hi => by have := hS i hi; omega) e) ?_
  · have := hS i hi
    simp (disch := omega) only [upds, upd, List.foldl_cons, List.foldl_nil, if_neg]
  rintro _ ⟨st1, nx1, rfl, h1, k1⟩
  have e1 : st1 nx = some (.cells [.i64 0, .i64 0]) := by rw [k1 nx (by omega)]; simp [upds, upd]
  by_cases h0 : (firstK a e).2 = 0
  · have g0 : decide ((firstK a e).2 = 0) = true := decide_eq_true h0
    cases hc : codeS u with
    | true =>
      have eb : beginK a e u = firstK a e := by unfold beginK; rw [if_neg (by simp [hc])]
      rw [eb]
      repeat' (first | (simp -implicitDefEqProofs only [ze, zd, zr, simprocAttr, LR_pl, LR_hp, LR_hm, cunr_n, cunr_x, cunr_r, cunr_p, List.any_cons, List.any_nil, List.flatten_cons, List.flatten_nil, List.replicate_succ, List.replicate_zero, Bool.or_false, Bool.false_or, List.flatMap_cons, List.flatMap_nil, e1, g0, code_ok, hc, encPE, ne_eq, not_true_eq_false]) | (with_reducible refine wgd_cases ?_ ?_ <;> intro hb) | (with_reducible refine wcond_cases ?_ ?_ <;> intro hb) | (with_reducible refine W_itn_cases ?_ ?_; omega))
      refine .of (by omega) fun i hi => ?_
      simp (disch := omega) only [upds, upd, List.foldl_cons, List.foldl_nil, if_neg]
      rw [k1 i (by omega)]
      simp (disch := omega) only [upds, upd, List.foldl_cons, List.foldl_nil, if_neg]
    | false =>
      have eb : beginK a e u = ((0, 0), 7) := by unfold beginK; rw [if_pos ⟨h0, hc⟩]
      rw [eb]
      repeat' (first | (simp -implicitDefEqProofs only [ze, zd, zr, simprocAttr, LR_pl, LR_hp, LR_hm, cunr_n, cunr_x, cunr_r, cunr_p, List.any_cons, List.any_nil, List.flatten_cons, List.flatten_nil, List.replicate_succ, List.replicate_zero, Bool.or_false, Bool.false_or, List.flatMap_cons, List.flatMap_nil, e1, g0, code_ok, hc, encPE, ne_eq, not_true_eq_false]) | (with_reducible refine wgd_cases ?_ ?_ <;> intro hb) | (with_reducible refine wcond_cases ?_ ?_ <;> intro hb) | (with_reducible refine W_itn_cases ?_ ?_; omega))
      refine .of (by omega) fun i hi => ?_
      simp (disch := omega) only [upds, upd, List.foldl_cons, List.foldl_nil, if_neg]
      rw [k1 i (by omega)]
      simp (disch := omega) only [upds, upd, List.foldl_cons, List.foldl_nil, if_neg]
  · have g0 : decide ((firstK a e).2 = 0) = false := decide_eq_false h0
    have eb : beginK a e u = firstK a e := by unfold beginK; rw [if_neg (fun h => h0 h.1)]
    rw [eb]
    repeat' (first | (simp -implicitDefEqProofs only [ze, zd, zr, simprocAttr, LR_pl, LR_hp, LR_hm, cunr_n, cunr_x, cunr_r, cunr_p, List.any_cons, List.any_nil, List.flatten_cons, List.flatten_nil, List.replicate_succ, List.replicate_zero, Bool.or_false, Bool.false_or, List.flatMap_cons, List.flatMap_nil, e1, g0, encPE, ne_eq, not_true_eq_false]) | (with_reducible refine wgd_cases ?_ ?_ <;> intro hb) | (with_reducible refine wcond_cases ?_ ?_ <;> intro hb) | (with_reducible refine W_itn_cases ?_ ?_; omega))
    refine .of (by omega) fun i hi => ?_
    simp (disch := omega) only [upds, upd, List.foldl_cons, List.foldl_nil, if_neg]
    rw [k1 i (by omega)]
    simp (disch := omega) only [upds, upd, List.foldl_cons, List.foldl_nil, if_neg]
theorem note_ok {k : Nat} {a : Lk} {S : Nat → Prop} {st : St} {nx : Nat} (h : LK k a S st) (hS : ∀ i, S i → i < nx) (hl : a.ev.length ≤ 1000000) (n : Int) (e u : ByteArray) (p : Int × Int) :
    W (L.hp 44 [.ptr k 0, .i64 n, .str e, .agg [.i64 p.1, .i64 p.2], .str u] st nx) (Does S st nx (.tup []) (LK k { a with ev := a.ev ++ [⟨n, e, p, u⟩] })) := by
  obtain ⟨mo, ma, vn, ve, h⟩ := h
  refine hp_r k44_eq ?_
  simp only [k44]
  have hk := hS _ h.sk
  have k1 : (k = nx) = False := eq_false (by omega)
  have k2 : ∀ j, (k = nx + j) = False := fun j => eq_false (by omega)
  have k3 : ∀ j, (nx + j = k) = False := fun j => eq_false (by omega)
  have k4 : (nx = k) = False := eq_false (by omega)
  have ho := hS _ h.so
  have ha := hS _ h.sa
  have ko := h.ko
  have ka := h.ka
  obtain ⟨d, hma⟩ := h.ha
  -- what stays
  have fin : ∀ (st' : St) (ve' : V) (nx' : Nat), nx + 128 ≤ nx' → st' k = some (.cells [.i64 a.c, .i64 a.s.1, .i64 a.s.2, .map mo, .map ma, vn, ve']) → (∀ i, S i → i ≠ k → (∀ s n cs, st i = some (.row 50 s n cs) → False) → st' i = st i) → (∀ i, i < nx → ¬ S i → st' i = st i) →
      rowV (grown S nx nx') st' 50 true 5 (a.ev ++ [(⟨n, e, p, u⟩ : Ev)]).length ((a.ev ++ [(⟨n, e, p, u⟩ : Ev)]).flatMap evC) ve' →
      Does S st nx (.tup []) (LK k { a with ev := a.ev ++ [⟨n, e, p, u⟩] }) (.ret (.tup []) st' nx') := by
    intro st' ve' nx' hn q1 q2 q3 q4
    refine ⟨_, _, rfl, by omega, ⟨mo, ma, vn, ve', q1, ?_, ⟨d, ?_⟩, ?_, q4, .inl h.sk, .inl h.so, .inl h.sa, h.na⟩, q3⟩
    · rw [q2 mo h.so (Ne.symm ko) (fun s n cs q => by rw [h.ho] at q; cases q)]; exact h.ho
    · rw [q2 ma h.sa (Ne.symm ka) (fun s n cs q => by rw [hma] at q; cases q)]; exact hma
    · rcases h.hn with q | ⟨h0, id, h1, h2, h3⟩
      · exact .inl q
      · exact .inr ⟨h0, id, .inl h1, h2, by rw [q2 id h1 (h.row h3).1 (fun s n cs q => by rw [h3] at q; cases q)]; exact h3⟩
  rcases h.he with ⟨h0, hc, rfl⟩ | ⟨h0, id, h1, rfl, h3⟩
  · repeat' (first | (simp -implicitDefEqProofs only [ze, zd, zr, simprocAttr, LR_pl, LR_hp, LR_hm, cunr_n, cunr_x, cunr_r, cunr_p, List.any_cons, List.any_nil, List.flatten_cons, List.flatten_nil, List.replicate_succ, List.replicate_zero, Bool.or_false, Bool.false_or, List.flatMap_cons, List.flatMap_nil, h.hk, k1, k2, k3, ne_eq, not_true_eq_false]) | (with_reducible refine wgd_cases ?_ ?_ <;> intro hb) | (with_reducible refine wcond_cases ?_ ?_ <;> intro hb) | (with_reducible refine W_itn_cases ?_ ?_; omega))
    refine qd_i (by simp [recsOk, ordB, Rec.free, Rec.wr, disj, List.range, List.range.loop, k1, k2, k3, k4]; decide) ?_
    repeat' (first | (simp -implicitDefEqProofs only [ze, zd, zr, simprocAttr, LR_pl, LR_hp, LR_hm, cunr_n, cunr_x, cunr_r, cunr_p, List.any_cons, List.any_nil, List.flatten_cons, List.flatten_nil, List.replicate_succ, List.replicate_zero, Bool.or_false, Bool.false_or, List.flatMap_cons, List.flatMap_nil]) | (with_reducible refine wgd_cases ?_ ?_ <;> intro hb) | (with_reducible refine wcond_cases ?_ ?_ <;> intro hb) | (with_reducible refine W_itn_cases ?_ ?_; omega))
    refine fin _ (.sl 50 true 5 (nx + 96) 0 1) _ (Nat.le_refl _) ?_ (fun i hi hik _ => ?_) (fun i hi hs => ?_) (.inr ⟨by simp, nx + 96, .inr ⟨by omega, by omega⟩, ?_, ?_⟩)
    · simp [upd]
    · have := hS i hi
      have e1 : ¬ i = nx + 96 := by omega
      have e2 : ¬ i = nx + 88 := by omega
      have e3 : ¬ i = nx := by omega
      simp [upd, hik, e1, e2, e3]
    · have hik : ¬ i = k := fun e => hs (e ▸ h.sk)
      have e1 : ¬ i = nx + 96 := by omega
      have e2 : ¬ i = nx + 88 := by omega
      have e3 : ¬ i = nx := by omega
      simp [upd, hik, e1, e2, e3]
    · simp [List.length_append, h0]
    · simp [upd, k3, h0, hc, List.flatMap_append, evC]
  · have hr := h.row h3
    have hid := hS id h1
    have i1 : (id = nx) = False := eq_false (by omega)
    have i2 : ∀ j, (id = nx + j) = False := fun j => eq_false (by omega)
    have i3 : ∀ j, (nx + j = id) = False := fun j => eq_false (by omega)
    have i4 : (id = k) = False := eq_false hr.1
    have i5 : (k = id) = False := eq_false (Ne.symm hr.1)
    repeat' (first | (simp -implicitDefEqProofs only [ze, zd, zr, simprocAttr, LR_pl, LR_hp, LR_hm, cunr_n, cunr_x, cunr_r, cunr_p, List.any_cons, List.any_nil, List.flatten_cons, List.flatten_nil, List.replicate_succ, List.replicate_zero, Bool.or_false, Bool.false_or, List.flatMap_cons, List.flatMap_nil, h.hk, h3, k1, k2, k3, i1, i2, i3, i4, i5, ne_eq, not_true_eq_false]) | (with_reducible refine wgd_cases ?_ ?_ <;> intro hb) | (with_reducible refine wcond_cases ?_ ?_ <;> intro hb) | (with_reducible refine W_itn_cases ?_ ?_; omega))
    have i6 : (nx = id) = False := eq_false (by omega)
    refine qd_i (by simp [recsOk, ordB, Rec.free, Rec.wr, disj, List.range, List.range.loop, k1, k2, k3, k4, i1, i2, i3, i4, i5, i6]; decide) ?_
    repeat' (first | (simp -implicitDefEqProofs only [ze, zd, zr, simprocAttr, LR_pl, LR_hp, LR_hm, cunr_n, cunr_x, cunr_r, cunr_p, List.any_cons, List.any_nil, List.flatten_cons, List.flatten_nil, List.replicate_succ, List.replicate_zero, Bool.or_false, Bool.false_or, List.flatMap_cons, List.flatMap_nil]) | (with_reducible refine wgd_cases ?_ ?_ <;> intro hb) | (with_reducible refine wcond_cases ?_ ?_ <;> intro hb) | (with_reducible refine W_itn_cases ?_ ?_; omega))
    refine fin _ (.sl 50 true 5 (nx + 96) 0 (a.ev.length + 1)) _ (Nat.le_refl _) ?_ (fun i hi hik hrow => ?_) (fun i hi hs => ?_) (.inr ⟨by simp, nx + 96, .inr ⟨by omega, by omega⟩, ?_, ?_⟩)
    · simp [upd]
    · have := hS i hi
      have e1 : ¬ i = nx + 96 := by omega
      have e2 : ¬ i = nx + 88 := by omega
      have e3 : ¬ i = nx := by omega
      have e4 : ¬ i = id := fun e => by subst e; exact hrow _ _ _ h3
      simp [upd, hik, e1, e2, e3, e4]
    · have hik : ¬ i = k := fun e => hs (e ▸ h.sk)
      have hid2 : ¬ i = id := fun e => hs (e ▸ h1)
      have e1 : ¬ i = nx + 96 := by omega
      have e2 : ¬ i = nx + 88 := by omega
      have e3 : ¬ i = nx := by omega
      simp [upd, hik, e1, e2, e3, hid2]
    · simp [List.length_append]
    · simp [upd, k3, List.flatMap_append, evC]
end Go.Proofs.YthgmhlpjbednpaaDoor.Vm
set_option maxRecDepth 10000
set_option linter.unusedVariables false
set_option linter.unusedSimpArgs false
namespace Go.Proofs.YthgmhlpjbednpaaDoor.Vm
open Go Go.Proofs
theorem Does.still {k : Nat} {a : Lk} {S : Nat → Prop} {st st' : St} {nx nx' : Nat} {v : V} (h : LK k a S st) (hS : ∀ i, S i → i < nx) (hn : nx ≤ nx') (hs : ∀ i, i < nx → st' i = st i) : Does S st nx v (LK k a) (.ret v st' nx') :=
  ⟨st', nx', rfl, hn, h.mono (fun i hi => .inl hi) (fun i hi => hs i (hS i hi)), fun i hi _ => hs i hi⟩
def closeK (a : Lk) (e u : ByteArray) : Lk × Int :=
  if (beginK a e u).2 ≠ 0 then (a, (beginK a e u).2)
  else if (nextP a.c (beginK a e u).1.1 (beginK a e u).1.2).2 ≠ 0 then (a, 16)
  else ({ a with op := aset a.op e (nextP a.c (beginK a e u).1.1 (beginK a e u).1.2).1, ak := adel a.ak e, ev := a.ev ++ [⟨8, e, (beginK a e u).1, u⟩] }, 0)
theorem beginK_zero {a : Lk} {e u : ByteArray} (h : (beginK a e u).2 = 0) : aget a.op e = some (beginK a e u).1 ∧ codeS u = true := by
  unfold beginK at h ⊢
  by_cases hc : (firstK a e).2 = 0 ∧ codeS u = false
  · rw [if_pos hc] at h; cases h
  · rw [if_neg hc] at h ⊢
    have hu : codeS u = true := by cases hu : codeS u with | true => rfl | false => exact absurd ⟨h, hu⟩ hc
    refine ⟨?_, hu⟩
    unfold firstK at h ⊢
    cases hg : aget a.op e with
    | none => rw [hg] at h; cases h
    | some p => rfl
theorem close_ok {k : Nat} {a : Lk} {S : Nat → Prop} {st : St} {nx : Nat} (h : LK k a S st) (hS : ∀ i, S i → i < nx) (hl : a.ev.length ≤ 1000000) (e u : ByteArray) :
    W (L.hp 19 [.ptr k 0, .str e, .str u] st nx) (Does S st nx (.i64 (closeK a e u).2) (LK k (closeK a e u).1)) := by
  refine hp_r k19_eq ?_
  simp only [k19]
  repeat' (first | (simp -implicitDefEqProofs only [ze, zd, zr, simprocAttr, LR_pl, LR_hp, LR_hm, cunr_n, cunr_x, cunr_r, cunr_p, List.any_cons, List.any_nil, List.flatten_cons, List.flatten_nil, List.replicate_succ, List.replicate_zero, Bool.or_false, Bool.false_or, List.flatMap_cons, List.flatMap_nil]) | (with_reducible refine wgd_cases ?_ ?_ <;> intro hb) | (with_reducible refine wcond_cases ?_ ?_ <;> intro hb) | (with_reducible refine W_itn_cases ?_ ?_; omega))
  refine W_hp (begin2_ok h (fun i hi => by have := hS i hi; omega) e u) ?_
  rintro _ ⟨st1, nx1, rfl, h1, k1⟩
  have hbz := @beginK_zero a e u
  unfold closeK
  generalize beginK a e u = b at hbz
  obtain ⟨p, er⟩ := b
  simp only at hbz
  by_cases h0 : er = 0
  · subst h0
    obtain ⟨hg, hu⟩ := hbz rfl
    rw [if_neg (by simp)]
    have hq := h.mono (S' := S) (st' := st1) (fun _ h => h) (fun i hi => k1 i (by have := hS i hi; omega))
    obtain ⟨mo, ma, vn, ve, hq⟩ := hq
    have hk := hS _ hq.sk
    have ho := hS _ hq.so
    have ha := hS _ hq.sa
    obtain ⟨d, hma⟩ := hq.ha
    have f1 : ∀ j, (k = nx1 + j) = False := fun j => eq_false (by omega)
    have f2 : ∀ j, (nx1 + j = k) = False := fun j => eq_false (by omega)
    have f3 : ∀ j, (k = nx + j) = False := fun j => eq_false (by omega)
    have f4 : ∀ j, (nx + j = k) = False := fun j => eq_false (by omega)
    have f5 : ∀ j, (mo = nx + j) = False := fun j => eq_false (by omega)
    have f6 : ∀ j, (nx + j = mo) = False := fun j => eq_false (by omega)
    have f7 : ∀ j, (ma = nx + j) = False := fun j => eq_false (by omega)
    have f8 : ∀ j, (nx + j = ma) = False := fun j => eq_false (by omega)
    have f9 : ∀ j, (mo = nx1 + j) = False := fun j => eq_false (by omega)
    have f10 : ∀ j, (nx1 + j = mo) = False := fun j => eq_false (by omega)
    have f11 : ∀ j, (ma = nx1 + j) = False := fun j => eq_false (by omega)
    have f12 : ∀ j, (nx1 + j = ma) = False := fun j => eq_false (by omega)
    have f13 : (mo = ma) = False := eq_false hq.na
    have f14 : (ma = mo) = False := eq_false (Ne.symm hq.na)
    have f15 : (k = mo) = False := eq_false hq.ko
    have f16 : (k = ma) = False := eq_false hq.ka
    have f17 : (mo = k) = False := eq_false (Ne.symm hq.ko)
    have f18 : (ma = k) = False := eq_false (Ne.symm hq.ka)
    have f19 : ∀ j, (nx + 64 = nx1 + j) = False := fun j => eq_false (by omega)
    have f20 : ∀ j, (nx1 + j = nx + 64) = False := fun j => eq_false (by omega)
    have hnp := nextP_ok a.c p.1 p.2
    generalize nextP a.c p.1 p.2 = q at hnp
    obtain ⟨q, eq⟩ := q
    simp only [encPE] at hnp
    repeat' (first | (simp -implicitDefEqProofs only [ze, zd, zr, simprocAttr, LR_pl, LR_hp, LR_hm, cunr_n, cunr_x, cunr_r, cunr_p, List.any_cons, List.any_nil, List.flatten_cons, List.flatten_nil, List.replicate_succ, List.replicate_zero, Bool.or_false, Bool.false_or, List.flatMap_cons, List.flatMap_nil, encPE, hq.hk, f1, f2, f3, f4, f5, f6, f7, f8, f9, f10, f11, f12, f13, f14, f15, f16, f17, f18, f19, f20, hnp, ne_eq, not_true_eq_false]) | (with_reducible refine wgd_cases ?_ ?_ <;> intro hb) | (with_reducible refine wcond_cases ?_ ?_ <;> intro hb) | (with_reducible refine W_itn_cases ?_ ?_; omega))
    refine qd_i (by simp [recsOk, ordB, Rec.free, Rec.wr, disj, List.range, List.range.loop, f1, f2, f3, f4, f19, f20]; try (repeat' (first | apply And.intro | decide | omega | (left; decide) | (right; omega)))) ?_
    by_cases h2 : eq = 0
    · subst h2
      rw [if_neg (by simp)]
      have hm := mfind_kmap encP e a.op 0
      have hd := mfind_kmap V.str e a.ak 0
      obtain ⟨j, hj⟩ : ∃ j, aidx a.op e = some (j, p) := by
        unfold aget at hg
        rw [Option.map_eq_some_iff] at hg
        obtain ⟨⟨j, w⟩, h3, rfl⟩ := hg
        exact ⟨j, h3⟩
      rw [hj] at hm
      have eo : aset a.op e q = a.op.set j (e, q) := by unfold aset; rw [hj]
      have es : (kmap encP a.op).set j (.str e, .agg [.i64 q.1, .i64 q.2]) = kmap encP (aset a.op e q) := by rw [eo]; exact kmap_set encP a.op j e q
      repeat' (first | (simp -implicitDefEqProofs only [ze, zd, zr, simprocAttr, LR_pl, LR_hp, LR_hm, cunr_n, cunr_x, cunr_r, cunr_p, List.any_cons, List.any_nil, List.flatten_cons, List.flatten_nil, List.replicate_succ, List.replicate_zero, Bool.or_false, Bool.false_or, List.flatMap_cons, List.flatMap_nil, encPE, hq.hk, hq.ho, hma, hm, Option.map_some, es, f1, f2, f3, f4, f5, f6, f7, f8, f9, f10, f11, f12, f13, f14, f15, f16, f17, f18, f19, f20, ne_eq, not_true_eq_false]) | (with_reducible refine wgd_cases ?_ ?_ <;> intro hb) | (with_reducible refine wcond_cases ?_ ?_ <;> intro hb) | (with_reducible refine W_itn_cases ?_ ?_; omega))
      refine qd_i (by simp [recsOk, ordB, Rec.free, Rec.wr, disj, List.range, List.range.loop, f1, f2, f3, f4, f5, f6, f7, f8, f9, f10, f11, f12, f13, f14, f15, f16, f17, f18, f19, f20]; try (repeat' (first | apply And.intro | decide | omega | (left; decide) | (right; omega)))) ?_
      -- the state ahead of the note
      have fin : ∀ (st2 : St) (nx2 : Nat), nx1 ≤ nx2 → st2 k = st1 k → st2 mo = some (.map (kmap encP (aset a.op e q)) true) → (∃ d, st2 ma = some (.map (kmap V.str (adel a.ak e)) d)) → (∀ i, i < nx → i ≠ mo → i ≠ ma → st2 i = st1 i) →
          W (L.hp 44 [.ptr k 0, .i64 8, .str e, .agg [.i64 p.1, .i64 p.2], .str u] st2 nx2) (fun r => ∃ st3 nx3, r = .ret (.tup []) st3 nx3 ∧ nx ≤ nx3 ∧ LK k { a with op := aset a.op e q, ak := adel a.ak e, ev := a.ev ++ [⟨8, e, p, u⟩] } (grown S nx nx3) st3 ∧ KeepS S nx st st3) := by
        intro st2 nx2 hn s1 s2 s3 s4
        have hk2 : LK k { a with op := aset a.op e q, ak := adel a.ak e } S st2 := by
          have rw_ : ∀ {en : Nat} {g : Bool} {sz n : Nat} {cs : List V} {v : V}, rowV S st1 en g sz n cs v → rowV S st2 en g sz n cs v := by
            intro en g sz n cs v hr
            rcases hr with hr | ⟨z0, id, z1, z2, z3⟩
            · exact .inl hr
            · have hz := hq.row z3
              exact .inr ⟨z0, id, z1, z2, by rw [s4 id (hS id z1) hz.2.1 hz.2.2]; exact z3⟩
          exact ⟨mo, ma, vn, ve, by rw [s1]; exact hq.hk, s2, s3, rw_ hq.hn, rw_ hq.he, hq.sk, hq.so, hq.sa, hq.na⟩
        obtain ⟨r, hr, st3, nx3, rfl, hn3, hk3, hkp⟩ := note_ok (nx := nx2) hk2 (fun i hi => by have := hS i hi; omega) hl 8 e u p
        refine ⟨_, hr, st3, nx3, rfl, by omega, hk3.mono (fun i hi => ?_) (fun _ _ => rfl), fun i hi hs => ?_⟩
        · rcases hi with hi | hi
          · exact .inl hi
          · exact .inr ⟨by omega, hi.2⟩
        · rw [hkp i (by omega) hs, s4 i hi (fun q => hs (q ▸ hq.so)) (fun q => hs (q ▸ hq.sa)), k1 i (by omega)]
      cases hdl : aidx a.ak e with
      | none =>
        rw [hdl] at hd
        have ea : adel a.ak e = a.ak := by unfold adel; rw [hdl]
        repeat' (first | (simp -implicitDefEqProofs only [ze, zd, zr, simprocAttr, LR_pl, LR_hp, LR_hm, cunr_n, cunr_x, cunr_r, cunr_p, List.any_cons, List.any_nil, List.flatten_cons, List.flatten_nil, List.replicate_succ, List.replicate_zero, Bool.or_false, Bool.false_or, List.flatMap_cons, List.flatMap_nil, encPE, hq.hk, hq.ho, hma, hd, Option.map_none, f1, f2, f3, f4, f5, f6, f7, f8, f9, f10, f11, f12, f13, f14, f15, f16, f17, f18, f19, f20, ne_eq, not_true_eq_false]) | (with_reducible refine wgd_cases ?_ ?_ <;> intro hb) | (with_reducible refine wcond_cases ?_ ?_ <;> intro hb) | (with_reducible refine W_itn_cases ?_ ?_; omega))
        refine W_hp (fin _ _ (by omega) ?_ ?_ ⟨d, ?_⟩ (fun i hi h1 h2 => ?_)) ?_
        · simp [upd, f1, f2, f3, f4, f5, f6, f7, f8, f9, f10, f11, f12, f13, f14, f15, f16, f17, f18, f19, f20]
        · simp [upd, f1, f2, f3, f4, f5, f6, f7, f8, f9, f10, f11, f12, f13, f14, f15, f16, f17, f18, f19, f20]
        · simp [upd, f1, f2, f3, f4, f5, f6, f7, f8, f9, f10, f11, f12, f13, f14, f15, f16, f17, f18, f19, f20, ea]
        · have a1 : ¬ i = nx + 64 := by omega
          have a2 : ¬ i = nx1 + 88 := by omega
          simp [upd, h1, h2, a1, a2]
        rintro _ ⟨st3, nx3, rfl, hn3, hk3, hkp⟩
        repeat' (first | (simp -implicitDefEqProofs only [ze, zd, zr, simprocAttr, LR_pl, LR_hp, LR_hm, cunr_n, cunr_x, cunr_r, cunr_p, List.any_cons, List.any_nil, List.flatten_cons, List.flatten_nil, List.replicate_succ, List.replicate_zero, Bool.or_false, Bool.false_or, List.flatMap_cons, List.flatMap_nil]) | (with_reducible refine wgd_cases ?_ ?_ <;> intro hb) | (with_reducible refine wcond_cases ?_ ?_ <;> intro hb) | (with_reducible refine W_itn_cases ?_ ?_; omega))
        exact ⟨_, _, rfl, by omega, hk3.mono (fun i hi => hi.imp id fun q => ⟨q.1, by omega⟩) (fun _ _ => rfl), hkp⟩
      | some w =>
        obtain ⟨j2, w2⟩ := w
        rw [hdl] at hd
        have ea : adel a.ak e = a.ak.eraseIdx j2 := by unfold adel; rw [hdl]
        have ee : (kmap V.str a.ak).eraseIdx j2 = kmap V.str (adel a.ak e) := by rw [ea]; exact kmap_erase V.str a.ak j2
        repeat' (first | (simp -implicitDefEqProofs only [ze, zd, zr, simprocAttr, LR_pl, LR_hp, LR_hm, cunr_n, cunr_x, cunr_r, cunr_p, List.any_cons, List.any_nil, List.flatten_cons, List.flatten_nil, List.replicate_succ, List.replicate_zero, Bool.or_false, Bool.false_or, List.flatMap_cons, List.flatMap_nil, encPE, hq.hk, hq.ho, hma, hd, Option.map_some, ee, f1, f2, f3, f4, f5, f6, f7, f8, f9, f10, f11, f12, f13, f14, f15, f16, f17, f18, f19, f20, ne_eq, not_true_eq_false]) | (with_reducible refine wgd_cases ?_ ?_ <;> intro hb) | (with_reducible refine wcond_cases ?_ ?_ <;> intro hb) | (with_reducible refine W_itn_cases ?_ ?_; omega))
        refine W_hp (fin _ _ (by omega) ?_ ?_ ⟨false, ?_⟩ (fun i hi h1 h2 => ?_)) ?_
        · simp [upd, f1, f2, f3, f4, f5, f6, f7, f8, f9, f10, f11, f12, f13, f14, f15, f16, f17, f18, f19, f20]
        · simp [upd, f1, f2, f3, f4, f5, f6, f7, f8, f9, f10, f11, f12, f13, f14, f15, f16, f17, f18, f19, f20]
        · simp [upd, f1, f2, f3, f4, f5, f6, f7, f8, f9, f10, f11, f12, f13, f14, f15, f16, f17, f18, f19, f20]
        · have a1 : ¬ i = nx + 64 := by omega
          have a2 : ¬ i = nx1 + 88 := by omega
          simp [upd, h1, h2, a1, a2]
        rintro _ ⟨st3, nx3, rfl, hn3, hk3, hkp⟩
        repeat' (first | (simp -implicitDefEqProofs only [ze, zd, zr, simprocAttr, LR_pl, LR_hp, LR_hm, cunr_n, cunr_x, cunr_r, cunr_p, List.any_cons, List.any_nil, List.flatten_cons, List.flatten_nil, List.replicate_succ, List.replicate_zero, Bool.or_false, Bool.false_or, List.flatMap_cons, List.flatMap_nil]) | (with_reducible refine wgd_cases ?_ ?_ <;> intro hb) | (with_reducible refine wcond_cases ?_ ?_ <;> intro hb) | (with_reducible refine W_itn_cases ?_ ?_; omega))
        exact ⟨_, _, rfl, by omega, hk3.mono (fun i hi => hi.imp id fun q => ⟨q.1, by omega⟩) (fun _ _ => rfl), hkp⟩
    · rw [if_pos h2]
      have g2 : decide (eq = 0) = false := decide_eq_false h2
      repeat' (first | (simp -implicitDefEqProofs only [ze, zd, zr, simprocAttr, LR_pl, LR_hp, LR_hm, cunr_n, cunr_x, cunr_r, cunr_p, List.any_cons, List.any_nil, List.flatten_cons, List.flatten_nil, List.replicate_succ, List.replicate_zero, Bool.or_false, Bool.false_or, List.flatMap_cons, List.flatMap_nil, g2, ne_eq, not_true_eq_false]) | (with_reducible refine wgd_cases ?_ ?_ <;> intro hb) | (with_reducible refine wcond_cases ?_ ?_ <;> intro hb) | (with_reducible refine W_itn_cases ?_ ?_; omega))
      refine .still h hS (by omega) fun i hi => ?_
      simp (disch := omega) only [upds, upd, List.foldl_cons, List.foldl_nil, if_neg]
      rw [k1 i (by omega)]
  · rw [if_pos h0]
    have g0 : decide (er = 0) = false := decide_eq_false h0
    repeat' (first | (simp -implicitDefEqProofs only [ze, zd, zr, simprocAttr, LR_pl, LR_hp, LR_hm, cunr_n, cunr_x, cunr_r, cunr_p, List.any_cons, List.any_nil, List.flatten_cons, List.flatten_nil, List.replicate_succ, List.replicate_zero, Bool.or_false, Bool.false_or, List.flatMap_cons, List.flatMap_nil, encPE, g0, ne_eq, not_true_eq_false]) | (with_reducible refine wgd_cases ?_ ?_ <;> intro hb) | (with_reducible refine wcond_cases ?_ ?_ <;> intro hb) | (with_reducible refine W_itn_cases ?_ ?_; omega))
    refine .still h hS (by omega) fun i hi => ?_
    simp (disch := omega) only [upds, upd, List.foldl_cons, List.foldl_nil, if_neg]
    rw [k1 i (by omega)]
end Go.Proofs.YthgmhlpjbednpaaDoor.Vm
set_option maxRecDepth 10000
set_option linter.unusedVariables false
set_option linter.unusedSimpArgs false
namespace Go.Proofs.YthgmhlpjbednpaaDoor.Vm
open Go Go.Proofs
theorem bne_tf : (true != false) = true := rfl
theorem bne_ft : (false != true) = true := rfl
theorem bne_tt : (true != true) = false := rfl
theorem bne_ff : (false != false) = false := rfl
theorem LKp.rows {k : Nat} {a : Lk} {S : Nat → Prop} {st st' : St} {mo ma : Nat} {vn ve : V} (h : LKp k a S st mo ma vn ve) {op : List (ByteArray × (Int × Int))} {ak : List (ByteArray × ByteArray)} (s1 : st' k = st k) (s2 : st' mo = some (.map (kmap encP op) true)) (s3 : ∃ d, st' ma = some (.map (kmap V.str ak) d)) (s4 : ∀ i, S i → i ≠ mo → i ≠ ma → st' i = st i) : LK k { a with op := op, ak := ak } S st' := by
  have rw_ : ∀ {en : Nat} {g : Bool} {sz n : Nat} {cs : List V} {v : V}, rowV S st en g sz n cs v → rowV S st' en g sz n cs v := by
    intro en g sz n cs v hr
    rcases hr with hr | ⟨z0, id, z1, z2, z3⟩
    · exact .inl hr
    · have hz := h.row z3
      exact .inr ⟨z0, id, z1, z2, by rw [s4 id z1 hz.2.1 hz.2.2]; exact z3⟩
  exact ⟨mo, ma, vn, ve, by rw [s1]; exact h.hk, s2, s3, rw_ h.hn, rw_ h.he, h.sk, h.so, h.sa, h.na⟩
theorem note_fin {k : Nat} {a : Lk} {S : Nat → Prop} {st st1 st2 : St} {nx nx2 : Nat} {mo ma : Nat} {vn ve : V} (hq : LKp k a S st1 mo ma vn ve) (hS : ∀ i, S i → i < nx) (hl : a.ev.length ≤ 1000000) (k1 : ∀ i, i < nx → st1 i = st i)
    {op : List (ByteArray × (Int × Int))} {ak : List (ByteArray × ByteArray)} (hn : nx ≤ nx2) (s1 : st2 k = st1 k) (s2 : st2 mo = some (.map (kmap encP op) true)) (s3 : ∃ d, st2 ma = some (.map (kmap V.str ak) d)) (s4 : ∀ i, i < nx → i ≠ mo → i ≠ ma → st2 i = st1 i) (n : Int) (e u : ByteArray) (p : Int × Int) :
    W (L.hp 44 [.ptr k 0, .i64 n, .str e, .agg [.i64 p.1, .i64 p.2], .str u] st2 nx2) (fun r => ∃ st3 nx3, r = .ret (.tup []) st3 nx3 ∧ nx ≤ nx3 ∧ LK k { a with op := op, ak := ak, ev := a.ev ++ [⟨n, e, p, u⟩] } (grown S nx nx3) st3 ∧ KeepS S nx st st3) := by
  have hk2 : LK k { a with op := op, ak := ak } S st2 := hq.rows s1 s2 s3 (fun i hi => s4 i (hS i hi))
  obtain ⟨r, hr, st3, nx3, rfl, hn3, hk3, hkp⟩ := note_ok (nx := nx2) hk2 (fun i hi => by have := hS i hi; omega) hl n e u p
  refine ⟨_, hr, st3, nx3, rfl, by omega, hk3.mono (fun i hi => ?_) (fun _ _ => rfl), fun i hi hs => ?_⟩
  · rcases hi with hi | hi
    · exact .inl hi
    · exact .inr ⟨by omega, hi.2⟩
  · rw [hkp i (by omega) hs, s4 i hi (fun q => hs (q ▸ hq.so)) (fun q => hs (q ▸ hq.sa)), k1 i (by omega)]
def askK (a : Lk) (e u : ByteArray) : Lk × Int :=
  if (beginK a e u).2 ≠ 0 then (a, (beginK a e u).2)
  else if (beginK a e u).1 = a.s then (a, 18)
  else if (prevP a.c (beginK a e u).1.1 (beginK a e u).1.2).2 ≠ 0 then (a, 18)
  else ({ a with ak := aset a.ak e u, ev := a.ev ++ [⟨9, e, (prevP a.c (beginK a e u).1.1 (beginK a e u).1.2).1, u⟩] }, 0)
def reopenK (a : Lk) (e u : ByteArray) : Lk × Int :=
  if (beginK a e u).2 ≠ 0 then (a, (beginK a e u).2)
  else match aget a.ak e with
    | none => (a, 18)
    | some v => if v = u then (a, 19)
      else if (prevP a.c (beginK a e u).1.1 (beginK a e u).1.2).2 ≠ 0 then (a, 18)
      else ({ a with op := aset a.op e (prevP a.c (beginK a e u).1.1 (beginK a e u).1.2).1, ak := adel a.ak e, ev := a.ev ++ [⟨10, e, (prevP a.c (beginK a e u).1.1 (beginK a e u).1.2).1, u⟩] }, 0)
theorem ask_ok {k : Nat} {a : Lk} {S : Nat → Prop} {st : St} {nx : Nat} (h : LK k a S st) (hS : ∀ i, S i → i < nx) (hl : a.ev.length ≤ 1000000) (e u : ByteArray) :
    W (L.hp 27 [.ptr k 0, .str e, .str u] st nx) (Does S st nx (.i64 (askK a e u).2) (LK k (askK a e u).1)) := by
  refine hp_r k27_eq ?_
  simp only [k27]
  repeat' (first | (simp -implicitDefEqProofs only [ze, zd, zr, simprocAttr, LR_pl, LR_hp, LR_hm, cunr_n, cunr_x, cunr_r, cunr_p, List.any_cons, List.any_nil, List.flatten_cons, List.flatten_nil, List.replicate_succ, List.replicate_zero, Bool.or_false, Bool.false_or, List.flatMap_cons, List.flatMap_nil]) | (with_reducible refine wgd_cases ?_ ?_ <;> intro hb) | (with_reducible refine wcond_cases ?_ ?_ <;> intro hb) | (with_reducible refine W_itn_cases ?_ ?_; omega))
  refine W_hp (begin2_ok h (fun i hi => by have := hS i hi; omega) e u) ?_
  rintro _ ⟨st1, nx1, rfl, h1, k1⟩
  have hbz := @beginK_zero a e u
  unfold askK
  generalize beginK a e u = b at hbz
  obtain ⟨p, er⟩ := b
  simp only at hbz
  by_cases h0 : er = 0
  · subst h0
    obtain ⟨hg, hu⟩ := hbz rfl
    rw [if_neg (by simp)]
    have hq := h.mono (S' := S) (st' := st1) (fun _ h => h) (fun i hi => k1 i (by have := hS i hi; omega))
    obtain ⟨mo, ma, vn, ve, hq⟩ := hq
    have hk := hS _ hq.sk
    have ho := hS _ hq.so
    have ha := hS _ hq.sa
    obtain ⟨d, hma⟩ := hq.ha
    have f1 : ∀ j, (k = nx1 + j) = False := fun j => eq_false (by omega)
    have f2 : ∀ j, (nx1 + j = k) = False := fun j => eq_false (by omega)
    have f3 : ∀ j, (k = nx + j) = False := fun j => eq_false (by omega)
    have f4 : ∀ j, (nx + j = k) = False := fun j => eq_false (by omega)
    have f5 : ∀ j, (mo = nx + j) = False := fun j => eq_false (by omega)
    have f6 : ∀ j, (nx + j = mo) = False := fun j => eq_false (by omega)
    have f7 : ∀ j, (ma = nx + j) = False := fun j => eq_false (by omega)
    have f8 : ∀ j, (nx + j = ma) = False := fun j => eq_false (by omega)
    have f9 : ∀ j, (mo = nx1 + j) = False := fun j => eq_false (by omega)
    have f10 : ∀ j, (nx1 + j = mo) = False := fun j => eq_false (by omega)
    have f11 : ∀ j, (ma = nx1 + j) = False := fun j => eq_false (by omega)
    have f12 : ∀ j, (nx1 + j = ma) = False := fun j => eq_false (by omega)
    have f13 : (mo = ma) = False := eq_false hq.na
    have f14 : (ma = mo) = False := eq_false (Ne.symm hq.na)
    have f15 : (k = mo) = False := eq_false hq.ko
    have f16 : (k = ma) = False := eq_false hq.ka
    have f17 : (mo = k) = False := eq_false (Ne.symm hq.ko)
    have f18 : (ma = k) = False := eq_false (Ne.symm hq.ka)
    have f19 : ∀ j, (nx + 64 = nx1 + j) = False := fun j => eq_false (by omega)
    have f20 : ∀ j, (nx1 + j = nx + 64) = False := fun j => eq_false (by omega)
    have hnp := prevP_ok a.c p.1 p.2
    generalize prevP a.c p.1 p.2 = q at hnp
    obtain ⟨q, eq⟩ := q
    simp only [encPE] at hnp
    have gs : (decide (p.1 = a.s.1) && decide (p.2 = a.s.2)) = decide (p = a.s) := by
      by_cases h : p = a.s
      · subst h; simp
      · have : ¬ (p.1 = a.s.1 ∧ p.2 = a.s.2) := fun q => h (Prod.ext q.1 q.2)
        rw [decide_eq_false h]
        simpa using this
    by_cases hps : p = a.s
    · have g3 : decide (p = a.s) = true := decide_eq_true hps
      rw [if_pos hps]
      repeat' (first | (simp -implicitDefEqProofs only [ze, zd, zr, simprocAttr, LR_pl, LR_hp, LR_hm, cunr_n, cunr_x, cunr_r, cunr_p, List.any_cons, List.any_nil, List.flatten_cons, List.flatten_nil, List.replicate_succ, List.replicate_zero, Bool.or_false, Bool.false_or, List.flatMap_cons, List.flatMap_nil, encPE, hq.hk, gs, g3, bne_tf, bne_ff, f1, f2, f3, f4, f5, f6, f7, f8, f9, f10, f11, f12, f13, f14, f15, f16, f17, f18, f19, f20, ne_eq, not_true_eq_false]) | (with_reducible refine wgd_cases ?_ ?_ <;> intro hb) | (with_reducible refine wcond_cases ?_ ?_ <;> intro hb) | (with_reducible refine W_itn_cases ?_ ?_; omega))
      refine qd_i (by simp [recsOk, ordB, Rec.free, Rec.wr, disj, List.range, List.range.loop, f1, f2, f3, f4, f19, f20]; try (repeat' (first | apply And.intro | decide | omega | (left; decide) | (right; omega)))) ?_
      repeat' (first | (simp -implicitDefEqProofs only [ze, zd, zr, simprocAttr, LR_pl, LR_hp, LR_hm, cunr_n, cunr_x, cunr_r, cunr_p, List.any_cons, List.any_nil, List.flatten_cons, List.flatten_nil, List.replicate_succ, List.replicate_zero, Bool.or_false, Bool.false_or, List.flatMap_cons, List.flatMap_nil, f1, f2, f3, f4, f5, f6, f7, f8, f9, f10, f11, f12, f13, f14, f15, f16, f17, f18, f19, f20, ne_eq, not_true_eq_false]) | (with_reducible refine wgd_cases ?_ ?_ <;> intro hb) | (with_reducible refine wcond_cases ?_ ?_ <;> intro hb) | (with_reducible refine W_itn_cases ?_ ?_; omega))
      refine .still h hS (by omega) fun i hi => ?_
      simp (disch := omega) only [upds, upd, List.foldl_cons, List.foldl_nil, if_neg]
      rw [k1 i (by omega)]
    · have g3 : decide (p = a.s) = false := decide_eq_false hps
      rw [if_neg hps]
      repeat' (first | (simp -implicitDefEqProofs only [ze, zd, zr, simprocAttr, LR_pl, LR_hp, LR_hm, cunr_n, cunr_x, cunr_r, cunr_p, List.any_cons, List.any_nil, List.flatten_cons, List.flatten_nil, List.replicate_succ, List.replicate_zero, Bool.or_false, Bool.false_or, List.flatMap_cons, List.flatMap_nil, encPE, hq.hk, gs, g3, bne_tf, bne_ff, f1, f2, f3, f4, f5, f6, f7, f8, f9, f10, f11, f12, f13, f14, f15, f16, f17, f18, f19, f20, ne_eq, not_true_eq_false]) | (with_reducible refine wgd_cases ?_ ?_ <;> intro hb) | (with_reducible refine wcond_cases ?_ ?_ <;> intro hb) | (with_reducible refine W_itn_cases ?_ ?_; omega))
      refine qd_i (by simp [recsOk, ordB, Rec.free, Rec.wr, disj, List.range, List.range.loop, f1, f2, f3, f4, f19, f20]; try (repeat' (first | apply And.intro | decide | omega | (left; decide) | (right; omega)))) ?_
      repeat' (first | (simp -implicitDefEqProofs only [ze, zd, zr, simprocAttr, LR_pl, LR_hp, LR_hm, cunr_n, cunr_x, cunr_r, cunr_p, List.any_cons, List.any_nil, List.flatten_cons, List.flatten_nil, List.replicate_succ, List.replicate_zero, Bool.or_false, Bool.false_or, List.flatMap_cons, List.flatMap_nil, encPE, hq.hk, hnp, f1, f2, f3, f4, f5, f6, f7, f8, f9, f10, f11, f12, f13, f14, f15, f16, f17, f18, f19, f20, ne_eq, not_true_eq_false]) | (with_reducible refine wgd_cases ?_ ?_ <;> intro hb) | (with_reducible refine wcond_cases ?_ ?_ <;> intro hb) | (with_reducible refine W_itn_cases ?_ ?_; omega))
      refine qd_i (by simp [recsOk, ordB, Rec.free, Rec.wr, disj, List.range, List.range.loop, f1, f2, f3, f4, f19, f20]; try (repeat' (first | apply And.intro | decide | omega | (left; decide) | (right; omega)))) ?_
      by_cases h2 : eq = 0
      · subst h2
        rw [if_neg (by simp)]
        have hd := mfind_kmap V.str e a.ak 0
        cases hdl : aidx a.ak e with
        | none =>
          rw [hdl] at hd
          have ea : kmap V.str a.ak ++ [(.str e, .str u)] = kmap V.str (aset a.ak e u) := by unfold aset; rw [hdl]; exact kmap_app V.str a.ak e u
          repeat' (first | (simp -implicitDefEqProofs only [ze, zd, zr, simprocAttr, LR_pl, LR_hp, LR_hm, cunr_n, cunr_x, cunr_r, cunr_p, List.any_cons, List.any_nil, List.flatten_cons, List.flatten_nil, List.replicate_succ, List.replicate_zero, Bool.or_false, Bool.false_or, List.flatMap_cons, List.flatMap_nil, encPE, hq.hk, hma, hd, Option.map_none, ea, f1, f2, f3, f4, f5, f6, f7, f8, f9, f10, f11, f12, f13, f14, f15, f16, f17, f18, f19, f20, ne_eq, not_true_eq_false]) | (with_reducible refine wgd_cases ?_ ?_ <;> intro hb) | (with_reducible refine wcond_cases ?_ ?_ <;> intro hb) | (with_reducible refine W_itn_cases ?_ ?_; omega))
          refine W_hp (note_fin (nx := nx) hq hS hl (fun i hi => k1 i (by omega)) (op := a.op) (ak := aset a.ak e u) (by omega) ?_ ?_ ⟨d, ?_⟩ (fun i hi h1 h2 => ?_) 9 e u q) ?_
          · simp [upd, f1, f2, f3, f4, f5, f6, f7, f8, f9, f10, f11, f12, f13, f14, f15, f16, f17, f18, f19, f20]
          · have := hq.ho
            simp [upd, this, f1, f2, f3, f4, f5, f6, f7, f8, f9, f10, f11, f12, f13, f14, f15, f16, f17, f18, f19, f20]
          · simp [upd, f1, f2, f3, f4, f5, f6, f7, f8, f9, f10, f11, f12, f13, f14, f15, f16, f17, f18, f19, f20]
          · have a1 : ¬ i = nx + 64 := by omega
            have a2 : ¬ i = nx1 + 136 := by omega
            simp [upd, h1, h2, a1, a2]
          rintro _ ⟨st3, nx3, rfl, hn3, hk3, hkp⟩
          repeat' (first | (simp -implicitDefEqProofs only [ze, zd, zr, simprocAttr, LR_pl, LR_hp, LR_hm, cunr_n, cunr_x, cunr_r, cunr_p, List.any_cons, List.any_nil, List.flatten_cons, List.flatten_nil, List.replicate_succ, List.replicate_zero, Bool.or_false, Bool.false_or, List.flatMap_cons, List.flatMap_nil]) | (with_reducible refine wgd_cases ?_ ?_ <;> intro hb) | (with_reducible refine wcond_cases ?_ ?_ <;> intro hb) | (with_reducible refine W_itn_cases ?_ ?_; omega))
          exact ⟨_, _, rfl, by omega, hk3.mono (fun i hi => hi.imp id fun q => ⟨q.1, by omega⟩) (fun _ _ => rfl), hkp⟩
        | some w =>
          obtain ⟨j2, w2⟩ := w
          rw [hdl] at hd
          have ea : (kmap V.str a.ak).set j2 (.str e, .str u) = kmap V.str (aset a.ak e u) := by unfold aset; rw [hdl]; exact kmap_set V.str a.ak j2 e u
          repeat' (first | (simp -implicitDefEqProofs only [ze, zd, zr, simprocAttr, LR_pl, LR_hp, LR_hm, cunr_n, cunr_x, cunr_r, cunr_p, List.any_cons, List.any_nil, List.flatten_cons, List.flatten_nil, List.replicate_succ, List.replicate_zero, Bool.or_false, Bool.false_or, List.flatMap_cons, List.flatMap_nil, encPE, hq.hk, hma, hd, Option.map_some, ea, f1, f2, f3, f4, f5, f6, f7, f8, f9, f10, f11, f12, f13, f14, f15, f16, f17, f18, f19, f20, ne_eq, not_true_eq_false]) | (with_reducible refine wgd_cases ?_ ?_ <;> intro hb) | (with_reducible refine wcond_cases ?_ ?_ <;> intro hb) | (with_reducible refine W_itn_cases ?_ ?_; omega))
          refine W_hp (note_fin (nx := nx) hq hS hl (fun i hi => k1 i (by omega)) (op := a.op) (ak := aset a.ak e u) (by omega) ?_ ?_ ⟨d, ?_⟩ (fun i hi h1 h2 => ?_) 9 e u q) ?_
          · simp [upd, f1, f2, f3, f4, f5, f6, f7, f8, f9, f10, f11, f12, f13, f14, f15, f16, f17, f18, f19, f20]
          · have := hq.ho
            simp [upd, this, f1, f2, f3, f4, f5, f6, f7, f8, f9, f10, f11, f12, f13, f14, f15, f16, f17, f18, f19, f20]
          · simp [upd, f1, f2, f3, f4, f5, f6, f7, f8, f9, f10, f11, f12, f13, f14, f15, f16, f17, f18, f19, f20]
          · have a1 : ¬ i = nx + 64 := by omega
            have a2 : ¬ i = nx1 + 136 := by omega
            simp [upd, h1, h2, a1, a2]
          rintro _ ⟨st3, nx3, rfl, hn3, hk3, hkp⟩
          repeat' (first | (simp -implicitDefEqProofs only [ze, zd, zr, simprocAttr, LR_pl, LR_hp, LR_hm, cunr_n, cunr_x, cunr_r, cunr_p, List.any_cons, List.any_nil, List.flatten_cons, List.flatten_nil, List.replicate_succ, List.replicate_zero, Bool.or_false, Bool.false_or, List.flatMap_cons, List.flatMap_nil]) | (with_reducible refine wgd_cases ?_ ?_ <;> intro hb) | (with_reducible refine wcond_cases ?_ ?_ <;> intro hb) | (with_reducible refine W_itn_cases ?_ ?_; omega))
          exact ⟨_, _, rfl, by omega, hk3.mono (fun i hi => hi.imp id fun q => ⟨q.1, by omega⟩) (fun _ _ => rfl), hkp⟩
      · rw [if_pos h2]
        have g2 : decide (eq = 0) = false := decide_eq_false h2
        repeat' (first | (simp -implicitDefEqProofs only [ze, zd, zr, simprocAttr, LR_pl, LR_hp, LR_hm, cunr_n, cunr_x, cunr_r, cunr_p, List.any_cons, List.any_nil, List.flatten_cons, List.flatten_nil, List.replicate_succ, List.replicate_zero, Bool.or_false, Bool.false_or, List.flatMap_cons, List.flatMap_nil, g2, ne_eq, not_true_eq_false]) | (with_reducible refine wgd_cases ?_ ?_ <;> intro hb) | (with_reducible refine wcond_cases ?_ ?_ <;> intro hb) | (with_reducible refine W_itn_cases ?_ ?_; omega))
        refine .still h hS (by omega) fun i hi => ?_
        simp (disch := omega) only [upds, upd, List.foldl_cons, List.foldl_nil, if_neg]
        rw [k1 i (by omega)]
  · rw [if_pos h0]
    have g0 : decide (er = 0) = false := decide_eq_false h0
    repeat' (first | (simp -implicitDefEqProofs only [ze, zd, zr, simprocAttr, LR_pl, LR_hp, LR_hm, cunr_n, cunr_x, cunr_r, cunr_p, List.any_cons, List.any_nil, List.flatten_cons, List.flatten_nil, List.replicate_succ, List.replicate_zero, Bool.or_false, Bool.false_or, List.flatMap_cons, List.flatMap_nil, encPE, g0, ne_eq, not_true_eq_false]) | (with_reducible refine wgd_cases ?_ ?_ <;> intro hb) | (with_reducible refine wcond_cases ?_ ?_ <;> intro hb) | (with_reducible refine W_itn_cases ?_ ?_; omega))
    refine .still h hS (by omega) fun i hi => ?_
    simp (disch := omega) only [upds, upd, List.foldl_cons, List.foldl_nil, if_neg]
    rw [k1 i (by omega)]
theorem reopen_ok {k : Nat} {a : Lk} {S : Nat → Prop} {st : St} {nx : Nat} (h : LK k a S st) (hS : ∀ i, S i → i < nx) (hl : a.ev.length ≤ 1000000) (e u : ByteArray) :
    W (L.hp 28 [.ptr k 0, .str e, .str u] st nx) (Does S st nx (.i64 (reopenK a e u).2) (LK k (reopenK a e u).1)) := by
  refine hp_r k28_eq ?_
  simp only [k28]
  repeat' (first | (simp -implicitDefEqProofs only [ze, zd, zr, simprocAttr, LR_pl, LR_hp, LR_hm, cunr_n, cunr_x, cunr_r, cunr_p, List.any_cons, List.any_nil, List.flatten_cons, List.flatten_nil, List.replicate_succ, List.replicate_zero, Bool.or_false, Bool.false_or, List.flatMap_cons, List.flatMap_nil]) | (with_reducible refine wgd_cases ?_ ?_ <;> intro hb) | (with_reducible refine wcond_cases ?_ ?_ <;> intro hb) | (with_reducible refine W_itn_cases ?_ ?_; omega))
  refine W_hp (begin2_ok h (fun i hi => by have := hS i hi; omega) e u) ?_
  rintro _ ⟨st1, nx1, rfl, h1, k1⟩
  have hbz := @beginK_zero a e u
  unfold reopenK
  generalize beginK a e u = b at hbz
  obtain ⟨p, er⟩ := b
  simp only at hbz
  by_cases h0 : er = 0
  · subst h0
    obtain ⟨hg, hu⟩ := hbz rfl
    rw [if_neg (by simp)]
    have hq := h.mono (S' := S) (st' := st1) (fun _ h => h) (fun i hi => k1 i (by have := hS i hi; omega))
    obtain ⟨mo, ma, vn, ve, hq⟩ := hq
    have hk := hS _ hq.sk
    have ho := hS _ hq.so
    have ha := hS _ hq.sa
    obtain ⟨d, hma⟩ := hq.ha
    have f1 : ∀ j, (k = nx1 + j) = False := fun j => eq_false (by omega)
    have f2 : ∀ j, (nx1 + j = k) = False := fun j => eq_false (by omega)
    have f3 : ∀ j, (k = nx + j) = False := fun j => eq_false (by omega)
    have f4 : ∀ j, (nx + j = k) = False := fun j => eq_false (by omega)
    have f5 : ∀ j, (mo = nx + j) = False := fun j => eq_false (by omega)
    have f6 : ∀ j, (nx + j = mo) = False := fun j => eq_false (by omega)
    have f7 : ∀ j, (ma = nx + j) = False := fun j => eq_false (by omega)
    have f8 : ∀ j, (nx + j = ma) = False := fun j => eq_false (by omega)
    have f9 : ∀ j, (mo = nx1 + j) = False := fun j => eq_false (by omega)
    have f10 : ∀ j, (nx1 + j = mo) = False := fun j => eq_false (by omega)
    have f11 : ∀ j, (ma = nx1 + j) = False := fun j => eq_false (by omega)
    have f12 : ∀ j, (nx1 + j = ma) = False := fun j => eq_false (by omega)
    have f13 : (mo = ma) = False := eq_false hq.na
    have f14 : (ma = mo) = False := eq_false (Ne.symm hq.na)
    have f15 : (k = mo) = False := eq_false hq.ko
    have f16 : (k = ma) = False := eq_false hq.ka
    have f17 : (mo = k) = False := eq_false (Ne.symm hq.ko)
    have f18 : (ma = k) = False := eq_false (Ne.symm hq.ka)
    have f19 : ∀ j, (nx + 64 = nx1 + j) = False := fun j => eq_false (by omega)
    have f20 : ∀ j, (nx1 + j = nx + 64) = False := fun j => eq_false (by omega)
    have hnp := prevP_ok a.c p.1 p.2
    generalize prevP a.c p.1 p.2 = q at hnp
    obtain ⟨q, eq⟩ := q
    simp only [encPE] at hnp
    have hd := mfind_kmap V.str e a.ak 0
    have hm := mfind_kmap encP e a.op 0
    obtain ⟨j, hj⟩ : ∃ j, aidx a.op e = some (j, p) := by
      unfold aget at hg
      rw [Option.map_eq_some_iff] at hg
      obtain ⟨⟨j, w⟩, h3, rfl⟩ := hg
      exact ⟨j, h3⟩
    rw [hj] at hm
    have eo : aset a.op e q = a.op.set j (e, q) := by unfold aset; rw [hj]
    have es : (kmap encP a.op).set j (.str e, .agg [.i64 q.1, .i64 q.2]) = kmap encP (aset a.op e q) := by rw [eo]; exact kmap_set encP a.op j e q
    cases hdl : aidx a.ak e with
    | none =>
      rw [hdl] at hd
      have eg : aget a.ak e = none := by unfold aget; rw [hdl]; rfl
      rw [eg]
      repeat' (first | (simp -implicitDefEqProofs only [ze, zd, zr, simprocAttr, LR_pl, LR_hp, LR_hm, cunr_n, cunr_x, cunr_r, cunr_p, List.any_cons, List.any_nil, List.flatten_cons, List.flatten_nil, List.replicate_succ, List.replicate_zero, Bool.or_false, Bool.false_or, List.flatMap_cons, List.flatMap_nil, encPE, hq.hk, hma, hd, Option.map_none, f1, f2, f3, f4, f5, f6, f7, f8, f9, f10, f11, f12, f13, f14, f15, f16, f17, f18, f19, f20, ne_eq, not_true_eq_false]) | (with_reducible refine wgd_cases ?_ ?_ <;> intro hb) | (with_reducible refine wcond_cases ?_ ?_ <;> intro hb) | (with_reducible refine W_itn_cases ?_ ?_; omega))
      refine .still h hS (by omega) fun i hi => ?_
      simp (disch := omega) only [upds, upd, List.foldl_cons, List.foldl_nil, if_neg]
      rw [k1 i (by omega)]
    | some w =>
      obtain ⟨j2, v⟩ := w
      rw [hdl] at hd
      have eg : aget a.ak e = some v := by unfold aget; rw [hdl]; rfl
      have ea : adel a.ak e = a.ak.eraseIdx j2 := by unfold adel; rw [hdl]
      have ee : (kmap V.str a.ak).eraseIdx j2 = kmap V.str (adel a.ak e) := by rw [ea]; exact kmap_erase V.str a.ak j2
      rw [eg]
      simp only
      by_cases hv : v = u
      · have g3 : decide (v = u) = true := decide_eq_true hv
        rw [if_pos hv]
        repeat' (first | (simp -implicitDefEqProofs only [ze, zd, zr, simprocAttr, LR_pl, LR_hp, LR_hm, cunr_n, cunr_x, cunr_r, cunr_p, List.any_cons, List.any_nil, List.flatten_cons, List.flatten_nil, List.replicate_succ, List.replicate_zero, Bool.or_false, Bool.false_or, List.flatMap_cons, List.flatMap_nil, encPE, hq.hk, hma, hd, Option.map_some, g3, f1, f2, f3, f4, f5, f6, f7, f8, f9, f10, f11, f12, f13, f14, f15, f16, f17, f18, f19, f20, ne_eq, not_true_eq_false]) | (with_reducible refine wgd_cases ?_ ?_ <;> intro hb) | (with_reducible refine wcond_cases ?_ ?_ <;> intro hb) | (with_reducible refine W_itn_cases ?_ ?_; omega))
        refine .still h hS (by omega) fun i hi => ?_
        simp (disch := omega) only [upds, upd, List.foldl_cons, List.foldl_nil, if_neg]
        rw [k1 i (by omega)]
      · have g3 : decide (v = u) = false := decide_eq_false hv
        rw [if_neg hv]
        repeat' (first | (simp -implicitDefEqProofs only [ze, zd, zr, simprocAttr, LR_pl, LR_hp, LR_hm, cunr_n, cunr_x, cunr_r, cunr_p, List.any_cons, List.any_nil, List.flatten_cons, List.flatten_nil, List.replicate_succ, List.replicate_zero, Bool.or_false, Bool.false_or, List.flatMap_cons, List.flatMap_nil, encPE, hq.hk, hma, hd, Option.map_some, g3, hnp, f1, f2, f3, f4, f5, f6, f7, f8, f9, f10, f11, f12, f13, f14, f15, f16, f17, f18, f19, f20, ne_eq, not_true_eq_false]) | (with_reducible refine wgd_cases ?_ ?_ <;> intro hb) | (with_reducible refine wcond_cases ?_ ?_ <;> intro hb) | (with_reducible refine W_itn_cases ?_ ?_; omega))
        refine qd_i (by simp [recsOk, ordB, Rec.free, Rec.wr, disj, List.range, List.range.loop, f1, f2, f3, f4, f19, f20]; try (repeat' (first | apply And.intro | decide | omega | (left; decide) | (right; omega)))) ?_
        by_cases h2 : eq = 0
        · subst h2
          rw [if_neg (by simp)]
          repeat' (first | (simp -implicitDefEqProofs only [ze, zd, zr, simprocAttr, LR_pl, LR_hp, LR_hm, cunr_n, cunr_x, cunr_r, cunr_p, List.any_cons, List.any_nil, List.flatten_cons, List.flatten_nil, List.replicate_succ, List.replicate_zero, Bool.or_false, Bool.false_or, List.flatMap_cons, List.flatMap_nil, encPE, hq.hk, hq.ho, hma, hm, hd, Option.map_some, es, ee, f1, f2, f3, f4, f5, f6, f7, f8, f9, f10, f11, f12, f13, f14, f15, f16, f17, f18, f19, f20, ne_eq, not_true_eq_false]) | (with_reducible refine wgd_cases ?_ ?_ <;> intro hb) | (with_reducible refine wcond_cases ?_ ?_ <;> intro hb) | (with_reducible refine W_itn_cases ?_ ?_; omega))
          refine qd_i (by simp [recsOk, ordB, Rec.free, Rec.wr, disj, List.range, List.range.loop, f1, f2, f3, f4, f5, f6, f7, f8, f9, f10, f11, f12, f13, f14, f15, f16, f17, f18, f19, f20]; try (repeat' (first | apply And.intro | decide | omega | (left; decide) | (right; omega)))) ?_
          repeat' (first | (simp -implicitDefEqProofs only [ze, zd, zr, simprocAttr, LR_pl, LR_hp, LR_hm, cunr_n, cunr_x, cunr_r, cunr_p, List.any_cons, List.any_nil, List.flatten_cons, List.flatten_nil, List.replicate_succ, List.replicate_zero, Bool.or_false, Bool.false_or, List.flatMap_cons, List.flatMap_nil, encPE, hq.hk, hq.ho, hma, hm, hd, Option.map_some, es, ee, f1, f2, f3, f4, f5, f6, f7, f8, f9, f10, f11, f12, f13, f14, f15, f16, f17, f18, f19, f20, ne_eq, not_true_eq_false]) | (with_reducible refine wgd_cases ?_ ?_ <;> intro hb) | (with_reducible refine wcond_cases ?_ ?_ <;> intro hb) | (with_reducible refine W_itn_cases ?_ ?_; omega))
          refine W_hp (note_fin (nx := nx) hq hS hl (fun i hi => k1 i (by omega)) (op := aset a.op e q) (ak := adel a.ak e) (by omega) ?_ ?_ ⟨false, ?_⟩ (fun i hi h1 h2 => ?_) 10 e u q) ?_
          · simp [upd, f1, f2, f3, f4, f5, f6, f7, f8, f9, f10, f11, f12, f13, f14, f15, f16, f17, f18, f19, f20]
          · simp [upd, f1, f2, f3, f4, f5, f6, f7, f8, f9, f10, f11, f12, f13, f14, f15, f16, f17, f18, f19, f20]
          · simp [upd, f1, f2, f3, f4, f5, f6, f7, f8, f9, f10, f11, f12, f13, f14, f15, f16, f17, f18, f19, f20]
          · have a1 : ¬ i = nx + 64 := by omega
            have a2 : ¬ i = nx1 + 232 := by omega
            simp [upd, h1, h2, a1, a2]
          rintro _ ⟨st3, nx3, rfl, hn3, hk3, hkp⟩
          repeat' (first | (simp -implicitDefEqProofs only [ze, zd, zr, simprocAttr, LR_pl, LR_hp, LR_hm, cunr_n, cunr_x, cunr_r, cunr_p, List.any_cons, List.any_nil, List.flatten_cons, List.flatten_nil, List.replicate_succ, List.replicate_zero, Bool.or_false, Bool.false_or, List.flatMap_cons, List.flatMap_nil]) | (with_reducible refine wgd_cases ?_ ?_ <;> intro hb) | (with_reducible refine wcond_cases ?_ ?_ <;> intro hb) | (with_reducible refine W_itn_cases ?_ ?_; omega))
          exact ⟨_, _, rfl, by omega, hk3.mono (fun i hi => hi.imp id fun q => ⟨q.1, by omega⟩) (fun _ _ => rfl), hkp⟩
        · rw [if_pos h2]
          have g2 : decide (eq = 0) = false := decide_eq_false h2
          repeat' (first | (simp -implicitDefEqProofs only [ze, zd, zr, simprocAttr, LR_pl, LR_hp, LR_hm, cunr_n, cunr_x, cunr_r, cunr_p, List.any_cons, List.any_nil, List.flatten_cons, List.flatten_nil, List.replicate_succ, List.replicate_zero, Bool.or_false, Bool.false_or, List.flatMap_cons, List.flatMap_nil, g2, ne_eq, not_true_eq_false]) | (with_reducible refine wgd_cases ?_ ?_ <;> intro hb) | (with_reducible refine wcond_cases ?_ ?_ <;> intro hb) | (with_reducible refine W_itn_cases ?_ ?_; omega))
          refine .still h hS (by omega) fun i hi => ?_
          simp (disch := omega) only [upds, upd, List.foldl_cons, List.foldl_nil, if_neg]
          rw [k1 i (by omega)]
  · rw [if_pos h0]
    have g0 : decide (er = 0) = false := decide_eq_false h0
    repeat' (first | (simp -implicitDefEqProofs only [ze, zd, zr, simprocAttr, LR_pl, LR_hp, LR_hm, cunr_n, cunr_x, cunr_r, cunr_p, List.any_cons, List.any_nil, List.flatten_cons, List.flatten_nil, List.replicate_succ, List.replicate_zero, Bool.or_false, Bool.false_or, List.flatMap_cons, List.flatMap_nil, encPE, g0, ne_eq, not_true_eq_false]) | (with_reducible refine wgd_cases ?_ ?_ <;> intro hb) | (with_reducible refine wcond_cases ?_ ?_ <;> intro hb) | (with_reducible refine W_itn_cases ?_ ?_; omega))
    refine .still h hS (by omega) fun i hi => ?_
    simp (disch := omega) only [upds, upd, List.foldl_cons, List.foldl_nil, if_neg]
    rw [k1 i (by omega)]
end Go.Proofs.YthgmhlpjbednpaaDoor.Vm
set_option maxRecDepth 10000
set_option linter.unusedVariables false
set_option linter.unusedSimpArgs false
namespace Go.Proofs.YthgmhlpjbednpaaDoor.Vm
open Go Go.Proofs
def stateK (a : Lk) (e : ByteArray) (p : Int × Int) : Int :=
  if (firstK a e).2 ≠ 0 then 0 else if (spanS a.c p.1 p.2).2.2 ≠ 0 then 0 else if cmpP p.1 p.2 (firstK a e).1.1 (firstK a e).1.2 < 0 then 1 else 2
noncomputable def allowK (a : Lk) (e : ByteArray) (d k : Int) : Int :=
  if (firstK a e).2 ≠ 0 then (firstK a e).2 else if (forP a.c d k).2 ≠ 0 then (forP a.c d k).2 else if cmpP (forP a.c d k).1.1 (forP a.c d k).1.2 (firstK a e).1.1 (firstK a e).1.2 < 0 then 16 else 0
theorem cmpP_self (y n : Int) : cmpP y n y n = 0 := by simp [cmpP]
theorem state_ok {k : Nat} {a : Lk} {S : Nat → Prop} {st : St} {nx : Nat} (h : LK k a S st) (hS : ∀ i, S i → i < nx) (e : ByteArray) (p : Int × Int) :
    W (L.hp 26 [.ptr k 0, .str e, .agg [.i64 p.1, .i64 p.2]] st nx) (Still st nx (.i64 (stateK a e p))) := by
  refine hp_r k26_eq ?_
  simp only [k26]
  repeat' (first | (simp -implicitDefEqProofs only [ze, zd, zr, simprocAttr, LR_pl, LR_hp, LR_hm, cunr_n, cunr_x, cunr_r, cunr_p, List.any_cons, List.any_nil, List.flatten_cons, List.flatten_nil, List.replicate_succ, List.replicate_zero, Bool.or_false, Bool.false_or, List.flatMap_cons, List.flatMap_nil]) | (with_reducible refine wgd_cases ?_ ?_ <;> intro hb) | (with_reducible refine wcond_cases ?_ ?_ <;> intro hb) | (with_reducible refine W_itn_cases ?_ ?_; omega))
  refine W_hp (first_ok (h.mono (S' := S) (fun _ h => h) (fun i hi => ?_)) (fun i hi => by have := hS i hi; omega) e) ?_
  · have := hS i hi
    simp (disch := omega) only [upds, upd, List.foldl_cons, List.foldl_nil, if_neg]
  rintro _ ⟨st1, nx1, rfl, h1, k1⟩
  unfold stateK
  generalize firstK a e = b
  obtain ⟨f, er⟩ := b
  have e1 : st1 nx = some (.cells [.i64 p.1, .i64 p.2]) := by rw [k1 nx (by omega)]; simp [upds, upd]
  have hq := h.mono (S' := S) (st' := st1) (fun _ h => h) (fun i hi => by
    have := hS i hi
    rw [k1 i (by omega)]
    simp (disch := omega) only [upds, upd, List.foldl_cons, List.foldl_nil, if_neg])
  obtain ⟨mo, ma, vn, ve, hq⟩ := hq
  have hk := hS _ hq.sk
  have f3 : ∀ j, (k = nx + j) = False := fun j => eq_false (by omega)
  have f1 : ∀ j, (k = nx1 + j) = False := fun j => eq_false (by omega)
  have f5 : (nx = nx1) = False := eq_false (by omega)
  have f6 : ∀ j, (nx = nx1 + j) = False := fun j => eq_false (by omega)
  have f7 : (k = nx) = False := eq_false (by omega)
  have f8 : (nx = nx + 64) = False := eq_false (by omega)
  have f9 : (nx + 64 = nx) = False := eq_false (by omega)
  have f10 : ∀ j, (nx + 64 = nx1 + j) = False := fun j => eq_false (by omega)
  have f11 : ∀ j, (nx1 + j = nx + 64) = False := fun j => eq_false (by omega)
  have stay : ∀ (st2 : St) (nx2 : Nat) (v : Int), nx1 ≤ nx2 → (∀ i, i < nx → st2 i = st1 i) → Still st nx (.i64 v) (.ret (.i64 v) st2 nx2) := fun st2 nx2 v hn hs => .of (by omega) fun i hi => by
    rw [hs i hi, k1 i (by omega)]
    simp (disch := omega) only [upds, upd, List.foldl_cons, List.foldl_nil, if_neg]
  by_cases h0 : er = 0
  · subst h0
    rw [if_neg (by simp)]
    have hsp := span_ok a.c p.1 p.2
    generalize spanS a.c p.1 p.2 = s at hsp
    obtain ⟨s1, s2, s3⟩ := s
    have hcm := cmpP_ok p.1 p.2 f.1 f.2
    by_cases h2 : s3 = 0
    · subst h2
      rw [if_neg (by simp)]
      by_cases h3 : cmpP p.1 p.2 f.1 f.2 < 0
      · have g3 : decide (cmpP p.1 p.2 f.1 f.2 < 0) = true := decide_eq_true h3
        rw [if_pos h3]
        repeat' (first | (simp -implicitDefEqProofs only [ze, zd, zr, simprocAttr, LR_pl, LR_hp, LR_hm, cunr_n, cunr_x, cunr_r, cunr_p, List.any_cons, List.any_nil, List.flatten_cons, List.flatten_nil, List.replicate_succ, List.replicate_zero, Bool.or_false, Bool.false_or, List.flatMap_cons, List.flatMap_nil, encPE, e1, hq.hk, hsp, hcm, g3, f1, f3, f5, f6, f7, f8, f9, f10, f11, ne_eq, not_true_eq_false]) | (with_reducible refine wgd_cases ?_ ?_ <;> intro hb) | (with_reducible refine wcond_cases ?_ ?_ <;> intro hb) | (with_reducible refine W_itn_cases ?_ ?_; omega))
        refine qd_i (by simp [recsOk, ordB, Rec.free, Rec.wr, disj, List.range, List.range.loop, f1, f3, f5, f6, f7, f8, f9, f10, f11]; try (repeat' (first | apply And.intro | decide | omega | (left; decide) | (right; omega)))) ?_
        repeat' (first | (simp -implicitDefEqProofs only [ze, zd, zr, simprocAttr, LR_pl, LR_hp, LR_hm, cunr_n, cunr_x, cunr_r, cunr_p, List.any_cons, List.any_nil, List.flatten_cons, List.flatten_nil, List.replicate_succ, List.replicate_zero, Bool.or_false, Bool.false_or, List.flatMap_cons, List.flatMap_nil, encPE, e1, hq.hk, hsp, hcm, g3, f1, f3, f5, f6, f7, f8, f9, f10, f11, ne_eq, not_true_eq_false]) | (with_reducible refine wgd_cases ?_ ?_ <;> intro hb) | (with_reducible refine wcond_cases ?_ ?_ <;> intro hb) | (with_reducible refine W_itn_cases ?_ ?_; omega))
        refine stay _ _ _ ?_ fun i hi => ?_
        · omega
        simp (disch := omega) only [upds, upd, List.foldl_cons, List.foldl_nil, if_neg]
      · have g3 : decide (cmpP p.1 p.2 f.1 f.2 < 0) = false := decide_eq_false h3
        rw [if_neg h3]
        repeat' (first | (simp -implicitDefEqProofs only [ze, zd, zr, simprocAttr, LR_pl, LR_hp, LR_hm, cunr_n, cunr_x, cunr_r, cunr_p, List.any_cons, List.any_nil, List.flatten_cons, List.flatten_nil, List.replicate_succ, List.replicate_zero, Bool.or_false, Bool.false_or, List.flatMap_cons, List.flatMap_nil, encPE, e1, hq.hk, hsp, hcm, g3, f1, f3, f5, f6, f7, f8, f9, f10, f11, ne_eq, not_true_eq_false]) | (with_reducible refine wgd_cases ?_ ?_ <;> intro hb) | (with_reducible refine wcond_cases ?_ ?_ <;> intro hb) | (with_reducible refine W_itn_cases ?_ ?_; omega))
        refine qd_i (by simp [recsOk, ordB, Rec.free, Rec.wr, disj, List.range, List.range.loop, f1, f3, f5, f6, f7, f8, f9, f10, f11]; try (repeat' (first | apply And.intro | decide | omega | (left; decide) | (right; omega)))) ?_
        repeat' (first | (simp -implicitDefEqProofs only [ze, zd, zr, simprocAttr, LR_pl, LR_hp, LR_hm, cunr_n, cunr_x, cunr_r, cunr_p, List.any_cons, List.any_nil, List.flatten_cons, List.flatten_nil, List.replicate_succ, List.replicate_zero, Bool.or_false, Bool.false_or, List.flatMap_cons, List.flatMap_nil, encPE, e1, hq.hk, hsp, hcm, g3, f1, f3, f5, f6, f7, f8, f9, f10, f11, ne_eq, not_true_eq_false]) | (with_reducible refine wgd_cases ?_ ?_ <;> intro hb) | (with_reducible refine wcond_cases ?_ ?_ <;> intro hb) | (with_reducible refine W_itn_cases ?_ ?_; omega))
        refine stay _ _ _ ?_ fun i hi => ?_
        · omega
        simp (disch := omega) only [upds, upd, List.foldl_cons, List.foldl_nil, if_neg]
    · have g2 : decide (s3 = 0) = false := decide_eq_false h2
      rw [if_pos h2]
      repeat' (first | (simp -implicitDefEqProofs only [ze, zd, zr, simprocAttr, LR_pl, LR_hp, LR_hm, cunr_n, cunr_x, cunr_r, cunr_p, List.any_cons, List.any_nil, List.flatten_cons, List.flatten_nil, List.replicate_succ, List.replicate_zero, Bool.or_false, Bool.false_or, List.flatMap_cons, List.flatMap_nil, encPE, e1, hq.hk, hsp, g2, f1, f3, f5, f6, f7, f8, f9, f10, f11, ne_eq, not_true_eq_false]) | (with_reducible refine wgd_cases ?_ ?_ <;> intro hb) | (with_reducible refine wcond_cases ?_ ?_ <;> intro hb) | (with_reducible refine W_itn_cases ?_ ?_; omega))
      refine qd_i (by simp [recsOk, ordB, Rec.free, Rec.wr, disj, List.range, List.range.loop, f1, f3, f5, f6, f7, f8, f9, f10, f11]; try (repeat' (first | apply And.intro | decide | omega | (left; decide) | (right; omega)))) ?_
      repeat' (first | (simp -implicitDefEqProofs only [ze, zd, zr, simprocAttr, LR_pl, LR_hp, LR_hm, cunr_n, cunr_x, cunr_r, cunr_p, List.any_cons, List.any_nil, List.flatten_cons, List.flatten_nil, List.replicate_succ, List.replicate_zero, Bool.or_false, Bool.false_or, List.flatMap_cons, List.flatMap_nil, encPE, e1, hq.hk, hsp, g2, f1, f3, f5, f6, f7, f8, f9, f10, f11, ne_eq, not_true_eq_false]) | (with_reducible refine wgd_cases ?_ ?_ <;> intro hb) | (with_reducible refine wcond_cases ?_ ?_ <;> intro hb) | (with_reducible refine W_itn_cases ?_ ?_; omega))
      refine stay _ _ _ ?_ fun i hi => ?_
      · omega
      simp (disch := omega) only [upds, upd, List.foldl_cons, List.foldl_nil, if_neg]
  · have g0 : decide (er = 0) = false := decide_eq_false h0
    rw [if_pos h0]
    repeat' (first | (simp -implicitDefEqProofs only [ze, zd, zr, simprocAttr, LR_pl, LR_hp, LR_hm, cunr_n, cunr_x, cunr_r, cunr_p, List.any_cons, List.any_nil, List.flatten_cons, List.flatten_nil, List.replicate_succ, List.replicate_zero, Bool.or_false, Bool.false_or, List.flatMap_cons, List.flatMap_nil, encPE, g0, ne_eq, not_true_eq_false]) | (with_reducible refine wgd_cases ?_ ?_ <;> intro hb) | (with_reducible refine wcond_cases ?_ ?_ <;> intro hb) | (with_reducible refine W_itn_cases ?_ ?_; omega))
    refine stay _ _ _ ?_ fun i hi => ?_
    · omega
    simp (disch := omega) only [upds, upd, List.foldl_cons, List.foldl_nil, if_neg]
theorem allow_ok {k : Nat} {a : Lk} {S : Nat → Prop} {st : St} {nx : Nat} (h : LK k a S st) (hS : ∀ i, S i → i < nx) (e : ByteArray) (d kd : Int) :
    W (L.hp 20 [.ptr k 0, .str e, .i64 d, .i64 kd] st nx) (Still st nx (.i64 (allowK a e d kd))) := by
  refine hp_r k20_eq ?_
  simp only [k20]
  repeat' (first | (simp -implicitDefEqProofs only [ze, zd, zr, simprocAttr, LR_pl, LR_hp, LR_hm, cunr_n, cunr_x, cunr_r, cunr_p, List.any_cons, List.any_nil, List.flatten_cons, List.flatten_nil, List.replicate_succ, List.replicate_zero, Bool.or_false, Bool.false_or, List.flatMap_cons, List.flatMap_nil]) | (with_reducible refine wgd_cases ?_ ?_ <;> intro hb) | (with_reducible refine wcond_cases ?_ ?_ <;> intro hb) | (with_reducible refine W_itn_cases ?_ ?_; omega))
  refine W_hp (first_ok h (fun i hi => by have := hS i hi; omega) e) ?_
  rintro _ ⟨st1, nx1, rfl, h1, k1⟩
  unfold allowK
  generalize firstK a e = b
  obtain ⟨f, er⟩ := b
  have hq := h.mono (S' := S) (st' := st1) (fun _ h => h) (fun i hi => k1 i (by have := hS i hi; omega))
  obtain ⟨mo, ma, vn, ve, hq⟩ := hq
  have hk := hS _ hq.sk
  have f1 : ∀ j, (k = nx1 + j) = False := fun j => eq_false (by omega)
  have f3 : ∀ j, (k = nx + j) = False := fun j => eq_false (by omega)
  have stay : ∀ (st2 : St) (nx2 : Nat) (v : Int), nx1 ≤ nx2 → (∀ i, i < nx → st2 i = st1 i) → Still st nx (.i64 v) (.ret (.i64 v) st2 nx2) := fun st2 nx2 v hn hs => .of (by omega) fun i hi => by
    rw [hs i hi, k1 i (by omega)]
  by_cases h0 : er = 0
  · subst h0
    rw [if_neg (by simp)]
    have hfo := forP_ok a.c d kd
    generalize forP a.c d kd = q at hfo
    obtain ⟨q, eq⟩ := q
    simp only [encPE] at hfo
    have hcm := cmpP_ok q.1 q.2 f.1 f.2
    have f20 : ∀ j, (nx = nx1 + j) = False := fun j => eq_false (by omega)
    have f21 : (nx = nx1) = False := eq_false (by omega)
    by_cases h2 : eq = 0
    · subst h2
      rw [if_neg (by simp)]
      have gs : (decide (q.1 = f.1) && decide (q.2 = f.2)) = decide (q = f) := by
        by_cases h : q = f
        · subst h; simp
        · have : ¬ (q.1 = f.1 ∧ q.2 = f.2) := fun z => h (Prod.ext z.1 z.2)
          rw [decide_eq_false h]
          simpa using this
      by_cases h4 : q = f
      · have g4 : decide (q = f) = true := decide_eq_true h4
        rw [if_neg (by rw [h4, cmpP_self]; decide)]
        repeat' (first | (simp -implicitDefEqProofs only [ze, zd, zr, simprocAttr, LR_pl, LR_hp, LR_hm, cunr_n, cunr_x, cunr_r, cunr_p, List.any_cons, List.any_nil, List.flatten_cons, List.flatten_nil, List.replicate_succ, List.replicate_zero, Bool.or_false, Bool.false_or, List.flatMap_cons, List.flatMap_nil, encPE, hq.hk, hfo, gs, g4, bne_tf, bne_ff, bne_ft, bne_tt, f1, f3, f20, f21, ne_eq, not_true_eq_false]) | (with_reducible refine wgd_cases ?_ ?_ <;> intro hb) | (with_reducible refine wcond_cases ?_ ?_ <;> intro hb) | (with_reducible refine W_itn_cases ?_ ?_; omega))
        refine stay _ _ _ ?_ fun i hi => ?_
        · omega
        simp (disch := omega) only [upds, upd, List.foldl_cons, List.foldl_nil, if_neg]
      · have g4 : decide (q = f) = false := decide_eq_false h4
        by_cases h3 : cmpP q.1 q.2 f.1 f.2 < 0
        · have g3 : decide (cmpP q.1 q.2 f.1 f.2 < 0) = true := decide_eq_true h3
          rw [if_pos h3]
          repeat' (first | (simp -implicitDefEqProofs only [ze, zd, zr, simprocAttr, LR_pl, LR_hp, LR_hm, cunr_n, cunr_x, cunr_r, cunr_p, List.any_cons, List.any_nil, List.flatten_cons, List.flatten_nil, List.replicate_succ, List.replicate_zero, Bool.or_false, Bool.false_or, List.flatMap_cons, List.flatMap_nil, encPE, hq.hk, hfo, gs, g4, hcm, g3, bne_tf, bne_ff, bne_ft, bne_tt, f1, f3, f20, f21, ne_eq, not_true_eq_false]) | (with_reducible refine wgd_cases ?_ ?_ <;> intro hb) | (with_reducible refine wcond_cases ?_ ?_ <;> intro hb) | (with_reducible refine W_itn_cases ?_ ?_; omega))
          refine stay _ _ _ ?_ fun i hi => ?_
          · omega
          simp (disch := omega) only [upds, upd, List.foldl_cons, List.foldl_nil, if_neg]
        · have g3 : decide (cmpP q.1 q.2 f.1 f.2 < 0) = false := decide_eq_false h3
          rw [if_neg h3]
          repeat' (first | (simp -implicitDefEqProofs only [ze, zd, zr, simprocAttr, LR_pl, LR_hp, LR_hm, cunr_n, cunr_x, cunr_r, cunr_p, List.any_cons, List.any_nil, List.flatten_cons, List.flatten_nil, List.replicate_succ, List.replicate_zero, Bool.or_false, Bool.false_or, List.flatMap_cons, List.flatMap_nil, encPE, hq.hk, hfo, gs, g4, hcm, g3, bne_tf, bne_ff, bne_ft, bne_tt, f1, f3, f20, f21, ne_eq, not_true_eq_false]) | (with_reducible refine wgd_cases ?_ ?_ <;> intro hb) | (with_reducible refine wcond_cases ?_ ?_ <;> intro hb) | (with_reducible refine W_itn_cases ?_ ?_; omega))
          refine stay _ _ _ ?_ fun i hi => ?_
          · omega
          simp (disch := omega) only [upds, upd, List.foldl_cons, List.foldl_nil, if_neg]
    · have g2 : decide (eq = 0) = false := decide_eq_false h2
      rw [if_pos h2]
      repeat' (first | (simp -implicitDefEqProofs only [ze, zd, zr, simprocAttr, LR_pl, LR_hp, LR_hm, cunr_n, cunr_x, cunr_r, cunr_p, List.any_cons, List.any_nil, List.flatten_cons, List.flatten_nil, List.replicate_succ, List.replicate_zero, Bool.or_false, Bool.false_or, List.flatMap_cons, List.flatMap_nil, encPE, hq.hk, hfo, g2, f1, f3, ne_eq, not_true_eq_false]) | (with_reducible refine wgd_cases ?_ ?_ <;> intro hb) | (with_reducible refine wcond_cases ?_ ?_ <;> intro hb) | (with_reducible refine W_itn_cases ?_ ?_; omega))
      refine stay _ _ _ ?_ fun i hi => ?_
      · omega
      simp (disch := omega) only [upds, upd, List.foldl_cons, List.foldl_nil, if_neg]
  · have g0 : decide (er = 0) = false := decide_eq_false h0
    rw [if_pos h0]
    repeat' (first | (simp -implicitDefEqProofs only [ze, zd, zr, simprocAttr, LR_pl, LR_hp, LR_hm, cunr_n, cunr_x, cunr_r, cunr_p, List.any_cons, List.any_nil, List.flatten_cons, List.flatten_nil, List.replicate_succ, List.replicate_zero, Bool.or_false, Bool.false_or, List.flatMap_cons, List.flatMap_nil, encPE, g0, ne_eq, not_true_eq_false]) | (with_reducible refine wgd_cases ?_ ?_ <;> intro hb) | (with_reducible refine wcond_cases ?_ ?_ <;> intro hb) | (with_reducible refine W_itn_cases ?_ ?_; omega))
    refine stay _ _ _ ?_ fun i hi => ?_
    · omega
    simp (disch := omega) only [upds, upd, List.foldl_cons, List.foldl_nil, if_neg]
theorem cloneE_ok {S : Nat → Prop} {st : St} {nx n : Nat} {cs : List V} {v : V} (h : rowV S st 50 true 5 n cs v) (hS : ∀ i, S i → i < nx) (hn : n ≤ 1000000) (hl : cs.length = n * 5) :
    W (L.hp 41 [v] st nx) (fun r => ∃ v' st' nx', r = .ret v' st' nx' ∧ nx ≤ nx' ∧ rowV (fun i => nx ≤ i ∧ i < nx') st' 50 true 5 n cs v' ∧ ∀ i, i < nx → st' i = st i) := by
  refine hp_r k41_eq ?_
  simp only [k41]
  rcases h with ⟨rfl, rfl, rfl⟩ | ⟨h0, id, h1, rfl, h3⟩
  · repeat' (first | (simp -implicitDefEqProofs only [ze, zd, zr, simprocAttr, LR_pl, LR_hp, LR_hm, cunr_n, cunr_x, cunr_r, cunr_p, List.any_cons, List.any_nil, List.flatten_cons, List.flatten_nil, List.replicate_succ, List.replicate_zero, Bool.or_false, Bool.false_or, List.flatMap_cons, List.flatMap_nil]) | (with_reducible refine wgd_cases ?_ ?_ <;> intro hb) | (with_reducible refine wcond_cases ?_ ?_ <;> intro hb) | (with_reducible refine W_itn_cases ?_ ?_; omega))
    exact ⟨_, _, _, rfl, by omega, .inl ⟨rfl, rfl, rfl⟩, fun i hi => rfl⟩
  · obtain ⟨m, rfl⟩ : ∃ m, n = m + 1 := ⟨n - 1, by omega⟩
    have hid := hS id h1
    have i1 : ∀ j, (id = nx + j) = False := fun j => eq_false (by omega)
    have i2 : (id = nx) = False := eq_false (by omega)
    have hz : ¬ (m + 1 = 0) := by omega
    have ht : cs.take ((m + 1) * 5) = cs := List.take_of_length_le (by omega)
    have hle : (m + 1) * 5 ≤ cs.length := by omega
    repeat' (first | (simp -implicitDefEqProofs only [ze, zd, zr, simprocAttr, LR_pl, LR_hp, LR_hm, cunr_n, cunr_x, cunr_r, cunr_p, List.any_cons, List.any_nil, List.flatten_cons, List.flatten_nil, List.replicate_succ, List.replicate_zero, Bool.or_false, Bool.false_or, List.flatMap_cons, List.flatMap_nil, h3, i1, i2, List.drop_zero, Nat.zero_mul, Nat.mul_one, ht, hle, Nat.zero_add]) | (with_reducible refine wgd_cases ?_ ?_ <;> intro hb) | (with_reducible refine wcond_cases ?_ ?_ <;> intro hb) | (with_reducible refine W_itn_cases ?_ ?_; omega))
    refine ⟨_, _, _, rfl, by omega, .inr ⟨by omega, nx + 40, ⟨by omega, by omega⟩, rfl, by simp [upd]⟩, fun i hi => ?_⟩
    have a1 : ¬ i = nx + 24 := by omega
    have a2 : ¬ i = nx + 40 := by omega
    simp [upd, a1, a2]
theorem evC_len (l : List Ev) : (l.flatMap evC).length = l.length * 5 := by
  induction l with
  | nil => rfl
  | cons x l ih => rw [List.flatMap_cons, List.length_append, ih, List.length_cons, Nat.succ_mul]; simp [evC]; omega
theorem evs_ok {k : Nat} {a : Lk} {S : Nat → Prop} {st : St} {nx : Nat} (h : LK k a S st) (hS : ∀ i, S i → i < nx) (hl : a.ev.length ≤ 1000000) :
    W (L.hp 17 [.ptr k 0] st nx) (fun r => ∃ v' st' nx', r = .ret v' st' nx' ∧ nx ≤ nx' ∧ rowV (fun i => nx ≤ i ∧ i < nx') st' 50 true 5 a.ev.length (a.ev.flatMap evC) v' ∧ ∀ i, i < nx → st' i = st i) := by
  refine hp_r k17_eq ?_
  simp only [k17]
  obtain ⟨mo, ma, vn, ve, hq⟩ := h
  repeat' (first | (simp -implicitDefEqProofs only [ze, zd, zr, simprocAttr, LR_pl, LR_hp, LR_hm, cunr_n, cunr_x, cunr_r, cunr_p, List.any_cons, List.any_nil, List.flatten_cons, List.flatten_nil, List.replicate_succ, List.replicate_zero, Bool.or_false, Bool.false_or, List.flatMap_cons, List.flatMap_nil, hq.hk]) | (with_reducible refine wgd_cases ?_ ?_ <;> intro hb) | (with_reducible refine wcond_cases ?_ ?_ <;> intro hb) | (with_reducible refine W_itn_cases ?_ ?_; omega))
  refine W_hp (cloneE_ok hq.he (fun i hi => by have := hS i hi; omega) hl (evC_len _)) ?_
  rintro _ ⟨v', st', nx', rfl, hn, hr, hs⟩
  repeat' (first | (simp -implicitDefEqProofs only [ze, zd, zr, simprocAttr, LR_pl, LR_hp, LR_hm, cunr_n, cunr_x, cunr_r, cunr_p, List.any_cons, List.any_nil, List.flatten_cons, List.flatten_nil, List.replicate_succ, List.replicate_zero, Bool.or_false, Bool.false_or, List.flatMap_cons, List.flatMap_nil]) | (with_reducible refine wgd_cases ?_ ?_ <;> intro hb) | (with_reducible refine wcond_cases ?_ ?_ <;> intro hb) | (with_reducible refine W_itn_cases ?_ ?_; omega))
  exact ⟨_, _, _, rfl, by omega, hr.mono (fun i hi => ⟨by omega, by omega⟩) (fun _ _ => rfl), fun i hi => hs i (by omega)⟩
end Go.Proofs.YthgmhlpjbednpaaDoor.Vm
set_option maxRecDepth 10000
set_option linter.unusedVariables false
set_option linter.unusedSimpArgs false
namespace Go.Proofs.YthgmhlpjbednpaaDoor.Vm
open Go Go.Proofs
def newE : List ByteArray → List ByteArray → Int
  | _, [] => 0
  | done, s :: r => if codeS s = false then 7 else if (done.any fun d => decide (s = d)) = true then 8 else newE (done ++ [s]) r
def newErr (c : Int) (p : Int × Int) (l : List ByteArray) : Int := if (spanS c p.1 p.2).2.2 ≠ 0 then (spanS c p.1 p.2).2.2 else if 200 < l.length then 9 else newE [] l
def sortS (l : List ByteArray) : List ByteArray := (sortB (l.map fun s => s.data.toList)).map fun b => ⟨b.toArray⟩
def newLk (c : Int) (p : Int × Int) (l : List ByteArray) : Lk := ⟨c, p, l.map fun s => (s, p), [], sortS l, []⟩
theorem spanS_err (c y n : Int) : (spanS c y n).2.2 = 0 ∨ (spanS c y n).2.2 = 2 ∨ (spanS c y n).2.2 = 16 := by
  unfold spanS
  split
  · exact .inr (.inl rfl)
  · split
    · exact .inr (.inr rfl)
    · split <;> exact .inl rfl
theorem aidx_pair {α : Type} (v : α) (s : ByteArray) (l : List ByteArray) : ((l.any fun d => decide (s = d)) = true → ∃ j, aidx (l.map fun d => (d, v)) s = some (j, v)) ∧ ((l.any fun d => decide (s = d)) = false → aidx (l.map fun d => (d, v)) s = none) := by
  induction l with
  | nil => exact ⟨fun h => by simp at h, fun _ => rfl⟩
  | cons d l ih =>
    simp only [List.any_cons, List.map_cons, aidx, Bool.or_eq_true, Bool.or_eq_false_iff, decide_eq_true_eq, decide_eq_false_iff_not]
    refine ⟨fun h => ?_, fun h => ?_⟩
    · by_cases hs : s = d
      · exact ⟨0, by rw [if_pos hs]⟩
      · rw [if_neg hs]
        rcases h with h | h
        · exact absurd h hs
        · obtain ⟨j, hj⟩ := ih.1 h
          exact ⟨j + 1, by rw [hj]; rfl⟩
    · rw [if_neg h.1, ih.2 h.2]; rfl
def NewR (c : Int) (p : Int × Int) (l : List ByteArray) (st : St) (nx : Nat) (r : HR) : Prop :=
  (newErr c p l ≠ 0 ∧ ∃ st' nx', r = .ret (.tup [.sc (.pointer none), .i64 (newErr c p l)]) st' nx' ∧ nx ≤ nx' ∧ ∀ i, i < nx → st' i = st i) ∨
  (newErr c p l = 0 ∧ ∃ k st' nx', r = .ret (.tup [.ptr k 0, .i64 0]) st' nx' ∧ nx ≤ nx' ∧ LK k (newLk c p l) (fun i => nx ≤ i ∧ i < nx') st' ∧ ∀ i, i < nx → st' i = st i)
theorem vbs_map (l : List ByteArray) : (l.map V.str).mapM vbs? = some (l.map fun s => s.data.toList) := by
  induction l with
  | nil => rfl
  | cons s l ih => simp only [List.map_cons, List.mapM_cons, ih, vbs?, Option.bind_eq_bind, Option.bind_some, Option.pure_def]
theorem sortS_len (l : List ByteArray) : (sortS l).length = l.length := by
  unfold sortS
  rw [List.length_map, (sortB_perm _).length_eq, List.length_map]
theorem sort_ok {S : Nat → Prop} {st : St} {nx : Nat} {l : List ByteArray} {v : V} (h : rowV S st 9 false 1 l.length (l.map V.str) v) (hl : l.length < 4611686018427387904) :
    W (L.hp 31 [v] st nx) (fun r => ∃ st', r = .ret (.tup []) st' nx ∧ rowV S st' 9 false 1 (sortS l).length ((sortS l).map V.str) v ∧ ∀ i, (∀ id, v = .sl 9 false 1 id 0 l.length → i ≠ id) → st' i = st i) := by
  rcases h with ⟨h0, h1, rfl⟩ | ⟨h0, id, h1, rfl, h3⟩
  · have hn : l = [] := List.eq_nil_of_length_eq_zero h0
    subst hn
    exact ⟨_, hp_ext (g := xsort) rfl rfl, st, rfl, .inl ⟨rfl, rfl, rfl⟩, fun i _ => rfl⟩
  · have hr : sortRow 0 l.length (l.map V.str) = some ((sortS l).map V.str) := by
      unfold sortRow
      rw [List.drop_zero, List.take_of_length_le (by simp), vbs_map, Option.bind_some, if_pos ⟨by simp, hl⟩]
      rw [Nat.zero_add, List.drop_eq_nil_of_le (by simp), List.append_nil, List.take_zero, List.nil_append]
      simp [sortS, vOfB, List.map_map, Function.comp_def]
    have hx : xsort [.sl 9 false 1 id 0 l.length] st nx = some (.ret (.tup []) (upd st id (some (.row 9 1 l.length ((sortS l).map V.str)))) nx) := by
      simp only [xsort, h3, hr, and_self, if_true, Option.map_some]
    refine ⟨_, hp_ext (g := xsort) rfl hx, _, rfl, .inr ⟨by rw [sortS_len]; exact h0, id, h1, by rw [sortS_len], ?_⟩, fun i hi => ?_⟩
    · simp [upd, sortS_len]
    · have : ¬ i = id := hi id rfl
      simp [upd, this]
theorem new_ok (c : Int) (p : Int × Int) (l : List ByteArray) (st : St) (nx : Nat) (hl : l.length < 4611686018427387904) :
    W (L.hp 10 [.agg [.i64 c], .agg [.i64 p.1, .i64 p.2], .list 9 (l.map V.str) 0] st nx) (NewR c p l st nx) := by
  refine hp_r k10_eq ?_
  simp only [k10]
  have hsp := span_ok c p.1 p.2
  have herr := spanS_err c p.1 p.2
  have hE : newErr c p l = if (spanS c p.1 p.2).2.2 ≠ 0 then (spanS c p.1 p.2).2.2 else if 200 < l.length then 9 else newE [] l := rfl
  unfold NewR
  rw [hE]
  generalize spanS c p.1 p.2 = s at hsp herr
  obtain ⟨s1, s2, s3⟩ := s
  simp only at herr
  have f1 : (nx = nx + 8) = False := eq_false (by omega)
  by_cases h0 : s3 = 0
  · subst h0
    rw [if_neg (by simp)]
    by_cases h2 : 200 < l.length
    · have g2 : decide ((200 : Int) < (l.length : Int)) = true := decide_eq_true (by omega)
      rw [if_pos h2]
      repeat' (first | (simp -implicitDefEqProofs only [ze, zd, zr, simprocAttr, LR_pl, LR_hp, LR_hm, cunr_n, cunr_x, cunr_r, cunr_p, List.any_cons, List.any_nil, List.flatten_cons, List.flatten_nil, List.replicate_succ, List.replicate_zero, Bool.or_false, Bool.false_or, List.flatMap_cons, List.flatMap_nil, hsp, f1, g2, List.length_map, ne_eq, not_true_eq_false, gt_iff_lt]) | (with_reducible refine wgd_cases ?_ ?_ <;> intro hb) | (with_reducible refine wcond_cases ?_ ?_ <;> intro hb) | (with_reducible refine W_itn_cases ?_ ?_; omega))
      refine .inl ⟨by decide, _, _, rfl, by omega, fun i hi => ?_⟩
      simp (disch := omega) only [upds, upd, List.foldl_cons, List.foldl_nil, if_neg]
    · have g2 : decide ((200 : Int) < (l.length : Int)) = false := decide_eq_false (by omega)
      rw [if_neg h2]
      repeat' (first | (simp -implicitDefEqProofs only [ze, zd, zr, simprocAttr, LR_pl, LR_hp, LR_hm, cunr_n, cunr_x, cunr_r, cunr_p, List.any_cons, List.any_nil, List.flatten_cons, List.flatten_nil, List.replicate_succ, List.replicate_zero, Bool.or_false, Bool.false_or, List.flatMap_cons, List.flatMap_nil, hsp, f1, g2, List.length_map, ne_eq, not_true_eq_false, gt_iff_lt]) | (with_reducible refine wgd_cases ?_ ?_ <;> intro hb) | (with_reducible refine wcond_cases ?_ ?_ <;> intro hb) | (with_reducible refine W_itn_cases ?_ ?_; omega))
      refine loop_w (fun n tm st' nx' => ∃ (i : Nat) (vn : V), n = l.length - i ∧ i ≤ l.length ∧ newE [] l = newE (l.take i) (l.drop i) ∧ tm 36 = .i64 i ∧ tm 35 = .i64 l.length ∧ tm 34 = .list 9 (l.map V.str) 0 ∧ tm 6 = .ptr (nx + 192) 0 ∧ tm 4 = .ptr (nx + 8) 0 ∧ st' (nx + 8) = some (.cells [.i64 p.1, .i64 p.2]) ∧ nx + 232 ≤ nx' ∧ (∀ j, j < nx → st' j = st j) ∧
        LKp (nx + 192) ⟨c, p, (l.take i).map fun s => (s, p), [], l.take i, []⟩ (fun j => nx ≤ j ∧ j < nx') st' (nx + 168) (nx + 176) vn (.list 0 [] 1)) _ ⟨0, .list 0 [] 1, rfl, by omega, rfl, ?_, ?_, ?_, ?_, ?_, ?_, by omega, fun j hj => ?_, ?_⟩ ?_
      · simp -implicitDefEqProofs only [ze, zd, simprocAttr]; try rfl
      · simp -implicitDefEqProofs only [ze, zd, simprocAttr]
      · simp -implicitDefEqProofs only [ze, zd, simprocAttr]
      · simp -implicitDefEqProofs only [ze, zd, simprocAttr]
      · simp -implicitDefEqProofs only [ze, zd, simprocAttr]
      · simp [upd]
      · simp (disch := omega) only [upds, upd, List.foldl_cons, List.foldl_nil, if_neg]
      · exact ⟨by simp [upd], by simp [upd, kmap], ⟨true, by simp [upd, kmap]⟩, .inl ⟨rfl, rfl, rfl⟩, .inl ⟨rfl, rfl, rfl⟩, ⟨by omega, by omega⟩, ⟨by omega, by omega⟩, ⟨by omega, by omega⟩, by omega⟩
      rintro n tm st1 nx1 ⟨i, vn, hn, hi, hne, h36, h35, h34, h6, h4, h8, hnx, hst, hq⟩
      simp only [k10_l0]
      by_cases hc : i < l.length
      · have hd : decide ((i : Int) < (l.length : Int)) = true := decide_eq_true (by omega)
        obtain ⟨s, hs⟩ := get_lt hc
        have hdr : l.drop i = s :: l.drop (i + 1) := by
          rw [List.drop_eq_getElem_cons hc]
          have : l[i] = s := by have := hs; rw [List.getElem?_eq_getElem hc] at this; exact Option.some.inj this
          rw [this]
        have htk : l.take (i + 1) = l.take i ++ [s] := by rw [List.take_add_one, hs]; rfl
        rw [hdr, newE] at hne
        cases hcs : codeS s with
        | false =>
          rw [hcs, if_pos rfl] at hne
          repeat' (first | (simp -implicitDefEqProofs only [ze, zd, zr, simprocAttr, LR_pl, LR_hp, LR_hm, cunr_n, cunr_x, cunr_r, cunr_p, List.any_cons, List.any_nil, List.flatten_cons, List.flatten_nil, List.replicate_succ, List.replicate_zero, Bool.or_false, Bool.false_or, List.flatMap_cons, List.flatMap_nil, hd, h36, h35, h34, h6, h4, hs, code_ok, hcs]) | (with_reducible refine wgd_cases ?_ ?_ <;> intro hb) | (with_reducible refine wcond_cases ?_ ?_ <;> intro hb) | (with_reducible refine W_itn_cases ?_ ?_; omega))
          rw [hne]
          refine .inl ⟨by decide, _, _, rfl, by omega, fun j hj => ?_⟩
          exact hst j hj
        | true =>
          rw [hcs, if_neg (by decide)] at hne
          have f1 : ∀ j, (nx + 168 = nx1 + j) = False := fun j => eq_false (by omega)
          have f2 : ∀ j, (nx + 176 = nx1 + j) = False := fun j => eq_false (by omega)
          have f3 : ∀ j, (nx + 192 = nx1 + j) = False := fun j => eq_false (by omega)
          have f4 : ∀ j, (nx + 8 = nx1 + j) = False := fun j => eq_false (by omega)
          have f5 : ∀ j, (nx = nx1 + j) = False := fun j => eq_false (by omega)
          have f6 : (nx = nx1) = False := eq_false (by omega)
          have f7 : ∀ j, (nx1 + j = nx) = False := fun j => eq_false (by omega)
          have f8 : ∀ j, (nx1 + j = nx + 8) = False := fun j => eq_false (by omega)
          have f9 : ∀ j, (nx1 + j = nx + 168) = False := fun j => eq_false (by omega)
          have f10 : ∀ j, (nx1 + j = nx + 176) = False := fun j => eq_false (by omega)
          have f11 : ∀ j, (nx1 + j = nx + 192) = False := fun j => eq_false (by omega)
          have hm := mfind_kmap encP s ((l.take i).map fun s => (s, p)) 0
          cases hdup : (l.take i).any fun d => decide (s = d) with
          | true =>
            rw [hdup, if_pos rfl] at hne
            obtain ⟨j0, hj0⟩ := (aidx_pair p s (l.take i)).1 hdup
            rw [hj0] at hm
            repeat' (first | (simp -implicitDefEqProofs only [ze, zd, zr, simprocAttr, LR_pl, LR_hp, LR_hm, cunr_n, cunr_x, cunr_r, cunr_p, List.any_cons, List.any_nil, List.flatten_cons, List.flatten_nil, List.replicate_succ, List.replicate_zero, Bool.or_false, Bool.false_or, List.flatMap_cons, List.flatMap_nil, hd, h36, h35, h34, h6, h4, h8, hs, code_ok, hcs, hq.hk, hq.ho, hm, Option.map_some, encP, f1, f2, f3, f4, f5, f6, f7, f8, f9, f10, f11, ne_eq, not_true_eq_false]) | (with_reducible refine wgd_cases ?_ ?_ <;> intro hb) | (with_reducible refine wcond_cases ?_ ?_ <;> intro hb) | (with_reducible refine W_itn_cases ?_ ?_; omega))
            rw [hne]
            refine .inl ⟨by decide, _, _, rfl, by omega, fun j hj => ?_⟩
            rw [← hst j hj]
            simp (disch := omega) only [upds, upd, List.foldl_cons, List.foldl_nil, if_neg]
          | false =>
            rw [hdup, if_neg (by decide), ← htk] at hne
            have hj0 := (aidx_pair p s (l.take i)).2 hdup
            rw [hj0] at hm
            repeat' (first | (simp -implicitDefEqProofs only [ze, zd, zr, simprocAttr, LR_pl, LR_hp, LR_hm, cunr_n, cunr_x, cunr_r, cunr_p, List.any_cons, List.any_nil, List.flatten_cons, List.flatten_nil, List.replicate_succ, List.replicate_zero, Bool.or_false, Bool.false_or, List.flatMap_cons, List.flatMap_nil, hd, h36, h35, h34, h6, h4, h8, hs, code_ok, hcs, hq.hk, hq.ho, hm, Option.map_none, encP, f1, f2, f3, f4, f5, f6, f7, f8, f9, f10, f11, ne_eq, not_true_eq_false]) | (with_reducible refine wgd_cases ?_ ?_ <;> intro hb) | (with_reducible refine wcond_cases ?_ ?_ <;> intro hb) | (with_reducible refine W_itn_cases ?_ ?_; omega))
            have es : kmap encP ((l.take i).map fun s => (s, p)) ++ [(.str s, .agg [.i64 p.1, .i64 p.2])] = kmap encP ((l.take (i + 1)).map fun s => (s, p)) := by rw [htk, List.map_append]; exact kmap_app encP _ s p
            have hlt : (l.take i).length = i := by rw [List.length_take]; omega
            have hlt2 : (l.take (i + 1)).length = i + 1 := by rw [List.length_take]; omega
            have f12 : (nx + 192 = nx + 168) = False := eq_false (by omega)
            have f13 : (nx + 8 = nx + 168) = False := eq_false (by omega)
            refine qd_i (by simp [recsOk, ordB, Rec.free, Rec.wr, disj, List.range, List.range.loop, f1, f2, f3, f4, f5, f6, f7, f8, f9, f10, f11]; try (repeat' (first | apply And.intro | decide | omega | (left; decide) | (right; omega)))) ?_
            rcases hq.hn with ⟨z0, z1, z2⟩ | ⟨z0, id, z1, z2, z3⟩
            · repeat' (first | (simp -implicitDefEqProofs only [ze, zd, zr, simprocAttr, LR_pl, LR_hp, LR_hm, cunr_n, cunr_x, cunr_r, cunr_p, List.any_cons, List.any_nil, List.flatten_cons, List.flatten_nil, List.replicate_succ, List.replicate_zero, Bool.or_false, Bool.false_or, List.flatMap_cons, List.flatMap_nil, es, z2, h36, h35, h34, h6, h4, h8, hq.hk, hq.ho, f1, f2, f3, f4, f5, f6, f7, f8, f9, f10, f11, f12, f13, ne_eq, not_true_eq_false]) | (with_reducible refine wgd_cases ?_ ?_ <;> intro hb) | (with_reducible refine wcond_cases ?_ ?_ <;> intro hb) | (with_reducible refine W_itn_cases ?_ ?_; omega))
              have hi0 : i = 0 := by have : (l.take i).length = 0 := z0; omega
              have hte : l.take i = [] := List.eq_nil_of_length_eq_zero z0
              refine ⟨l.length - (i + 1), by omega, i + 1, .sl 9 false 1 (nx1 + 272) 0 (l.take (i + 1)).length, rfl, by omega, hne, up64 (by omega), ?_, by omega, fun j hj => ?_, ?_⟩
              · first | (rw [if_neg (by omega)]; done) | (simp (disch := omega) only [if_neg]; done) | (simp (disch := omega) only [if_neg]; exact h8)
              · simp (disch := omega) only [if_neg]; exact hst j hj
              · obtain ⟨d, hda⟩ := hq.ha
                refine ⟨?_, ?_, ⟨d, ?_⟩, .inr ⟨(by show 0 < (l.take (i + 1)).length; omega), nx1 + 272, ⟨by omega, by omega⟩, rfl, ?_⟩, .inl ⟨rfl, rfl, rfl⟩, ⟨by omega, by omega⟩, ⟨by omega, by omega⟩, ⟨by omega, by omega⟩, by omega⟩
                · rw [hlt2]; simp [upd, hi0]
                · simp [upd, f1, f2, f3, f4, f5, f6, f7, f8, f9, f10, f11]
                · simp [upd, f1, f2, f3, f4, f5, f6, f7, f8, f9, f10, f11]; exact hda
                · rw [hlt2, htk]; simp [upd, f1, f2, f3, f4, f5, f6, f7, f8, f9, f10, f11, hi0, hte]
            · have hr := hq.row z3
              have i1 : ∀ j, (id = nx1 + j) = False := fun j => eq_false (by omega)
              have i2 : ∀ j, (nx1 + j = id) = False := fun j => eq_false (by omega)
              have i3 : (id = nx + 168) = False := eq_false hr.2.1
              have i4 : (id = nx + 176) = False := eq_false hr.2.2
              have i5 : (id = nx + 192) = False := eq_false hr.1
              have i6 : (nx + 192 = id) = False := eq_false (Ne.symm hr.1)
              have i7 : (nx + 8 = id) = False := eq_false fun e => by rw [e, z3] at h8; cases h8
              have i8 : (nx + 168 = id) = False := eq_false (Ne.symm hr.2.1)
              have i9 : (nx + 176 = id) = False := eq_false (Ne.symm hr.2.2)
              repeat' (first | (simp -implicitDefEqProofs only [ze, zd, zr, simprocAttr, LR_pl, LR_hp, LR_hm, cunr_n, cunr_x, cunr_r, cunr_p, List.any_cons, List.any_nil, List.flatten_cons, List.flatten_nil, List.replicate_succ, List.replicate_zero, Bool.or_false, Bool.false_or, List.flatMap_cons, List.flatMap_nil, es, z2, z3, h36, h35, h34, h6, h4, h8, hq.hk, hq.ho, f1, f2, f3, f4, f5, f6, f7, f8, f9, f10, f11, f12, f13, i1, i2, i3, i4, i5, i6, i7, i8, i9, ne_eq, not_true_eq_false]) | (with_reducible refine wgd_cases ?_ ?_ <;> intro hb) | (with_reducible refine wcond_cases ?_ ?_ <;> intro hb) | (with_reducible refine W_itn_cases ?_ ?_; omega))
              refine ⟨l.length - (i + 1), by omega, i + 1, .sl 9 false 1 (nx1 + 272) 0 (l.take (i + 1)).length, rfl, by omega, hne, up64 (by omega), ?_, by omega, fun j hj => ?_, ?_⟩
              · first | (rw [if_neg (by omega)]; done) | (simp (disch := omega) only [if_neg]; done) | (simp (disch := omega) only [if_neg]; exact h8)
              · simp (disch := omega) only [if_neg]; exact hst j hj
              · obtain ⟨d, hda⟩ := hq.ha
                refine ⟨?_, ?_, ⟨d, ?_⟩, .inr ⟨(by show 0 < (l.take (i + 1)).length; omega), nx1 + 272, ⟨by omega, by omega⟩, rfl, ?_⟩, .inl ⟨rfl, rfl, rfl⟩, ⟨by omega, by omega⟩, ⟨by omega, by omega⟩, ⟨by omega, by omega⟩, by omega⟩
                · rw [hlt2]; simp [upd, hlt]
                · simp [upd, i8, f1, f2, f3, f4, f5, f6, f7, f8, f9, f10, f11]
                · simp [upd, f1, f2, f3, f4, f5, f6, f7, f8, f9, f10, f11, i7, i8, i9]; exact hda
                · rw [hlt2, htk]; simp [upd, f1, f2, f3, f4, f5, f6, f7, f8, f9, f10, f11, hlt]
      · have hd : decide ((i : Int) < (l.length : Int)) = false := decide_eq_false (by omega)
        have hil : i = l.length := by omega
        repeat' (first | (simp -implicitDefEqProofs only [ze, zd, zr, simprocAttr, LR_pl, LR_hp, LR_hm, cunr_n, cunr_x, cunr_r, cunr_p, List.any_cons, List.any_nil, List.flatten_cons, List.flatten_nil, List.replicate_succ, List.replicate_zero, Bool.or_false, Bool.false_or, List.flatMap_cons, List.flatMap_nil, hd, h36, h35, h34, h6, h4, h8, hq.hk, k10_t0]) | (with_reducible refine wgd_cases ?_ ?_ <;> intro hb) | (with_reducible refine wcond_cases ?_ ?_ <;> intro hb) | (with_reducible refine W_itn_cases ?_ ?_; omega))
        have htl : l.take i = l := by rw [hil]; exact List.take_length
        have hdl : l.drop i = [] := by rw [hil]; exact List.drop_length
        rw [hdl, newE] at hne
        rw [htl] at hq
        refine W_hp (sort_ok (nx := nx1 + 48) hq.hn hl) ?_
        rintro _ ⟨st2, rfl, hr2, hs2⟩
        repeat' (first | (simp -implicitDefEqProofs only [ze, zd, zr, simprocAttr, LR_pl, LR_hp, LR_hm, cunr_n, cunr_x, cunr_r, cunr_p, List.any_cons, List.any_nil, List.flatten_cons, List.flatten_nil, List.replicate_succ, List.replicate_zero, Bool.or_false, Bool.false_or, List.flatMap_cons, List.flatMap_nil, h6]) | (with_reducible refine wgd_cases ?_ ?_ <;> intro hb) | (with_reducible refine wcond_cases ?_ ?_ <;> intro hb) | (with_reducible refine W_itn_cases ?_ ?_; omega))
        have sid : ∀ i, (∀ n cs, st1 i = some (.row 9 1 n cs) → False) → st2 i = st1 i := fun i hi => hs2 i fun id hv he => by
          subst he
          rcases hq.hn with ⟨_, _, z⟩ | ⟨_, id2, _, z, z3⟩
          · rw [hv] at z; cases z
          · rw [hv] at z; cases z; exact hi _ _ z3
        obtain ⟨d, hda⟩ := hq.ha
        refine .inr ⟨hne, nx + 192, st2, nx1 + 72, rfl, ?_, ⟨nx + 168, nx + 176, vn, .list 0 [] 1, ?_, ?_, ⟨d, ?_⟩, ?_, .inl ⟨rfl, rfl, rfl⟩, ⟨by omega, by omega⟩, ⟨by omega, by omega⟩, ⟨by omega, by omega⟩, by omega⟩, fun j hj => ?_⟩
        · omega
        · rw [sid _ (fun n cs q => by rw [hq.hk] at q; cases q)]; exact hq.hk
        · rw [sid _ (fun n cs q => by rw [hq.ho] at q; cases q)]; exact hq.ho
        · rw [sid _ (fun n cs q => by rw [hda] at q; cases q)]; exact hda
        · exact hr2.mono (fun i hi => ⟨hi.1, by omega⟩) (fun _ _ => rfl)
        · rw [← hst j hj]
          refine hs2 j fun id hv he => ?_
          subst he
          rcases hq.hn with ⟨_, _, z⟩ | ⟨_, id2, z1, z, z3⟩
          · rw [hv] at z; cases z
          · rw [hv] at z; cases z; omega
  · rw [if_pos h0]
    have g0 : decide (s3 = 0) = false := decide_eq_false h0
    repeat' (first | (simp -implicitDefEqProofs only [ze, zd, zr, simprocAttr, LR_pl, LR_hp, LR_hm, cunr_n, cunr_x, cunr_r, cunr_p, List.any_cons, List.any_nil, List.flatten_cons, List.flatten_nil, List.replicate_succ, List.replicate_zero, Bool.or_false, Bool.false_or, List.flatMap_cons, List.flatMap_nil, hsp, f1, g0, ne_eq, not_true_eq_false]) | (with_reducible refine wgd_cases ?_ ?_ <;> intro hb) | (with_reducible refine wcond_cases ?_ ?_ <;> intro hb) | (with_reducible refine W_itn_cases ?_ ?_; omega))
    refine .inl ⟨h0, _, _, rfl, by omega, fun i hi => ?_⟩
    simp (disch := omega) only [upds, upd, List.foldl_cons, List.foldl_nil, if_neg]
end Go.Proofs.YthgmhlpjbednpaaDoor.Vm
set_option maxRecDepth 10000
set_option linter.unusedVariables false
set_option linter.unusedSimpArgs false
namespace Go.Proofs.YthgmhlpjbednpaaDoor.Vm
open Go Go.Proofs
def actK (a : Lk) (o : Op) : Lk × Int := if o.act % 3 = 0 then closeK a o.ent o.usr else if o.act % 3 = 1 then askK a o.ent o.usr else reopenK a o.ent o.usr
theorem act_ok {k : Nat} {a : Lk} {S : Nat → Prop} {st : St} {nx : Nat} (h : LK k a S st) (hS : ∀ i, S i → i < nx) (hl : a.ev.length ≤ 1000000) (o : Op) (ho : 0 ≤ o.act) :
    W (L.hp 13 [.ptr k 0, encOp o] st nx) (Does S st nx (.i64 (actK a o).2) (LK k (actK a o).1)) := by
  refine hp_r k13_eq ?_
  simp only [k13, encOp]
  have hm : o.act.tmod 3 = o.act % 3 := Int.tmod_eq_emod_of_nonneg ho
  have h2 : LK k a S (upd st nx (some (.cells [.sc (.int .u8 o.act), .str o.ent, .str o.usr]))) := by
    refine h.mono (S' := S) (fun _ h => h) fun i hi => ?_
    have := hS i hi
    have h9 : ¬ i = nx := by omega
    simp [upd, h9]
  have fin : ∀ {st' : St} {nx2 : Nat} {v : V} {b : Lk} {r : HR}, nx ≤ nx2 → Does S (upd st nx (some (.cells [.sc (.int .u8 o.act), .str o.ent, .str o.usr]))) nx2 v (LK k b) r → ∃ st' nx', r = .ret v st' nx' ∧ nx ≤ nx' ∧ LK k b (grown S nx nx') st' ∧ KeepS S nx st st' := by
    rintro st' nx2 v b r hn ⟨st3, nx3, rfl, h3, h4, h5⟩
    refine ⟨st3, nx3, rfl, by omega, h4.mono (fun i hi => hi.imp id fun q => ⟨by omega, q.2⟩) (fun _ _ => rfl), fun i hi hs => ?_⟩
    rw [h5 i (by omega) hs]
    have : ¬ i = nx := by omega
    simp [upd, this]
  by_cases c0 : o.act % 3 = 0
  · have g0 : decide (o.act % 3 = 0) = true := decide_eq_true c0
    have ea : actK a o = closeK a o.ent o.usr := by unfold actK; rw [if_pos c0]
    rw [ea]
    repeat' (first | (simp -implicitDefEqProofs only [ze, zd, zr, simprocAttr, LR_pl, LR_hp, LR_hm, cunr_n, cunr_x, cunr_r, cunr_p, List.any_cons, List.any_nil, List.flatten_cons, List.flatten_nil, List.replicate_succ, List.replicate_zero, Bool.or_false, Bool.false_or, List.flatMap_cons, List.flatMap_nil, hm, g0]) | (with_reducible refine wgd_cases ?_ ?_ <;> intro hb) | (with_reducible refine wcond_cases ?_ ?_ <;> intro hb) | (with_reducible refine W_itn_cases ?_ ?_; omega))
    refine W_hp (close_ok h2 (fun i hi => by have := hS i hi; omega) hl o.ent o.usr) ?_
    intro r hr
    obtain ⟨st3, nx3, rfl, h3, h4, h5⟩ := fin (st' := st) (by omega) hr
    repeat' (first | (simp -implicitDefEqProofs only [ze, zd, zr, simprocAttr, LR_pl, LR_hp, LR_hm, cunr_n, cunr_x, cunr_r, cunr_p, List.any_cons, List.any_nil, List.flatten_cons, List.flatten_nil, List.replicate_succ, List.replicate_zero, Bool.or_false, Bool.false_or, List.flatMap_cons, List.flatMap_nil]) | (with_reducible refine wgd_cases ?_ ?_ <;> intro hb) | (with_reducible refine wcond_cases ?_ ?_ <;> intro hb) | (with_reducible refine W_itn_cases ?_ ?_; omega))
    exact ⟨_, _, rfl, by omega, h4.mono (fun i hi => hi.imp id fun q => ⟨q.1, by omega⟩) (fun _ _ => rfl), h5⟩
  · have g0 : decide (o.act % 3 = 0) = false := decide_eq_false c0
    by_cases c1 : o.act % 3 = 1
    · have g1 : decide (o.act % 3 = 1) = true := decide_eq_true c1
      have ea : actK a o = askK a o.ent o.usr := by unfold actK; rw [if_neg c0, if_pos c1]
      rw [ea]
      repeat' (first | (simp -implicitDefEqProofs only [ze, zd, zr, simprocAttr, LR_pl, LR_hp, LR_hm, cunr_n, cunr_x, cunr_r, cunr_p, List.any_cons, List.any_nil, List.flatten_cons, List.flatten_nil, List.replicate_succ, List.replicate_zero, Bool.or_false, Bool.false_or, List.flatMap_cons, List.flatMap_nil, hm, g0, g1]) | (with_reducible refine wgd_cases ?_ ?_ <;> intro hb) | (with_reducible refine wcond_cases ?_ ?_ <;> intro hb) | (with_reducible refine W_itn_cases ?_ ?_; omega))
      refine W_hp (ask_ok h2 (fun i hi => by have := hS i hi; omega) hl o.ent o.usr) ?_
      intro r hr
      obtain ⟨st3, nx3, rfl, h3, h4, h5⟩ := fin (st' := st) (by omega) hr
      repeat' (first | (simp -implicitDefEqProofs only [ze, zd, zr, simprocAttr, LR_pl, LR_hp, LR_hm, cunr_n, cunr_x, cunr_r, cunr_p, List.any_cons, List.any_nil, List.flatten_cons, List.flatten_nil, List.replicate_succ, List.replicate_zero, Bool.or_false, Bool.false_or, List.flatMap_cons, List.flatMap_nil]) | (with_reducible refine wgd_cases ?_ ?_ <;> intro hb) | (with_reducible refine wcond_cases ?_ ?_ <;> intro hb) | (with_reducible refine W_itn_cases ?_ ?_; omega))
      exact ⟨_, _, rfl, by omega, h4.mono (fun i hi => hi.imp id fun q => ⟨q.1, by omega⟩) (fun _ _ => rfl), h5⟩
    · have g1 : decide (o.act % 3 = 1) = false := decide_eq_false c1
      have ea : actK a o = reopenK a o.ent o.usr := by unfold actK; rw [if_neg c0, if_neg c1]
      rw [ea]
      repeat' (first | (simp -implicitDefEqProofs only [ze, zd, zr, simprocAttr, LR_pl, LR_hp, LR_hm, cunr_n, cunr_x, cunr_r, cunr_p, List.any_cons, List.any_nil, List.flatten_cons, List.flatten_nil, List.replicate_succ, List.replicate_zero, Bool.or_false, Bool.false_or, List.flatMap_cons, List.flatMap_nil, hm, g0, g1]) | (with_reducible refine wgd_cases ?_ ?_ <;> intro hb) | (with_reducible refine wcond_cases ?_ ?_ <;> intro hb) | (with_reducible refine W_itn_cases ?_ ?_; omega))
      refine W_hp (reopen_ok h2 (fun i hi => by have := hS i hi; omega) hl o.ent o.usr) ?_
      intro r hr
      obtain ⟨st3, nx3, rfl, h3, h4, h5⟩ := fin (st' := st) (by omega) hr
      repeat' (first | (simp -implicitDefEqProofs only [ze, zd, zr, simprocAttr, LR_pl, LR_hp, LR_hm, cunr_n, cunr_x, cunr_r, cunr_p, List.any_cons, List.any_nil, List.flatten_cons, List.flatten_nil, List.replicate_succ, List.replicate_zero, Bool.or_false, Bool.false_or, List.flatMap_cons, List.flatMap_nil]) | (with_reducible refine wgd_cases ?_ ?_ <;> intro hb) | (with_reducible refine wcond_cases ?_ ?_ <;> intro hb) | (with_reducible refine W_itn_cases ?_ ?_; omega))
      exact ⟨_, _, rfl, by omega, h4.mono (fun i hi => hi.imp id fun q => ⟨q.1, by omega⟩) (fun _ _ => rfl), h5⟩
theorem klarge_ok (l1 l2 : List V) (e1 e2 r1 r2 : Nat) : L.pl 9 [.list e1 l1 r1, .list e2 l2 r2] = some (.ret (.bool (decide (210 < l1.length) || decide (40 < l2.length)))) := by
  refine W_of (pl_w k9_eq ?_)
  simp only [k9]
  repeat' (first | (simp -implicitDefEqProofs only [ze, zd, simprocAttr, gt_iff_lt]) | (with_reducible refine wgd_cases ?_ ?_ <;> intro hb) | (with_reducible refine wcond_cases ?_ ?_ <;> intro hb) | (with_reducible refine qd_i (by kernel_rfl) ?_) | (with_reducible refine W_itn_cases ?_ ?_; omega))
  all_goals (refine ret_b (Bool.eq_iff_iff.mpr ?_); simp_all; try omega)
end Go.Proofs.YthgmhlpjbednpaaDoor.Vm
set_option maxRecDepth 10000
set_option linter.unusedVariables false
set_option linter.unusedSimpArgs false
namespace Go.Proofs.YthgmhlpjbednpaaDoor.Vm
open Go Go.Proofs
def perC (p : Int × Int) : List V := [.i64 p.1, .i64 p.2]
structure RLk where
  c : Int
  s : Int × Int
  nm : List ByteArray
  fs : List (Int × Int)
  ak : List ByteArray
  ev : List Ev
def rRows (S : Nat → Prop) (st : St) (a : RLk) (vn vf va : V) : Prop :=
  (a.nm = [] ∧ vn = .list 0 [] 1 ∧ vf = .list 0 [] 1 ∧ va = .list 0 [] 1) ∨
  (0 < a.nm.length ∧ ∃ n f g, S n ∧ S f ∧ S g ∧ n ≠ g ∧ vn = .sl 9 false 1 n 0 a.nm.length ∧ vf = .sl 25 true 2 f 0 a.nm.length ∧ va = .sl 9 false 1 g 0 a.nm.length ∧
    st n = some (.row 9 1 a.nm.length (a.nm.map V.str)) ∧ st f = some (.row 25 2 a.nm.length (a.fs.flatMap perC)) ∧ st g = some (.row 9 1 a.nm.length (a.ak.map V.str)))
structure RLKp (k : Nat) (a : RLk) (S : Nat → Prop) (st : St) (vn vf va ve : V) : Prop where
  hk : st k = some (.cells [.i64 a.c, .i64 a.s.1, .i64 a.s.2, vn, vf, va, ve])
  rows : rRows S st a vn vf va
  he : rowV S st 50 true 5 a.ev.length (a.ev.flatMap evC) ve
  sk : S k
  lf : a.fs.length = a.nm.length
  la : a.ak.length = a.nm.length
def RLK (k : Nat) (a : RLk) (S : Nat → Prop) (st : St) : Prop := ∃ vn vf va ve, RLKp k a S st vn vf va ve
theorem rRows.mono {S S' : Nat → Prop} {st st' : St} {a : RLk} {vn vf va : V} (h : rRows S st a vn vf va) (hS : ∀ i, S i → S' i) (hs : ∀ i, S i → st' i = st i) : rRows S' st' a vn vf va := by
  rcases h with h | ⟨h0, n, f, g, s1, s2, s3, h1, h2, h3, h4, h5, h6, h7⟩
  · exact .inl h
  · exact .inr ⟨h0, n, f, g, hS _ s1, hS _ s2, hS _ s3, h1, h2, h3, h4, by rw [hs _ s1]; exact h5, by rw [hs _ s2]; exact h6, by rw [hs _ s3]; exact h7⟩
theorem RLK.mono {k : Nat} {a : RLk} {S S' : Nat → Prop} {st st' : St} (h : RLK k a S st) (hS : ∀ i, S i → S' i) (hs : ∀ i, S i → st' i = st i) : RLK k a S' st' := by
  obtain ⟨vn, vf, va, ve, h⟩ := h
  exact ⟨vn, vf, va, ve, by rw [hs _ h.sk]; exact h.hk, h.rows.mono hS hs, h.he.mono hS hs, hS _ h.sk, h.lf, h.la⟩
def idxR : List ByteArray → ByteArray → Option Nat
  | [], _ => none
  | s :: l, e => if s = e then some 0 else (idxR l e).map (· + 1)
def atZ (l : List ByteArray) (e : ByteArray) : Int := match idxR l e with
  | some i => i
  | none => -1
theorem idxR_none {l : List ByteArray} {e : ByteArray} (h : ∀ (j : Nat) (s : ByteArray), l[j]? = some s → s ≠ e) : idxR l e = none := by
  induction l with
  | nil => rfl
  | cons s l ih =>
    rw [idxR, if_neg (h 0 s rfl), ih (fun j t ht => h (j + 1) t (by simpa using ht))]; rfl
theorem idxR_some {l : List ByteArray} {e : ByteArray} {i : Nat} (hi : l[i]? = some e) (h : ∀ (j : Nat) (s : ByteArray), j < i → l[j]? = some s → s ≠ e) : idxR l e = some i := by
  induction l generalizing i with
  | nil => simp at hi
  | cons s l ih =>
    cases i with
    | zero => simp at hi; rw [idxR, if_pos hi]
    | succ i =>
      rw [idxR, if_neg (h 0 s (by omega) rfl), ih (by simpa using hi) (fun j t hj ht => h (j + 1) t (by omega) (by simpa using ht))]; rfl
theorem idxR_get {l : List ByteArray} {e : ByteArray} {i : Nat} (h : idxR l e = some i) : l[i]? = some e := by
  induction l generalizing i with
  | nil => simp [idxR] at h
  | cons s l ih =>
    rw [idxR] at h
    split at h
    · rename_i hs; simp at h; subst h; subst hs; rfl
    · rw [Option.map_eq_some_iff] at h
      obtain ⟨j, hj, rfl⟩ := h
      simpa using ih hj
theorem rat_ok {k : Nat} {a : RLk} {S : Nat → Prop} {st : St} {nx : Nat} (h : RLK k a S st) (hl : a.nm.length ≤ 1000000) (e : ByteArray) : W (L.hp 35 [.ptr k 0, .str e] st nx) (Still st nx (.i64 (atZ a.nm e))) := by
  obtain ⟨vn, vf, va, ve, h⟩ := h
  refine hp_r k35_eq ?_
  simp only [k35]
  repeat' (first | (simp -implicitDefEqProofs only [ze, zd, zr, simprocAttr, LR_pl, LR_hp, LR_hm, cunr_n, cunr_x, cunr_r, cunr_p, List.any_cons, List.any_nil, List.flatten_cons, List.flatten_nil, List.replicate_succ, List.replicate_zero, Bool.or_false, Bool.false_or, List.flatMap_cons, List.flatMap_nil]) | (with_reducible refine wgd_cases ?_ ?_ <;> intro hb) | (with_reducible refine wcond_cases ?_ ?_ <;> intro hb) | (with_reducible refine W_itn_cases ?_ ?_; omega))
  refine loop_w (fun n tm st' nx' => ∃ i : Nat, n = a.nm.length - i ∧ i ≤ a.nm.length ∧ tm 5 = .i64 i ∧ tm 0 = .ptr k 0 ∧ tm 1 = .str e ∧ st' = st ∧ nx ≤ nx' ∧ ∀ (j : Nat) (s : ByteArray), j < i → a.nm[j]? = some s → s ≠ e) _ ⟨0, rfl, by omega, ?_, ?_, ?_, rfl, by omega, fun j s hj => by omega⟩ ?_
  · simp -implicitDefEqProofs only [ze, zd, simprocAttr]; try rfl
  · simp -implicitDefEqProofs only [ze, zd, simprocAttr]
  · simp -implicitDefEqProofs only [ze, zd, simprocAttr]
  rintro n tm st' nx' ⟨i, hn, hi, h5, h0, h1, rfl, hnx, hno⟩
  simp only [k35_l0]
  rcases h.rows with ⟨z0, rfl, rfl, rfl⟩ | ⟨z0, nn, f, g, s1, s2, s3, q1, rfl, rfl, rfl, q5, q6, q7⟩
  · have hi0 : i = 0 := by rw [z0] at hi; simpa using hi
    subst hi0
    have ez : atZ a.nm e = -1 := by rw [z0]; rfl
    rw [ez]
    repeat' (first | (simp -implicitDefEqProofs only [ze, zd, zr, simprocAttr, LR_pl, LR_hp, LR_hm, cunr_n, cunr_x, cunr_r, cunr_p, List.any_cons, List.any_nil, List.flatten_cons, List.flatten_nil, List.replicate_succ, List.replicate_zero, Bool.or_false, Bool.false_or, List.flatMap_cons, List.flatMap_nil, h5, h0, h1, h.hk, k35_t0]) | (with_reducible refine wgd_cases ?_ ?_ <;> intro hb) | (with_reducible refine wcond_cases ?_ ?_ <;> intro hb) | (with_reducible refine W_itn_cases ?_ ?_; omega))
    exact ⟨_, _, rfl, by omega, fun i hi => rfl⟩
  · by_cases hc : i < a.nm.length
    · have hd : decide ((i : Int) < (a.nm.length : Int)) = true := decide_eq_true (by omega)
      obtain ⟨s, hs⟩ := get_lt hc
      have hs2 : (a.nm.map V.str)[i]? = some (.str s) := by rw [List.getElem?_map, hs]; rfl
      by_cases hse : s = e
      · have ge : decide (s = e) = true := decide_eq_true hse
        have ez : atZ a.nm e = i := by unfold atZ; rw [idxR_some (by rw [hs, hse]) hno]
        rw [ez]
        repeat' (first | (simp -implicitDefEqProofs only [ze, zd, zr, simprocAttr, LR_pl, LR_hp, LR_hm, cunr_n, cunr_x, cunr_r, cunr_p, List.any_cons, List.any_nil, List.flatten_cons, List.flatten_nil, List.replicate_succ, List.replicate_zero, Bool.or_false, Bool.false_or, List.flatMap_cons, List.flatMap_nil, h5, h0, h1, h.hk, q5, hd, hs, hs2, ge, Nat.mul_one, Nat.zero_add]) | (with_reducible refine wgd_cases ?_ ?_ <;> intro hb) | (with_reducible refine wcond_cases ?_ ?_ <;> intro hb) | (with_reducible refine W_itn_cases ?_ ?_; omega))
        exact ⟨_, _, rfl, by omega, fun i hi => rfl⟩
      · have ge : decide (s = e) = false := decide_eq_false hse
        repeat' (first | (simp -implicitDefEqProofs only [ze, zd, zr, simprocAttr, LR_pl, LR_hp, LR_hm, cunr_n, cunr_x, cunr_r, cunr_p, List.any_cons, List.any_nil, List.flatten_cons, List.flatten_nil, List.replicate_succ, List.replicate_zero, Bool.or_false, Bool.false_or, List.flatMap_cons, List.flatMap_nil, h5, h0, h1, h.hk, q5, hd, hs, hs2, ge, Nat.mul_one, Nat.zero_add]) | (with_reducible refine wgd_cases ?_ ?_ <;> intro hb) | (with_reducible refine wcond_cases ?_ ?_ <;> intro hb) | (with_reducible refine W_itn_cases ?_ ?_; omega))
        refine ⟨a.nm.length - (i + 1), by omega, i + 1, rfl, by omega, up64 (by omega), by omega, fun j t hj ht => ?_⟩
        by_cases hji : j = i
        · subst hji; rw [hs] at ht; obtain rfl := Option.some.inj ht; exact hse
        · exact hno j t (by omega) ht
    · have hd : decide ((i : Int) < (a.nm.length : Int)) = false := decide_eq_false (by omega)
      have ez : atZ a.nm e = -1 := by
        unfold atZ
        rw [idxR_none (fun j s hj => hno j s (by have := (List.getElem?_eq_some_iff.1 hj).1; omega) hj)]
      rw [ez]
      repeat' (first | (simp -implicitDefEqProofs only [ze, zd, zr, simprocAttr, LR_pl, LR_hp, LR_hm, cunr_n, cunr_x, cunr_r, cunr_p, List.any_cons, List.any_nil, List.flatten_cons, List.flatten_nil, List.replicate_succ, List.replicate_zero, Bool.or_false, Bool.false_or, List.flatMap_cons, List.flatMap_nil, h5, h0, h1, h.hk, hd, k35_t0]) | (with_reducible refine wgd_cases ?_ ?_ <;> intro hb) | (with_reducible refine wcond_cases ?_ ?_ <;> intro hb) | (with_reducible refine W_itn_cases ?_ ?_; omega))
      exact ⟨_, _, rfl, by omega, fun i hi => rfl⟩
theorem atZ_none {l : List ByteArray} {e : ByteArray} (h : idxR l e = none) : atZ l e = -1 := by unfold atZ; rw [h]
theorem atZ_some {l : List ByteArray} {e : ByteArray} {i : Nat} (h : idxR l e = some i) : atZ l e = i := by unfold atZ; rw [h]
def whoR (a : RLk) (e u : ByteArray) : Int := if idxR a.nm e = none then 1 else if codeS u = false then 7 else 0
theorem rwho_ok {k : Nat} {a : RLk} {S : Nat → Prop} {st : St} {nx : Nat} (h : RLK k a S st) (hS : ∀ i, S i → i < nx) (hl : a.nm.length ≤ 1000000) (e u : ByteArray) (hu : u.size < 4611686018427387904) :
    W (L.hp 66 [.ptr k 0, .str e, .str u] st nx) (Still st nx (.i64 (whoR a e u))) := by
  refine hp_r k66_eq ?_
  simp only [k66]
  repeat' (first | (simp -implicitDefEqProofs only [ze, zd, zr, simprocAttr, LR_pl, LR_hp, LR_hm, cunr_n, cunr_x, cunr_r, cunr_p, List.any_cons, List.any_nil, List.flatten_cons, List.flatten_nil, List.replicate_succ, List.replicate_zero, Bool.or_false, Bool.false_or, List.flatMap_cons, List.flatMap_nil]) | (with_reducible refine wgd_cases ?_ ?_ <;> intro hb) | (with_reducible refine wcond_cases ?_ ?_ <;> intro hb) | (with_reducible refine W_itn_cases ?_ ?_; omega))
  refine W_hp (rat_ok h hl e) ?_
  rintro _ ⟨st1, nx1, rfl, h1, k1⟩
  have hc := rcode_ok u hu
  unfold whoR
  cases hi : idxR a.nm e with
  | none =>
    rw [if_pos rfl, atZ_none hi]
    repeat' (first | (simp -implicitDefEqProofs only [ze, zd, zr, simprocAttr, LR_pl, LR_hp, LR_hm, cunr_n, cunr_x, cunr_r, cunr_p, List.any_cons, List.any_nil, List.flatten_cons, List.flatten_nil, List.replicate_succ, List.replicate_zero, Bool.or_false, Bool.false_or, List.flatMap_cons, List.flatMap_nil]) | (with_reducible refine wgd_cases ?_ ?_ <;> intro hb) | (with_reducible refine wcond_cases ?_ ?_ <;> intro hb) | (with_reducible refine W_itn_cases ?_ ?_; omega))
    exact ⟨_, _, rfl, by omega, fun i hi => k1 i (by omega)⟩
  | some i =>
    rw [if_neg (by simp), atZ_some hi]
    have g0 : decide ((i : Int) < 0) = false := decide_eq_false (by omega)
    cases hu2 : codeS u with
    | true =>
      rw [hu2] at hc
      rw [if_neg (by simp)]
      repeat' (first | (simp -implicitDefEqProofs only [ze, zd, zr, simprocAttr, LR_pl, LR_hp, LR_hm, cunr_n, cunr_x, cunr_r, cunr_p, List.any_cons, List.any_nil, List.flatten_cons, List.flatten_nil, List.replicate_succ, List.replicate_zero, Bool.or_false, Bool.false_or, List.flatMap_cons, List.flatMap_nil, g0, hc]) | (with_reducible refine wgd_cases ?_ ?_ <;> intro hb) | (with_reducible refine wcond_cases ?_ ?_ <;> intro hb) | (with_reducible refine W_itn_cases ?_ ?_; omega))
      exact ⟨_, _, rfl, by omega, fun i hi => k1 i (by omega)⟩
    | false =>
      rw [hu2] at hc
      rw [if_pos rfl]
      repeat' (first | (simp -implicitDefEqProofs only [ze, zd, zr, simprocAttr, LR_pl, LR_hp, LR_hm, cunr_n, cunr_x, cunr_r, cunr_p, List.any_cons, List.any_nil, List.flatten_cons, List.flatten_nil, List.replicate_succ, List.replicate_zero, Bool.or_false, Bool.false_or, List.flatMap_cons, List.flatMap_nil, g0, hc]) | (with_reducible refine wgd_cases ?_ ?_ <;> intro hb) | (with_reducible refine wcond_cases ?_ ?_ <;> intro hb) | (with_reducible refine W_itn_cases ?_ ?_; omega))
      exact ⟨_, _, rfl, by omega, fun i hi => k1 i (by omega)⟩
theorem perC_two {l : List (Int × Int)} {j : Nat} {p : Int × Int} (h : l[j]? = some p) : ((l.flatMap perC).drop (j * 2)).take 2 = [.i64 p.1, .i64 p.2] := by
  induction l generalizing j with
  | nil => simp at h
  | cons q l ih =>
    rw [List.flatMap_cons]
    cases j with
    | zero => simp at h; subst h; rfl
    | succ j =>
      have e : (j + 1) * 2 = 2 + j * 2 := by omega
      have hq : (perC q).length = 2 := rfl
      rw [e, ← List.drop_drop, List.drop_append_of_le_length (by rw [hq]; omega)]
      have : (perC q).drop 2 = [] := rfl
      rw [this, List.nil_append]
      exact ih (by simpa using h)
theorem perC_len (l : List (Int × Int)) : (l.flatMap perC).length = l.length * 2 := by
  induction l with
  | nil => rfl
  | cons x l ih => rw [List.flatMap_cons, List.length_append, ih, List.length_cons, Nat.succ_mul]; simp [perC]; omega
def firstR (a : RLk) (e : ByteArray) : (Int × Int) × Int := match idxR a.nm e with
  | some i => (a.fs.getD i (0, 0), 0)
  | none => ((0, 0), 1)
theorem fs_get {a : RLk} {e : ByteArray} {i : Nat} (lf : a.fs.length = a.nm.length) (hi : idxR a.nm e = some i) : i < a.nm.length ∧ a.fs[i]? = some (a.fs.getD i (0, 0)) := by
  have h1 := (List.getElem?_eq_some_iff.1 (idxR_get hi)).1
  refine ⟨h1, ?_⟩
  rw [List.getD_eq_getElem?_getD, List.getElem?_eq_getElem (by omega)]; rfl
theorem rfirst2_ok {k : Nat} {a : RLk} {S : Nat → Prop} {st : St} {nx : Nat} (h : RLK k a S st) (hS : ∀ i, S i → i < nx) (hl : a.nm.length ≤ 1000000) (e : ByteArray) :
    W (L.hp 39 [.ptr k 0, .str e] st nx) (Still st nx (encPE (firstR a e))) := by
  refine hp_r k39_eq ?_
  simp only [k39]
  repeat' (first | (simp -implicitDefEqProofs only [ze, zd, zr, simprocAttr, LR_pl, LR_hp, LR_hm, cunr_n, cunr_x, cunr_r, cunr_p, List.any_cons, List.any_nil, List.flatten_cons, List.flatten_nil, List.replicate_succ, List.replicate_zero, Bool.or_false, Bool.false_or, List.flatMap_cons, List.flatMap_nil]) | (with_reducible refine wgd_cases ?_ ?_ <;> intro hb) | (with_reducible refine wcond_cases ?_ ?_ <;> intro hb) | (with_reducible refine W_itn_cases ?_ ?_; omega))
  refine W_hp (rat_ok (h.mono (S' := S) (fun _ h => h) (fun i hi => ?_)) hl e) ?_
  · have := hS i hi
    simp (disch := omega) only [upds, upd, List.foldl_cons, List.foldl_nil, if_neg]
  rintro _ ⟨st1, nx1, rfl, h1, k1⟩
  have e1 : st1 nx = some (.cells [.i64 0, .i64 0]) := by rw [k1 nx (by omega)]; simp [upds, upd]
  have hq := h.mono (S' := S) (st' := st1) (fun _ h => h) (fun i hi => by
    have := hS i hi
    rw [k1 i (by omega)]
    simp (disch := omega) only [upds, upd, List.foldl_cons, List.foldl_nil, if_neg])
  obtain ⟨vn, vf, va, ve, hq⟩ := hq
  have hk := hS _ hq.sk
  have fin : ∀ (st2 : St) (nx2 : Nat) (v : V), nx1 ≤ nx2 → (∀ i, i < nx → st2 i = st1 i) → Still st nx v (.ret v st2 nx2) := fun st2 nx2 v hn hs => .of (by omega) fun i hi => by
    rw [hs i hi, k1 i (by omega)]
    simp (disch := omega) only [upds, upd, List.foldl_cons, List.foldl_nil, if_neg]
  have f1 : (k = nx) = False := eq_false (by omega)
  unfold firstR
  cases hi : idxR a.nm e with
  | none =>
    rw [atZ_none hi]
    repeat' (first | (simp -implicitDefEqProofs only [ze, zd, zr, simprocAttr, LR_pl, LR_hp, LR_hm, cunr_n, cunr_x, cunr_r, cunr_p, List.any_cons, List.any_nil, List.flatten_cons, List.flatten_nil, List.replicate_succ, List.replicate_zero, Bool.or_false, Bool.false_or, List.flatMap_cons, List.flatMap_nil, e1, encPE, ne_eq, not_true_eq_false]) | (with_reducible refine wgd_cases ?_ ?_ <;> intro hb) | (with_reducible refine wcond_cases ?_ ?_ <;> intro hb) | (with_reducible refine W_itn_cases ?_ ?_; omega))
    refine fin _ _ _ ?_ fun i hi => ?_
    · omega
    simp (disch := omega) only [upds, upd, List.foldl_cons, List.foldl_nil, if_neg]
  | some i =>
    rw [atZ_some hi]
    obtain ⟨hil, hg⟩ := fs_get hq.lf hi
    have g0 : decide ((i : Int) < 0) = false := decide_eq_false (by omega)
    rcases hq.rows with ⟨z0, _⟩ | ⟨z0, nn, f, g, s1, s2, s3, q1, rfl, rfl, rfl, q5, q6, q7⟩
    · rw [z0] at hil; simp at hil
    · have hf := hS _ s2
      have f2 : (f = nx) = False := eq_false (by omega)
      have x2 := perC_two hg
      have lx : i * 2 + 2 ≤ (a.fs.flatMap perC).length := by rw [perC_len, hq.lf]; omega
      have hii : (0 : Int) ≤ i ∧ (i : Int) < a.nm.length := ⟨by omega, by omega⟩
      repeat' (first | (simp -implicitDefEqProofs only [ze, zd, zr, simprocAttr, LR_pl, LR_hp, LR_hm, cunr_n, cunr_x, cunr_r, cunr_p, List.any_cons, List.any_nil, List.flatten_cons, List.flatten_nil, List.replicate_succ, List.replicate_zero, Bool.or_false, Bool.false_or, List.flatMap_cons, List.flatMap_nil, e1, hq.hk, q6, f1, f2, g0, x2, lx, hii, encPE, Nat.zero_add, ne_eq, not_true_eq_false]) | (with_reducible refine wgd_cases ?_ ?_ <;> intro hb) | (with_reducible refine wcond_cases ?_ ?_ <;> intro hb) | (with_reducible refine W_itn_cases ?_ ?_; omega))
      refine fin _ _ _ ?_ fun i hi => ?_
      · omega
      simp (disch := omega) only [upds, upd, List.foldl_cons, List.foldl_nil, if_neg]
end Go.Proofs.YthgmhlpjbednpaaDoor.Vm
set_option maxRecDepth 10000
set_option linter.unusedVariables false
set_option linter.unusedSimpArgs false
namespace Go.Proofs.YthgmhlpjbednpaaDoor.Vm
open Go Go.Proofs
theorem firstR_some {a : RLk} {e : ByteArray} {i : Nat} (h : idxR a.nm e = some i) : firstR a e = (a.fs.getD i (0, 0), 0) := by unfold firstR; rw [h]
theorem firstR_none {a : RLk} {e : ByteArray} (h : idxR a.nm e = none) : firstR a e = ((0, 0), 1) := by unfold firstR; rw [h]
def stateR (a : RLk) (e : ByteArray) (p : Int × Int) : Int :=
  if (firstR a e).2 ≠ 0 then 0 else if (spanS a.c p.1 p.2).2.2 ≠ 0 then 0 else if cmpP p.1 p.2 (firstR a e).1.1 (firstR a e).1.2 < 0 then 1 else 2
noncomputable def allowR (a : RLk) (e : ByteArray) (d k : Int) : Int :=
  if (firstR a e).2 ≠ 0 then 1 else if (forP a.c d k).2 ≠ 0 then (forP a.c d k).2 else if cmpP (forP a.c d k).1.1 (forP a.c d k).1.2 (firstR a e).1.1 (firstR a e).1.2 < 0 then 16 else 0
theorem rstate_ok {k : Nat} {a : RLk} {S : Nat → Prop} {st : St} {nx : Nat} (h : RLK k a S st) (hS : ∀ i, S i → i < nx) (hl : a.nm.length ≤ 1000000) (e : ByteArray) (p : Int × Int) :
    W (L.hp 40 [.ptr k 0, .str e, .agg [.i64 p.1, .i64 p.2]] st nx) (Still st nx (.i64 (stateR a e p))) := by
  refine hp_r k40_eq ?_
  simp only [k40]
  repeat' (first | (simp -implicitDefEqProofs only [ze, zd, zr, simprocAttr, LR_pl, LR_hp, LR_hm, cunr_n, cunr_x, cunr_r, cunr_p, List.any_cons, List.any_nil, List.flatten_cons, List.flatten_nil, List.replicate_succ, List.replicate_zero, Bool.or_false, Bool.false_or, List.flatMap_cons, List.flatMap_nil]) | (with_reducible refine wgd_cases ?_ ?_ <;> intro hb) | (with_reducible refine wcond_cases ?_ ?_ <;> intro hb) | (with_reducible refine W_itn_cases ?_ ?_; omega))
  refine W_hp (rat_ok (h.mono (S' := S) (fun _ h => h) (fun i hi => ?_)) hl e) ?_
  · have := hS i hi
    simp (disch := omega) only [upds, upd, List.foldl_cons, List.foldl_nil, if_neg]
  rintro _ ⟨st1, nx1, rfl, h1, k1⟩
  have e1 : st1 nx = some (.cells [.i64 p.1, .i64 p.2]) := by rw [k1 nx (by omega)]; simp [upds, upd]
  have hq := h.mono (S' := S) (st' := st1) (fun _ h => h) (fun i hi => by
    have := hS i hi
    rw [k1 i (by omega)]
    simp (disch := omega) only [upds, upd, List.foldl_cons, List.foldl_nil, if_neg])
  obtain ⟨vn, vf, va, ve, hq⟩ := hq
  have hk := hS _ hq.sk
  have fin : ∀ (st2 : St) (nx2 : Nat) (v : V), nx1 ≤ nx2 → (∀ i, i < nx → st2 i = st1 i) → Still st nx v (.ret v st2 nx2) := fun st2 nx2 v hn hs => .of (by omega) fun i hi => by
    rw [hs i hi, k1 i (by omega)]
    simp (disch := omega) only [upds, upd, List.foldl_cons, List.foldl_nil, if_neg]
  have f1 : (k = nx) = False := eq_false (by omega)
  unfold stateR
  cases hi : idxR a.nm e with
  | none =>
    rw [atZ_none hi, firstR_none hi, if_pos (by simp)]
    repeat' (first | (simp -implicitDefEqProofs only [ze, zd, zr, simprocAttr, LR_pl, LR_hp, LR_hm, cunr_n, cunr_x, cunr_r, cunr_p, List.any_cons, List.any_nil, List.flatten_cons, List.flatten_nil, List.replicate_succ, List.replicate_zero, Bool.or_false, Bool.false_or, List.flatMap_cons, List.flatMap_nil, e1, encPE, ne_eq, not_true_eq_false]) | (with_reducible refine wgd_cases ?_ ?_ <;> intro hb) | (with_reducible refine wcond_cases ?_ ?_ <;> intro hb) | (with_reducible refine W_itn_cases ?_ ?_; omega))
    refine fin _ _ _ ?_ fun i hi => rfl
    omega
  | some i =>
    obtain ⟨hil, hg⟩ := fs_get hq.lf hi
    rw [atZ_some hi, firstR_some hi, if_neg (by simp)]
    generalize a.fs.getD i (0, 0) = f at hg
    dsimp only
    have g0 : decide ((i : Int) < 0) = false := decide_eq_false (by omega)
    rcases hq.rows with ⟨z0, _⟩ | ⟨z0, nn, fi, g, s1, s2, s3, q1, rfl, rfl, rfl, q5, q6, q7⟩
    · rw [z0] at hil; simp at hil
    · have hf := hS _ s2
      have f2 : (fi = nx) = False := eq_false (by omega)
      have x2 := perC_two hg
      have lx : i * 2 + 2 ≤ (a.fs.flatMap perC).length := by rw [perC_len, hq.lf]; omega
      have hii : (0 : Int) ≤ i ∧ (i : Int) < a.nm.length := ⟨by omega, by omega⟩
      have hsp := rspan_ok a.c p.1 p.2
      generalize spanS a.c p.1 p.2 = s at hsp
      obtain ⟨t1, t2, t3⟩ := s
      have hcm := rcmpP_ok p.1 p.2 f.1 f.2
      by_cases h2 : t3 = 0
      · subst h2
        rw [if_neg (by simp)]
        by_cases h3 : cmpP p.1 p.2 f.1 f.2 < 0
        · have g3 : decide (cmpP p.1 p.2 f.1 f.2 < 0) = true := decide_eq_true h3
          rw [if_pos h3]
          repeat' (first | (simp -implicitDefEqProofs only [ze, zd, zr, simprocAttr, LR_pl, LR_hp, LR_hm, cunr_n, cunr_x, cunr_r, cunr_p, List.any_cons, List.any_nil, List.flatten_cons, List.flatten_nil, List.replicate_succ, List.replicate_zero, Bool.or_false, Bool.false_or, List.flatMap_cons, List.flatMap_nil, e1, hq.hk, q6, f1, f2, g0, x2, lx, hii, hsp, hcm, g3, encPE, Nat.zero_add, ne_eq, not_true_eq_false]) | (with_reducible refine wgd_cases ?_ ?_ <;> intro hb) | (with_reducible refine wcond_cases ?_ ?_ <;> intro hb) | (with_reducible refine W_itn_cases ?_ ?_; omega))
          refine qd_i (recsOk_ro rfl) ?_
          repeat' (first | (simp -implicitDefEqProofs only [ze, zd, zr, simprocAttr, LR_pl, LR_hp, LR_hm, cunr_n, cunr_x, cunr_r, cunr_p, List.any_cons, List.any_nil, List.flatten_cons, List.flatten_nil, List.replicate_succ, List.replicate_zero, Bool.or_false, Bool.false_or, List.flatMap_cons, List.flatMap_nil, e1, hq.hk, q6, f1, f2, g0, x2, lx, hii, hsp, hcm, g3, encPE, Nat.zero_add, ne_eq, not_true_eq_false]) | (with_reducible refine wgd_cases ?_ ?_ <;> intro hb) | (with_reducible refine wcond_cases ?_ ?_ <;> intro hb) | (with_reducible refine W_itn_cases ?_ ?_; omega))
          refine qd_i (recsOk_ro rfl) ?_
          repeat' (first | (simp -implicitDefEqProofs only [ze, zd, zr, simprocAttr, LR_pl, LR_hp, LR_hm, cunr_n, cunr_x, cunr_r, cunr_p, List.any_cons, List.any_nil, List.flatten_cons, List.flatten_nil, List.replicate_succ, List.replicate_zero, Bool.or_false, Bool.false_or, List.flatMap_cons, List.flatMap_nil, e1, hq.hk, q6, f1, f2, g0, x2, lx, hii, hsp, hcm, g3, encPE, Nat.zero_add, ne_eq, not_true_eq_false]) | (with_reducible refine wgd_cases ?_ ?_ <;> intro hb) | (with_reducible refine wcond_cases ?_ ?_ <;> intro hb) | (with_reducible refine W_itn_cases ?_ ?_; omega))
          refine fin _ _ _ ?_ fun i hi => ?_
          · omega
          rfl
        · have g3 : decide (cmpP p.1 p.2 f.1 f.2 < 0) = false := decide_eq_false h3
          rw [if_neg h3]
          repeat' (first | (simp -implicitDefEqProofs only [ze, zd, zr, simprocAttr, LR_pl, LR_hp, LR_hm, cunr_n, cunr_x, cunr_r, cunr_p, List.any_cons, List.any_nil, List.flatten_cons, List.flatten_nil, List.replicate_succ, List.replicate_zero, Bool.or_false, Bool.false_or, List.flatMap_cons, List.flatMap_nil, e1, hq.hk, q6, f1, f2, g0, x2, lx, hii, hsp, hcm, g3, encPE, Nat.zero_add, ne_eq, not_true_eq_false]) | (with_reducible refine wgd_cases ?_ ?_ <;> intro hb) | (with_reducible refine wcond_cases ?_ ?_ <;> intro hb) | (with_reducible refine W_itn_cases ?_ ?_; omega))
          refine qd_i (recsOk_ro rfl) ?_
          repeat' (first | (simp -implicitDefEqProofs only [ze, zd, zr, simprocAttr, LR_pl, LR_hp, LR_hm, cunr_n, cunr_x, cunr_r, cunr_p, List.any_cons, List.any_nil, List.flatten_cons, List.flatten_nil, List.replicate_succ, List.replicate_zero, Bool.or_false, Bool.false_or, List.flatMap_cons, List.flatMap_nil, e1, hq.hk, q6, f1, f2, g0, x2, lx, hii, hsp, hcm, g3, encPE, Nat.zero_add, ne_eq, not_true_eq_false]) | (with_reducible refine wgd_cases ?_ ?_ <;> intro hb) | (with_reducible refine wcond_cases ?_ ?_ <;> intro hb) | (with_reducible refine W_itn_cases ?_ ?_; omega))
          refine qd_i (recsOk_ro rfl) ?_
          repeat' (first | (simp -implicitDefEqProofs only [ze, zd, zr, simprocAttr, LR_pl, LR_hp, LR_hm, cunr_n, cunr_x, cunr_r, cunr_p, List.any_cons, List.any_nil, List.flatten_cons, List.flatten_nil, List.replicate_succ, List.replicate_zero, Bool.or_false, Bool.false_or, List.flatMap_cons, List.flatMap_nil, e1, hq.hk, q6, f1, f2, g0, x2, lx, hii, hsp, hcm, g3, encPE, Nat.zero_add, ne_eq, not_true_eq_false]) | (with_reducible refine wgd_cases ?_ ?_ <;> intro hb) | (with_reducible refine wcond_cases ?_ ?_ <;> intro hb) | (with_reducible refine W_itn_cases ?_ ?_; omega))
          refine fin _ _ _ ?_ fun i hi => ?_
          · omega
          rfl
      · have g2 : decide (t3 = 0) = false := decide_eq_false h2
        rw [if_pos h2]
        repeat' (first | (simp -implicitDefEqProofs only [ze, zd, zr, simprocAttr, LR_pl, LR_hp, LR_hm, cunr_n, cunr_x, cunr_r, cunr_p, List.any_cons, List.any_nil, List.flatten_cons, List.flatten_nil, List.replicate_succ, List.replicate_zero, Bool.or_false, Bool.false_or, List.flatMap_cons, List.flatMap_nil, e1, hq.hk, q6, f1, f2, g0, hsp, g2, encPE, Nat.zero_add, ne_eq, not_true_eq_false]) | (with_reducible refine wgd_cases ?_ ?_ <;> intro hb) | (with_reducible refine wcond_cases ?_ ?_ <;> intro hb) | (with_reducible refine W_itn_cases ?_ ?_; omega))
        refine qd_i (recsOk_ro rfl) ?_
        repeat' (first | (simp -implicitDefEqProofs only [ze, zd, zr, simprocAttr, LR_pl, LR_hp, LR_hm, cunr_n, cunr_x, cunr_r, cunr_p, List.any_cons, List.any_nil, List.flatten_cons, List.flatten_nil, List.replicate_succ, List.replicate_zero, Bool.or_false, Bool.false_or, List.flatMap_cons, List.flatMap_nil, e1, hq.hk, q6, f1, f2, g0, hsp, g2, encPE, Nat.zero_add, ne_eq, not_true_eq_false]) | (with_reducible refine wgd_cases ?_ ?_ <;> intro hb) | (with_reducible refine wcond_cases ?_ ?_ <;> intro hb) | (with_reducible refine W_itn_cases ?_ ?_; omega))
        refine fin _ _ _ ?_ fun i hi => ?_
        · omega
        rfl
theorem rallow_ok {k : Nat} {a : RLk} {S : Nat → Prop} {st : St} {nx : Nat} (h : RLK k a S st) (hS : ∀ i, S i → i < nx) (hl : a.nm.length ≤ 1000000) (e : ByteArray) (d kd : Int) :
    W (L.hp 21 [.ptr k 0, .str e, .i64 d, .i64 kd] st nx) (Still st nx (.i64 (allowR a e d kd))) := by
  refine hp_r k21_eq ?_
  simp only [k21]
  repeat' (first | (simp -implicitDefEqProofs only [ze, zd, zr, simprocAttr, LR_pl, LR_hp, LR_hm, cunr_n, cunr_x, cunr_r, cunr_p, List.any_cons, List.any_nil, List.flatten_cons, List.flatten_nil, List.replicate_succ, List.replicate_zero, Bool.or_false, Bool.false_or, List.flatMap_cons, List.flatMap_nil]) | (with_reducible refine wgd_cases ?_ ?_ <;> intro hb) | (with_reducible refine wcond_cases ?_ ?_ <;> intro hb) | (with_reducible refine W_itn_cases ?_ ?_; omega))
  refine W_hp (rat_ok h hl e) ?_
  rintro _ ⟨st1, nx1, rfl, h1, k1⟩
  have hq := h.mono (S' := S) (st' := st1) (fun _ h => h) (fun i hi => k1 i (by have := hS i hi; omega))
  obtain ⟨vn, vf, va, ve, hq⟩ := hq
  have hk := hS _ hq.sk
  have fin : ∀ (st2 : St) (nx2 : Nat) (v : V), nx1 ≤ nx2 → (∀ i, i < nx → st2 i = st1 i) → Still st nx v (.ret v st2 nx2) := fun st2 nx2 v hn hs => .of (by omega) fun i hi => by
    rw [hs i hi, k1 i (by omega)]
  have f1 : ∀ j, (k = nx1 + j) = False := fun j => eq_false (by omega)
  have f3 : (k = nx1) = False := eq_false (by omega)
  unfold allowR
  cases hi : idxR a.nm e with
  | none =>
    rw [atZ_none hi, firstR_none hi, if_pos (by simp)]
    repeat' (first | (simp -implicitDefEqProofs only [ze, zd, zr, simprocAttr, LR_pl, LR_hp, LR_hm, cunr_n, cunr_x, cunr_r, cunr_p, List.any_cons, List.any_nil, List.flatten_cons, List.flatten_nil, List.replicate_succ, List.replicate_zero, Bool.or_false, Bool.false_or, List.flatMap_cons, List.flatMap_nil]) | (with_reducible refine wgd_cases ?_ ?_ <;> intro hb) | (with_reducible refine wcond_cases ?_ ?_ <;> intro hb) | (with_reducible refine W_itn_cases ?_ ?_; omega))
    refine fin _ _ _ ?_ fun i hi => rfl
    omega
  | some i =>
    obtain ⟨hil, hg⟩ := fs_get hq.lf hi
    rw [atZ_some hi, firstR_some hi, if_neg (by simp)]
    generalize a.fs.getD i (0, 0) = f at hg
    dsimp only
    have g0 : decide ((i : Int) < 0) = false := decide_eq_false (by omega)
    rcases hq.rows with ⟨z0, _⟩ | ⟨z0, nn, fi, g, s1, s2, s3, q1, rfl, rfl, rfl, q5, q6, q7⟩
    · rw [z0] at hil; simp at hil
    · have hf := hS _ s2
      have f2 : ∀ j, (fi = nx1 + j) = False := fun j => eq_false (by omega)
      have f4 : (fi = nx1) = False := eq_false (by omega)
      have x2 := perC_two hg
      have lx : i * 2 + 2 ≤ (a.fs.flatMap perC).length := by rw [perC_len, hq.lf]; omega
      have hii : (0 : Int) ≤ i ∧ (i : Int) < a.nm.length := ⟨by omega, by omega⟩
      have hfo := rforP_ok a.c d kd
      generalize forP a.c d kd = q at hfo
      obtain ⟨q, eq⟩ := q
      simp only [encPE] at hfo
      have hcm := rcmpP_ok q.1 q.2 f.1 f.2
      by_cases h2 : eq = 0
      · subst h2
        rw [if_neg (by simp)]
        by_cases h3 : cmpP q.1 q.2 f.1 f.2 < 0
        · have g3 : decide (cmpP q.1 q.2 f.1 f.2 < 0) = true := decide_eq_true h3
          rw [if_pos h3]
          repeat' (first | (simp -implicitDefEqProofs only [ze, zd, zr, simprocAttr, LR_pl, LR_hp, LR_hm, cunr_n, cunr_x, cunr_r, cunr_p, List.any_cons, List.any_nil, List.flatten_cons, List.flatten_nil, List.replicate_succ, List.replicate_zero, Bool.or_false, Bool.false_or, List.flatMap_cons, List.flatMap_nil, hq.hk, q6, f1, f2, f3, f4, g0, x2, lx, hii, hfo, hcm, g3, encPE, Nat.zero_add, ne_eq, not_true_eq_false]) | (with_reducible refine wgd_cases ?_ ?_ <;> intro hb) | (with_reducible refine wcond_cases ?_ ?_ <;> intro hb) | (with_reducible refine W_itn_cases ?_ ?_; omega))
          refine qd_i (recsOk_ro rfl) ?_
          repeat' (first | (simp -implicitDefEqProofs only [ze, zd, zr, simprocAttr, LR_pl, LR_hp, LR_hm, cunr_n, cunr_x, cunr_r, cunr_p, List.any_cons, List.any_nil, List.flatten_cons, List.flatten_nil, List.replicate_succ, List.replicate_zero, Bool.or_false, Bool.false_or, List.flatMap_cons, List.flatMap_nil, hq.hk, q6, f1, f2, f3, f4, g0, x2, lx, hii, hfo, hcm, g3, encPE, Nat.zero_add, ne_eq, not_true_eq_false]) | (with_reducible refine wgd_cases ?_ ?_ <;> intro hb) | (with_reducible refine wcond_cases ?_ ?_ <;> intro hb) | (with_reducible refine W_itn_cases ?_ ?_; omega))
          refine fin _ _ _ ?_ fun i hi => ?_
          · omega
          simp (disch := omega) only [upds, upd, List.foldl_cons, List.foldl_nil, if_neg]
        · have g3 : decide (cmpP q.1 q.2 f.1 f.2 < 0) = false := decide_eq_false h3
          rw [if_neg h3]
          repeat' (first | (simp -implicitDefEqProofs only [ze, zd, zr, simprocAttr, LR_pl, LR_hp, LR_hm, cunr_n, cunr_x, cunr_r, cunr_p, List.any_cons, List.any_nil, List.flatten_cons, List.flatten_nil, List.replicate_succ, List.replicate_zero, Bool.or_false, Bool.false_or, List.flatMap_cons, List.flatMap_nil, hq.hk, q6, f1, f2, f3, f4, g0, x2, lx, hii, hfo, hcm, g3, encPE, Nat.zero_add, ne_eq, not_true_eq_false]) | (with_reducible refine wgd_cases ?_ ?_ <;> intro hb) | (with_reducible refine wcond_cases ?_ ?_ <;> intro hb) | (with_reducible refine W_itn_cases ?_ ?_; omega))
          refine qd_i (recsOk_ro rfl) ?_
          repeat' (first | (simp -implicitDefEqProofs only [ze, zd, zr, simprocAttr, LR_pl, LR_hp, LR_hm, cunr_n, cunr_x, cunr_r, cunr_p, List.any_cons, List.any_nil, List.flatten_cons, List.flatten_nil, List.replicate_succ, List.replicate_zero, Bool.or_false, Bool.false_or, List.flatMap_cons, List.flatMap_nil, hq.hk, q6, f1, f2, f3, f4, g0, x2, lx, hii, hfo, hcm, g3, encPE, Nat.zero_add, ne_eq, not_true_eq_false]) | (with_reducible refine wgd_cases ?_ ?_ <;> intro hb) | (with_reducible refine wcond_cases ?_ ?_ <;> intro hb) | (with_reducible refine W_itn_cases ?_ ?_; omega))
          refine fin _ _ _ ?_ fun i hi => ?_
          · omega
          simp (disch := omega) only [upds, upd, List.foldl_cons, List.foldl_nil, if_neg]
      · have g2 : decide (eq = 0) = false := decide_eq_false h2
        rw [if_pos h2]
        repeat' (first | (simp -implicitDefEqProofs only [ze, zd, zr, simprocAttr, LR_pl, LR_hp, LR_hm, cunr_n, cunr_x, cunr_r, cunr_p, List.any_cons, List.any_nil, List.flatten_cons, List.flatten_nil, List.replicate_succ, List.replicate_zero, Bool.or_false, Bool.false_or, List.flatMap_cons, List.flatMap_nil, hq.hk, q6, f1, f2, f3, f4, g0, hfo, g2, encPE, Nat.zero_add, ne_eq, not_true_eq_false]) | (with_reducible refine wgd_cases ?_ ?_ <;> intro hb) | (with_reducible refine wcond_cases ?_ ?_ <;> intro hb) | (with_reducible refine W_itn_cases ?_ ?_; omega))
        refine fin _ _ _ ?_ fun i hi => ?_
        · omega
        simp (disch := omega) only [upds, upd, List.foldl_cons, List.foldl_nil, if_neg]
def lastR (a : RLk) (i : Nat) : (Int × Int) × Bool :=
  if a.fs.getD i (0, 0) = a.s then ((0, 0), false) else ((prevP a.c (a.fs.getD i (0, 0)).1 (a.fs.getD i (0, 0)).2).1, decide ((prevP a.c (a.fs.getD i (0, 0)).1 (a.fs.getD i (0, 0)).2).2 = 0))
theorem rlast_ok {k : Nat} {a : RLk} {S : Nat → Prop} {st : St} {nx : Nat} (h : RLK k a S st) (hS : ∀ i, S i → i < nx) (i : Nat) (hil : i < a.nm.length) :
    W (L.hp 69 [.ptr k 0, .i64 i] st nx) (Still st nx (.tup [.agg [.i64 (lastR a i).1.1, .i64 (lastR a i).1.2], .bool (lastR a i).2])) := by
  refine hp_r k69_eq ?_
  simp only [k69]
  obtain ⟨vn, vf, va, ve, hq⟩ := h
  have hk := hS _ hq.sk
  have hg : a.fs[i]? = some (a.fs.getD i (0, 0)) := by
    have := hq.lf
    rw [List.getD_eq_getElem?_getD, List.getElem?_eq_getElem (by omega)]; rfl
  unfold lastR
  generalize a.fs.getD i (0, 0) = f at hg
  have f1 : ∀ j, (k = nx + j) = False := fun j => eq_false (by omega)
  have f3 : (k = nx) = False := eq_false (by omega)
  rcases hq.rows with ⟨z0, _⟩ | ⟨z0, nn, fi, g, s1, s2, s3, q1, rfl, rfl, rfl, q5, q6, q7⟩
  · rw [z0] at hil; simp at hil
  · have hf := hS _ s2
    have f2 : ∀ j, (fi = nx + j) = False := fun j => eq_false (by omega)
    have f4 : (fi = nx) = False := eq_false (by omega)
    have f5 : ∀ j, (nx + j = fi) = False := fun j => eq_false (by omega)
    have f6 : ∀ j, (nx + j = k) = False := fun j => eq_false (by omega)
    have f7 : (nx = fi) = False := eq_false (by omega)
    have f8 : (nx = k) = False := eq_false (by omega)
    have f9 : (nx = nx + 232) = False := eq_false (by omega)
    have x2 := perC_two hg
    have lx : i * 2 + 2 ≤ (a.fs.flatMap perC).length := by rw [perC_len, hq.lf]; omega
    have hii : (0 : Int) ≤ i ∧ (i : Int) < a.nm.length := ⟨by omega, by omega⟩
    have gs : (decide (f.1 = a.s.1) && decide (f.2 = a.s.2)) = decide (f = a.s) := by
      by_cases h : f = a.s
      · subst h; simp
      · have : ¬ (f.1 = a.s.1 ∧ f.2 = a.s.2) := fun z => h (Prod.ext z.1 z.2)
        rw [decide_eq_false h]
        simpa using this
    have hnp := rprevP_ok a.c f.1 f.2
    generalize prevP a.c f.1 f.2 = q at hnp
    obtain ⟨q, eq⟩ := q
    simp only [encPE] at hnp
    by_cases hfs : f = a.s
    · have g1 : decide (f = a.s) = true := decide_eq_true hfs
      rw [if_pos hfs]
      repeat' (first | (simp -implicitDefEqProofs only [ze, zd, zr, simprocAttr, LR_pl, LR_hp, LR_hm, cunr_n, cunr_x, cunr_r, cunr_p, List.any_cons, List.any_nil, List.flatten_cons, List.flatten_nil, List.replicate_succ, List.replicate_zero, Bool.or_false, Bool.false_or, List.flatMap_cons, List.flatMap_nil, hq.hk, q6, f1, f2, f3, f4, x2, lx, hii, gs, g1, bne_tf, bne_ff, bne_tt, bne_ft, Nat.zero_add, ne_eq, not_true_eq_false]) | (with_reducible refine wgd_cases ?_ ?_ <;> intro hb) | (with_reducible refine wcond_cases ?_ ?_ <;> intro hb) | (with_reducible refine W_itn_cases ?_ ?_; omega))
      refine qd_i (recsOk_ro rfl) ?_
      repeat' (first | (simp -implicitDefEqProofs only [ze, zd, zr, simprocAttr, LR_pl, LR_hp, LR_hm, cunr_n, cunr_x, cunr_r, cunr_p, List.any_cons, List.any_nil, List.flatten_cons, List.flatten_nil, List.replicate_succ, List.replicate_zero, Bool.or_false, Bool.false_or, List.flatMap_cons, List.flatMap_nil, f1, f2, f3, f4, bne_tf, bne_ff, bne_tt, bne_ft, Nat.zero_add, ne_eq, not_true_eq_false]) | (with_reducible refine wgd_cases ?_ ?_ <;> intro hb) | (with_reducible refine wcond_cases ?_ ?_ <;> intro hb) | (with_reducible refine W_itn_cases ?_ ?_; omega))
      refine .of (by omega) fun i hi => ?_
      simp (disch := omega) only [upds, upd, List.foldl_cons, List.foldl_nil, if_neg]
    · have g1 : decide (f = a.s) = false := decide_eq_false hfs
      rw [if_neg hfs]
      repeat' (first | (simp -implicitDefEqProofs only [ze, zd, zr, simprocAttr, LR_pl, LR_hp, LR_hm, cunr_n, cunr_x, cunr_r, cunr_p, List.any_cons, List.any_nil, List.flatten_cons, List.flatten_nil, List.replicate_succ, List.replicate_zero, Bool.or_false, Bool.false_or, List.flatMap_cons, List.flatMap_nil, hq.hk, q6, f1, f2, f3, f4, x2, lx, hii, gs, g1, bne_tf, bne_ff, bne_tt, bne_ft, Nat.zero_add, ne_eq, not_true_eq_false]) | (with_reducible refine wgd_cases ?_ ?_ <;> intro hb) | (with_reducible refine wcond_cases ?_ ?_ <;> intro hb) | (with_reducible refine W_itn_cases ?_ ?_; omega))
      refine qd_i (recsOk_ro rfl) ?_
      repeat' (first | (simp -implicitDefEqProofs only [ze, zd, zr, simprocAttr, LR_pl, LR_hp, LR_hm, cunr_n, cunr_x, cunr_r, cunr_p, List.any_cons, List.any_nil, List.flatten_cons, List.flatten_nil, List.replicate_succ, List.replicate_zero, Bool.or_false, Bool.false_or, List.flatMap_cons, List.flatMap_nil, hq.hk, q6, f1, f2, f3, f4, f5, f6, x2, lx, hii, hnp, bne_tf, bne_ff, bne_tt, bne_ft, Nat.zero_add, ne_eq, not_true_eq_false]) | (with_reducible refine wgd_cases ?_ ?_ <;> intro hb) | (with_reducible refine wcond_cases ?_ ?_ <;> intro hb) | (with_reducible refine W_itn_cases ?_ ?_; omega))
      refine qd_i (by simp [recsOk, ordB, Rec.free, Rec.wr, disj, List.range, List.range.loop, f1, f2, f3, f4, f5, f6, f7, f8]; try (repeat' (first | apply And.intro | decide | omega | (left; decide) | (right; omega)))) ?_
      repeat' (first | (simp -implicitDefEqProofs only [ze, zd, zr, simprocAttr, LR_pl, LR_hp, LR_hm, cunr_n, cunr_x, cunr_r, cunr_p, List.any_cons, List.any_nil, List.flatten_cons, List.flatten_nil, List.replicate_succ, List.replicate_zero, Bool.or_false, Bool.false_or, List.flatMap_cons, List.flatMap_nil, hq.hk, q6, f1, f2, f3, f4, f5, f6, f9, bne_tf, bne_ff, bne_tt, bne_ft, Nat.zero_add, ne_eq, not_true_eq_false]) | (with_reducible refine wgd_cases ?_ ?_ <;> intro hb) | (with_reducible refine wcond_cases ?_ ?_ <;> intro hb) | (with_reducible refine W_itn_cases ?_ ?_; omega))
      refine .of (by omega) fun i hi => ?_
      simp (disch := omega) only [upds, upd, List.foldl_cons, List.foldl_nil, if_neg]
end Go.Proofs.YthgmhlpjbednpaaDoor.Vm
set_option maxRecDepth 10000
set_option linter.unusedVariables false
set_option linter.unusedSimpArgs false
namespace Go.Proofs.YthgmhlpjbednpaaDoor.Vm
open Go Go.Proofs
theorem rnote_ok {k : Nat} {a : RLk} {S : Nat → Prop} {st : St} {nx : Nat} (h : RLK k a S st) (hS : ∀ i, S i → i < nx) (hl : a.ev.length ≤ 1000000) (n : Int) (e u : ByteArray) (p : Int × Int) :
    W (L.hp 68 [.ptr k 0, .i64 n, .str e, .agg [.i64 p.1, .i64 p.2], .str u] st nx) (Does S st nx (.tup []) (RLK k { a with ev := a.ev ++ [⟨n, e, p, u⟩] })) := by
  obtain ⟨vn, vf, va, ve, h⟩ := h
  refine hp_r k68_eq ?_
  simp only [k68]
  have hk := hS _ h.sk
  have k1 : (k = nx) = False := eq_false (by omega)
  have k2 : ∀ j, (k = nx + j) = False := fun j => eq_false (by omega)
  have k3 : ∀ j, (nx + j = k) = False := fun j => eq_false (by omega)
  have k4 : (nx = k) = False := eq_false (by omega)
  -- what stays
  have fin : ∀ (st' : St) (ve' : V) (nx' : Nat), nx + 128 ≤ nx' → st' k = some (.cells [.i64 a.c, .i64 a.s.1, .i64 a.s.2, vn, vf, va, ve']) → (∀ i, S i → i ≠ k → (∀ s n cs, st i = some (.row 50 s n cs) → False) → st' i = st i) → (∀ i, i < nx → ¬ S i → st' i = st i) →
      rowV (grown S nx nx') st' 50 true 5 (a.ev ++ [(⟨n, e, p, u⟩ : Ev)]).length ((a.ev ++ [(⟨n, e, p, u⟩ : Ev)]).flatMap evC) ve' →
      Does S st nx (.tup []) (RLK k { a with ev := a.ev ++ [⟨n, e, p, u⟩] }) (.ret (.tup []) st' nx') := by
    intro st' ve' nx' hn q1 q2 q3 q4
    refine ⟨_, _, rfl, by omega, ⟨vn, vf, va, ve', q1, ?_, q4, .inl h.sk, h.lf, h.la⟩, q3⟩
    rcases h.rows with q | ⟨h0, n, f, g, s1, s2, s3, r1, r2, r3, r4, r5, r6, r7⟩
    · exact .inl q
    · have hne : ∀ {id e s n : Nat} {cs : List V}, st id = some (.row e s n cs) → id ≠ k := fun hr q => by subst q; rw [h.hk] at hr; cases hr
      refine .inr ⟨h0, n, f, g, .inl s1, .inl s2, .inl s3, r1, r2, r3, r4, ?_, ?_, ?_⟩
      · rw [q2 n s1 (hne r5) (fun s n cs q => by rw [r5] at q; cases q)]; exact r5
      · rw [q2 f s2 (hne r6) (fun s n cs q => by rw [r6] at q; cases q)]; exact r6
      · rw [q2 g s3 (hne r7) (fun s n cs q => by rw [r7] at q; cases q)]; exact r7
  rcases h.he with ⟨h0, hc, rfl⟩ | ⟨h0, id, h1, rfl, h3⟩
  · repeat' (first | (simp -implicitDefEqProofs only [ze, zd, zr, simprocAttr, LR_pl, LR_hp, LR_hm, cunr_n, cunr_x, cunr_r, cunr_p, List.any_cons, List.any_nil, List.flatten_cons, List.flatten_nil, List.replicate_succ, List.replicate_zero, Bool.or_false, Bool.false_or, List.flatMap_cons, List.flatMap_nil, h.hk, k1, k2, k3, ne_eq, not_true_eq_false]) | (with_reducible refine wgd_cases ?_ ?_ <;> intro hb) | (with_reducible refine wcond_cases ?_ ?_ <;> intro hb) | (with_reducible refine W_itn_cases ?_ ?_; omega))
    refine qd_i (by simp [recsOk, ordB, Rec.free, Rec.wr, disj, List.range, List.range.loop, k1, k2, k3, k4]; decide) ?_
    repeat' (first | (simp -implicitDefEqProofs only [ze, zd, zr, simprocAttr, LR_pl, LR_hp, LR_hm, cunr_n, cunr_x, cunr_r, cunr_p, List.any_cons, List.any_nil, List.flatten_cons, List.flatten_nil, List.replicate_succ, List.replicate_zero, Bool.or_false, Bool.false_or, List.flatMap_cons, List.flatMap_nil]) | (with_reducible refine wgd_cases ?_ ?_ <;> intro hb) | (with_reducible refine wcond_cases ?_ ?_ <;> intro hb) | (with_reducible refine W_itn_cases ?_ ?_; omega))
    refine fin _ (.sl 50 true 5 (nx + 96) 0 1) _ (Nat.le_refl _) ?_ (fun i hi hik _ => ?_) (fun i hi hs => ?_) (.inr ⟨by simp, nx + 96, .inr ⟨by omega, by omega⟩, ?_, ?_⟩)
    · simp [upd]
    · have := hS i hi
      have e1 : ¬ i = nx + 96 := by omega
      have e2 : ¬ i = nx + 88 := by omega
      have e3 : ¬ i = nx := by omega
      simp [upd, hik, e1, e2, e3]
    · have hik : ¬ i = k := fun e => hs (e ▸ h.sk)
      have e1 : ¬ i = nx + 96 := by omega
      have e2 : ¬ i = nx + 88 := by omega
      have e3 : ¬ i = nx := by omega
      simp [upd, hik, e1, e2, e3]
    · simp [List.length_append, h0]
    · simp [upd, k3, h0, hc, List.flatMap_append, evC]
  · have hr : id ≠ k := fun q => by subst q; rw [h.hk] at h3; cases h3
    have hid := hS id h1
    have i1 : (id = nx) = False := eq_false (by omega)
    have i2 : ∀ j, (id = nx + j) = False := fun j => eq_false (by omega)
    have i3 : ∀ j, (nx + j = id) = False := fun j => eq_false (by omega)
    have i4 : (id = k) = False := eq_false hr
    have i5 : (k = id) = False := eq_false (Ne.symm hr)
    repeat' (first | (simp -implicitDefEqProofs only [ze, zd, zr, simprocAttr, LR_pl, LR_hp, LR_hm, cunr_n, cunr_x, cunr_r, cunr_p, List.any_cons, List.any_nil, List.flatten_cons, List.flatten_nil, List.replicate_succ, List.replicate_zero, Bool.or_false, Bool.false_or, List.flatMap_cons, List.flatMap_nil, h.hk, h3, k1, k2, k3, i1, i2, i3, i4, i5, ne_eq, not_true_eq_false]) | (with_reducible refine wgd_cases ?_ ?_ <;> intro hb) | (with_reducible refine wcond_cases ?_ ?_ <;> intro hb) | (with_reducible refine W_itn_cases ?_ ?_; omega))
    have i6 : (nx = id) = False := eq_false (by omega)
    refine qd_i (by simp [recsOk, ordB, Rec.free, Rec.wr, disj, List.range, List.range.loop, k1, k2, k3, k4, i1, i2, i3, i4, i5, i6]; decide) ?_
    repeat' (first | (simp -implicitDefEqProofs only [ze, zd, zr, simprocAttr, LR_pl, LR_hp, LR_hm, cunr_n, cunr_x, cunr_r, cunr_p, List.any_cons, List.any_nil, List.flatten_cons, List.flatten_nil, List.replicate_succ, List.replicate_zero, Bool.or_false, Bool.false_or, List.flatMap_cons, List.flatMap_nil]) | (with_reducible refine wgd_cases ?_ ?_ <;> intro hb) | (with_reducible refine wcond_cases ?_ ?_ <;> intro hb) | (with_reducible refine W_itn_cases ?_ ?_; omega))
    refine fin _ (.sl 50 true 5 (nx + 96) 0 (a.ev.length + 1)) _ (Nat.le_refl _) ?_ (fun i hi hik hrow => ?_) (fun i hi hs => ?_) (.inr ⟨by simp, nx + 96, .inr ⟨by omega, by omega⟩, ?_, ?_⟩)
    · simp [upd]
    · have := hS i hi
      have e1 : ¬ i = nx + 96 := by omega
      have e2 : ¬ i = nx + 88 := by omega
      have e3 : ¬ i = nx := by omega
      have e4 : ¬ i = id := fun e => by subst e; exact hrow _ _ _ h3
      simp [upd, hik, e1, e2, e3, e4]
    · have hik : ¬ i = k := fun e => hs (e ▸ h.sk)
      have hid2 : ¬ i = id := fun e => hs (e ▸ h1)
      have e1 : ¬ i = nx + 96 := by omega
      have e2 : ¬ i = nx + 88 := by omega
      have e3 : ¬ i = nx := by omega
      simp [upd, hik, e1, e2, e3, hid2]
    · simp [List.length_append]
    · simp [upd, k3, List.flatMap_append, evC]
theorem perC_set (l : List (Int × Int)) (i : Nat) (q : Int × Int) (h : i < l.length) : (l.flatMap perC).take (i * 2) ++ [.i64 q.1, .i64 q.2] ++ (l.flatMap perC).drop (i * 2 + 2) = (l.set i q).flatMap perC := by
  induction l generalizing i with
  | nil => simp at h
  | cons p l ih =>
    cases i with
    | zero => simp [perC]
    | succ i =>
      have e1 : (i + 1) * 2 = i * 2 + 2 := by omega
      have := ih i (by simpa using h)
      rw [e1, List.set_cons_succ, List.flatMap_cons, List.flatMap_cons, ← this]
      simp [perC]
theorem str_set (l : List ByteArray) (i : Nat) (u : ByteArray) (h : i < l.length) : (l.map V.str).take i ++ [.str u] ++ (l.map V.str).drop (i + 1) = (l.set i u).map V.str := by
  rw [← List.map_take, ← List.map_drop, List.map_set, List.set_eq_take_append_cons_drop, if_pos (by simpa using h)]
  simp [List.map_take, List.map_drop]
def closeR (a : RLk) (e u : ByteArray) : RLk × Int :=
  if whoR a e u ≠ 0 then (a, whoR a e u) else match idxR a.nm e with
    | none => (a, 1)
    | some i =>
      if (nextP a.c (a.fs.getD i (0, 0)).1 (a.fs.getD i (0, 0)).2).2 ≠ 0 then (a, 16)
      else ({ a with ev := a.ev ++ [⟨8, e, a.fs.getD i (0, 0), u⟩], fs := a.fs.set i (nextP a.c (a.fs.getD i (0, 0)).1 (a.fs.getD i (0, 0)).2).1, ak := a.ak.set i ⟨#[]⟩ }, 0)
theorem whoR_zero {a : RLk} {e u : ByteArray} (h : whoR a e u = 0) : ∃ i, idxR a.nm e = some i := by
  unfold whoR at h
  cases hi : idxR a.nm e with
  | none => rw [hi] at h; simp at h
  | some i => exact ⟨i, rfl⟩
theorem RDoes.still {k : Nat} {a : RLk} {S : Nat → Prop} {st st' : St} {nx nx' : Nat} {v : V} (h : RLK k a S st) (hS : ∀ i, S i → i < nx) (hn : nx ≤ nx') (hs : ∀ i, i < nx → st' i = st i) : Does S st nx v (RLK k a) (.ret v st' nx') :=
  ⟨st', nx', rfl, hn, h.mono (fun i hi => .inl hi) (fun i hi => hs i (hS i hi)), fun i hi _ => hs i hi⟩
theorem rset_fin {k : Nat} {b : RLk} {S T : Nat → Prop} {st st3 st4 : St} {nx m : Nat} {v ve : V} {n f g : Nat} {fs' : List (Int × Int)} {ak' : List ByteArray}
    (h : RLKp k b T st3 (.sl 9 false 1 n 0 b.nm.length) (.sl 25 true 2 f 0 b.nm.length) (.sl 9 false 1 g 0 b.nm.length) ve) (z0 : 0 < b.nm.length) (t1 : T n) (t2 : T f) (t3 : T g) (hng : n ≠ g)
    (r5 : st3 n = some (.row 9 1 b.nm.length (b.nm.map V.str))) (r6 : ∃ s cs, st3 f = some (.row 25 s b.nm.length cs)) (r7 : ∃ s cs, st3 g = some (.row 9 s b.nm.length cs))
    (hT : ∀ j, T j → S j ∨ (nx ≤ j ∧ j < m)) (hm : nx ≤ m) (hk : ∀ j, j < nx → ¬ S j → st3 j = st j) (w1 : st4 f = some (.row 25 2 b.nm.length (fs'.flatMap perC))) (w2 : st4 g = some (.row 9 1 b.nm.length (ak'.map V.str))) (w3 : ∀ j, j ≠ f → j ≠ g → st4 j = st3 j)
    (lf : fs'.length = b.nm.length) (la : ak'.length = b.nm.length) : Does S st nx v (RLK k { b with fs := fs', ak := ak' }) (.ret v st4 m) := by
  obtain ⟨s6, c6, r6⟩ := r6
  obtain ⟨s7, c7, r7⟩ := r7
  have kf : k ≠ f := fun q => by subst q; rw [h.hk] at r6; cases r6
  have kg : k ≠ g := fun q => by subst q; rw [h.hk] at r7; cases r7
  have nf : n ≠ f := fun q => by subst q; rw [r5] at r6; cases r6
  refine ⟨st4, m, rfl, hm, ⟨_, _, _, ve, by rw [w3 k kf kg]; exact h.hk, .inr ⟨z0, n, f, g, hT n t1, hT f t2, hT g t3, hng, rfl, rfl, rfl, by rw [w3 n nf hng]; exact r5, w1, w2⟩, ?_, hT k h.sk, lf, la⟩, fun j hj hs => ?_⟩
  · rcases h.he with q | ⟨h0, id, s1, q2, q3⟩
    · exact .inl q
    · have hf : id ≠ f := fun q => by subst q; rw [q3] at r6; cases r6
      have hg : id ≠ g := fun q => by subst q; rw [q3] at r7; cases r7
      exact .inr ⟨h0, id, hT id s1, q2, by rw [w3 id hf hg]; exact q3⟩
  · have hf : j ≠ f := fun q => by
      subst q
      rcases hT _ t2 with q | q
      · exact hs q
      · omega
    have hg : j ≠ g := fun q => by
      subst q
      rcases hT _ t3 with q | q
      · exact hs q
      · omega
    rw [w3 j hf hg]; exact hk j hj hs
theorem rclose_ok {k : Nat} {a : RLk} {S : Nat → Prop} {st : St} {nx : Nat} (h : RLK k a S st) (hS : ∀ i, S i → i < nx) (hln : a.nm.length ≤ 1000000) (hl : a.ev.length ≤ 1000000) (e u : ByteArray) (hu : u.size < 4611686018427387904) :
    W (L.hp 36 [.ptr k 0, .str e, .str u] st nx) (Does S st nx (.i64 (closeR a e u).2) (RLK k (closeR a e u).1)) := by
  refine hp_r k36_eq ?_
  simp only [k36]
  repeat' (first | (simp -implicitDefEqProofs only [ze, zd, zr, simprocAttr, LR_pl, LR_hp, LR_hm, cunr_n, cunr_x, cunr_r, cunr_p, List.any_cons, List.any_nil, List.flatten_cons, List.flatten_nil, List.replicate_succ, List.replicate_zero, Bool.or_false, Bool.false_or, List.flatMap_cons, List.flatMap_nil]) | (with_reducible refine wgd_cases ?_ ?_ <;> intro hb) | (with_reducible refine wcond_cases ?_ ?_ <;> intro hb) | (with_reducible refine W_itn_cases ?_ ?_; omega))
  refine W_hp (rwho_ok h (fun i hi => by have := hS i hi; omega) hln e u hu) ?_
  rintro _ ⟨st1, nx1, rfl, h1, k1⟩
  by_cases h0 : whoR a e u = 0
  · obtain ⟨i, hi⟩ := whoR_zero h0
    have hq1 := h.mono (S' := S) (st' := st1) (fun _ h => h) (fun i hi => k1 i (by have := hS i hi; omega))
    have lf : a.fs.length = a.nm.length := by obtain ⟨_, _, _, _, q⟩ := h; exact q.lf
    have la : a.ak.length = a.nm.length := by obtain ⟨_, _, _, _, q⟩ := h; exact q.la
    obtain ⟨hil, hg⟩ := fs_get lf hi
    have g0 : decide (whoR a e u = 0) = true := decide_eq_true h0
    repeat' (first | (simp -implicitDefEqProofs only [ze, zd, zr, simprocAttr, LR_pl, LR_hp, LR_hm, cunr_n, cunr_x, cunr_r, cunr_p, List.any_cons, List.any_nil, List.flatten_cons, List.flatten_nil, List.replicate_succ, List.replicate_zero, Bool.or_false, Bool.false_or, List.flatMap_cons, List.flatMap_nil, g0]) | (with_reducible refine wgd_cases ?_ ?_ <;> intro hb) | (with_reducible refine wcond_cases ?_ ?_ <;> intro hb) | (with_reducible refine W_itn_cases ?_ ?_; omega))
    refine W_hp (rat_ok hq1 hln e) ?_
    rintro _ ⟨st2, nx2, rfl, h2, k2⟩
    rw [atZ_some hi]
    have hc : closeR a e u = if (nextP a.c (a.fs.getD i (0, 0)).1 (a.fs.getD i (0, 0)).2).2 ≠ 0 then (a, 16)
      else ({ a with ev := a.ev ++ [⟨8, e, a.fs.getD i (0, 0), u⟩], fs := a.fs.set i (nextP a.c (a.fs.getD i (0, 0)).1 (a.fs.getD i (0, 0)).2).1, ak := a.ak.set i ⟨#[]⟩ }, 0) := by
      unfold closeR; rw [if_neg (by simp [h0]), hi]
    rw [hc]
    generalize a.fs.getD i (0, 0) = p at hg
    have hq := hq1.mono (S' := S) (st' := st2) (fun _ h => h) (fun i hi => k2 i (by have := hS i hi; omega))
    have hqq := hq
    obtain ⟨vn, vf, va, ve, hq⟩ := hq
    have hk := hS _ hq.sk
    rcases hq.rows with ⟨z0, _⟩ | ⟨z0, nn, fi, g, s1, s2, s3, q1, rfl, rfl, rfl, q5, q6, q7⟩
    · rw [z0] at hil; simp at hil
    · have hf := hS _ s2
      have hgi := hS _ s3
      have f1 : ∀ j, (k = nx2 + j) = False := fun j => eq_false (by omega)
      have f2 : ∀ j, (nx2 + j = k) = False := fun j => eq_false (by omega)
      have f3 : ∀ j, (fi = nx2 + j) = False := fun j => eq_false (by omega)
      have f4 : ∀ j, (nx2 + j = fi) = False := fun j => eq_false (by omega)
      have f5 : (k = nx2) = False := eq_false (by omega)
      have f6 : (nx2 = k) = False := eq_false (by omega)
      have f7 : (fi = nx2) = False := eq_false (by omega)
      have f8 : (nx2 = fi) = False := eq_false (by omega)
      have x2 := perC_two hg
      have lx : i * 2 + 2 ≤ (a.fs.flatMap perC).length := by rw [perC_len, hq.lf]; omega
      have hii : (0 : Int) ≤ i ∧ (i : Int) < a.nm.length := ⟨by omega, by omega⟩
      have hnp := rnextP_ok a.c p.1 p.2
      generalize nextP a.c p.1 p.2 = q at hnp
      obtain ⟨q, eq⟩ := q
      simp only [encPE] at hnp
      repeat' (first | (simp -implicitDefEqProofs only [ze, zd, zr, simprocAttr, LR_pl, LR_hp, LR_hm, cunr_n, cunr_x, cunr_r, cunr_p, List.any_cons, List.any_nil, List.flatten_cons, List.flatten_nil, List.replicate_succ, List.replicate_zero, Bool.or_false, Bool.false_or, List.flatMap_cons, List.flatMap_nil, hq.hk, q6, f1, f2, f3, f4, f5, f6, f7, f8, x2, lx, hii, hnp, Nat.zero_add, ne_eq, not_true_eq_false]) | (with_reducible refine wgd_cases ?_ ?_ <;> intro hb) | (with_reducible refine wcond_cases ?_ ?_ <;> intro hb) | (with_reducible refine W_itn_cases ?_ ?_; omega))
      refine qd_i (by simp [recsOk, ordB, Rec.free, Rec.wr, disj, List.range, List.range.loop, f1, f2, f3, f4, f5, f6, f7, f8]; try (repeat' (first | apply And.intro | decide | omega | (left; decide) | (right; omega)))) ?_
      by_cases hz : eq = 0
      · subst hz
        rw [if_neg (by simp)]
        repeat' (first | (simp -implicitDefEqProofs only [ze, zd, zr, simprocAttr, LR_pl, LR_hp, LR_hm, cunr_n, cunr_x, cunr_r, cunr_p, List.any_cons, List.any_nil, List.flatten_cons, List.flatten_nil, List.replicate_succ, List.replicate_zero, Bool.or_false, Bool.false_or, List.flatMap_cons, List.flatMap_nil, hq.hk, q6, f1, f2, f3, f4, f5, f6, f7, f8, x2, lx, hii, Nat.zero_add, ne_eq, not_true_eq_false]) | (with_reducible refine wgd_cases ?_ ?_ <;> intro hb) | (with_reducible refine wcond_cases ?_ ?_ <;> intro hb) | (with_reducible refine W_itn_cases ?_ ?_; omega))
        refine W_hp (rnote_ok (nx := nx2 + 248) (hqq.mono (S' := S) (fun _ h => h) (fun j hj => ?_)) (fun j hj => by have := hS j hj; omega) hl 8 e u p) ?_
        · have := hS j hj
          have a1 : ¬ j = nx2 + 120 := by omega
          simp [upd, a1]
        rintro _ ⟨st3, nx3, rfl, hn3, ⟨vn', vf', va', ve', h3⟩, hkp⟩
        have e120 : st3 (nx2 + 120) = some (.cells [.i64 q.1, .i64 q.2]) := by
          rw [hkp _ (by omega) (fun h => by have := hS _ h; omega)]; simp [upd]
        rcases h3.rows with ⟨z0', _⟩ | ⟨z0', n', f', g', t1, t2, t3, r1, rfl, rfl, rfl, r5, r6, r7⟩
        · simp only at z0'; rw [z0'] at hil; simp at hil
        · have kf : k ≠ f' := fun q => by subst q; rw [h3.hk] at r6; cases r6
          have kg : k ≠ g' := fun q => by subst q; rw [h3.hk] at r7; cases r7
          have fg : f' ≠ g' := fun q => by subst q; rw [r6] at r7; cases r7
          have i1 : (k = f') = False := eq_false kf
          have i2 : (f' = k) = False := eq_false (Ne.symm kf)
          have i3 : (g' = f') = False := eq_false (Ne.symm fg)
          have i4 : (f' = g') = False := eq_false fg
          have i5 : (nx2 + 120 = f') = False := eq_false (fun q => by rw [q, r6] at e120; cases e120)
          have i6 : (f' = nx2 + 120) = False := eq_false (fun q => by rw [← q, r6] at e120; cases e120)
          have lx1 : i * 2 + 2 ≤ (a.fs.flatMap perC).length := lx
          have la1 : i + 1 ≤ (a.ak.map V.str).length := by rw [List.length_map]; omega
          repeat' (first | (simp -implicitDefEqProofs only [ze, zd, zr, simprocAttr, LR_pl, LR_hp, LR_hm, cunr_n, cunr_x, cunr_r, cunr_p, List.any_cons, List.any_nil, List.flatten_cons, List.flatten_nil, List.replicate_succ, List.replicate_zero, Bool.or_false, Bool.false_or, List.flatMap_cons, List.flatMap_nil, h3.hk, r6, r7, e120, i1, i2, i3, i4, i5, i6, lx1, la1, hii, Nat.zero_add, Nat.mul_one, ne_eq, not_true_eq_false]) | (with_reducible refine wgd_cases ?_ ?_ <;> intro hb) | (with_reducible refine wcond_cases ?_ ?_ <;> intro hb) | (with_reducible refine W_itn_cases ?_ ?_; omega))
          refine qd_i (by simp [recsOk, ordB, Rec.free, Rec.wr, disj, List.range, List.range.loop, i1, i2, i3, i4, i5, i6]; try (repeat' (first | apply And.intro | decide | omega | (left; decide) | (right; omega)))) ?_
          repeat' (first | (simp -implicitDefEqProofs only [ze, zd, zr, simprocAttr, LR_pl, LR_hp, LR_hm, cunr_n, cunr_x, cunr_r, cunr_p, List.any_cons, List.any_nil, List.flatten_cons, List.flatten_nil, List.replicate_succ, List.replicate_zero, Bool.or_false, Bool.false_or, List.flatMap_cons, List.flatMap_nil, h3.hk, r6, r7, e120, i1, i2, i3, i4, i5, i6, lx1, la1, hii, Nat.zero_add, Nat.mul_one, ne_eq, not_true_eq_false]) | (with_reducible refine wgd_cases ?_ ?_ <;> intro hb) | (with_reducible refine wcond_cases ?_ ?_ <;> intro hb) | (with_reducible refine W_itn_cases ?_ ?_; omega))
          have ea : a.ak.length = a.nm.length := la
          refine rset_fin h3 z0' t1 t2 t3 r1 r5 ⟨_, _, r6⟩ ⟨_, _, r7⟩ (fun j hj => hj.imp id fun q => ⟨by omega, by omega⟩) (by omega) (fun j hj hs => ?_) ?_ ?_ (fun j h1 h2 => ?_) (by rw [List.length_set]; exact lf) (by rw [List.length_set]; exact la)
          · rw [hkp j (by omega) hs]
            have a1 : ¬ j = nx2 + 120 := by omega
            simp [upd, a1]
            rw [k2 j (by omega), k1 j (by omega)]
          · have := perC_set a.fs i q (by omega)
            simp [upd, i4, ← this]
          · have := str_set a.ak i ⟨#[]⟩ (by omega)
            simp [upd, ← this]
          · simp [upd, h1, h2]
      · rw [if_pos hz]
        have g2 : decide (eq = 0) = false := decide_eq_false hz
        repeat' (first | (simp -implicitDefEqProofs only [ze, zd, zr, simprocAttr, LR_pl, LR_hp, LR_hm, cunr_n, cunr_x, cunr_r, cunr_p, List.any_cons, List.any_nil, List.flatten_cons, List.flatten_nil, List.replicate_succ, List.replicate_zero, Bool.or_false, Bool.false_or, List.flatMap_cons, List.flatMap_nil, g2, ne_eq, not_true_eq_false]) | (with_reducible refine wgd_cases ?_ ?_ <;> intro hb) | (with_reducible refine wcond_cases ?_ ?_ <;> intro hb) | (with_reducible refine W_itn_cases ?_ ?_; omega))
        refine RDoes.still h hS (by omega) fun i hi => ?_
        simp (disch := omega) only [upds, upd, List.foldl_cons, List.foldl_nil, if_neg]
        rw [k2 i (by omega), k1 i (by omega)]
  · have g0 : decide (whoR a e u = 0) = false := decide_eq_false h0
    have ec : closeR a e u = (a, whoR a e u) := by unfold closeR; rw [if_pos h0]
    rw [ec]
    repeat' (first | (simp -implicitDefEqProofs only [ze, zd, zr, simprocAttr, LR_pl, LR_hp, LR_hm, cunr_n, cunr_x, cunr_r, cunr_p, List.any_cons, List.any_nil, List.flatten_cons, List.flatten_nil, List.replicate_succ, List.replicate_zero, Bool.or_false, Bool.false_or, List.flatMap_cons, List.flatMap_nil, g0, ne_eq, not_true_eq_false]) | (with_reducible refine wgd_cases ?_ ?_ <;> intro hb) | (with_reducible refine wcond_cases ?_ ?_ <;> intro hb) | (with_reducible refine W_itn_cases ?_ ?_; omega))
    refine RDoes.still h hS (by omega) fun i hi => ?_
    rw [k1 i (by omega)]
end Go.Proofs.YthgmhlpjbednpaaDoor.Vm
set_option maxRecDepth 10000
set_option linter.unusedVariables false
set_option linter.unusedSimpArgs false
namespace Go.Proofs.YthgmhlpjbednpaaDoor.Vm
open Go Go.Proofs
def askR (a : RLk) (e u : ByteArray) : RLk × Int :=
  if whoR a e u ≠ 0 then (a, whoR a e u) else match idxR a.nm e with
    | none => (a, 1)
    | some i => if (lastR a i).2 = false then (a, 18) else ({ a with ev := a.ev ++ [⟨9, e, (lastR a i).1, u⟩], ak := a.ak.set i u }, 0)
def reopenR (a : RLk) (e u : ByteArray) : RLk × Int :=
  if whoR a e u ≠ 0 then (a, whoR a e u) else match idxR a.nm e with
    | none => (a, 1)
    | some i => if a.ak.getD i ⟨#[]⟩ = ⟨#[]⟩ then (a, 18) else if a.ak.getD i ⟨#[]⟩ = u then (a, 19) else ({ a with ev := a.ev ++ [⟨10, e, (lastR a i).1, u⟩], fs := a.fs.set i (lastR a i).1, ak := a.ak.set i ⟨#[]⟩ }, 0)
theorem rask_ok {k : Nat} {a : RLk} {S : Nat → Prop} {st : St} {nx : Nat} (h : RLK k a S st) (hS : ∀ i, S i → i < nx) (hln : a.nm.length ≤ 1000000) (hl : a.ev.length ≤ 1000000) (e u : ByteArray) (hu : u.size < 4611686018427387904) :
    W (L.hp 37 [.ptr k 0, .str e, .str u] st nx) (Does S st nx (.i64 (askR a e u).2) (RLK k (askR a e u).1)) := by
  refine hp_r k37_eq ?_
  simp only [k37]
  repeat' (first | (simp -implicitDefEqProofs only [ze, zd, zr, simprocAttr, LR_pl, LR_hp, LR_hm, cunr_n, cunr_x, cunr_r, cunr_p, List.any_cons, List.any_nil, List.flatten_cons, List.flatten_nil, List.replicate_succ, List.replicate_zero, Bool.or_false, Bool.false_or, List.flatMap_cons, List.flatMap_nil]) | (with_reducible refine wgd_cases ?_ ?_ <;> intro hb) | (with_reducible refine wcond_cases ?_ ?_ <;> intro hb) | (with_reducible refine W_itn_cases ?_ ?_; omega))
  refine W_hp (rwho_ok h (fun i hi => by have := hS i hi; omega) hln e u hu) ?_
  rintro _ ⟨st1, nx1, rfl, h1, k1⟩
  by_cases h0 : whoR a e u = 0
  · obtain ⟨i, hi⟩ := whoR_zero h0
    have hq1 := h.mono (S' := S) (st' := st1) (fun _ h => h) (fun i hi => k1 i (by have := hS i hi; omega))
    have lf : a.fs.length = a.nm.length := by obtain ⟨_, _, _, _, q⟩ := h; exact q.lf
    have la : a.ak.length = a.nm.length := by obtain ⟨_, _, _, _, q⟩ := h; exact q.la
    obtain ⟨hil, hg⟩ := fs_get lf hi
    have g0 : decide (whoR a e u = 0) = true := decide_eq_true h0
    repeat' (first | (simp -implicitDefEqProofs only [ze, zd, zr, simprocAttr, LR_pl, LR_hp, LR_hm, cunr_n, cunr_x, cunr_r, cunr_p, List.any_cons, List.any_nil, List.flatten_cons, List.flatten_nil, List.replicate_succ, List.replicate_zero, Bool.or_false, Bool.false_or, List.flatMap_cons, List.flatMap_nil, g0]) | (with_reducible refine wgd_cases ?_ ?_ <;> intro hb) | (with_reducible refine wcond_cases ?_ ?_ <;> intro hb) | (with_reducible refine W_itn_cases ?_ ?_; omega))
    refine W_hp (rat_ok hq1 hln e) ?_
    rintro _ ⟨st2, nx2, rfl, h2, k2⟩
    rw [atZ_some hi]
    have hc : askR a e u = if (lastR a i).2 = false then (a, 18) else ({ a with ev := a.ev ++ [⟨9, e, (lastR a i).1, u⟩], ak := a.ak.set i u }, 0) := by
      unfold askR; rw [if_neg (by simp [h0]), hi]
    rw [hc]
    have hq := hq1.mono (S' := S) (st' := st2) (fun _ h => h) (fun i hi => k2 i (by have := hS i hi; omega))
    repeat' (first | (simp -implicitDefEqProofs only [ze, zd, zr, simprocAttr, LR_pl, LR_hp, LR_hm, cunr_n, cunr_x, cunr_r, cunr_p, List.any_cons, List.any_nil, List.flatten_cons, List.flatten_nil, List.replicate_succ, List.replicate_zero, Bool.or_false, Bool.false_or, List.flatMap_cons, List.flatMap_nil]) | (with_reducible refine wgd_cases ?_ ?_ <;> intro hb) | (with_reducible refine wcond_cases ?_ ?_ <;> intro hb) | (with_reducible refine W_itn_cases ?_ ?_; omega))
    refine W_hp (rlast_ok hq (fun j hj => by have := hS j hj; omega) i hil) ?_
    rintro _ ⟨st3, nx3, rfl, h3, k3⟩
    have hq3 := hq.mono (S' := S) (st' := st3) (fun _ h => h) (fun i hi => k3 i (by have := hS i hi; omega))
    generalize lastR a i = q
    obtain ⟨q, ok⟩ := q
    cases ok with
    | false =>
      rw [if_pos rfl]
      repeat' (first | (simp -implicitDefEqProofs only [ze, zd, zr, simprocAttr, LR_pl, LR_hp, LR_hm, cunr_n, cunr_x, cunr_r, cunr_p, List.any_cons, List.any_nil, List.flatten_cons, List.flatten_nil, List.replicate_succ, List.replicate_zero, Bool.or_false, Bool.false_or, List.flatMap_cons, List.flatMap_nil, ne_eq, not_true_eq_false]) | (with_reducible refine wgd_cases ?_ ?_ <;> intro hb) | (with_reducible refine wcond_cases ?_ ?_ <;> intro hb) | (with_reducible refine W_itn_cases ?_ ?_; omega))
      refine RDoes.still h hS (by omega) fun i hi => ?_
      simp (disch := omega) only [upds, upd, List.foldl_cons, List.foldl_nil, if_neg]
      rw [k3 i (by omega), k2 i (by omega), k1 i (by omega)]
    | true =>
      rw [if_neg (by simp)]
      repeat' (first | (simp -implicitDefEqProofs only [ze, zd, zr, simprocAttr, LR_pl, LR_hp, LR_hm, cunr_n, cunr_x, cunr_r, cunr_p, List.any_cons, List.any_nil, List.flatten_cons, List.flatten_nil, List.replicate_succ, List.replicate_zero, Bool.or_false, Bool.false_or, List.flatMap_cons, List.flatMap_nil, ne_eq, not_true_eq_false]) | (with_reducible refine wgd_cases ?_ ?_ <;> intro hb) | (with_reducible refine wcond_cases ?_ ?_ <;> intro hb) | (with_reducible refine W_itn_cases ?_ ?_; omega))
      refine W_hp (rnote_ok (hq3.mono (S' := S) (fun _ h => h) (fun j hj => ?_)) (fun j hj => by have := hS j hj; omega) hl 9 e u q) ?_
      · have := hS j hj
        have a1 : ¬ j = nx2 + 48 := by omega
        simp [upd, a1]
      rintro _ ⟨st4, nx4, rfl, hn4, ⟨vn', vf', va', ve', h4⟩, hkp⟩
      have ecell : st4 (nx2 + 48) = some (.cells [.i64 q.1, .i64 q.2]) := by
        rw [hkp _ (by omega) (fun h => by have := hS _ h; omega)]; simp [upd]
      rcases h4.rows with ⟨z0', _⟩ | ⟨z0', n', f', g', t1, t2, t3, r1, rfl, rfl, rfl, r5, r6, r7⟩
      · simp only at z0'; rw [z0'] at hil; simp at hil
      · have kf : k ≠ f' := fun q => by subst q; rw [h4.hk] at r6; cases r6
        have kg : k ≠ g' := fun q => by subst q; rw [h4.hk] at r7; cases r7
        have fg : f' ≠ g' := fun q => by subst q; rw [r6] at r7; cases r7
        have i1 : (k = f') = False := eq_false kf
        have i2 : (f' = k) = False := eq_false (Ne.symm kf)
        have i3 : (g' = f') = False := eq_false (Ne.symm fg)
        have i4 : (f' = g') = False := eq_false fg
        have i5 : (nx2 + 48 = f') = False := eq_false (fun q => by rw [q, r6] at ecell; cases ecell)
        have i6 : (f' = nx2 + 48) = False := eq_false (fun q => by rw [← q, r6] at ecell; cases ecell)
        have lx1 : i * 2 + 2 ≤ (a.fs.flatMap perC).length := by rw [perC_len, lf]; omega
        have la1 : i + 1 ≤ (a.ak.map V.str).length := by rw [List.length_map]; omega
        have hii : (0 : Int) ≤ i ∧ (i : Int) < a.nm.length := ⟨by omega, by omega⟩
        repeat' (first | (simp -implicitDefEqProofs only [ze, zd, zr, simprocAttr, LR_pl, LR_hp, LR_hm, cunr_n, cunr_x, cunr_r, cunr_p, List.any_cons, List.any_nil, List.flatten_cons, List.flatten_nil, List.replicate_succ, List.replicate_zero, Bool.or_false, Bool.false_or, List.flatMap_cons, List.flatMap_nil, h4.hk, r6, r7, ecell, i1, i2, i3, i4, i5, i6, lx1, la1, hii, Nat.zero_add, Nat.mul_one, ne_eq, not_true_eq_false]) | (with_reducible refine wgd_cases ?_ ?_ <;> intro hb) | (with_reducible refine wcond_cases ?_ ?_ <;> intro hb) | (with_reducible refine W_itn_cases ?_ ?_; omega))
        refine rset_fin (fs' := a.fs) (ak' := a.ak.set i u) h4 z0' t1 t2 t3 r1 r5 ⟨_, _, r6⟩ ⟨_, _, r7⟩ (fun j hj => hj.imp id fun q => ⟨by omega, by omega⟩) (by omega) (fun j hj hs => ?_) ?_ ?_ (fun j h1 h2 => ?_) lf (by rw [List.length_set]; exact la)
        · rw [hkp j (by omega) hs]
          have a1 : ¬ j = nx2 + 48 := by omega
          simp [upd, a1]
          rw [k3 j (by omega), k2 j (by omega), k1 j (by omega)]
        · simp [upd, i4]; exact r6
        · have := str_set a.ak i u (by omega)
          simp [upd, ← this]
        · simp [upd, h2]
  · have g0 : decide (whoR a e u = 0) = false := decide_eq_false h0
    have ec : askR a e u = (a, whoR a e u) := by unfold askR; rw [if_pos h0]
    rw [ec]
    repeat' (first | (simp -implicitDefEqProofs only [ze, zd, zr, simprocAttr, LR_pl, LR_hp, LR_hm, cunr_n, cunr_x, cunr_r, cunr_p, List.any_cons, List.any_nil, List.flatten_cons, List.flatten_nil, List.replicate_succ, List.replicate_zero, Bool.or_false, Bool.false_or, List.flatMap_cons, List.flatMap_nil, g0, ne_eq, not_true_eq_false]) | (with_reducible refine wgd_cases ?_ ?_ <;> intro hb) | (with_reducible refine wcond_cases ?_ ?_ <;> intro hb) | (with_reducible refine W_itn_cases ?_ ?_; omega))
    refine RDoes.still h hS (by omega) fun i hi => ?_
    rw [k1 i (by omega)]
theorem rreopen_ok {k : Nat} {a : RLk} {S : Nat → Prop} {st : St} {nx : Nat} (h : RLK k a S st) (hS : ∀ i, S i → i < nx) (hln : a.nm.length ≤ 1000000) (hl : a.ev.length ≤ 1000000) (e u : ByteArray) (hu : u.size < 4611686018427387904) :
    W (L.hp 38 [.ptr k 0, .str e, .str u] st nx) (Does S st nx (.i64 (reopenR a e u).2) (RLK k (reopenR a e u).1)) := by
  refine hp_r k38_eq ?_
  simp only [k38]
  repeat' (first | (simp -implicitDefEqProofs only [ze, zd, zr, simprocAttr, LR_pl, LR_hp, LR_hm, cunr_n, cunr_x, cunr_r, cunr_p, List.any_cons, List.any_nil, List.flatten_cons, List.flatten_nil, List.replicate_succ, List.replicate_zero, Bool.or_false, Bool.false_or, List.flatMap_cons, List.flatMap_nil]) | (with_reducible refine wgd_cases ?_ ?_ <;> intro hb) | (with_reducible refine wcond_cases ?_ ?_ <;> intro hb) | (with_reducible refine W_itn_cases ?_ ?_; omega))
  refine W_hp (rwho_ok h (fun i hi => by have := hS i hi; omega) hln e u hu) ?_
  rintro _ ⟨st1, nx1, rfl, h1, k1⟩
  by_cases h0 : whoR a e u = 0
  · obtain ⟨i, hi⟩ := whoR_zero h0
    have hq1 := h.mono (S' := S) (st' := st1) (fun _ h => h) (fun i hi => k1 i (by have := hS i hi; omega))
    have lf : a.fs.length = a.nm.length := by obtain ⟨_, _, _, _, q⟩ := h; exact q.lf
    have la : a.ak.length = a.nm.length := by obtain ⟨_, _, _, _, q⟩ := h; exact q.la
    obtain ⟨hil, hg⟩ := fs_get lf hi
    have g0 : decide (whoR a e u = 0) = true := decide_eq_true h0
    repeat' (first | (simp -implicitDefEqProofs only [ze, zd, zr, simprocAttr, LR_pl, LR_hp, LR_hm, cunr_n, cunr_x, cunr_r, cunr_p, List.any_cons, List.any_nil, List.flatten_cons, List.flatten_nil, List.replicate_succ, List.replicate_zero, Bool.or_false, Bool.false_or, List.flatMap_cons, List.flatMap_nil, g0]) | (with_reducible refine wgd_cases ?_ ?_ <;> intro hb) | (with_reducible refine wcond_cases ?_ ?_ <;> intro hb) | (with_reducible refine W_itn_cases ?_ ?_; omega))
    refine W_hp (rat_ok hq1 hln e) ?_
    rintro _ ⟨st2, nx2, rfl, h2, k2⟩
    rw [atZ_some hi]
    have hc : reopenR a e u = if a.ak.getD i ⟨#[]⟩ = ⟨#[]⟩ then (a, 18) else if a.ak.getD i ⟨#[]⟩ = u then (a, 19) else ({ a with ev := a.ev ++ [⟨10, e, (lastR a i).1, u⟩], fs := a.fs.set i (lastR a i).1, ak := a.ak.set i ⟨#[]⟩ }, 0) := by
      unfold reopenR; rw [if_neg (by simp [h0]), hi]
    rw [hc]
    have hq := hq1.mono (S' := S) (st' := st2) (fun _ h => h) (fun i hi => k2 i (by have := hS i hi; omega))
    have hqq := hq
    obtain ⟨vn, vf, va, ve, hqp⟩ := hqq
    have hga : a.ak[i]? = some (a.ak.getD i ⟨#[]⟩) := by
      rw [List.getD_eq_getElem?_getD, List.getElem?_eq_getElem (by omega)]; rfl
    generalize a.ak.getD i ⟨#[]⟩ = v at hga
    have hga2 : (a.ak.map V.str)[i]? = some (.str v) := by rw [List.getElem?_map, hga]; rfl
    have hii0 : (0 : Int) ≤ i ∧ (i : Int) < a.nm.length := ⟨by omega, by omega⟩
    rcases hqp.rows with ⟨z0, _⟩ | ⟨z0, nn, fi, g, s1, s2, s3, q1, rfl, rfl, rfl, q5, q6, q7⟩
    · rw [z0] at hil; simp at hil
    · by_cases hv0 : v = ⟨#[]⟩
      · have g1 : decide (v = ⟨#[]⟩) = true := decide_eq_true hv0
        rw [if_pos hv0]
        repeat' (first | (simp -implicitDefEqProofs only [ze, zd, zr, simprocAttr, LR_pl, LR_hp, LR_hm, cunr_n, cunr_x, cunr_r, cunr_p, List.any_cons, List.any_nil, List.flatten_cons, List.flatten_nil, List.replicate_succ, List.replicate_zero, Bool.or_false, Bool.false_or, List.flatMap_cons, List.flatMap_nil, hqp.hk, q7, hga2, hga, hii0, g1, Nat.zero_add, Nat.mul_one, ne_eq, not_true_eq_false]) | (with_reducible refine wgd_cases ?_ ?_ <;> intro hb) | (with_reducible refine wcond_cases ?_ ?_ <;> intro hb) | (with_reducible refine W_itn_cases ?_ ?_; omega))
        refine RDoes.still h hS (by omega) fun i hi => ?_
        rw [k2 i (by omega), k1 i (by omega)]
      · have g1 : decide (v = ⟨#[]⟩) = false := decide_eq_false hv0
        rw [if_neg hv0]
        by_cases hvu : v = u
        · have g2 : decide (v = u) = true := decide_eq_true hvu
          rw [if_pos hvu]
          repeat' (first | (simp -implicitDefEqProofs only [ze, zd, zr, simprocAttr, LR_pl, LR_hp, LR_hm, cunr_n, cunr_x, cunr_r, cunr_p, List.any_cons, List.any_nil, List.flatten_cons, List.flatten_nil, List.replicate_succ, List.replicate_zero, Bool.or_false, Bool.false_or, List.flatMap_cons, List.flatMap_nil, hqp.hk, q7, hga2, hga, hii0, g1, g2, Nat.zero_add, Nat.mul_one, ne_eq, not_true_eq_false]) | (with_reducible refine wgd_cases ?_ ?_ <;> intro hb) | (with_reducible refine wcond_cases ?_ ?_ <;> intro hb) | (with_reducible refine W_itn_cases ?_ ?_; omega))
          refine RDoes.still h hS (by omega) fun i hi => ?_
          rw [k2 i (by omega), k1 i (by omega)]
        · have g2 : decide (v = u) = false := decide_eq_false hvu
          rw [if_neg hvu]
          repeat' (first | (simp -implicitDefEqProofs only [ze, zd, zr, simprocAttr, LR_pl, LR_hp, LR_hm, cunr_n, cunr_x, cunr_r, cunr_p, List.any_cons, List.any_nil, List.flatten_cons, List.flatten_nil, List.replicate_succ, List.replicate_zero, Bool.or_false, Bool.false_or, List.flatMap_cons, List.flatMap_nil, hqp.hk, q7, hga2, hga, hii0, g1, g2, Nat.zero_add, Nat.mul_one, ne_eq, not_true_eq_false]) | (with_reducible refine wgd_cases ?_ ?_ <;> intro hb) | (with_reducible refine wcond_cases ?_ ?_ <;> intro hb) | (with_reducible refine W_itn_cases ?_ ?_; omega))
          refine W_hp (rlast_ok hq (fun j hj => by have := hS j hj; omega) i hil) ?_
          rintro _ ⟨st3, nx3, rfl, h3, k3⟩
          have hq3 := hq.mono (S' := S) (st' := st3) (fun _ h => h) (fun i hi => k3 i (by have := hS i hi; omega))
          generalize lastR a i = q
          obtain ⟨q, ok⟩ := q
          repeat' (first | (simp -implicitDefEqProofs only [ze, zd, zr, simprocAttr, LR_pl, LR_hp, LR_hm, cunr_n, cunr_x, cunr_r, cunr_p, List.any_cons, List.any_nil, List.flatten_cons, List.flatten_nil, List.replicate_succ, List.replicate_zero, Bool.or_false, Bool.false_or, List.flatMap_cons, List.flatMap_nil, ne_eq, not_true_eq_false]) | (with_reducible refine wgd_cases ?_ ?_ <;> intro hb) | (with_reducible refine wcond_cases ?_ ?_ <;> intro hb) | (with_reducible refine W_itn_cases ?_ ?_; omega))
          refine W_hp (rnote_ok (hq3.mono (S' := S) (fun _ h => h) (fun j hj => ?_)) (fun j hj => by have := hS j hj; omega) hl 10 e u q) ?_
          · have := hS j hj
            have a1 : ¬ j = nx2 + 184 := by omega
            simp [upd, a1]
          rintro _ ⟨st4, nx4, rfl, hn4, ⟨vn', vf', va', ve', h4⟩, hkp⟩
          have ecell : st4 (nx2 + 184) = some (.cells [.i64 q.1, .i64 q.2]) := by
            rw [hkp _ (by omega) (fun h => by have := hS _ h; omega)]; simp [upd]
          rcases h4.rows with ⟨z0', _⟩ | ⟨z0', n', f', g', t1, t2, t3, r1, rfl, rfl, rfl, r5, r6, r7⟩
          · simp only at z0'; rw [z0'] at hil; simp at hil
          · have kf : k ≠ f' := fun q => by subst q; rw [h4.hk] at r6; cases r6
            have kg : k ≠ g' := fun q => by subst q; rw [h4.hk] at r7; cases r7
            have fg : f' ≠ g' := fun q => by subst q; rw [r6] at r7; cases r7
            have i1 : (k = f') = False := eq_false kf
            have i2 : (f' = k) = False := eq_false (Ne.symm kf)
            have i3 : (g' = f') = False := eq_false (Ne.symm fg)
            have i4 : (f' = g') = False := eq_false fg
            have i5 : (nx2 + 184 = f') = False := eq_false (fun q => by rw [q, r6] at ecell; cases ecell)
            have i6 : (f' = nx2 + 184) = False := eq_false (fun q => by rw [← q, r6] at ecell; cases ecell)
            have lx1 : i * 2 + 2 ≤ (a.fs.flatMap perC).length := by rw [perC_len, lf]; omega
            have la1 : i + 1 ≤ (a.ak.map V.str).length := by rw [List.length_map]; omega
            have hii : (0 : Int) ≤ i ∧ (i : Int) < a.nm.length := ⟨by omega, by omega⟩
            repeat' (first | (simp -implicitDefEqProofs only [ze, zd, zr, simprocAttr, LR_pl, LR_hp, LR_hm, cunr_n, cunr_x, cunr_r, cunr_p, List.any_cons, List.any_nil, List.flatten_cons, List.flatten_nil, List.replicate_succ, List.replicate_zero, Bool.or_false, Bool.false_or, List.flatMap_cons, List.flatMap_nil, h4.hk, r6, r7, ecell, i1, i2, i3, i4, i5, i6, lx1, la1, hii, Nat.zero_add, Nat.mul_one, ne_eq, not_true_eq_false]) | (with_reducible refine wgd_cases ?_ ?_ <;> intro hb) | (with_reducible refine wcond_cases ?_ ?_ <;> intro hb) | (with_reducible refine W_itn_cases ?_ ?_; omega))
            refine qd_i (by simp [recsOk, ordB, Rec.free, Rec.wr, disj, List.range, List.range.loop, i1, i2, i3, i4, i5, i6]; try (repeat' (first | apply And.intro | decide | omega | (left; decide) | (right; omega)))) ?_
            repeat' (first | (simp -implicitDefEqProofs only [ze, zd, zr, simprocAttr, LR_pl, LR_hp, LR_hm, cunr_n, cunr_x, cunr_r, cunr_p, List.any_cons, List.any_nil, List.flatten_cons, List.flatten_nil, List.replicate_succ, List.replicate_zero, Bool.or_false, Bool.false_or, List.flatMap_cons, List.flatMap_nil, h4.hk, r6, r7, ecell, i1, i2, i3, i4, i5, i6, lx1, la1, hii, Nat.zero_add, Nat.mul_one, ne_eq, not_true_eq_false]) | (with_reducible refine wgd_cases ?_ ?_ <;> intro hb) | (with_reducible refine wcond_cases ?_ ?_ <;> intro hb) | (with_reducible refine W_itn_cases ?_ ?_; omega))
            refine rset_fin (fs' := a.fs.set i q) (ak' := a.ak.set i ⟨#[]⟩) h4 z0' t1 t2 t3 r1 r5 ⟨_, _, r6⟩ ⟨_, _, r7⟩ (fun j hj => hj.imp id fun q => ⟨by omega, by omega⟩) (by omega) (fun j hj hs => ?_) ?_ ?_ (fun j h1 h2 => ?_) (by rw [List.length_set]; exact lf) (by rw [List.length_set]; exact la)
            · rw [hkp j (by omega) hs]
              have a1 : ¬ j = nx2 + 184 := by omega
              simp [upd, a1]
              rw [k3 j (by omega), k2 j (by omega), k1 j (by omega)]
            · have := perC_set a.fs i q (by omega)
              simp [upd, i4, ← this]
            · have := str_set a.ak i ⟨#[]⟩ (by omega)
              simp [upd, ← this]
            · simp [upd, h1, h2]
  · have g0 : decide (whoR a e u = 0) = false := decide_eq_false h0
    have ec : reopenR a e u = (a, whoR a e u) := by unfold reopenR; rw [if_pos h0]
    rw [ec]
    repeat' (first | (simp -implicitDefEqProofs only [ze, zd, zr, simprocAttr, LR_pl, LR_hp, LR_hm, cunr_n, cunr_x, cunr_r, cunr_p, List.any_cons, List.any_nil, List.flatten_cons, List.flatten_nil, List.replicate_succ, List.replicate_zero, Bool.or_false, Bool.false_or, List.flatMap_cons, List.flatMap_nil, g0, ne_eq, not_true_eq_false]) | (with_reducible refine wgd_cases ?_ ?_ <;> intro hb) | (with_reducible refine wcond_cases ?_ ?_ <;> intro hb) | (with_reducible refine W_itn_cases ?_ ?_; omega))
    refine RDoes.still h hS (by omega) fun i hi => ?_
    rw [k1 i (by omega)]
end Go.Proofs.YthgmhlpjbednpaaDoor.Vm
set_option maxRecDepth 10000
set_option linter.unusedVariables false
set_option linter.unusedSimpArgs false
namespace Go.Proofs.YthgmhlpjbednpaaDoor.Vm
open Go Go.Proofs
def wantK (a : RLk) (o : Op) : RLk × Int := if o.act % 3 = 0 then closeR a o.ent o.usr else if o.act % 3 = 1 then askR a o.ent o.usr else reopenR a o.ent o.usr
theorem want_ok {k : Nat} {a : RLk} {S : Nat → Prop} {st : St} {nx : Nat} (h : RLK k a S st) (hS : ∀ i, S i → i < nx) (hln : a.nm.length ≤ 1000000) (hl : a.ev.length ≤ 1000000) (o : Op) (ho : 0 ≤ o.act) (hu : o.usr.size < 4611686018427387904) :
    W (L.hp 14 [.ptr k 0, encOp o] st nx) (Does S st nx (.i64 (wantK a o).2) (RLK k (wantK a o).1)) := by
  refine hp_r k14_eq ?_
  simp only [k14, encOp]
  have hm : o.act.tmod 3 = o.act % 3 := Int.tmod_eq_emod_of_nonneg ho
  have h2 : RLK k a S (upd st nx (some (.cells [.sc (.int .u8 o.act), .str o.ent, .str o.usr]))) := by
    refine h.mono (S' := S) (fun _ h => h) fun i hi => ?_
    have := hS i hi
    have h9 : ¬ i = nx := by omega
    simp [upd, h9]
  have fin : ∀ {st' : St} {nx2 : Nat} {v : V} {b : RLk} {r : HR}, nx ≤ nx2 → Does S (upd st nx (some (.cells [.sc (.int .u8 o.act), .str o.ent, .str o.usr]))) nx2 v (RLK k b) r → ∃ st' nx', r = .ret v st' nx' ∧ nx ≤ nx' ∧ RLK k b (grown S nx nx') st' ∧ KeepS S nx st st' := by
    rintro st' nx2 v b r hn ⟨st3, nx3, rfl, h3, h4, h5⟩
    refine ⟨st3, nx3, rfl, by omega, h4.mono (fun i hi => hi.imp id fun q => ⟨by omega, q.2⟩) (fun _ _ => rfl), fun i hi hs => ?_⟩
    rw [h5 i (by omega) hs]
    have : ¬ i = nx := by omega
    simp [upd, this]
  by_cases c0 : o.act % 3 = 0
  · have g0 : decide (o.act % 3 = 0) = true := decide_eq_true c0
    have ea : wantK a o = closeR a o.ent o.usr := by unfold wantK; rw [if_pos c0]
    rw [ea]
    repeat' (first | (simp -implicitDefEqProofs only [ze, zd, zr, simprocAttr, LR_pl, LR_hp, LR_hm, cunr_n, cunr_x, cunr_r, cunr_p, List.any_cons, List.any_nil, List.flatten_cons, List.flatten_nil, List.replicate_succ, List.replicate_zero, Bool.or_false, Bool.false_or, List.flatMap_cons, List.flatMap_nil, hm, g0]) | (with_reducible refine wgd_cases ?_ ?_ <;> intro hb) | (with_reducible refine wcond_cases ?_ ?_ <;> intro hb) | (with_reducible refine W_itn_cases ?_ ?_; omega))
    refine W_hp (rclose_ok h2 (fun i hi => by have := hS i hi; omega) hln hl o.ent o.usr hu) ?_
    intro r hr
    obtain ⟨st3, nx3, rfl, h3, h4, h5⟩ := fin (st' := st) (by omega) hr
    repeat' (first | (simp -implicitDefEqProofs only [ze, zd, zr, simprocAttr, LR_pl, LR_hp, LR_hm, cunr_n, cunr_x, cunr_r, cunr_p, List.any_cons, List.any_nil, List.flatten_cons, List.flatten_nil, List.replicate_succ, List.replicate_zero, Bool.or_false, Bool.false_or, List.flatMap_cons, List.flatMap_nil]) | (with_reducible refine wgd_cases ?_ ?_ <;> intro hb) | (with_reducible refine wcond_cases ?_ ?_ <;> intro hb) | (with_reducible refine W_itn_cases ?_ ?_; omega))
    exact ⟨_, _, rfl, by omega, h4.mono (fun i hi => hi.imp id fun q => ⟨q.1, by omega⟩) (fun _ _ => rfl), h5⟩
  · have g0 : decide (o.act % 3 = 0) = false := decide_eq_false c0
    by_cases c1 : o.act % 3 = 1
    · have g1 : decide (o.act % 3 = 1) = true := decide_eq_true c1
      have ea : wantK a o = askR a o.ent o.usr := by unfold wantK; rw [if_neg c0, if_pos c1]
      rw [ea]
      repeat' (first | (simp -implicitDefEqProofs only [ze, zd, zr, simprocAttr, LR_pl, LR_hp, LR_hm, cunr_n, cunr_x, cunr_r, cunr_p, List.any_cons, List.any_nil, List.flatten_cons, List.flatten_nil, List.replicate_succ, List.replicate_zero, Bool.or_false, Bool.false_or, List.flatMap_cons, List.flatMap_nil, hm, g0, g1]) | (with_reducible refine wgd_cases ?_ ?_ <;> intro hb) | (with_reducible refine wcond_cases ?_ ?_ <;> intro hb) | (with_reducible refine W_itn_cases ?_ ?_; omega))
      refine W_hp (rask_ok h2 (fun i hi => by have := hS i hi; omega) hln hl o.ent o.usr hu) ?_
      intro r hr
      obtain ⟨st3, nx3, rfl, h3, h4, h5⟩ := fin (st' := st) (by omega) hr
      repeat' (first | (simp -implicitDefEqProofs only [ze, zd, zr, simprocAttr, LR_pl, LR_hp, LR_hm, cunr_n, cunr_x, cunr_r, cunr_p, List.any_cons, List.any_nil, List.flatten_cons, List.flatten_nil, List.replicate_succ, List.replicate_zero, Bool.or_false, Bool.false_or, List.flatMap_cons, List.flatMap_nil]) | (with_reducible refine wgd_cases ?_ ?_ <;> intro hb) | (with_reducible refine wcond_cases ?_ ?_ <;> intro hb) | (with_reducible refine W_itn_cases ?_ ?_; omega))
      exact ⟨_, _, rfl, by omega, h4.mono (fun i hi => hi.imp id fun q => ⟨q.1, by omega⟩) (fun _ _ => rfl), h5⟩
    · have g1 : decide (o.act % 3 = 1) = false := decide_eq_false c1
      have ea : wantK a o = reopenR a o.ent o.usr := by unfold wantK; rw [if_neg c0, if_neg c1]
      rw [ea]
      repeat' (first | (simp -implicitDefEqProofs only [ze, zd, zr, simprocAttr, LR_pl, LR_hp, LR_hm, cunr_n, cunr_x, cunr_r, cunr_p, List.any_cons, List.any_nil, List.flatten_cons, List.flatten_nil, List.replicate_succ, List.replicate_zero, Bool.or_false, Bool.false_or, List.flatMap_cons, List.flatMap_nil, hm, g0, g1]) | (with_reducible refine wgd_cases ?_ ?_ <;> intro hb) | (with_reducible refine wcond_cases ?_ ?_ <;> intro hb) | (with_reducible refine W_itn_cases ?_ ?_; omega))
      refine W_hp (rreopen_ok h2 (fun i hi => by have := hS i hi; omega) hln hl o.ent o.usr hu) ?_
      intro r hr
      obtain ⟨st3, nx3, rfl, h3, h4, h5⟩ := fin (st' := st) (by omega) hr
      repeat' (first | (simp -implicitDefEqProofs only [ze, zd, zr, simprocAttr, LR_pl, LR_hp, LR_hm, cunr_n, cunr_x, cunr_r, cunr_p, List.any_cons, List.any_nil, List.flatten_cons, List.flatten_nil, List.replicate_succ, List.replicate_zero, Bool.or_false, Bool.false_or, List.flatMap_cons, List.flatMap_nil]) | (with_reducible refine wgd_cases ?_ ?_ <;> intro hb) | (with_reducible refine wcond_cases ?_ ?_ <;> intro hb) | (with_reducible refine W_itn_cases ?_ ?_; omega))
      exact ⟨_, _, rfl, by omega, h4.mono (fun i hi => hi.imp id fun q => ⟨q.1, by omega⟩) (fun _ _ => rfl), h5⟩
end Go.Proofs.YthgmhlpjbednpaaDoor.Vm
set_option linter.unusedVariables false
set_option linter.unusedSimpArgs false
namespace Go.Proofs.YthgmhlpjbednpaaDoor.Vm
open Go Go.Proofs
def TwoAt (l : List Ev) (i : Nat) (x : Ev) : Prop := ∃ (j : Nat) (y : Ev), j < i ∧ l[j]? = some y ∧ y.e = x.e ∧ (∀ (m : Nat) (z : Ev), j < m → m < i → l[m]? = some z → z.e ≠ x.e) ∧ y.k = 9 ∧ y.u ≠ x.u ∧ y.p = x.p
def TwoOk (l : List Ev) : Prop := ∀ (i : Nat) (x : Ev), l[i]? = some x → x.k = 10 → TwoAt l i x
def LastAsk (l : List Ev) (e v : ByteArray) (p : Int × Int) : Prop := ∃ (j : Nat) (y : Ev), l[j]? = some y ∧ y.e = e ∧ (∀ (m : Nat) (z : Ev), j < m → l[m]? = some z → z.e ≠ e) ∧ y.k = 9 ∧ y.u = v ∧ y.p = p
structure TwoInv (a : Lk) : Prop where
  ok : TwoOk a.ev
  nd : (a.ak.map (·.1)).Nodup
  la : ∀ e v, aget a.ak e = some v → ∃ p0, aget a.op e = some p0 ∧ LastAsk a.ev e v (prevP a.c p0.1 p0.2).1
theorem get_app_lt {α : Type} {l : List α} {x y : α} {j : Nat} (h : l[j]? = some y) : (l ++ [x])[j]? = some y := by
  rw [List.getElem?_append_left (List.getElem?_eq_some_iff.1 h).1]; exact h
theorem get_app_inv {α : Type} {l : List α} {x y : α} {j : Nat} (h : (l ++ [x])[j]? = some y) : l[j]? = some y ∨ (j = l.length ∧ y = x) := by
  by_cases hj : j < l.length
  · rw [List.getElem?_append_left hj] at h; exact .inl h
  · rw [List.getElem?_append_right (by omega)] at h
    have h1 := (List.getElem?_eq_some_iff.1 h).1
    simp at h1
    have : j = l.length := by omega
    subst this
    simp at h
    exact .inr ⟨rfl, h.symm⟩
theorem TwoOk.app {l : List Ev} {x : Ev} (h : TwoOk l) (hx : x.k = 10 → TwoAt l l.length x) : TwoOk (l ++ [x]) := by
  have lift : ∀ i z, i ≤ l.length → TwoAt l i z → TwoAt (l ++ [x]) i z := by
    rintro i z hi ⟨j, y, h1, h2, h3, h4, h5⟩
    refine ⟨j, y, h1, get_app_lt h2, h3, fun m w hm hm2 hw => ?_, h5⟩
    rcases get_app_inv hw with hw | ⟨hw, _⟩
    · exact h4 m w hm hm2 hw
    · omega
  intro i z hz hk
  rcases get_app_inv hz with hz | ⟨rfl, rfl⟩
  · exact lift i z (Nat.le_of_lt (List.getElem?_eq_some_iff.1 hz).1) (h i z hz hk)
  · exact lift _ _ (Nat.le_refl _) (hx hk)
theorem LastAsk.app {l : List Ev} {e v : ByteArray} {p : Int × Int} {x : Ev} (h : LastAsk l e v p) (hx : x.e ≠ e) : LastAsk (l ++ [x]) e v p := by
  obtain ⟨j, y, h1, h2, h3, h4⟩ := h
  refine ⟨j, y, get_app_lt h1, h2, fun m z hm hz => ?_, h4⟩
  rcases get_app_inv hz with hz | ⟨_, rfl⟩
  · exact h3 m z hm hz
  · exact hx
theorem LastAsk.new (l : List Ev) (e u : ByteArray) (p : Int × Int) : LastAsk (l ++ [⟨9, e, p, u⟩]) e u p := by
  refine ⟨l.length, ⟨9, e, p, u⟩, by simp, rfl, fun m z hm hz => ?_, rfl, rfl, rfl⟩
  have := (List.getElem?_eq_some_iff.1 hz).1
  simp at this
  omega
theorem LastAsk.two {l : List Ev} {e v u : ByteArray} {p : Int × Int} (h : LastAsk l e v p) (hu : v ≠ u) : TwoAt l l.length ⟨10, e, p, u⟩ := by
  obtain ⟨j, y, h1, h2, h3, h4, h5, h6⟩ := h
  exact ⟨j, y, (List.getElem?_eq_some_iff.1 h1).1, h1, h2, fun m z hm _ hz => h3 m z hm hz, h4, by rw [h5]; exact hu, h6⟩
theorem TwoInv.del {a : Lk} (h : TwoInv a) {e : ByteArray} {p0 q : Int × Int} (hp : aget a.op e = some p0) {x : Ev} (hx : x.e = e) (hk : x.k = 10 → TwoAt a.ev a.ev.length x) : TwoInv { a with op := aset a.op e q, ak := adel a.ak e, ev := a.ev ++ [x] } := by
  refine ⟨h.ok.app hk, h.nd.sublist adel_sub, fun e2 v hv => ?_⟩
  simp only at hv ⊢
  rw [aget_del h.nd] at hv
  by_cases he : e2 = e
  · rw [if_pos he] at hv; cases hv
  · rw [if_neg he] at hv
    obtain ⟨p1, h1, h2⟩ := h.la e2 v hv
    exact ⟨p1, by rw [aget_set, if_neg he]; exact h1, h2.app (by rw [hx]; exact fun q => he q.symm)⟩
theorem TwoInv.close {a : Lk} (h : TwoInv a) (e u : ByteArray) : TwoInv (closeK a e u).1 := by
  unfold closeK
  split
  · exact h
  · rename_i h0
    split
    · exact h
    · obtain ⟨hg, _⟩ := beginK_zero (Classical.not_not.1 h0)
      exact h.del hg rfl (fun hk => by simp at hk)
theorem TwoInv.ask {a : Lk} (h : TwoInv a) (e u : ByteArray) : TwoInv (askK a e u).1 := by
  unfold askK
  split
  · exact h
  · rename_i h0
    split
    · exact h
    · split
      · exact h
      · obtain ⟨hg, _⟩ := beginK_zero (Classical.not_not.1 h0)
        refine ⟨h.ok.app (fun hk => by simp at hk), aset_nodup h.nd, fun e2 v hv => ?_⟩
        simp only at hv ⊢
        rw [aget_set] at hv
        by_cases he : e2 = e
        · rw [if_pos he] at hv
          obtain rfl := Option.some.inj hv
          subst he
          exact ⟨_, hg, LastAsk.new ..⟩
        · rw [if_neg he] at hv
          obtain ⟨p1, h1, h2⟩ := h.la e2 v hv
          exact ⟨p1, h1, h2.app fun q => he q.symm⟩
theorem TwoInv.reopen {a : Lk} (h : TwoInv a) (e u : ByteArray) : TwoInv (reopenK a e u).1 := by
  unfold reopenK
  split
  · exact h
  · rename_i h0
    obtain ⟨hg, _⟩ := beginK_zero (Classical.not_not.1 h0)
    split
    · exact h
    · rename_i v hv
      split
      · exact h
      · rename_i hvu
        split
        · exact h
        · obtain ⟨p1, h1, h2⟩ := h.la e v hv
          rw [hg] at h1
          obtain rfl := Option.some.inj h1
          exact h.del hg rfl (fun _ => h2.two hvu)
theorem TwoInv.act {a : Lk} (h : TwoInv a) (o : Op) : TwoInv (actK a o).1 := by
  unfold actK
  split
  · exact h.close _ _
  · split
    · exact h.ask _ _
    · exact h.reopen _ _
theorem TwoInv.new (c : Int) (p : Int × Int) (l : List ByteArray) : TwoInv (newLk c p l) := ⟨fun i x hx => by simp [newLk] at hx, List.nodup_nil, fun e v hv => by simp [newLk, aget, aidx] at hv⟩
theorem actK_len (a : Lk) (o : Op) : (actK a o).1.ev.length ≤ a.ev.length + 1 := by
  unfold actK closeK askK reopenK
  repeat' split
  all_goals simp
end Go.Proofs.YthgmhlpjbednpaaDoor.Vm
set_option linter.unusedVariables false
set_option linter.unusedSimpArgs false
namespace Go.Proofs.YthgmhlpjbednpaaDoor.Vm
open Go Go.Proofs
def opR (b : RLk) (e : ByteArray) : Option (Int × Int) := (idxR b.nm e).map fun i => b.fs.getD i (0, 0)
def akR (b : RLk) (e : ByteArray) : Option ByteArray := (idxR b.nm e).bind fun i => if b.ak.getD i ⟨#[]⟩ = ⟨#[]⟩ then none else some (b.ak.getD i ⟨#[]⟩)
structure KRel (a : Lk) (b : RLk) : Prop where
  c : a.c = b.c
  s : a.s = b.s
  ev : a.ev = b.ev
  op : ∀ e, aget a.op e = opR b e
  ak : ∀ e, aget a.ak e = akR b e
  nd : (a.ak.map (·.1)).Nodup
  lf : b.fs.length = b.nm.length
  la : b.ak.length = b.nm.length
  asked : ∀ e v, aget a.ak e = some v → ∃ p, aget a.op e = some p ∧ p ≠ a.s ∧ (prevP a.c p.1 p.2).2 = 0
theorem KRel.first {a : Lk} {b : RLk} (h : KRel a b) (e : ByteArray) : firstK a e = firstR b e := by
  unfold firstK firstR
  rw [h.op e]
  unfold opR
  cases idxR b.nm e <;> rfl
theorem KRel.begin {a : Lk} {b : RLk} (h : KRel a b) (e u : ByteArray) : (beginK a e u).2 = whoR b e u ∧ (whoR b e u = 0 → ∃ i, idxR b.nm e = some i ∧ (beginK a e u).1 = b.fs.getD i (0, 0) ∧ codeS u = true) := by
  unfold beginK whoR
  rw [h.first e]
  unfold firstR
  cases hi : idxR b.nm e with
  | none => simp
  | some i =>
    cases hu : codeS u with
    | true => simp
    | false => simp
theorem codeS_ne {u : ByteArray} (h : codeS u = true) : u ≠ ⟨#[]⟩ := by
  intro q
  subst q
  simp only [codeS, Bool.and_eq_true, decide_eq_true_eq] at h
  exact absurd h.1.1 (by decide)
theorem idx_ne {l : List ByteArray} {e e2 : ByteArray} {i j : Nat} (hi : idxR l e = some i) (hj : idxR l e2 = some j) (hne : e2 ≠ e) : i ≠ j := by
  intro q
  subst q
  have h1 := idxR_get hi
  have h2 := idxR_get hj
  rw [h1] at h2
  exact hne (Option.some.inj h2).symm
theorem getD_set {α : Type} (l : List α) (i j : Nat) (v d : α) (hi : i < l.length) : (l.set i v).getD j d = if i = j then v else l.getD j d := by
  rw [List.getD_eq_getElem?_getD, List.getElem?_set, List.getD_eq_getElem?_getD]
  split
  · rename_i h; subst h; simp [hi]
  · rfl
theorem KRel.set {a : Lk} {b : RLk} (h : KRel a b) {e : ByteArray} {i : Nat} (hi : idxR b.nm e = some i) (q : Int × Int) (x : Ev) :
    KRel { a with op := aset a.op e q, ak := adel a.ak e, ev := a.ev ++ [x] } { b with ev := b.ev ++ [x], fs := b.fs.set i q, ak := b.ak.set i ⟨#[]⟩ } := by
  have hil : i < b.nm.length := (List.getElem?_eq_some_iff.1 (idxR_get hi)).1
  refine ⟨h.c, h.s, by simp [h.ev], fun e2 => ?_, fun e2 => ?_, h.nd.sublist adel_sub, by simp [h.lf], by simp [h.la], fun e2 v hv => ?_⟩
  · simp only [opR]
    rw [aget_set]
    by_cases he : e2 = e
    · subst he; rw [if_pos rfl, hi, Option.map_some, getD_set _ _ _ _ _ (by rw [h.lf]; exact hil), if_pos rfl]
    · rw [if_neg he, h.op e2]
      unfold opR
      cases hj : idxR b.nm e2 with
      | none => rfl
      | some j => rw [Option.map_some, Option.map_some, getD_set _ _ _ _ _ (by rw [h.lf]; exact hil), if_neg (idx_ne hi hj he)]
  · simp only [akR]
    rw [aget_del h.nd]
    by_cases he : e2 = e
    · subst he; rw [if_pos rfl, hi, Option.bind_some, getD_set _ _ _ _ _ (by rw [h.la]; exact hil), if_pos rfl, if_pos rfl]
    · rw [if_neg he, h.ak e2]
      unfold akR
      cases hj : idxR b.nm e2 with
      | none => rfl
      | some j => rw [Option.bind_some, Option.bind_some, getD_set _ _ _ _ _ (by rw [h.la]; exact hil), if_neg (idx_ne hi hj he)]
  · simp only at hv ⊢
    rw [aget_del h.nd] at hv
    by_cases he : e2 = e
    · rw [if_pos he] at hv; cases hv
    · rw [if_neg he] at hv
      obtain ⟨p, h1, h2⟩ := h.asked e2 v hv
      exact ⟨p, by rw [aget_set, if_neg he]; exact h1, h2⟩
theorem KRel.close {a : Lk} {b : RLk} (h : KRel a b) (e u : ByteArray) : (closeK a e u).2 = (closeR b e u).2 ∧ KRel (closeK a e u).1 (closeR b e u).1 := by
  obtain ⟨h1, h2⟩ := h.begin e u
  unfold closeK closeR
  rw [h1]
  by_cases h0 : whoR b e u = 0
  · obtain ⟨i, hi, hp, _⟩ := h2 h0
    have h0' : ¬ (whoR b e u ≠ 0) := by simp [h0]
    rw [if_neg h0', if_neg h0', hi, hp, h.c]
    dsimp only
    by_cases hq : (nextP b.c (b.fs.getD i (0, 0)).1 (b.fs.getD i (0, 0)).2).2 ≠ 0
    · rw [if_pos hq, if_pos hq]; exact ⟨rfl, h⟩
    · rw [if_neg hq, if_neg hq]
      refine ⟨rfl, ?_⟩
      have := h.set hi (nextP b.c (b.fs.getD i (0, 0)).1 (b.fs.getD i (0, 0)).2).1 ⟨8, e, b.fs.getD i (0, 0), u⟩
      rw [h.c] at this
      exact this
  · rw [if_pos h0, if_pos h0]; exact ⟨rfl, h⟩
theorem KRel.ask {a : Lk} {b : RLk} (h : KRel a b) (e u : ByteArray) : (askK a e u).2 = (askR b e u).2 ∧ KRel (askK a e u).1 (askR b e u).1 := by
  obtain ⟨h1, h2⟩ := h.begin e u
  unfold askK askR
  rw [h1]
  by_cases h0 : whoR b e u = 0
  · obtain ⟨i, hi, hp, hu⟩ := h2 h0
    have hil : i < b.nm.length := (List.getElem?_eq_some_iff.1 (idxR_get hi)).1
    have h0' : ¬ (whoR b e u ≠ 0) := by simp [h0]
    rw [if_neg h0', if_neg h0', hi, hp, h.c, h.s]
    dsimp only
    unfold lastR
    by_cases hs : b.fs.getD i (0, 0) = b.s
    · simp only [if_pos hs]; exact ⟨rfl, h⟩
    · simp only [if_neg hs]
      by_cases hq : (prevP b.c (b.fs.getD i (0, 0)).1 (b.fs.getD i (0, 0)).2).2 = 0
      · have hq1 : ¬ ((prevP b.c (b.fs.getD i (0, 0)).1 (b.fs.getD i (0, 0)).2).2 ≠ 0) := fun z => z hq
        have hq2 : ¬ (decide ((prevP b.c (b.fs.getD i (0, 0)).1 (b.fs.getD i (0, 0)).2).2 = 0) = false) := by rw [decide_eq_true hq]; decide
        rw [if_neg hq1, if_neg hq2]
        refine ⟨rfl, ⟨by first | rfl | exact h.c, by first | rfl | exact h.s, by simp [h.ev], fun e2 => ?_, fun e2 => ?_, aset_nodup h.nd, h.lf, by simp [h.la], fun e2 v hv => ?_⟩⟩
        · exact h.op e2
        · simp only [akR]
          rw [aget_set]
          by_cases he : e2 = e
          · subst he; rw [if_pos rfl, hi, Option.bind_some, getD_set _ _ _ _ _ (by rw [h.la]; exact hil), if_pos rfl, if_neg (codeS_ne hu)]
          · rw [if_neg he, h.ak e2]
            unfold akR
            cases hj : idxR b.nm e2 with
            | none => rfl
            | some j => rw [Option.bind_some, Option.bind_some, getD_set _ _ _ _ _ (by rw [h.la]; exact hil), if_neg (idx_ne hi hj he)]
        · simp only at hv ⊢
          rw [aget_set] at hv
          by_cases he : e2 = e
          · subst he
            refine ⟨b.fs.getD i (0, 0), ?_, hs, hq⟩
            rw [h.op e2]; unfold opR; rw [hi]; rfl
          · rw [if_neg he] at hv
            obtain ⟨p, q1, q2, q3⟩ := h.asked e2 v hv
            exact ⟨p, q1, by rw [← h.s]; exact q2, by rw [← h.c]; exact q3⟩
      · have hq2 : decide ((prevP b.c (b.fs.getD i (0, 0)).1 (b.fs.getD i (0, 0)).2).2 = 0) = false := decide_eq_false hq
        rw [if_pos hq, if_pos hq2]; exact ⟨rfl, h⟩
  · rw [if_pos h0, if_pos h0]; exact ⟨rfl, h⟩
theorem KRel.reopen {a : Lk} {b : RLk} (h : KRel a b) (e u : ByteArray) : (reopenK a e u).2 = (reopenR b e u).2 ∧ KRel (reopenK a e u).1 (reopenR b e u).1 := by
  obtain ⟨h1, h2⟩ := h.begin e u
  unfold reopenK reopenR
  rw [h1]
  by_cases h0 : whoR b e u = 0
  · obtain ⟨i, hi, hp, hu⟩ := h2 h0
    have h0' : ¬ (whoR b e u ≠ 0) := by simp [h0]
    rw [if_neg h0', if_neg h0', hi, hp]
    dsimp only
    have hak := h.ak e
    unfold akR at hak
    rw [hi, Option.bind_some] at hak
    by_cases hv : b.ak.getD i ⟨#[]⟩ = ⟨#[]⟩
    · rw [if_pos hv] at hak
      rw [hak, if_pos hv]; exact ⟨rfl, h⟩
    · rw [if_neg hv] at hak
      rw [hak, if_neg hv]
      dsimp only
      by_cases hvu : b.ak.getD i ⟨#[]⟩ = u
      · rw [if_pos hvu, if_pos hvu]; exact ⟨rfl, h⟩
      · rw [if_neg hvu, if_neg hvu]
        obtain ⟨p, q1, q2, q3⟩ := h.asked e _ hak
        have hpp : p = b.fs.getD i (0, 0) := by
          rw [h.op e] at q1; unfold opR at q1; rw [hi] at q1; exact (Option.some.inj q1).symm
        subst hpp
        have q3' : ¬ ((prevP a.c (b.fs.getD i (0, 0)).1 (b.fs.getD i (0, 0)).2).2 ≠ 0) := fun z => z q3
        rw [if_neg q3']
        have hl : (lastR b i).1 = (prevP a.c (b.fs.getD i (0, 0)).1 (b.fs.getD i (0, 0)).2).1 := by
          unfold lastR; rw [if_neg (by rw [← h.s]; exact q2), h.c]
        rw [hl]
        exact ⟨rfl, h.set hi _ _⟩
  · rw [if_pos h0, if_pos h0]; exact ⟨rfl, h⟩
theorem KRel.act {a : Lk} {b : RLk} (h : KRel a b) (o : Op) : (actK a o).2 = (wantK b o).2 ∧ KRel (actK a o).1 (wantK b o).1 := by
  unfold actK wantK
  split
  · exact h.close _ _
  · split
    · exact h.ask _ _
    · exact h.reopen _ _
theorem KRel.state {a : Lk} {b : RLk} (h : KRel a b) (e : ByteArray) (p : Int × Int) : stateK a e p = stateR b e p := by
  unfold stateK stateR; rw [h.first e, h.c]
theorem firstR_err (b : RLk) (e : ByteArray) : (firstR b e).2 = 0 ∨ (firstR b e).2 = 1 := by
  unfold firstR; split <;> simp
theorem KRel.allow {a : Lk} {b : RLk} (h : KRel a b) (e : ByteArray) (d k : Int) : allowK a e d k = allowR b e d k := by
  unfold allowK allowR
  rw [h.first e, h.c]
  rcases firstR_err b e with q | q
  · have q' : ¬ ((firstR b e).2 ≠ 0) := fun z => z q
    rw [if_neg q', if_neg q']
  · have q' : (firstR b e).2 ≠ 0 := by rw [q]; decide
    rw [if_pos q', if_pos q', q]
theorem wantK_len (b : RLk) (o : Op) : (wantK b o).1.ev.length ≤ b.ev.length + 1 ∧ (wantK b o).1.nm = b.nm := by
  unfold wantK closeR askR reopenR
  repeat' split
  all_goals simp
end Go.Proofs.YthgmhlpjbednpaaDoor.Vm
set_option maxRecDepth 10000
set_option linter.unusedVariables false
set_option linter.unusedSimpArgs false
namespace Go.Proofs.YthgmhlpjbednpaaDoor.Vm
open Go Go.Proofs
theorem upd_o {st : St} {i j : Nat} {o : Option Ob} (h : j ≠ i) : upd st i o j = st j := if_neg h
theorem upd_s {st : St} {i : Nat} {o : Option Ob} : upd st i o i = o := if_pos rfl
def rnewLk (c : Int) (p : Int × Int) (l : List ByteArray) : RLk := ⟨c, p, l, l.map fun _ => p, l.map fun _ => ⟨#[]⟩, []⟩
theorem idxR_any (s : ByteArray) (l : List ByteArray) : ((l.any fun d => decide (s = d)) = true → ∃ j, idxR l s = some j) ∧ ((l.any fun d => decide (s = d)) = false → idxR l s = none) := by
  induction l with
  | nil => exact ⟨fun h => by simp at h, fun _ => rfl⟩
  | cons d l ih =>
    simp only [List.any_cons, idxR, Bool.or_eq_true, Bool.or_eq_false_iff, decide_eq_true_eq, decide_eq_false_iff_not]
    refine ⟨fun h => ?_, fun h => ?_⟩
    · by_cases hs : d = s
      · exact ⟨0, by rw [if_pos hs]⟩
      · rw [if_neg hs]
        rcases h with h | h
        · exact absurd h.symm hs
        · obtain ⟨j, hj⟩ := ih.1 h
          exact ⟨j + 1, by rw [hj]; rfl⟩
    · rw [if_neg (fun q => h.1 q.symm), ih.2 h.2]; rfl
def RNewR (c : Int) (p : Int × Int) (l : List ByteArray) (st : St) (nx : Nat) (r : HR) : Prop :=
  (newErr c p l ≠ 0 ∧ ∃ st' nx', r = .ret (.tup [.sc (.pointer none), .i64 (newErr c p l)]) st' nx' ∧ nx ≤ nx' ∧ ∀ i, i < nx → st' i = st i) ∨
  (newErr c p l = 0 ∧ ∃ k st' nx', r = .ret (.tup [.ptr k 0, .i64 0]) st' nx' ∧ nx ≤ nx' ∧ RLK k (rnewLk c p l) (fun i => nx ≤ i ∧ i < nx') st' ∧ ∀ i, i < nx → st' i = st i)
theorem spanS_16 {c y n : Int} (h : rightC c = true) (h2 : (spanS c y n).2.2 ≠ 0) : (spanS c y n).2.2 = 16 := by
  unfold spanS at h2 ⊢
  rw [if_neg (by simp [h])] at h2 ⊢
  by_cases hx : exS c y n = false
  · rw [if_pos hx]
  · rw [if_neg hx] at h2
    split at h2 <;> exact absurd rfl h2
theorem spanS_2 {c y n : Int} (h : rightC c = false) : (spanS c y n).2.2 = 2 := by unfold spanS; rw [if_pos h]
set_option maxHeartbeats 2000000 in
theorem rnew_ok (c : Int) (p : Int × Int) (l : List ByteArray) (st : St) (nx : Nat) (hl : l.length < 4611686018427387904) (hsz : ∀ s ∈ l, s.size < 4611686018427387904) :
    W (L.hp 11 [.agg [.i64 c], .agg [.i64 p.1, .i64 p.2], .list 9 (l.map V.str) 0] st nx) (RNewR c p l st nx) := by
  refine hp_r k11_eq ?_
  simp only [k11]
  have hri := rright_ok c
  have hsp := rspan_ok c p.1 p.2
  have hE : newErr c p l = if (spanS c p.1 p.2).2.2 ≠ 0 then (spanS c p.1 p.2).2.2 else if 200 < l.length then 9 else newE [] l := rfl
  unfold RNewR
  have f1 : (nx = nx + 8) = False := eq_false (by omega)
  cases hr : rightC c with
  | false =>
    have e2 := spanS_2 (y := p.1) (n := p.2) hr
    have : newErr c p l = 2 := by rw [hE, e2]; rfl
    rw [this]
    rw [hr] at hri
    repeat' (first | (simp -implicitDefEqProofs only [ze, zd, zr, simprocAttr, LR_pl, LR_hp, LR_hm, cunr_n, cunr_x, cunr_r, cunr_p, List.any_cons, List.any_nil, List.flatten_cons, List.flatten_nil, List.replicate_succ, List.replicate_zero, Bool.or_false, Bool.false_or, List.flatMap_cons, List.flatMap_nil, hri, f1, ne_eq, not_true_eq_false]) | (with_reducible refine wgd_cases ?_ ?_ <;> intro hb) | (with_reducible refine wcond_cases ?_ ?_ <;> intro hb) | (with_reducible refine W_itn_cases ?_ ?_; omega))
    refine .inl ⟨by decide, _, _, rfl, by omega, fun i hi => ?_⟩
    simp (disch := omega) only [upds, upd, List.foldl_cons, List.foldl_nil, if_neg]
  | true =>
    rw [hr] at hri
    have e16 := spanS_16 (y := p.1) (n := p.2) hr
    rw [hE]
    generalize spanS c p.1 p.2 = s at hsp e16
    obtain ⟨s1, s2, s3⟩ := s
    simp only at e16
    by_cases h0 : s3 = 0
    · subst h0
      rw [if_neg (by simp)]
      by_cases h2 : 200 < l.length
      · have g2 : decide ((200 : Int) < (l.length : Int)) = true := decide_eq_true (by omega)
        rw [if_pos h2]
        repeat' (first | (simp -implicitDefEqProofs only [ze, zd, zr, simprocAttr, LR_pl, LR_hp, LR_hm, cunr_n, cunr_x, cunr_r, cunr_p, List.any_cons, List.any_nil, List.flatten_cons, List.flatten_nil, List.replicate_succ, List.replicate_zero, Bool.or_false, Bool.false_or, List.flatMap_cons, List.flatMap_nil, hri, hsp, f1, g2, List.length_map, ne_eq, not_true_eq_false, gt_iff_lt]) | (with_reducible refine wgd_cases ?_ ?_ <;> intro hb) | (with_reducible refine wcond_cases ?_ ?_ <;> intro hb) | (with_reducible refine W_itn_cases ?_ ?_; omega))
        refine .inl ⟨by decide, _, _, rfl, by omega, fun i hi => ?_⟩
        simp (disch := omega) only [upds, upd, List.foldl_cons, List.foldl_nil, if_neg]
      · have g2 : decide ((200 : Int) < (l.length : Int)) = false := decide_eq_false (by omega)
        rw [if_neg h2]
        repeat' (first | (simp -implicitDefEqProofs only [ze, zd, zr, simprocAttr, LR_pl, LR_hp, LR_hm, cunr_n, cunr_x, cunr_r, cunr_p, List.any_cons, List.any_nil, List.flatten_cons, List.flatten_nil, List.replicate_succ, List.replicate_zero, Bool.or_false, Bool.false_or, List.flatMap_cons, List.flatMap_nil, hri, hsp, f1, g2, List.length_map, ne_eq, not_true_eq_false, gt_iff_lt]) | (with_reducible refine wgd_cases ?_ ?_ <;> intro hb) | (with_reducible refine wcond_cases ?_ ?_ <;> intro hb) | (with_reducible refine W_itn_cases ?_ ?_; omega))
        refine loop_w (fun n tm st' nx' => ∃ (i : Nat) (vn vf va : V), n = l.length - i ∧ i ≤ l.length ∧ newE [] l = newE (l.take i) (l.drop i) ∧ tm 12 = .i64 i ∧ tm 2 = .list 9 (l.map V.str) 0 ∧ tm 11 = .ptr (nx + 200) 0 ∧ tm 4 = .ptr (nx + 8) 0 ∧ st' (nx + 8) = some (.cells [.i64 p.1, .i64 p.2]) ∧ nx + 224 ≤ nx' ∧ (∀ j, j < nx → st' j = st j) ∧
          RLKp (nx + 200) (rnewLk c p (l.take i)) (fun j => nx ≤ j ∧ j < nx') st' vn vf va (.list 0 [] 1)) _ ⟨0, .list 0 [] 1, .list 0 [] 1, .list 0 [] 1, rfl, by omega, rfl, ?_, ?_, ?_, ?_, ?_, by omega, fun j hj => ?_, ?_⟩ ?_
        · simp -implicitDefEqProofs only [ze, zd, simprocAttr]; try rfl
        · simp -implicitDefEqProofs only [ze, zd, simprocAttr]
        · simp -implicitDefEqProofs only [ze, zd, simprocAttr]
        · simp -implicitDefEqProofs only [ze, zd, simprocAttr]
        · simp [upd]
        · simp (disch := omega) only [upds, upd, List.foldl_cons, List.foldl_nil, if_neg]
        · exact ⟨by simp [upd, rnewLk], .inl ⟨rfl, rfl, rfl, rfl⟩, .inl ⟨rfl, rfl, rfl⟩, ⟨by omega, by omega⟩, rfl, rfl⟩
        rintro n tm st1 nx1 ⟨i, vn, vf, va, hn, hi, hne, h12, h2', h11, h4, h8, hnx, hst, hq⟩
        simp only [k11_l0]
        by_cases hc : i < l.length
        · have hd : decide ((i : Int) < (l.length : Int)) = true := decide_eq_true (by omega)
          obtain ⟨s, hs⟩ := get_lt hc
          have hdr : l.drop i = s :: l.drop (i + 1) := by
            rw [List.drop_eq_getElem_cons hc]
            have : l[i] = s := by have := hs; rw [List.getElem?_eq_getElem hc] at this; exact Option.some.inj this
            rw [this]
          have htk : l.take (i + 1) = l.take i ++ [s] := by rw [List.take_add_one, hs]; rfl
          have hcd := rcode_ok s (hsz s (List.mem_of_getElem? hs))
          rw [hdr, newE] at hne
          cases hcs : codeS s with
          | false =>
            rw [hcs] at hcd
            rw [hcs, if_pos rfl] at hne
            repeat' (first | (simp -implicitDefEqProofs only [ze, zd, zr, simprocAttr, LR_pl, LR_hp, LR_hm, cunr_n, cunr_x, cunr_r, cunr_p, List.any_cons, List.any_nil, List.flatten_cons, List.flatten_nil, List.replicate_succ, List.replicate_zero, Bool.or_false, Bool.false_or, List.flatMap_cons, List.flatMap_nil, hd, h12, h2', h11, h4, hs, List.length_map, hcd]) | (with_reducible refine wgd_cases ?_ ?_ <;> intro hb) | (with_reducible refine wcond_cases ?_ ?_ <;> intro hb) | (with_reducible refine W_itn_cases ?_ ?_; omega))
            rw [hne]
            refine .inl ⟨by decide, _, _, rfl, by omega, fun j hj => ?_⟩
            exact hst j hj
          | true =>
            rw [hcs] at hcd
            rw [hcs, if_neg (by decide)] at hne
            have hlt : (l.take i).length = i := by rw [List.length_take]; omega
            repeat' (first | (simp -implicitDefEqProofs only [ze, zd, zr, simprocAttr, LR_pl, LR_hp, LR_hm, cunr_n, cunr_x, cunr_r, cunr_p, List.any_cons, List.any_nil, List.flatten_cons, List.flatten_nil, List.replicate_succ, List.replicate_zero, Bool.or_false, Bool.false_or, List.flatMap_cons, List.flatMap_nil, hd, h12, h2', h11, h4, hs, List.length_map, hcd]) | (with_reducible refine wgd_cases ?_ ?_ <;> intro hb) | (with_reducible refine wcond_cases ?_ ?_ <;> intro hb) | (with_reducible refine W_itn_cases ?_ ?_; omega))
            refine W_hp (rat_ok ⟨vn, vf, va, _, hq⟩ (by show (l.take i).length ≤ _; omega) s) ?_
            rintro _ ⟨st2, nx2, rfl, hn2, hs2⟩
            show W (match some (HR.ret (V.i64 (atZ (l.take i) s)) st2 nx2) with | some (.ret v st' n) => some (R.big v st' n) | some (.pan v st' n) => some (.bpan v st' n) | none => none) _
            cases hdup : (l.take i).any fun d => decide (s = d) with
            | true =>
              rw [hdup, if_pos rfl] at hne
              obtain ⟨j0, hj0⟩ := (idxR_any s (l.take i)).1 hdup
              rw [atZ_some hj0]
              have gj : decide ((0 : Int) ≤ (j0 : Int)) = true := decide_eq_true (by omega)
              repeat' (first | (simp -implicitDefEqProofs only [ze, zd, zr, simprocAttr, LR_pl, LR_hp, LR_hm, cunr_n, cunr_x, cunr_r, cunr_p, List.any_cons, List.any_nil, List.flatten_cons, List.flatten_nil, List.replicate_succ, List.replicate_zero, Bool.or_false, Bool.false_or, List.flatMap_cons, List.flatMap_nil, gj]) | (with_reducible refine wgd_cases ?_ ?_ <;> intro hb) | (with_reducible refine wcond_cases ?_ ?_ <;> intro hb) | (with_reducible refine W_itn_cases ?_ ?_; omega))
              rw [hne]
              refine .inl ⟨by decide, _, _, rfl, by omega, fun j hj => ?_⟩
              rw [← hst j hj, hs2 j (by omega)]
            | false =>
              rw [hdup, if_neg (by decide), ← htk] at hne
              rw [atZ_none ((idxR_any s (l.take i)).2 hdup)]
              have q8 : st2 (nx + 8) = some (.cells [.i64 p.1, .i64 p.2]) := by rw [hs2 _ (by omega)]; exact h8
              have hqq := RLK.mono (S' := fun j => nx ≤ j ∧ j < nx1) (st' := st2) ⟨vn, vf, va, _, hq⟩ (fun _ h => h) (fun j hj => hs2 j (by omega))
              have hk2 : st2 (nx + 200) = some (.cells [.i64 c, .i64 p.1, .i64 p.2, vn, vf, va, .list 0 [] 1]) := by rw [hs2 _ (by omega)]; exact hq.hk
              have f1 : ∀ j, (nx + 200 = nx2 + j) = False := fun j => eq_false (by omega)
              have f2 : ∀ j, (nx2 + j = nx + 200) = False := fun j => eq_false (by omega)
              have f3 : ∀ j, (nx + 8 = nx2 + j) = False := fun j => eq_false (by omega)
              have f4 : ∀ j, (nx2 + j = nx + 8) = False := fun j => eq_false (by omega)
              have f5 : ∀ j, (nx = nx2 + j) = False := fun j => eq_false (by omega)
              have f6 : ∀ j, (nx2 + j = nx) = False := fun j => eq_false (by omega)
              have f7 : (nx + 8 = nx + 200) = False := eq_false (by omega)
              have f8 : (nx + 200 = nx + 8) = False := eq_false (by omega)
              have f9 : (nx = nx + 192) = False := eq_false (by omega)
              have gj : decide ((0 : Int) ≤ -1) = false := rfl
              have hlt2 : (l.take (i + 1)).length = i + 1 := by rw [List.length_take]; omega
              rcases hq.rows with ⟨z0, rfl, rfl, rfl⟩ | ⟨z0, n', f', g', t1, t2, t3, r1, rfl, rfl, rfl, r5, r6, r7⟩
              · repeat' (first | (simp -implicitDefEqProofs only [ze, zd, zr, simprocAttr, LR_pl, LR_hp, LR_hm, cunr_n, cunr_x, cunr_r, cunr_p, List.any_cons, List.any_nil, List.flatten_cons, List.flatten_nil, List.replicate_succ, List.replicate_zero, Bool.or_false, Bool.false_or, List.flatMap_cons, List.flatMap_nil, gj, h12, h2', h11, h4, hs, hk2, q8, f1, f2, f3, f4, f5, f6, f7, f8, f9, ne_eq, not_true_eq_false]) | (with_reducible refine wgd_cases ?_ ?_ <;> intro hb) | (with_reducible refine wcond_cases ?_ ?_ <;> intro hb) | (with_reducible refine W_itn_cases ?_ ?_; omega))
                refine qd_i (by simp [recsOk, ordB, Rec.free, Rec.wr, disj, List.range, List.range.loop, f1, f2, f3, f4, f5, f6, f7, f8, f9]; try (repeat' (first | apply And.intro | decide | omega | (left; decide) | (right; omega)))) ?_
                repeat' (first | (simp -implicitDefEqProofs only [ze, zd, zr, simprocAttr, LR_pl, LR_hp, LR_hm, cunr_n, cunr_x, cunr_r, cunr_p, List.any_cons, List.any_nil, List.flatten_cons, List.flatten_nil, List.replicate_succ, List.replicate_zero, Bool.or_false, Bool.false_or, List.flatMap_cons, List.flatMap_nil, gj, h12, h2', h11, h4, hs, hk2, q8, f1, f2, f3, f4, f5, f6, f7, f8, f9, ne_eq, not_true_eq_false]) | (with_reducible refine wgd_cases ?_ ?_ <;> intro hb) | (with_reducible refine wcond_cases ?_ ?_ <;> intro hb) | (with_reducible refine W_itn_cases ?_ ?_; omega))
                refine qd_i (by simp [recsOk, ordB, Rec.free, Rec.wr, disj, List.range, List.range.loop, f1, f2, f3, f4, f5, f6, f7, f8, f9]; try (repeat' (first | apply And.intro | decide | omega | (left; decide) | (right; omega)))) ?_
                repeat' (first | (simp -implicitDefEqProofs only [ze, zd, zr, simprocAttr, LR_pl, LR_hp, LR_hm, cunr_n, cunr_x, cunr_r, cunr_p, List.any_cons, List.any_nil, List.flatten_cons, List.flatten_nil, List.replicate_succ, List.replicate_zero, Bool.or_false, Bool.false_or, List.flatMap_cons, List.flatMap_nil, gj, h12, h2', h11, h4, hs, hk2, q8, f1, f2, f3, f4, f5, f6, f7, f8, f9, ne_eq, not_true_eq_false]) | (with_reducible refine wgd_cases ?_ ?_ <;> intro hb) | (with_reducible refine wcond_cases ?_ ?_ <;> intro hb) | (with_reducible refine W_itn_cases ?_ ?_; omega))
                have z1 : l.take i = [] := z0
                have zi : i = 0 := by rw [z1] at hlt; simpa using hlt.symm
                subst zi
                rw [show l.take (0 + 1) = [s] from by rw [htk, z1]; rfl] at hne
                refine ⟨l.length - (0 + 1), by omega, 0 + 1, .sl 9 false 1 (nx2 + 80) 0 1, .sl 25 true 2 (nx2 + 168) 0 1, .sl 9 false 1 (nx2 + 248) 0 1, rfl, by omega, ?_, ?_, by omega, fun j hj => ?_, ?_⟩
                · rw [show l.take (0 + 1) = [s] from by rw [htk, z1]; rfl]; exact hne
                · rw [wrap_i64 (by omega) (by omega)]; rfl
                · repeat (refine (if_neg (by omega)).trans ?_)
                  rw [hs2 _ (by omega), hst _ hj]
                · rw [show l.take (0 + 1) = [s] from by rw [htk, z1]; rfl]
                  refine ⟨by simp [upd, rnewLk], .inr ⟨by simp [rnewLk], nx2 + 80, nx2 + 168, nx2 + 248, ⟨by omega, by omega⟩, ⟨by omega, by omega⟩, ⟨by omega, by omega⟩, by omega, rfl, rfl, rfl, ?_, ?_, ?_⟩, .inl ⟨rfl, rfl, rfl⟩, ⟨by omega, by omega⟩, rfl, rfl⟩
                  · repeat (refine (upd_o (by omega)).trans ?_)
                    exact upd_s
                  · repeat (refine (upd_o (by omega)).trans ?_)
                    exact upd_s
                  · repeat (refine (upd_o (by omega)).trans ?_)
                    exact upd_s
              · have l1 : (rnewLk c p (l.take i)).nm.length = i := hlt
                rw [l1] at r5 r6 r7 hk2
                have k1 : nx ≤ n' ∧ n' < nx1 := t1
                have k2 : nx ≤ f' ∧ f' < nx1 := t2
                have k3 : nx ≤ g' ∧ g' < nx1 := t3
                rw [← hs2 _ (by omega)] at r5 r6 r7
                have u1 : n' ≠ nx + 200 := fun q => by rw [q, hk2] at r5; simp at r5
                have u2 : f' ≠ nx + 200 := fun q => by rw [q, hk2] at r6; simp at r6
                have u3 : g' ≠ nx + 200 := fun q => by rw [q, hk2] at r7; simp at r7
                have u4 : n' ≠ nx + 8 := fun q => by rw [q, q8] at r5; simp at r5
                have u5 : f' ≠ nx + 8 := fun q => by rw [q, q8] at r6; simp at r6
                have u6 : g' ≠ nx + 8 := fun q => by rw [q, q8] at r7; simp at r7
                have u7 : n' ≠ f' := fun q => by rw [q, r6] at r5; simp at r5
                have u8 : f' ≠ g' := fun q => by rw [q, r7] at r6; simp at r6
                have w1 : ∀ j, (n' = nx2 + j) = False := fun j => eq_false (by omega)
                have w2 : ∀ j, (f' = nx2 + j) = False := fun j => eq_false (by omega)
                have w3 : ∀ j, (g' = nx2 + j) = False := fun j => eq_false (by omega)
                have w4 : ∀ j, (nx2 + j = n') = False := fun j => eq_false (by omega)
                have w5 : ∀ j, (nx2 + j = f') = False := fun j => eq_false (by omega)
                have w6 : ∀ j, (nx2 + j = g') = False := fun j => eq_false (by omega)
                have y1 : (n' = nx + 200) = False := eq_false u1
                have y2 : (f' = nx + 200) = False := eq_false u2
                have y3 : (g' = nx + 200) = False := eq_false u3
                have y4 : (n' = nx + 8) = False := eq_false u4
                have y5 : (f' = nx + 8) = False := eq_false u5
                have y6 : (g' = nx + 8) = False := eq_false u6
                have y7 : (n' = f') = False := eq_false u7
                have y8 : (f' = g') = False := eq_false u8
                have y9 : (n' = g') = False := eq_false r1
                have x1 : (nx + 200 = n') = False := eq_false (Ne.symm u1)
                have x2 : (nx + 200 = f') = False := eq_false (Ne.symm u2)
                have x3 : (nx + 200 = g') = False := eq_false (Ne.symm u3)
                have x4 : (nx + 8 = n') = False := eq_false (Ne.symm u4)
                have x5 : (nx + 8 = f') = False := eq_false (Ne.symm u5)
                have x6 : (nx + 8 = g') = False := eq_false (Ne.symm u6)
                have x7 : (f' = n') = False := eq_false (Ne.symm u7)
                have x8 : (g' = f') = False := eq_false (Ne.symm u8)
                have x9 : (g' = n') = False := eq_false (Ne.symm r1)
                repeat' (first | (simp -implicitDefEqProofs only [ze, zd, zr, simprocAttr, LR_pl, LR_hp, LR_hm, cunr_n, cunr_x, cunr_r, cunr_p, List.any_cons, List.any_nil, List.flatten_cons, List.flatten_nil, List.replicate_succ, List.replicate_zero, Bool.or_false, Bool.false_or, List.flatMap_cons, List.flatMap_nil, gj, h12, h2', h11, h4, hs, hk2, q8, f1, f2, f3, f4, f5, f6, f7, f8, f9, w1, w2, w3, w4, w5, w6, y1, y2, y3, y4, y5, y6, y7, y8, y9, x1, x2, x3, x4, x5, x6, x7, x8, x9, r5, r6, r7, ne_eq, not_true_eq_false]) | (with_reducible refine wgd_cases ?_ ?_ <;> intro hb) | (with_reducible refine wcond_cases ?_ ?_ <;> intro hb) | (with_reducible refine W_itn_cases ?_ ?_; omega))
                refine qd_i (by simp [recsOk, ordB, Rec.free, Rec.wr, disj, List.range, List.range.loop, f1, f2, f3, f4, f5, f6, f7, f8, f9, w1, w2, w3, w4, w5, w6, y1, y2, y3, y4, y5, y6, y7, y8, y9, x1, x2, x3, x4, x5, x6, x7, x8, x9]; try (repeat' (first | apply And.intro | decide | omega | (left; decide) | (right; omega)))) ?_
                repeat' (first | (simp -implicitDefEqProofs only [ze, zd, zr, simprocAttr, LR_pl, LR_hp, LR_hm, cunr_n, cunr_x, cunr_r, cunr_p, List.any_cons, List.any_nil, List.flatten_cons, List.flatten_nil, List.replicate_succ, List.replicate_zero, Bool.or_false, Bool.false_or, List.flatMap_cons, List.flatMap_nil, gj, h12, h2', h11, h4, hs, hk2, q8, f1, f2, f3, f4, f5, f6, f7, f8, f9, w1, w2, w3, w4, w5, w6, y1, y2, y3, y4, y5, y6, y7, y8, y9, x1, x2, x3, x4, x5, x6, x7, x8, x9, r5, r6, r7, ne_eq, not_true_eq_false]) | (with_reducible refine wgd_cases ?_ ?_ <;> intro hb) | (with_reducible refine wcond_cases ?_ ?_ <;> intro hb) | (with_reducible refine W_itn_cases ?_ ?_; omega))
                refine qd_i (by simp [recsOk, ordB, Rec.free, Rec.wr, disj, List.range, List.range.loop, f1, f2, f3, f4, f5, f6, f7, f8, f9, w1, w2, w3, w4, w5, w6, y1, y2, y3, y4, y5, y6, y7, y8, y9, x1, x2, x3, x4, x5, x6, x7, x8, x9]; try (repeat' (first | apply And.intro | decide | omega | (left; decide) | (right; omega)))) ?_
                repeat' (first | (simp -implicitDefEqProofs only [ze, zd, zr, simprocAttr, LR_pl, LR_hp, LR_hm, cunr_n, cunr_x, cunr_r, cunr_p, List.any_cons, List.any_nil, List.flatten_cons, List.flatten_nil, List.replicate_succ, List.replicate_zero, Bool.or_false, Bool.false_or, List.flatMap_cons, List.flatMap_nil, gj, h12, h2', h11, h4, hs, hk2, q8, f1, f2, f3, f4, f5, f6, f7, f8, f9, w1, w2, w3, w4, w5, w6, y1, y2, y3, y4, y5, y6, y7, y8, y9, x1, x2, x3, x4, x5, x6, x7, x8, x9, r5, r6, r7, ne_eq, not_true_eq_false]) | (with_reducible refine wgd_cases ?_ ?_ <;> intro hb) | (with_reducible refine wcond_cases ?_ ?_ <;> intro hb) | (with_reducible refine W_itn_cases ?_ ?_; omega))
                have em : (rnewLk c p (l.take (i + 1))).nm = (rnewLk c p (l.take i)).nm ++ [s] := htk
                have ef : (rnewLk c p (l.take (i + 1))).fs = (rnewLk c p (l.take i)).fs ++ [p] := by show (l.take (i + 1)).map _ = (l.take i).map _ ++ [p]; rw [htk, List.map_append]; rfl
                have ea : (rnewLk c p (l.take (i + 1))).ak = (rnewLk c p (l.take i)).ak ++ [⟨#[]⟩] := by show (l.take (i + 1)).map _ = (l.take i).map _ ++ [_]; rw [htk, List.map_append]; rfl
                have lm : (rnewLk c p (l.take (i + 1))).nm.length = i + 1 := hlt2
                refine ⟨l.length - (i + 1), by omega, i + 1, .sl 9 false 1 (nx2 + 80) 0 (i + 1), .sl 25 true 2 (nx2 + 168) 0 (i + 1), .sl 9 false 1 (nx2 + 248) 0 (i + 1), rfl, by omega, hne, ?_, by omega, fun j hj => ?_, ?_⟩
                · rw [wrap_i64 (by omega) (by omega)]; rfl
                · repeat (refine (if_neg (by omega)).trans ?_)
                  rw [hs2 _ (by omega), hst _ hj]
                · refine ⟨by simp only [upd, if_true]; rfl, .inr ⟨by rw [lm]; omega, nx2 + 80, nx2 + 168, nx2 + 248, ⟨by omega, by omega⟩, ⟨by omega, by omega⟩, ⟨by omega, by omega⟩, by omega, by rw [lm], by rw [lm], by rw [lm], ?_, ?_, ?_⟩, .inl ⟨rfl, rfl, rfl⟩, ⟨by omega, by omega⟩, (by show List.length (List.map _ _) = _; rw [List.length_map]; rfl), (by show List.length (List.map _ _) = _; rw [List.length_map]; rfl)⟩
                  · rw [lm, em, List.map_append]
                    repeat (refine (upd_o (by omega)).trans ?_)
                    exact upd_s
                  · rw [lm, ef, List.flatMap_append]
                    repeat (refine (upd_o (by omega)).trans ?_)
                    exact upd_s
                  · rw [lm, ea, List.map_append]
                    repeat (refine (upd_o (by omega)).trans ?_)
                    exact upd_s
        · have hd : decide ((i : Int) < (l.length : Int)) = false := decide_eq_false (by omega)
          have hil : i = l.length := by omega
          repeat' (first | (simp -implicitDefEqProofs only [ze, zd, zr, simprocAttr, LR_pl, LR_hp, LR_hm, cunr_n, cunr_x, cunr_r, cunr_p, List.any_cons, List.any_nil, List.flatten_cons, List.flatten_nil, List.replicate_succ, List.replicate_zero, Bool.or_false, Bool.false_or, List.flatMap_cons, List.flatMap_nil, hd, h12, h2', h11, h4, List.length_map, k11_t0]) | (with_reducible refine wgd_cases ?_ ?_ <;> intro hb) | (with_reducible refine wcond_cases ?_ ?_ <;> intro hb) | (with_reducible refine W_itn_cases ?_ ?_; omega))
          have htl : l.take i = l := by rw [hil]; exact List.take_length
          have hdl : l.drop i = [] := by rw [hil]; exact List.drop_length
          rw [hdl, newE] at hne
          rw [htl] at hq
          refine .inr ⟨hne, nx + 200, st1, nx1 + 56, rfl, by omega, ?_, hst⟩
          exact RLK.mono ⟨vn, vf, va, _, hq⟩ (fun j hj => ⟨hj.1, by have := hj.2; omega⟩) (fun _ _ => rfl)
    · have := e16 h0
      subst this
      rw [if_pos (show ((16 : Int) ≠ 0) by decide)]
      repeat' (first | (simp -implicitDefEqProofs only [ze, zd, zr, simprocAttr, LR_pl, LR_hp, LR_hm, cunr_n, cunr_x, cunr_r, cunr_p, List.any_cons, List.any_nil, List.flatten_cons, List.flatten_nil, List.replicate_succ, List.replicate_zero, Bool.or_false, Bool.false_or, List.flatMap_cons, List.flatMap_nil, hri, hsp, f1, ne_eq, not_true_eq_false]) | (with_reducible refine wgd_cases ?_ ?_ <;> intro hb) | (with_reducible refine wcond_cases ?_ ?_ <;> intro hb) | (with_reducible refine W_itn_cases ?_ ?_; omega))
      refine .inl ⟨by decide, _, _, rfl, by omega, fun i hi => ?_⟩
      simp (disch := omega) only [upds, upd, List.foldl_cons, List.foldl_nil, if_neg]
end Go.Proofs.YthgmhlpjbednpaaDoor.Vm
