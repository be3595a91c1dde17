/- Proved here: the law, on a machine over pure data, and what it needs, part 5. Conditions: none. -/
import Derived.Test.YthgmhlpjbednpaaDoorZ4
set_option maxRecDepth 10000
set_option linter.unusedVariables false
set_option linter.unusedSimpArgs false
namespace Go.Proofs.YthgmhlpjbednpaaDoor.Vm
open Go Go.Proofs
theorem evC_get {l : List Ev} {j : Nat} {x : Ev} (h : l[j]? = some x) {m : Nat} (hm : m < 5) : (l.flatMap evC)[j * 5 + m]? = (evC x)[m]? := by
  induction l generalizing j with
  | nil => simp at h
  | cons y l ih =>
    have hy : (evC y).length = 5 := rfl
    rw [List.flatMap_cons]
    cases j with
    | zero =>
      simp only [List.getElem?_cons_zero, Option.some.injEq] at h
      subst h
      rw [Nat.zero_mul, Nat.zero_add, List.getElem?_append_left (by rw [hy]; exact hm)]
    | succ j =>
      rw [List.getElem?_append_right (by rw [hy]; omega), hy]
      have : (j + 1) * 5 + m - 5 = j * 5 + m := by omega
      rw [this]
      exact ih (by simpa using h)
theorem evC_two {l : List Ev} {j : Nat} {x : Ev} (h : l[j]? = some x) : ((l.flatMap evC).drop (j * 5 + 2)).take 2 = [.i64 x.p.1, .i64 x.p.2] := by
  have h2 := evC_get h (m := 2) (by omega)
  have h3 := evC_get h (m := 3) (by omega)
  apply List.ext_getElem?
  intro n
  rw [List.getElem?_take]
  split
  · rename_i hn
    rw [List.getElem?_drop]
    have : n = 0 ∨ n = 1 := by omega
    rcases this with rfl | rfl
    · rw [Nat.add_zero, h2]; rfl
    · rw [Nat.add_assoc, h3]; rfl
  · rename_i hn
    rw [List.getElem?_eq_none (by simp; omega)]
theorem grown_lt {S : Nat → Prop} {nx n1 n2 m : Nat} (h : ∀ j, S j → j < nx) (h1 : nx ≤ m) (h2 : n2 ≤ m) : ∀ j, grown S n1 n2 j → j < m := fun j hj => by
  rcases hj with hj | hj
  · have := h j hj; omega
  · omega
theorem ktwo_ok (c : Int) (p : Int × Int) (l : List ByteArray) (ops : List Op) (ho : ∀ o ∈ ops, 0 ≤ o.act) (hl : l.length < 4611686018427387904) :
    L.pl 4 [encCal c, encPer p, .list 9 (l.map V.str) 0, .list 39 (ops.map encOp) 0] = some (.ret (.bool true)) := by
  refine W_of (pl_r k4_eq ?_)
  simp only [k4, encCal, encPer]
  have hlg := klarge_ok (l.map V.str) (ops.map encOp) 9 39 0 0
  rw [List.length_map, List.length_map] at hlg
  by_cases hbig : (decide (210 < l.length) || decide (40 < ops.length)) = true
  · rw [hbig] at hlg
    repeat' (first | (simp -implicitDefEqProofs only [ze, zd, zr, simprocAttr, LR_pl, LR_hp, LR_hm, cunr_n, cunr_x, cunr_r, cunr_p, List.any_cons, List.any_nil, List.flatten_cons, List.flatten_nil, List.replicate_succ, List.replicate_zero, Bool.or_false, Bool.false_or, List.flatMap_cons, List.flatMap_nil, hlg]) | (with_reducible refine wgd_cases ?_ ?_ <;> intro hb) | (with_reducible refine wcond_cases ?_ ?_ <;> intro hb) | (with_reducible refine qd_i (by kernel_rfl) ?_) | (with_reducible refine W_itn_cases ?_ ?_; omega))
  · have hbig : (decide (210 < l.length) || decide (40 < ops.length)) = false := by simpa using hbig
    rw [hbig] at hlg
    have h40 : ops.length ≤ 40 := by simp only [Bool.or_eq_false_iff, decide_eq_false_iff_not] at hbig; omega
    repeat' (first | (simp -implicitDefEqProofs only [ze, zd, zr, simprocAttr, LR_pl, LR_hp, LR_hm, cunr_n, cunr_x, cunr_r, cunr_p, List.any_cons, List.any_nil, List.flatten_cons, List.flatten_nil, List.replicate_succ, List.replicate_zero, Bool.or_false, Bool.false_or, List.flatMap_cons, List.flatMap_nil, hlg]) | (with_reducible refine wgd_cases ?_ ?_ <;> intro hb) | (with_reducible refine wcond_cases ?_ ?_ <;> intro hb) | (with_reducible refine qd_i (by kernel_rfl) ?_) | (with_reducible refine W_itn_cases ?_ ?_; omega))
    refine W_hp (new_ok c p l _ _ hl) ?_
    intro r hr
    rcases hr with ⟨he, st', nx', rfl, hn, hs⟩ | ⟨he, k, st', nx', rfl, hn, hk, hs⟩
    · have g0 : decide (newErr c p l = 0) = false := decide_eq_false he
      repeat' (first | (simp -implicitDefEqProofs only [ze, zd, zr, simprocAttr, LR_pl, LR_hp, LR_hm, cunr_n, cunr_x, cunr_r, cunr_p, List.any_cons, List.any_nil, List.flatten_cons, List.flatten_nil, List.replicate_succ, List.replicate_zero, Bool.or_false, Bool.false_or, List.flatMap_cons, List.flatMap_nil, g0, klives_ok]) | (with_reducible refine wgd_cases ?_ ?_ <;> intro hb) | (with_reducible refine wcond_cases ?_ ?_ <;> intro hb) | (with_reducible refine qd_i (by kernel_rfl) ?_) | (with_reducible refine W_itn_cases ?_ ?_; omega))
    · repeat' (first | (simp -implicitDefEqProofs only [ze, zd, zr, simprocAttr, LR_pl, LR_hp, LR_hm, cunr_n, cunr_x, cunr_r, cunr_p, List.any_cons, List.any_nil, List.flatten_cons, List.flatten_nil, List.replicate_succ, List.replicate_zero, Bool.or_false, Bool.false_or, List.flatMap_cons, List.flatMap_nil]) | (with_reducible refine wgd_cases ?_ ?_ <;> intro hb) | (with_reducible refine wcond_cases ?_ ?_ <;> intro hb) | (with_reducible refine qd_i (by kernel_rfl) ?_) | (with_reducible refine W_itn_cases ?_ ?_; omega))
      refine loop_w (fun n tm st nx => ∃ (i : Nat) (a : Lk) (S : Nat → Prop), n = ops.length - i ∧ i ≤ ops.length ∧ tm 11 = .i64 i ∧ tm 3 = .list 39 (ops.map encOp) 0 ∧ tm 9 = .ptr k 0 ∧ LK k a S st ∧ (∀ j, S j → j < nx) ∧ TwoInv a ∧ a.ev.length ≤ i) _ ⟨0, newLk c p l, _, rfl, by omega, ?_, ?_, ?_, hk, fun j hj => by omega, TwoInv.new .., Nat.le_refl _⟩ ?_
      · simp -implicitDefEqProofs only [ze, zd, simprocAttr]; try rfl
      · simp -implicitDefEqProofs only [ze, zd, simprocAttr]
      · simp -implicitDefEqProofs only [ze, zd, simprocAttr]
      rintro n tm st nx ⟨i, a, S, hn, hi, h11, h3, h9, hka, hS, hinv, hlen⟩
      simp only [k4_l0]
      by_cases hc : i < ops.length
      · have hd : decide ((i : Int) < (ops.length : Int)) = true := decide_eq_true (by omega)
        obtain ⟨o, hs⟩ := get_lt hc
        have hoa := ho o (List.mem_of_getElem? hs)
        repeat' (first | (simp -implicitDefEqProofs only [ze, zd, zr, simprocAttr, LR_pl, LR_hp, LR_hm, cunr_n, cunr_x, cunr_r, cunr_p, List.any_cons, List.any_nil, List.flatten_cons, List.flatten_nil, List.replicate_succ, List.replicate_zero, Bool.or_false, Bool.false_or, List.flatMap_cons, List.flatMap_nil, hd, h11, h3, h9, hs, List.length_map, encOp]) | (with_reducible refine wgd_cases ?_ ?_ <;> intro hb) | (with_reducible refine wcond_cases ?_ ?_ <;> intro hb) | (with_reducible refine W_itn_cases ?_ ?_; omega))
        refine W_hp (act_ok hka (fun j hj => by have := hS j hj; omega) (by omega) o hoa) ?_
        rintro _ ⟨st2, nx2, rfl, hn2, hk2, hkp⟩
        repeat' (first | (simp -implicitDefEqProofs only [ze, zd, zr, simprocAttr, LR_pl, LR_hp, LR_hm, cunr_n, cunr_x, cunr_r, cunr_p, List.any_cons, List.any_nil, List.flatten_cons, List.flatten_nil, List.replicate_succ, List.replicate_zero, Bool.or_false, Bool.false_or, List.flatMap_cons, List.flatMap_nil, h11, h3, h9]) | (with_reducible refine wgd_cases ?_ ?_ <;> intro hb) | (with_reducible refine wcond_cases ?_ ?_ <;> intro hb) | (with_reducible refine W_itn_cases ?_ ?_; omega))
        exact ⟨ops.length - (i + 1), by omega, i + 1, _, _, rfl, by omega, up64 (by omega), hk2, grown_lt hS (by omega) (by omega), hinv.act o, by have := actK_len a o; omega⟩
      · have hd : decide ((i : Int) < (ops.length : Int)) = false := decide_eq_false (by omega)
        repeat' (first | (simp -implicitDefEqProofs only [ze, zd, zr, simprocAttr, LR_pl, LR_hp, LR_hm, cunr_n, cunr_x, cunr_r, cunr_p, List.any_cons, List.any_nil, List.flatten_cons, List.flatten_nil, List.replicate_succ, List.replicate_zero, Bool.or_false, Bool.false_or, List.flatMap_cons, List.flatMap_nil, hd, h11, h3, h9, List.length_map, k4_t3]) | (with_reducible refine wgd_cases ?_ ?_ <;> intro hb) | (with_reducible refine wcond_cases ?_ ?_ <;> intro hb) | (with_reducible refine W_itn_cases ?_ ?_; omega))
        refine W_hp (evs_ok hka (fun j hj => by have := hS j hj; omega) (by omega)) ?_
        rintro _ ⟨v, st2, nx2, rfl, hn2, hv, hs2⟩
        have hok := hinv.ok
        have hel : a.ev.length ≤ 40 := by omega
        generalize a.ev = evs at hok hel hv
        repeat' (first | (simp -implicitDefEqProofs only [ze, zd, zr, simprocAttr, LR_pl, LR_hp, LR_hm, cunr_n, cunr_x, cunr_r, cunr_p, List.any_cons, List.any_nil, List.flatten_cons, List.flatten_nil, List.replicate_succ, List.replicate_zero, Bool.or_false, Bool.false_or, List.flatMap_cons, List.flatMap_nil]) | (with_reducible refine wgd_cases ?_ ?_ <;> intro hb) | (with_reducible refine wcond_cases ?_ ?_ <;> intro hb) | (with_reducible refine W_itn_cases ?_ ?_; omega))
        rcases hv with ⟨z0, z1, rfl⟩ | ⟨z0, id, z1, rfl, z3⟩
        · refine loop_w (fun n tm st nx => tm 13 = .i64 0 ∧ tm 12 = .list 0 [] 1) 0 ⟨?_, ?_⟩ ?_
          · simp -implicitDefEqProofs only [ze, zd, simprocAttr]
          · simp -implicitDefEqProofs only [ze, zd, simprocAttr]
          rintro n tm st nx ⟨q13, q12⟩
          simp only [k4_l2]
          repeat' (first | (simp -implicitDefEqProofs only [ze, zd, zr, simprocAttr, LR_pl, LR_hp, LR_hm, cunr_n, cunr_x, cunr_r, cunr_p, List.any_cons, List.any_nil, List.flatten_cons, List.flatten_nil, List.replicate_succ, List.replicate_zero, Bool.or_false, Bool.false_or, List.flatMap_cons, List.flatMap_nil, q13, q12, k4_t2, klives_ok]) | (with_reducible refine wgd_cases ?_ ?_ <;> intro hb) | (with_reducible refine wcond_cases ?_ ?_ <;> intro hb) | (with_reducible refine W_itn_cases ?_ ?_; omega))
        · refine loop_w (fun n tm st nx => ∃ j : Nat, n = evs.length - j ∧ j ≤ evs.length ∧ tm 13 = .i64 j ∧ tm 12 = .sl 50 true 5 id 0 evs.length ∧ st id = some (.row 50 5 evs.length (evs.flatMap evC))) _ ⟨0, rfl, by omega, ?_, ?_, z3⟩ ?_
          · simp -implicitDefEqProofs only [ze, zd, simprocAttr]; try rfl
          · simp -implicitDefEqProofs only [ze, zd, simprocAttr]
          rintro n tm st nx ⟨j, hn, hj, q13, q12, hst⟩
          simp only [k4_l2]
          by_cases hjl : j < evs.length
          · have hd2 : decide ((j : Int) < (evs.length : Int)) = true := decide_eq_true (by omega)
            obtain ⟨x, hx⟩ := get_lt hjl
            have x0 : (evs.flatMap evC)[j * 5]? = some (.i64 x.k) := evC_get hx (m := 0) (by omega)
            have x1 : (evs.flatMap evC)[j * 5 + 1]? = some (.str x.e) := evC_get hx (m := 1) (by omega)
            have x4 : (evs.flatMap evC)[j * 5 + 4]? = some (.str x.u) := evC_get hx (m := 4) (by omega)
            have x2 := evC_two hx
            have hcl := evC_len evs
            have w1 : IntKind.i64.wrap ((j : Int) + 1) = ((j + 1 : Nat) : Int) := by rw [wrap_i64 (by omega) (by omega)]; omega
            by_cases hk10 : x.k = 10
            · have g10 : decide (x.k = 10) = true := decide_eq_true hk10
              have w2 : IntKind.i64.wrap ((j : Int) - 1) = (j : Int) - 1 := wrap_i64 (by omega) (by omega)
              repeat' (first | (simp -implicitDefEqProofs only [ze, zd, zr, simprocAttr, LR_pl, LR_hp, LR_hm, cunr_n, cunr_x, cunr_r, cunr_p, List.any_cons, List.any_nil, List.flatten_cons, List.flatten_nil, List.replicate_succ, List.replicate_zero, Bool.or_false, Bool.false_or, List.flatMap_cons, List.flatMap_nil, q13, q12, hst, hd2, x0, g10, w2, Nat.zero_add]) | (with_reducible refine wgd_cases ?_ ?_ <;> intro hb) | (with_reducible refine wcond_cases ?_ ?_ <;> intro hb) | (with_reducible refine W_itn_cases ?_ ?_; omega))
              obtain ⟨j0, y, hj0, hy, hye, hbt, hy9, hyu, hyp⟩ := hok j x hx hk10
              refine loop_w (fun n tm st nx => ∃ m : Nat, n = m ∧ m ≤ j ∧ tm 14 = .i64 ((m : Int) - 1) ∧ tm 13 = .i64 j ∧ tm 12 = .sl 50 true 5 id 0 evs.length ∧ st id = some (.row 50 5 evs.length (evs.flatMap evC)) ∧ ∀ (q : Nat) (z : Ev), m ≤ q → q < j → evs[q]? = some z → z.e ≠ x.e) _ ⟨j, rfl, Nat.le_refl _, ?_, ?_, ?_, hst, fun q z h1 h2 => by omega⟩ ?_
              · simp -implicitDefEqProofs only [ze, zd, simprocAttr]
              · simp -implicitDefEqProofs only [ze, zd, simprocAttr]; exact q13
              · simp -implicitDefEqProofs only [ze, zd, simprocAttr]; exact q12
              clear hst q13 q12
              rintro n2 tm st nx ⟨m, hn2, hmj, q14, q13, q12, hst, hdiff⟩
              simp only [k4_l1]
              cases m with
              | zero => exact absurd hye (hdiff j0 y (Nat.zero_le _) hj0 hy)
              | succ m =>
                have e1 : ((m + 1 : Nat) : Int) - 1 = (m : Int) := by omega
                rw [e1] at q14
                have hml : m < evs.length := by omega
                obtain ⟨w, hw⟩ := get_lt hml
                have v0 : (evs.flatMap evC)[m * 5]? = some (.i64 w.k) := evC_get hw (m := 0) (by omega)
                have v1 : (evs.flatMap evC)[m * 5 + 1]? = some (.str w.e) := evC_get hw (m := 1) (by omega)
                have v4 : (evs.flatMap evC)[m * 5 + 4]? = some (.str w.u) := evC_get hw (m := 4) (by omega)
                have v2 := evC_two hw
                have lj : j * 5 + (2 + 2) ≤ (evs.flatMap evC).length := by omega
                have lm : m * 5 + (2 + 2) ≤ (evs.flatMap evC).length := by omega
                have gm : decide ((0 : Int) ≤ (m : Int)) = true := decide_eq_true (by omega)
                have gm2 : decide ((m : Int) < 0) = false := decide_eq_false (by omega)
                by_cases hwe : w.e = x.e
                · -- the last one of this entity
                  have hjm : j0 = m := by
                    rcases Nat.lt_trichotomy j0 m with h | h | h
                    · exact absurd hwe (hbt m w h (by omega) hw)
                    · exact h
                    · exact absurd hye (hdiff j0 y h hj0 hy)
                  subst hjm
                  rw [hy] at hw
                  obtain rfl := Option.some.inj hw
                  have ge : decide (y.e = x.e) = true := decide_eq_true hwe
                  have gu : decide (y.u = x.u) = false := decide_eq_false hyu
                  have gk : decide (y.k = 9) = true := decide_eq_true hy9
                  repeat' (first | (simp -implicitDefEqProofs only [ze, zd, zr, simprocAttr, LR_pl, LR_hp, LR_hm, cunr_n, cunr_x, cunr_r, cunr_p, List.any_cons, List.any_nil, List.flatten_cons, List.flatten_nil, List.replicate_succ, List.replicate_zero, Bool.or_false, Bool.false_or, List.flatMap_cons, List.flatMap_nil, q14, q13, q12, hst, x0, x1, x4, x2, v0, v1, v4, v2, lj, lm, gm, gm2, ge, gu, gk, Nat.zero_add, k4_t0, k4_t1]) | (with_reducible refine wgd_cases ?_ ?_ <;> intro hb) | (with_reducible refine wcond_cases ?_ ?_ <;> intro hb) | (with_reducible refine W_itn_cases ?_ ?_; omega))
                  have gpp : (decide (y.p.1 = x.p.1) && decide (y.p.2 = x.p.2)) = true := by rw [hyp]; simp
                  refine qd_i (recsOk_ro rfl) ?_
                  repeat' (first | (simp -implicitDefEqProofs only [ze, zd, zr, simprocAttr, LR_pl, LR_hp, LR_hm, cunr_n, cunr_x, cunr_r, cunr_p, List.any_cons, List.any_nil, List.flatten_cons, List.flatten_nil, List.replicate_succ, List.replicate_zero, Bool.or_false, Bool.false_or, List.flatMap_cons, List.flatMap_nil, q14, q13, q12, hst, x0, x1, x4, x2, v0, v1, v4, v2, lj, lm, gm, gm2, ge, gu, gk, gpp, bne_tf, bne_ff, bne_tt, bne_ft, Nat.zero_add, k4_t0, k4_t1]) | (with_reducible refine wgd_cases ?_ ?_ <;> intro hb) | (with_reducible refine wcond_cases ?_ ?_ <;> intro hb) | (with_reducible refine W_itn_cases ?_ ?_; omega))
                  refine qd_i (recsOk_ro rfl) ?_
                  repeat' (first | (simp -implicitDefEqProofs only [ze, zd, zr, simprocAttr, LR_pl, LR_hp, LR_hm, cunr_n, cunr_x, cunr_r, cunr_p, List.any_cons, List.any_nil, List.flatten_cons, List.flatten_nil, List.replicate_succ, List.replicate_zero, Bool.or_false, Bool.false_or, List.flatMap_cons, List.flatMap_nil, q14, q13, q12, hst, x0, x1, x4, x2, v0, v1, v4, v2, lj, lm, gm, gm2, ge, gu, gk, gpp, bne_tf, bne_ff, bne_tt, bne_ft, Nat.zero_add, w1, k4_t0, k4_t1]) | (with_reducible refine wgd_cases ?_ ?_ <;> intro hb) | (with_reducible refine wcond_cases ?_ ?_ <;> intro hb) | (with_reducible refine W_itn_cases ?_ ?_; omega))
                  exact ⟨evs.length - (j + 1), by omega, j + 1, rfl, by omega, rfl⟩
                · have ge : decide (w.e = x.e) = false := decide_eq_false hwe
                  repeat' (first | (simp -implicitDefEqProofs only [ze, zd, zr, simprocAttr, LR_pl, LR_hp, LR_hm, cunr_n, cunr_x, cunr_r, cunr_p, List.any_cons, List.any_nil, List.flatten_cons, List.flatten_nil, List.replicate_succ, List.replicate_zero, Bool.or_false, Bool.false_or, List.flatMap_cons, List.flatMap_nil, q14, q13, q12, hst, x0, x1, x4, x2, v0, v1, v4, v2, lj, lm, gm, gm2, ge, Nat.zero_add]) | (with_reducible refine wgd_cases ?_ ?_ <;> intro hb) | (with_reducible refine wcond_cases ?_ ?_ <;> intro hb) | (with_reducible refine W_itn_cases ?_ ?_; omega))
                  refine qd_i (recsOk_ro rfl) ?_
                  have w3 : IntKind.i64.wrap ((m : Int) - 1) = (m : Int) - 1 := wrap_i64 (by omega) (by omega)
                  repeat' (first | (simp -implicitDefEqProofs only [ze, zd, zr, simprocAttr, LR_pl, LR_hp, LR_hm, cunr_n, cunr_x, cunr_r, cunr_p, List.any_cons, List.any_nil, List.flatten_cons, List.flatten_nil, List.replicate_succ, List.replicate_zero, Bool.or_false, Bool.false_or, List.flatMap_cons, List.flatMap_nil, q14, q13, q12, w3, bne_tf, bne_ff, bne_tt, bne_ft]) | (with_reducible refine wgd_cases ?_ ?_ <;> intro hb) | (with_reducible refine wcond_cases ?_ ?_ <;> intro hb) | (with_reducible refine W_itn_cases ?_ ?_; omega))
                  refine ⟨m, by omega, m, rfl, by omega, rfl, hst, fun q z h1 h2 hz => ?_⟩
                  by_cases hqm : q = m
                  · subst hqm; rw [hw] at hz; obtain rfl := Option.some.inj hz; exact hwe
                  · exact hdiff q z (by omega) h2 hz
            · have g10 : decide (x.k = 10) = false := decide_eq_false hk10
              repeat' (first | (simp -implicitDefEqProofs only [ze, zd, zr, simprocAttr, LR_pl, LR_hp, LR_hm, cunr_n, cunr_x, cunr_r, cunr_p, List.any_cons, List.any_nil, List.flatten_cons, List.flatten_nil, List.replicate_succ, List.replicate_zero, Bool.or_false, Bool.false_or, List.flatMap_cons, List.flatMap_nil, q13, q12, hst, hd2, x0, g10, Nat.zero_add, k4_t1]) | (with_reducible refine wgd_cases ?_ ?_ <;> intro hb) | (with_reducible refine wcond_cases ?_ ?_ <;> intro hb) | (with_reducible refine W_itn_cases ?_ ?_; omega))
              exact ⟨evs.length - (j + 1), by omega, j + 1, rfl, by omega, up64 (by omega)⟩
          · have hd2 : decide ((j : Int) < (evs.length : Int)) = false := decide_eq_false (by omega)
            repeat' (first | (simp -implicitDefEqProofs only [ze, zd, zr, simprocAttr, LR_pl, LR_hp, LR_hm, cunr_n, cunr_x, cunr_r, cunr_p, List.any_cons, List.any_nil, List.flatten_cons, List.flatten_nil, List.replicate_succ, List.replicate_zero, Bool.or_false, Bool.false_or, List.flatMap_cons, List.flatMap_nil, q13, q12, hst, hd2, k4_t2, klives_ok]) | (with_reducible refine wgd_cases ?_ ?_ <;> intro hb) | (with_reducible refine wcond_cases ?_ ?_ <;> intro hb) | (with_reducible refine W_itn_cases ?_ ?_; omega))
end Go.Proofs.YthgmhlpjbednpaaDoor.Vm
namespace Go.Proofs.YthgmhlpjbednpaaDoor.locksTwo
open Go.ChangeShapes Go.WideShapes Go.ChangeAt Go.RowKit Go.Proofs Go.Proofs.YthgmhlpjbednpaaDoor.Vm
set_option linter.unusedVariables false
theorem own : ownKnob Tryd.prog.godebug = none := by kernel_rfl
theorem laidOut : laidOutB Tryd.prog = true := by kernel_rfl
set_option maxRecDepth 100000 in
theorem door_met (os : Os) (args : Array Value) : laidMetH Tryd.prog Rows.locksTwoRow.laid ((World.doorLaid Tryd.prog 400 os).forCall (fun _ _ => 0) ⟨#[], args, []⟩).memory :=
  laidMetH_of_parts3 (fuel := 8) (laidMet_of_run' 8 (by kernel_rfl) (by kernel_rfl)) (by kernel_rfl) (by kernel_rfl)
set_option maxRecDepth 100000 in
theorem lifted (os : Os) (started : os.Started) (H : Type) (enc : TypeId × Value → H) :
    ReturnsInHanded {} Tryd.checked os 4 .any (fun w args => (Rows.locksTwoSpec.pre enc Tryd.prog Tryd.f4 [] false w args ∧ laidMetH Tryd.prog Rows.locksTwoRow.laid w) ∧ sizedMet enc Tryd.prog Tryd.f4 (OpenSpec.ofChange Rows.locksTwoSpec) false w args) (Rows.locksTwoSpec.post enc Tryd.prog Tryd.f4 false true false false) := by
  refine returnsInHanded_of_change_and (C := Tryd.checked) (X := fun w _ => laidMetH Tryd.prog Rows.locksTwoRow.laid w) (fun _ _ _ hh h => h.of_heap hh) own started (by kernel_rfl) Tryd.func4
    (ChangeSpec.witness_shaped (enc := enc) (C := Tryd.checked) (os := os) (X := fun w _ => laidMetH Tryd.prog Rows.locksTwoRow.laid w) false (World.doorLaid Tryd.prog 400 os) #[.agg #[.int .i64 0], .agg #[.int .i64 0, .int .i64 0], .slice none 0 0, .slice none 0 0] 8 rfl (World.shaped_of_RefB (by kernel_rfl) (by kernel_rfl)) (by kernel_rfl) (by kernel_rfl) (by kernel_rfl) (door_met os _)) ?_
  intro W base args ds gs before hval0 hW hcnd hsz0 hL _
  have hval : ∀ (j : Nat) t v, Tryd.f4.params[j]? = some t → args[j]? = some v → Value.okWide Tryd.prog W .any base t v := hval0
  have hW' := hW
  obtain ⟨p, q, hA0, hV, rfl, hfz, hnd⟩ := hW
  have hA : DataW.TrodAll enc Tryd.prog W 0 (fun _ => true) true Tryd.f4.params.toList args.toList ds p := hA0
  rw [Tryd.params4] at hA hval
  obtain ⟨v0, vs0, d0, ds0, p0, q0, hargs, rfl, rfl, h0, r0⟩ := trodAll_cons hA
  obtain ⟨v1, vs1, d1, ds1, p1, q1, rfl, rfl, rfl, h1, r1⟩ := trodAll_cons r0
  obtain ⟨v2, vs2, d2, ds2, p2, q2, rfl, rfl, rfl, h2, r2⟩ := trodAll_cons r1
  obtain ⟨v3, vs3, d3, ds3, p3, q3, rfl, rfl, rfl, h3, r3⟩ := trodAll_cons r2
  obtain ⟨rfl, rfl, rfl⟩ := trodAll_nil r3
  obtain rfl : args = #[v0, v1, v2, v3] := by cases args; simp_all
  obtain ⟨rfl, rfl⟩ := trodVars_none hV
  have hw0 : ∀ n ∈ d0.weights Tryd.prog 23, n ≤ reachBytes := fun n hn => by have := List.all_eq_true.1 hsz0 n (DataW.weights_mem_each (t := 23) (d := d0) (j := 0) (by kernel_rfl) rfl n hn); simpa using this
  have k0 := h0
  have lt0 : ∀ x ∈ p0, x.block < W.heap.size := by obtain ⟨m, hm⟩ := k0; exact DataW.trod_lt m _ _ _ hm
  obtain ⟨cs0, rfl, hzz0⟩ := okWide_struct Tryd.underlying23 (hval 0 23 v0 rfl rfl)
  obtain ⟨fuel0, hf0⟩ := h0
  obtain ⟨x0, K0, o0, g0⟩ := opCal hf0 hw0
  have R0 : RepP Tryd.prog (pw W) (encCal x0) (.agg cs0) := by
    have e : (.agg cs0 : Value) = .agg cs0.toList.toArray := by simp
    rw [e]; exact .agg o0 K0
  have hw1 : ∀ n ∈ d1.weights Tryd.prog 25, n ≤ reachBytes := fun n hn => by have := List.all_eq_true.1 hsz0 n (DataW.weights_mem_each (t := 25) (d := d1) (j := 1) (by kernel_rfl) rfl n hn); simpa using this
  have k1 := h1
  have lt1 : ∀ x ∈ p1, x.block < W.heap.size := by obtain ⟨m, hm⟩ := k1; exact DataW.trod_lt m _ _ _ hm
  obtain ⟨cs1, rfl, hzz1⟩ := okWide_struct Tryd.underlying25 (hval 1 25 v1 rfl rfl)
  obtain ⟨fuel1, hf1⟩ := h1
  obtain ⟨x1, K1, o1, g1⟩ := opPer hf1 hw1
  have R1 : RepP Tryd.prog (pw W) (encPer x1) (.agg cs1) := by
    have e : (.agg cs1 : Value) = .agg cs1.toList.toArray := by simp
    rw [e]; exact .agg o1 K1
  have hw2 : ∀ n ∈ d2.weights Tryd.prog 26, n ≤ reachBytes := fun n hn => by have := List.all_eq_true.1 hsz0 n (DataW.weights_mem_each (t := 26) (d := d2) (j := 2) (by kernel_rfl) rfl n hn); simpa using this
  have k2 := h2
  have lt2 : ∀ x ∈ p2, x.block < W.heap.size := by obtain ⟨m, hm⟩ := k2; exact DataW.trod_lt m _ _ _ hm
  obtain ⟨a2, len2, cap2, rfl⟩ := okWide_slice Tryd.underlying26 (hval 2 26 v2 rfl rfl)
  obtain ⟨fuel2, hf2⟩ := h2
  obtain ⟨x2, K2, o2, g2⟩ := opStrs hf2 hw2
  have R2 : RepP Tryd.prog (pw W) (V.list 9 (x2.map V.str) 0) (.slice a2 len2 cap2) := by
    cases K2 with
    | cons h _ => exact h
  have hw3 : ∀ n ∈ d3.weights Tryd.prog 27, n ≤ reachBytes := fun n hn => by have := List.all_eq_true.1 hsz0 n (DataW.weights_mem_each (t := 27) (d := d3) (j := 3) (by kernel_rfl) rfl n hn); simpa using this
  have k3 := h3
  have lt3 : ∀ x ∈ p3, x.block < W.heap.size := by obtain ⟨m, hm⟩ := k3; exact DataW.trod_lt m _ _ _ hm
  obtain ⟨a3, len3, cap3, rfl⟩ := okWide_slice Tryd.underlying27 (hval 3 27 v3 rfl rfl)
  obtain ⟨fuel3, hf3⟩ := h3
  obtain ⟨x3, K3, o3, g3⟩ := opOps hf3 hw3
  have R3 : RepP Tryd.prog (pw W) (V.list 39 (x3.map encOp) 0) (.slice a3 len3 cap3) := by
    cases K3 with
    | cons h _ => exact h
  have hx := ktwo_ok x0 x1 x2 x3 (fun o ho => wf_u8 (g3.2 o ho).1) (by have := g2.1; have hr : reachBytes = 140737488351232 := rfl; omega)
  refine (lim_bool (p := pw W) progOK extS_ok (f := 4) (by kernel_rfl) hx (glOK_of (lens_of_laid hL)) (fun _ _ _ h => h) (.cons R0 (.cons R1 (.cons R2 (.cons R3 .nil))))).mono fun e W' ⟨he, bel0⟩ => ?_
  have bel : Below W.heap.size W W' := bel0
  subst he
  exact ⟨_, rfl, _, _, _, [], _, [], hW', trodAll_mk1 (shut_bool Tryd.underlying4 _), (trodAll_cons_mk (Below.trod laidOut (by kernel_rfl) (of_decide_eq_true (by kernel_rfl)) k0 bel lt0) (trodAll_cons_mk (Below.trod laidOut (by kernel_rfl) (of_decide_eq_true (by kernel_rfl)) k1 bel lt1) (trodAll_cons_mk (Below.trod laidOut (by kernel_rfl) (of_decide_eq_true (by kernel_rfl)) k2 bel lt2) (trodAll_cons_mk (Below.trod laidOut (by kernel_rfl) (of_decide_eq_true (by kernel_rfl)) k3 bel lt3) trodAll_mk0)))), rfl, bel.frame _, fun h => by cases h⟩
theorem over : Rows.locksTwoRow.holds Tryd.pinned (OpenSpec.ofChange Rows.locksTwoSpec) :=
  OpenClaim.holds_of_wide 4 Tryd.f4 rfl rfl rfl rfl rfl rfl rfl ⟨rfl, rfl, rfl, rfl, rfl⟩ rfl rfl rfl rfl rfl (by kernel_rfl) Tryd.func4 (by kernel_rfl)
    (of_decide_eq_true (by kernel_rfl)) (by unfold Func.isWrapper; first | (rw [if_pos (by decide +kernel)]; kernel_rfl) | (rw [if_neg (by decide +kernel)]; exact ⟨rfl, rfl⟩))
    (fun os started H enc _ => lifted os started H enc)
theorem proved : Rows.LocksTwoCardSaid :=
  Claim7.holds_tied_plain_at .later [] [.data] true (true, "5efddb6f47badd170cfb6ec46cf8324222e7b3173b02ece8e79ed712f74b6ba8") false
    over (fun _ h => by cases h) (by kernel_rfl) (fun _ h => by cases h) locksTwo_row_tie rfl ⟨rfl, rfl⟩ (by kernel_rfl) rfl
    (fun f fn hf hfn => by
      obtain rfl : f = 4 := Option.some.inj ((show Tryd.prog.funcNamed "accounting/accountinglaw16.LocksTwo" = some 4 by kernel_rfl).symm.trans hf) |>.symm
      obtain rfl : fn = Tryd.f4 := (Option.some.inj (Tryd.func4.symm.trans hfn)).symm
      exact ⟨by kernel_rfl, fun j t ht => by
        rw [Tryd.params4] at ht
        have hm : t ∈ [23, 25, 26, 27] := by simpa using Array.mem_of_getElem? ht
        have hall : ([23, 25, 26, 27].all fun u => !Tryd.prog.wantsStandIn u) = true := by kernel_rfl
        exact (show Tryd.prog.wantsStandIn t = false by simpa using List.all_eq_true.1 hall t hm)⟩)
    (by kernel_rfl)
end Go.Proofs.YthgmhlpjbednpaaDoor.locksTwo
namespace Go.Proofs.YthgmhlpjbednpaaDoor
theorem locksTwo_holds : Rows.LocksTwoCardSaid := locksTwo.proved
end Go.Proofs.YthgmhlpjbednpaaDoor
