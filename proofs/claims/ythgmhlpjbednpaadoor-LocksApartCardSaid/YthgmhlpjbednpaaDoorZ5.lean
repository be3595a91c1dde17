/- Proved here: the law, on a machine over pure data, and what it needs, part 5. Conditions: none. -/
import Derived.Test.YthgmhlpjbednpaaDoorZ4
set_option maxRecDepth 10000
set_option linter.unusedVariables false
set_option linter.unusedSimpArgs false
namespace Go.Proofs.YthgmhlpjbednpaaDoor.Vm
open Go Go.Proofs
theorem kapart_ok (c : Int) (p : Int × Int) (l : List ByteArray) (ops : List Op) (e : ByteArray) (ho : ∀ o ∈ ops, 0 ≤ o.act) (hl : l.length < 4611686018427387904) :
    L.pl 5 [encCal c, encPer p, .list 9 (l.map V.str) 0, .list 39 (ops.map encOp) 0, .str e] = some (.ret (.bool true)) := by
  refine W_of (pl_r k5_eq ?_)
  simp only [k5, encCal, encPer]
  have hlg := klarge_ok (l.map V.str) (ops.map encOp) 9 39 0 0
  rw [List.length_map, List.length_map] at hlg
  by_cases hbig : (decide (210 < l.length) || decide (40 < ops.length)) = true
  · rw [hbig] at hlg
    repeat' (first | (simp -implicitDefEqProofs only [ze, zd, zr, simprocAttr, LR_pl, LR_hp, LR_hm, cunr_n, cunr_x, cunr_r, cunr_p, List.any_cons, List.any_nil, List.flatten_cons, List.flatten_nil, List.replicate_succ, List.replicate_zero, Bool.or_false, Bool.false_or, List.flatMap_cons, List.flatMap_nil, hlg]) | (with_reducible refine wgd_cases ?_ ?_ <;> intro hb) | (with_reducible refine wcond_cases ?_ ?_ <;> intro hb) | (with_reducible refine qd_i (by kernel_rfl) ?_) | (with_reducible refine W_itn_cases ?_ ?_; omega))
  · have hbig : (decide (210 < l.length) || decide (40 < ops.length)) = false := by simpa using hbig
    rw [hbig] at hlg
    have h40 : ops.length ≤ 40 := by simp only [Bool.or_eq_false_iff, decide_eq_false_iff_not] at hbig; omega
    repeat' (first | (simp -implicitDefEqProofs only [ze, zd, zr, simprocAttr, LR_pl, LR_hp, LR_hm, cunr_n, cunr_x, cunr_r, cunr_p, List.any_cons, List.any_nil, List.flatten_cons, List.flatten_nil, List.replicate_succ, List.replicate_zero, Bool.or_false, Bool.false_or, List.flatMap_cons, List.flatMap_nil, hlg]) | (with_reducible refine wgd_cases ?_ ?_ <;> intro hb) | (with_reducible refine wcond_cases ?_ ?_ <;> intro hb) | (with_reducible refine qd_i (by kernel_rfl) ?_) | (with_reducible refine W_itn_cases ?_ ?_; omega))
    refine W_hp (new_ok c p l _ _ hl) ?_
    intro r hr
    rcases hr with ⟨he, st', nx', rfl, hn, hs⟩ | ⟨he, k, st', nx', rfl, hn, hk, hs⟩
    · have b8 : st' 8 = some (.cells [.i64 c]) := by rw [hs 8 (by omega)]; simp [upd]
      have b16 : st' 16 = some (.cells [.i64 p.1, .i64 p.2]) := by rw [hs 16 (by omega)]; simp [upd]
      repeat' (first | (simp -implicitDefEqProofs only [ze, zd, zr, simprocAttr, LR_pl, LR_hp, LR_hm, cunr_n, cunr_x, cunr_r, cunr_p, List.any_cons, List.any_nil, List.flatten_cons, List.flatten_nil, List.replicate_succ, List.replicate_zero, Bool.or_false, Bool.false_or, List.flatMap_cons, List.flatMap_nil, b8, b16]) | (with_reducible refine wgd_cases ?_ ?_ <;> intro hb) | (with_reducible refine wcond_cases ?_ ?_ <;> intro hb) | (with_reducible refine qd_i (by kernel_rfl) ?_) | (with_reducible refine W_itn_cases ?_ ?_; omega))
      refine W_hp (new_ok c p l _ _ hl) ?_
      intro r hr
      rcases hr with ⟨he2, st2, nx2, rfl, hn2, hs2⟩ | ⟨he2, _⟩
      · have g0 : decide (newErr c p l = 0) = false := decide_eq_false he
        repeat' (first | (simp -implicitDefEqProofs only [ze, zd, zr, simprocAttr, LR_pl, LR_hp, LR_hm, cunr_n, cunr_x, cunr_r, cunr_p, List.any_cons, List.any_nil, List.flatten_cons, List.flatten_nil, List.replicate_succ, List.replicate_zero, Bool.or_false, Bool.false_or, List.flatMap_cons, List.flatMap_nil, g0, klives_ok, bne_ff, bne_tf]) | (with_reducible refine wgd_cases ?_ ?_ <;> intro hb) | (with_reducible refine wcond_cases ?_ ?_ <;> intro hb) | (with_reducible refine qd_i (by kernel_rfl) ?_) | (with_reducible refine W_itn_cases ?_ ?_; omega))
      · exact absurd he2 he
    · have b8 : st' 8 = some (.cells [.i64 c]) := by rw [hs 8 (by omega)]; simp [upd]
      have b16 : st' 16 = some (.cells [.i64 p.1, .i64 p.2]) := by rw [hs 16 (by omega)]; simp [upd]
      repeat' (first | (simp -implicitDefEqProofs only [ze, zd, zr, simprocAttr, LR_pl, LR_hp, LR_hm, cunr_n, cunr_x, cunr_r, cunr_p, List.any_cons, List.any_nil, List.flatten_cons, List.flatten_nil, List.replicate_succ, List.replicate_zero, Bool.or_false, Bool.false_or, List.flatMap_cons, List.flatMap_nil, b8, b16]) | (with_reducible refine wgd_cases ?_ ?_ <;> intro hb) | (with_reducible refine wcond_cases ?_ ?_ <;> intro hb) | (with_reducible refine qd_i (by kernel_rfl) ?_) | (with_reducible refine W_itn_cases ?_ ?_; omega))
      refine W_hp (new_ok c p l _ _ hl) ?_
      intro r hr
      rcases hr with ⟨he2, _⟩ | ⟨he2, k2, st2, nx2, rfl, hn2, hk2, hs2⟩
      · exact absurd he he2
      · repeat' (first | (simp -implicitDefEqProofs only [ze, zd, zr, simprocAttr, LR_pl, LR_hp, LR_hm, cunr_n, cunr_x, cunr_r, cunr_p, List.any_cons, List.any_nil, List.flatten_cons, List.flatten_nil, List.replicate_succ, List.replicate_zero, Bool.or_false, Bool.false_or, List.flatMap_cons, List.flatMap_nil]) | (with_reducible refine wgd_cases ?_ ?_ <;> intro hb) | (with_reducible refine wcond_cases ?_ ?_ <;> intro hb) | (with_reducible refine qd_i (by kernel_rfl) ?_) | (with_reducible refine W_itn_cases ?_ ?_; omega))
        refine loop_w (fun n tm st nx => ∃ (i : Nat) (a b : Lk) (S T : Nat → Prop), n = ops.length - i ∧ i ≤ ops.length ∧ tm 15 = .i64 i ∧ tm 3 = .list 39 (ops.map encOp) 0 ∧ tm 4 = .str e ∧ tm 11 = .ptr k 0 ∧ tm 13 = .ptr k2 0 ∧ LK k a S st ∧ LK k2 b T st ∧ (∀ j, S j → j < nx) ∧ (∀ j, T j → j < nx) ∧ (∀ j, S j → T j → False) ∧ Alike a b e ∧ a.ev.length ≤ i ∧ b.ev.length ≤ i) _ ⟨0, newLk c p l, newLk c p l, _, _, rfl, by omega, ?_, ?_, ?_, ?_, ?_, hk.mono (fun _ h => h) (fun j hj => hs2 j (by omega)), hk2, fun j hj => by omega, fun j hj => by omega, fun j h1 h2 => by omega, Alike.new .., Nat.le_refl _, Nat.le_refl _⟩ ?_
        · simp -implicitDefEqProofs only [ze, zd, simprocAttr]; try rfl
        · simp -implicitDefEqProofs only [ze, zd, simprocAttr]
        · simp -implicitDefEqProofs only [ze, zd, simprocAttr]
        · simp -implicitDefEqProofs only [ze, zd, simprocAttr]
        · simp -implicitDefEqProofs only [ze, zd, simprocAttr]
        rintro n tm st nx ⟨i, a, b, S, T, hn, hi, h15, h3, h4, h11, h13, hka, hkb, hS, hT, hST, hal, hla, hlb⟩
        simp only [k5_l0]
        by_cases hc : i < ops.length
        · have hd : decide ((i : Int) < (ops.length : Int)) = true := decide_eq_true (by omega)
          obtain ⟨o, hs⟩ := get_lt hc
          have hoa := ho o (List.mem_of_getElem? hs)
          repeat' (first | (simp -implicitDefEqProofs only [ze, zd, zr, simprocAttr, LR_pl, LR_hp, LR_hm, cunr_n, cunr_x, cunr_r, cunr_p, List.any_cons, List.any_nil, List.flatten_cons, List.flatten_nil, List.replicate_succ, List.replicate_zero, Bool.or_false, Bool.false_or, List.flatMap_cons, List.flatMap_nil, hd, h15, h3, h4, h11, h13, hs, List.length_map, encOp]) | (with_reducible refine wgd_cases ?_ ?_ <;> intro hb) | (with_reducible refine wcond_cases ?_ ?_ <;> intro hb) | (with_reducible refine W_itn_cases ?_ ?_; omega))
          refine W_hp (act_ok hka (fun j hj => by have := hS j hj; omega) (by omega) o hoa) ?_
          rintro _ ⟨st3, nx3, rfl, hn3, hk3, hkp⟩
          have hkb3 := hkb.mono (S' := T) (st' := st3) (fun _ h => h) (fun j hj => hkp j (by have := hT j hj; omega) (fun q => hST j q hj))
          have hlen := actK_len a o
          have hlenb := actK_len b o
          by_cases hoe : o.ent = e
          · have ge : decide (o.ent = e) = true := decide_eq_true hoe
            subst hoe
            obtain ⟨hr, hal2⟩ := hal.act
            repeat' (first | (simp -implicitDefEqProofs only [ze, zd, zr, simprocAttr, LR_pl, LR_hp, LR_hm, cunr_n, cunr_x, cunr_r, cunr_p, List.any_cons, List.any_nil, List.flatten_cons, List.flatten_nil, List.replicate_succ, List.replicate_zero, Bool.or_false, Bool.false_or, List.flatMap_cons, List.flatMap_nil, h15, h3, h4, h11, h13, hs, ge, encOp]) | (with_reducible refine wgd_cases ?_ ?_ <;> intro hb) | (with_reducible refine wcond_cases ?_ ?_ <;> intro hb) | (with_reducible refine W_itn_cases ?_ ?_; omega))
            refine W_hp (act_ok hkb3 (fun j hj => by have := hT j hj; omega) (by omega) o hoa) ?_
            rintro _ ⟨st4, nx4, rfl, hn4, hk4, hkp4⟩
            have gr : decide ((actK b o).2 = (actK a o).2) = true := decide_eq_true hr.symm
            repeat' (first | (simp -implicitDefEqProofs only [ze, zd, zr, simprocAttr, LR_pl, LR_hp, LR_hm, cunr_n, cunr_x, cunr_r, cunr_p, List.any_cons, List.any_nil, List.flatten_cons, List.flatten_nil, List.replicate_succ, List.replicate_zero, Bool.or_false, Bool.false_or, List.flatMap_cons, List.flatMap_nil, h15, h3, h4, h11, h13, gr, bne_tf, bne_tt]) | (with_reducible refine wgd_cases ?_ ?_ <;> intro hb) | (with_reducible refine wcond_cases ?_ ?_ <;> intro hb) | (with_reducible refine W_itn_cases ?_ ?_; omega))
            refine ⟨ops.length - (i + 1), by omega, i + 1, _, _, _, _, rfl, by omega, up64 (by omega), hk3.mono (fun _ h => h) (fun j hj => hkp4 j ?_ ?_), hk4, grown_lt hS (by omega) (by omega), grown_lt hT (by omega) (by omega), fun j h1 h2 => ?_, hal2, by omega, by omega⟩
            · rcases hj with hj | hj
              · have := hS j hj; omega
              · omega
            · intro q
              rcases hj with hj | hj
              · exact hST j hj q
              · have := hT j q; omega
            · rcases h1 with h1 | h1 <;> rcases h2 with h2 | h2
              · exact hST j h1 h2
              · have := hS j h1; omega
              · have := hT j h2; omega
              · omega
          · have ge : decide (o.ent = e) = false := decide_eq_false hoe
            repeat' (first | (simp -implicitDefEqProofs only [ze, zd, zr, simprocAttr, LR_pl, LR_hp, LR_hm, cunr_n, cunr_x, cunr_r, cunr_p, List.any_cons, List.any_nil, List.flatten_cons, List.flatten_nil, List.replicate_succ, List.replicate_zero, Bool.or_false, Bool.false_or, List.flatMap_cons, List.flatMap_nil, h15, h3, h4, h11, h13, hs, ge, encOp]) | (with_reducible refine wgd_cases ?_ ?_ <;> intro hb) | (with_reducible refine wcond_cases ?_ ?_ <;> intro hb) | (with_reducible refine W_itn_cases ?_ ?_; omega))
            refine ⟨ops.length - (i + 1), by omega, i + 1, _, b, _, T, rfl, by omega, up64 (by omega), hk3, hkb3, grown_lt hS (by omega) (by omega), fun j hj => by have := hT j hj; omega, fun j h1 h2 => ?_, hal.other hoe, by omega, by omega⟩
            rcases h1 with h1 | h1
            · exact hST j h1 h2
            · have := hT j h2; omega
        · have hd : decide ((i : Int) < (ops.length : Int)) = false := decide_eq_false (by omega)
          repeat' (first | (simp -implicitDefEqProofs only [ze, zd, zr, simprocAttr, LR_pl, LR_hp, LR_hm, cunr_n, cunr_x, cunr_r, cunr_p, List.any_cons, List.any_nil, List.flatten_cons, List.flatten_nil, List.replicate_succ, List.replicate_zero, Bool.or_false, Bool.false_or, List.flatMap_cons, List.flatMap_nil, hd, h15, h3, h4, h11, h13, List.length_map, k5_t0]) | (with_reducible refine wgd_cases ?_ ?_ <;> intro hb) | (with_reducible refine wcond_cases ?_ ?_ <;> intro hb) | (with_reducible refine W_itn_cases ?_ ?_; omega))
          refine W_hp (first_ok hka (fun j hj => by have := hS j hj; omega) e) ?_
          rintro _ ⟨st3, nx3, rfl, hn3, hs3⟩
          have hkb3 := hkb.mono (S' := T) (st' := st3) (fun _ h => h) (fun j hj => hs3 j (by have := hT j hj; omega))
          have hfe := hal.first
          generalize firstK a e = f at hfe
          obtain ⟨f, fe⟩ := f
          repeat' (first | (simp -implicitDefEqProofs only [ze, zd, zr, simprocAttr, LR_pl, LR_hp, LR_hm, cunr_n, cunr_x, cunr_r, cunr_p, List.any_cons, List.any_nil, List.flatten_cons, List.flatten_nil, List.replicate_succ, List.replicate_zero, Bool.or_false, Bool.false_or, List.flatMap_cons, List.flatMap_nil, h15, h3, h4, h11, h13, encPE]) | (with_reducible refine wgd_cases ?_ ?_ <;> intro hb) | (with_reducible refine wcond_cases ?_ ?_ <;> intro hb) | (with_reducible refine W_itn_cases ?_ ?_; omega))
          refine W_hp (first_ok (hkb3.mono (S' := T) (fun _ h => h) (fun j hj => ?_)) (fun j hj => by have := hT j hj; omega) e) ?_
          · have := hT j hj
            have a1 : ¬ j = nx + 80 := by omega
            simp [upd, a1]
          rw [← hfe]
          rintro _ ⟨st4, nx4, rfl, hn4, hs4⟩
          have e80 : st4 (nx + 80) = some (.cells [.i64 f.1, .i64 f.2]) := by rw [hs4 _ (by omega)]; simp [upd]
          have f1 : ∀ j, (nx + 80 = nx3 + j) = False := fun j => eq_false (by omega)
          have f2 : ∀ j, (nx + 80 = nx4 + j) = False := fun j => eq_false (by omega)
          have f3 : ∀ j, (nx = nx3 + j) = False := fun j => eq_false (by omega)
          have gf1 : decide (f.1 = f.1) = true := decide_eq_true rfl
          have gf2 : decide (f.2 = f.2) = true := decide_eq_true rfl
          have gf3 : decide (fe = fe) = true := decide_eq_true rfl
          repeat' (first | (simp -implicitDefEqProofs only [ze, zd, zr, simprocAttr, LR_pl, LR_hp, LR_hm, cunr_n, cunr_x, cunr_r, cunr_p, List.any_cons, List.any_nil, List.flatten_cons, List.flatten_nil, List.replicate_succ, List.replicate_zero, Bool.or_false, Bool.false_or, List.flatMap_cons, List.flatMap_nil, h15, h3, h4, h11, h13, encPE, e80, f1, f2, f3, gf1, gf2, gf3, klives_ok, bne_tf, Bool.and_self]) | (with_reducible refine wgd_cases ?_ ?_ <;> intro hb) | (with_reducible refine wcond_cases ?_ ?_ <;> intro hb) | (with_reducible refine W_itn_cases ?_ ?_; omega))
end Go.Proofs.YthgmhlpjbednpaaDoor.Vm
namespace Go.Proofs.YthgmhlpjbednpaaDoor.locksApart
open Go.ChangeShapes Go.WideShapes Go.ChangeAt Go.RowKit Go.Proofs Go.Proofs.YthgmhlpjbednpaaDoor.Vm
set_option linter.unusedVariables false
theorem own : ownKnob Tryd.prog.godebug = none := by kernel_rfl
theorem laidOut : laidOutB Tryd.prog = true := by kernel_rfl
set_option maxRecDepth 100000 in
theorem door_met (os : Os) (args : Array Value) : laidMetH Tryd.prog Rows.locksApartRow.laid ((World.doorLaid Tryd.prog 400 os).forCall (fun _ _ => 0) ⟨#[], args, []⟩).memory :=
  laidMetH_of_parts3 (fuel := 8) (laidMet_of_run' 8 (by kernel_rfl) (by kernel_rfl)) (by kernel_rfl) (by kernel_rfl)
set_option maxRecDepth 100000 in
theorem lifted (os : Os) (started : os.Started) (H : Type) (enc : TypeId × Value → H) :
    ReturnsInHanded {} Tryd.checked os 5 .any (fun w args => (Rows.locksApartSpec.pre enc Tryd.prog Tryd.f5 [] false w args ∧ laidMetH Tryd.prog Rows.locksApartRow.laid w) ∧ sizedMet enc Tryd.prog Tryd.f5 (OpenSpec.ofChange Rows.locksApartSpec) false w args) (Rows.locksApartSpec.post enc Tryd.prog Tryd.f5 false true false false) := by
  refine returnsInHanded_of_change_and (C := Tryd.checked) (X := fun w _ => laidMetH Tryd.prog Rows.locksApartRow.laid w) (fun _ _ _ hh h => h.of_heap hh) own started (by kernel_rfl) Tryd.func5
    (ChangeSpec.witness_shaped (enc := enc) (C := Tryd.checked) (os := os) (X := fun w _ => laidMetH Tryd.prog Rows.locksApartRow.laid w) false (World.doorLaid Tryd.prog 400 os) #[.agg #[.int .i64 0], .agg #[.int .i64 0, .int .i64 0], .slice none 0 0, .slice none 0 0, .string ByteArray.empty] 8 rfl (World.shaped_of_RefB (by kernel_rfl) (by kernel_rfl)) (by kernel_rfl) (by kernel_rfl) (by kernel_rfl) (door_met os _)) ?_
  intro W base args ds gs before hval0 hW hcnd hsz0 hL _
  have hval : ∀ (j : Nat) t v, Tryd.f5.params[j]? = some t → args[j]? = some v → Value.okWide Tryd.prog W .any base t v := hval0
  have hW' := hW
  obtain ⟨p, q, hA0, hV, rfl, hfz, hnd⟩ := hW
  have hA : DataW.TrodAll enc Tryd.prog W 0 (fun _ => true) true Tryd.f5.params.toList args.toList ds p := hA0
  rw [Tryd.params5] at hA hval
  obtain ⟨v0, vs0, d0, ds0, p0, q0, hargs, rfl, rfl, h0, r0⟩ := trodAll_cons hA
  obtain ⟨v1, vs1, d1, ds1, p1, q1, rfl, rfl, rfl, h1, r1⟩ := trodAll_cons r0
  obtain ⟨v2, vs2, d2, ds2, p2, q2, rfl, rfl, rfl, h2, r2⟩ := trodAll_cons r1
  obtain ⟨v3, vs3, d3, ds3, p3, q3, rfl, rfl, rfl, h3, r3⟩ := trodAll_cons r2
  obtain ⟨v4, vs4, d4, ds4, p4, q4, rfl, rfl, rfl, h4, r4⟩ := trodAll_cons r3
  obtain ⟨rfl, rfl, rfl⟩ := trodAll_nil r4
  obtain rfl : args = #[v0, v1, v2, v3, v4] := by cases args; simp_all
  obtain ⟨rfl, rfl⟩ := trodVars_none hV
  have hw0 : ∀ n ∈ d0.weights Tryd.prog 23, n ≤ reachBytes := fun n hn => by have := List.all_eq_true.1 hsz0 n (DataW.weights_mem_each (t := 23) (d := d0) (j := 0) (by kernel_rfl) rfl n hn); simpa using this
  have k0 := h0
  have lt0 : ∀ x ∈ p0, x.block < W.heap.size := by obtain ⟨m, hm⟩ := k0; exact DataW.trod_lt m _ _ _ hm
  obtain ⟨cs0, rfl, hzz0⟩ := okWide_struct Tryd.underlying23 (hval 0 23 v0 rfl rfl)
  obtain ⟨fuel0, hf0⟩ := h0
  obtain ⟨x0, K0, o0, g0⟩ := opCal hf0 hw0
  have R0 : RepP Tryd.prog (pw W) (encCal x0) (.agg cs0) := by
    have e : (.agg cs0 : Value) = .agg cs0.toList.toArray := by simp
    rw [e]; exact .agg o0 K0
  have hw1 : ∀ n ∈ d1.weights Tryd.prog 25, n ≤ reachBytes := fun n hn => by have := List.all_eq_true.1 hsz0 n (DataW.weights_mem_each (t := 25) (d := d1) (j := 1) (by kernel_rfl) rfl n hn); simpa using this
  have k1 := h1
  have lt1 : ∀ x ∈ p1, x.block < W.heap.size := by obtain ⟨m, hm⟩ := k1; exact DataW.trod_lt m _ _ _ hm
  obtain ⟨cs1, rfl, hzz1⟩ := okWide_struct Tryd.underlying25 (hval 1 25 v1 rfl rfl)
  obtain ⟨fuel1, hf1⟩ := h1
  obtain ⟨x1, K1, o1, g1⟩ := opPer hf1 hw1
  have R1 : RepP Tryd.prog (pw W) (encPer x1) (.agg cs1) := by
    have e : (.agg cs1 : Value) = .agg cs1.toList.toArray := by simp
    rw [e]; exact .agg o1 K1
  have hw2 : ∀ n ∈ d2.weights Tryd.prog 26, n ≤ reachBytes := fun n hn => by have := List.all_eq_true.1 hsz0 n (DataW.weights_mem_each (t := 26) (d := d2) (j := 2) (by kernel_rfl) rfl n hn); simpa using this
  have k2 := h2
  have lt2 : ∀ x ∈ p2, x.block < W.heap.size := by obtain ⟨m, hm⟩ := k2; exact DataW.trod_lt m _ _ _ hm
  obtain ⟨a2, len2, cap2, rfl⟩ := okWide_slice Tryd.underlying26 (hval 2 26 v2 rfl rfl)
  obtain ⟨fuel2, hf2⟩ := h2
  obtain ⟨x2, K2, o2, g2⟩ := opStrs hf2 hw2
  have R2 : RepP Tryd.prog (pw W) (V.list 9 (x2.map V.str) 0) (.slice a2 len2 cap2) := by
    cases K2 with
    | cons h _ => exact h
  have hw3 : ∀ n ∈ d3.weights Tryd.prog 27, n ≤ reachBytes := fun n hn => by have := List.all_eq_true.1 hsz0 n (DataW.weights_mem_each (t := 27) (d := d3) (j := 3) (by kernel_rfl) rfl n hn); simpa using this
  have k3 := h3
  have lt3 : ∀ x ∈ p3, x.block < W.heap.size := by obtain ⟨m, hm⟩ := k3; exact DataW.trod_lt m _ _ _ hm
  obtain ⟨a3, len3, cap3, rfl⟩ := okWide_slice Tryd.underlying27 (hval 3 27 v3 rfl rfl)
  obtain ⟨fuel3, hf3⟩ := h3
  obtain ⟨x3, K3, o3, g3⟩ := opOps hf3 hw3
  have R3 : RepP Tryd.prog (pw W) (V.list 39 (x3.map encOp) 0) (.slice a3 len3 cap3) := by
    cases K3 with
    | cons h _ => exact h
  have hw4 : ∀ n ∈ d4.weights Tryd.prog 9, n ≤ reachBytes := fun n hn => by have := List.all_eq_true.1 hsz0 n (DataW.weights_mem_each (t := 9) (d := d4) (j := 4) (by kernel_rfl) rfl n hn); simpa using this
  have k4 := h4
  have lt4 : ∀ x ∈ p4, x.block < W.heap.size := by obtain ⟨m, hm⟩ := k4; exact DataW.trod_lt m _ _ _ hm
  obtain ⟨n4, rfl⟩ := okWide_string Tryd.underlying9 (hval 4 9 v4 rfl rfl)
  obtain ⟨fuel4, hf4⟩ := h4
  obtain ⟨x4, K4, o4, g4⟩ := opV_string Tryd.underlying9 hf4 hw4
  have R4 : RepP Tryd.prog (pw W) (V.str x4) (.string n4) := by
    cases K4 with
    | cons h _ => exact h
  have hx := kapart_ok x0 x1 x2 x3 x4 (fun o ho => wf_u8 (g3.2 o ho).1) (by have := g2.1; have hr : reachBytes = 140737488351232 := rfl; omega)
  refine (lim_bool (p := pw W) progOK extS_ok (f := 5) (by kernel_rfl) hx (glOK_of (lens_of_laid hL)) (fun _ _ _ h => h) (.cons R0 (.cons R1 (.cons R2 (.cons R3 (.cons R4 .nil)))))).mono fun e W' ⟨he, bel0⟩ => ?_
  have bel : Below W.heap.size W W' := bel0
  subst he
  exact ⟨_, rfl, _, _, _, [], _, [], hW', trodAll_mk1 (shut_bool Tryd.underlying4 _), (trodAll_cons_mk (Below.trod laidOut (by kernel_rfl) (of_decide_eq_true (by kernel_rfl)) k0 bel lt0) (trodAll_cons_mk (Below.trod laidOut (by kernel_rfl) (of_decide_eq_true (by kernel_rfl)) k1 bel lt1) (trodAll_cons_mk (Below.trod laidOut (by kernel_rfl) (of_decide_eq_true (by kernel_rfl)) k2 bel lt2) (trodAll_cons_mk (Below.trod laidOut (by kernel_rfl) (of_decide_eq_true (by kernel_rfl)) k3 bel lt3) (trodAll_cons_mk (Below.trod laidOut (by kernel_rfl) (of_decide_eq_true (by kernel_rfl)) k4 bel lt4) trodAll_mk0))))), rfl, bel.frame _, fun h => by cases h⟩
theorem over : Rows.locksApartRow.holds Tryd.pinned (OpenSpec.ofChange Rows.locksApartSpec) :=
  OpenClaim.holds_of_wide 5 Tryd.f5 rfl rfl rfl rfl rfl rfl rfl ⟨rfl, rfl, rfl, rfl, rfl⟩ rfl rfl rfl rfl rfl (by kernel_rfl) Tryd.func5 (by kernel_rfl)
    (of_decide_eq_true (by kernel_rfl)) (by unfold Func.isWrapper; first | (rw [if_pos (by decide +kernel)]; kernel_rfl) | (rw [if_neg (by decide +kernel)]; exact ⟨rfl, rfl⟩))
    (fun os started H enc _ => lifted os started H enc)
theorem proved : Rows.LocksApartCardSaid :=
  Claim7.holds_tied_plain_at .later [] [.data] true (true, "5efddb6f47badd170cfb6ec46cf8324222e7b3173b02ece8e79ed712f74b6ba8") false
    over (fun _ h => by cases h) (by kernel_rfl) (fun _ h => by cases h) locksApart_row_tie rfl ⟨rfl, rfl⟩ (by kernel_rfl) rfl
    (fun f fn hf hfn => by
      obtain rfl : f = 5 := Option.some.inj ((show Tryd.prog.funcNamed "accounting/accountinglaw16.LocksApart" = some 5 by kernel_rfl).symm.trans hf) |>.symm
      obtain rfl : fn = Tryd.f5 := (Option.some.inj (Tryd.func5.symm.trans hfn)).symm
      exact ⟨by kernel_rfl, fun j t ht => by
        rw [Tryd.params5] at ht
        have hm : t ∈ [23, 25, 26, 27, 9] := by simpa using Array.mem_of_getElem? ht
        have hall : ([23, 25, 26, 27, 9].all fun u => !Tryd.prog.wantsStandIn u) = true := by kernel_rfl
        exact (show Tryd.prog.wantsStandIn t = false by simpa using List.all_eq_true.1 hall t hm)⟩)
    (by kernel_rfl)
end Go.Proofs.YthgmhlpjbednpaaDoor.locksApart
namespace Go.Proofs.YthgmhlpjbednpaaDoor
theorem locksApart_holds : Rows.LocksApartCardSaid := locksApart.proved
end Go.Proofs.YthgmhlpjbednpaaDoor
