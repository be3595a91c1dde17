-- written by xprint.py (a program of this session's, over the kit's print.py). Lean checks it.
import Derived.Test.YtinhoindkpaibaaX0
import Derived.Test.YtinhoindkpaibaaX2
import Derived.Test.YtinhoindkpaibaaX4
namespace Go.Proofs.Ytinhoindkpaibaa.X
open Go.RowKit Go.Proofs.YtinhoindkpaibaaW.PrintWords Go.Proofs.YtinhoindkpaibaaW.PrintLast Go.Proofs.YtinhoindkpaibaaW.PrintMore
attribute [local go_sem] max2_int min2_int max_two min_two max_three min_three max_four min_four   -- for this text's walks alone
set_option linter.unusedVariables false
set_option linter.unusedSimpArgs false

/-! ### accountingref14_Bytes: function 25 -/
def accountingref14_Bytes.l0 : Nat → Int → List Int → Int → Option (List Int)
  | 0, _, _, _ => none
  | k + 1, x0, x3, x4 => if x4 ≥ 0 then (if 0 ≤ x4 then (if x4 < (x3.length : Int) then (accountingref14_Bytes.l0 k (IntKind.u64.wrap (Int.tdiv x0 256)) (x3.set (x4 : Int).toNat ((Int.tmod x0 256) % 256)) (wrap64 (x4 - 1))) else (none)) else (none)) else (some x3)
def accountingref14_Bytes.f (k : Nat) (a0 : Int) : Option (List Int) := if 8 ≤ 281474976710656 then (accountingref14_Bytes.l0 k a0 (List.replicate 8 0) 7) else (none)
theorem accountingref14_Bytes.mono_l : ∀ k, (∀ y0 y1 y2, LeO (accountingref14_Bytes.l0 k y0 y1 y2) (accountingref14_Bytes.l0 (k + 1) y0 y1 y2))
  | 0 => fun _ _ _ r h => by simp [accountingref14_Bytes.l0] at h
  | k + 1 => by
    have ih0 := accountingref14_Bytes.mono_l k
    · intro y0 y1 y2
      unfold accountingref14_Bytes.l0
      repeat' first
      | (with_reducible exact ih0 _ _ _)
      | (with_reducible exact LeO.refl _)
      | (with_reducible exact LeO.none _)
      | (with_reducible refine LeO.ite ?_ ?_)
      | (with_reducible refine LeO.bind ?_ (fun _ => ?_))
      | exact ih0 _ _ _
      | exact LeO.none _
      | refine LeO.ite ?_ ?_
      | refine LeO.bind ?_ (fun _ => ?_)
theorem accountingref14_Bytes.mono : ∀ a0 k, LeO (accountingref14_Bytes.f k a0) (accountingref14_Bytes.f (k + 1) a0) := by
  intro a0 k
  have ih0 := accountingref14_Bytes.mono_l k
  unfold accountingref14_Bytes.f
  repeat' first
      | (with_reducible exact ih0 _ _ _)
      | (with_reducible exact LeO.refl _)
      | (with_reducible exact LeO.none _)
      | (with_reducible refine LeO.ite ?_ ?_)
      | (with_reducible refine LeO.bind ?_ (fun _ => ?_))
      | exact ih0 _ _ _
      | exact LeO.none _
      | refine LeO.ite ?_ ?_
      | refine LeO.bind ?_ (fun _ => ?_)
set_option maxHeartbeats 8000000 in
set_option maxRecDepth 100000 in
theorem accountingref14_Bytes.calls (k : Nat) (a0 : Int) (r : List Int) (w : World) (h : accountingref14_Bytes.f k a0 = some r) :
    Calls Try.prog 25 #[.int .u64 a0] w fun e w' => ∃ v0_ : Value, e = .returned (v0_) ∧ Kd.R (Kd.int .u8) 5 w' w.heap.size (fun _ => True) v0_ r ∧ Below w.heap.size w w' := by
  have HB := Aside0.mk (Below.refl w.heap.size w)
  have H : (if 8 ≤ 281474976710656 then (accountingref14_Bytes.l0 k a0 (List.replicate 8 0) 7) else (none)) = some r := h
  clear h
  by_cases c2 : 8 ≤ 281474976710656
  · rw [if_pos c2] at H
    have c2b0 := eq_true c2
    have c2b1 : decide (8 ≤ 281474976710656) = true := decide_eq_true c2
    clear c2
    obtain ⟨y281, hy281⟩ : ∃ y_ : List Int, y_ = (List.replicate 8 0) := ⟨_, rfl⟩
    replace H : (accountingref14_Bytes.l0 k a0 y281 7) = some r := by first | (rw [hy281]; with_reducible exact H) | (have H2_ := (Option.bind_some _ _).symm.trans H; rw [hy281]; with_reducible exact H2_) | (have H2_ := (Option.bind_some _ _).symm.trans H; with_reducible exact H2_) | with_reducible exact H | (rw [hy281]; exact H) | exact H
    have Ny281 := Aside0.mk hy281
    clear hy281
    have H' := Aside0.mk H
    clear H
    go_enter Try.func25, Try.ntmps25
    go_wp2_with (first | ((with_reducible refine gate_dst (N := 5) rfl ?_); refine Kd.R_make (Kd.int .u8) _ 5 rfl (N := 5) rfl 23 _ _ rfl 8 rfl rfl Try.underlying23 (.int .u8 0) 1 info5 rfl (by decide) (by omega) 0 (ok := fun _ => True) (okp := fun _ => True) rfl (fun _ hk => hk) trivial (by omega) (by omega) (Below.refl _ _) (Nat.le_refl _) ?_; intro v282 w3 ho4 hb hg_ hnew_; clear hg_ hnew_; (first | rw [← Ny281.out] at ho4 | (simp only [Int.reduceToNat] at ho4; rw [← Ny281.out] at ho4)); have n0_ := Aside0.mk (Kd.R_lower ho4 (below_size (by repeat (first | (with_reducible first | exact HB.out | apply below_alloc | apply pw_below_drewN | apply below_drew1) | exact HB.out)))); have n1_ := Aside0.mk (below_step (by repeat (first | (with_reducible first | exact HB.out | apply below_alloc | apply pw_below_drewN | apply below_drew1) | exact HB.out)) hb); clear HB; have HO283 := n0_; have HB := n1_; clear n0_ n1_; clear hb ho4))
    go_loopg [0, 4] k (fun kq v0 v4 w' => ∃ (x0_1 : Int) (x3_1 : List Int) (x4_1 : Int), v0 = .int .u64 x0_1 ∧ v4 = .int .i64 x4_1 ∧ Aside0 (accountingref14_Bytes.l0 kq x0_1 x3_1 x4_1 = some r) ∧ Aside0 (kq ≤ k) ∧ Aside0 (Kd.R (Kd.int .u8) 5 w' w.heap.size (fun _ => True) v282 x3_1) ∧ Aside0 (Below w.heap.size w w'))
    case atStart => exact ⟨(a0), (y281), (7), (by first | rfl | (simp; done) | (simp [*]; done)), (by first | rfl | (simp; done) | (simp [*]; done)), H', ⟨Nat.le_refl _⟩, ⟨by (with_reducible repeat (first | apply Kd.R_alloc | apply Kd.R_drewN | apply Kd.R_drew)); exact HO283.out⟩, ⟨by repeat (first | (with_reducible first | exact HB.out | apply below_alloc | apply pw_below_drewN | apply below_drew1) | exact HB.out)⟩⟩
    case round =>
      clear H'
      try clear c2
      try clear c2b0
      try clear c2b1
      try clear p2
      obtain ⟨x0_1, x3_1, x4_1, rfl, rfl, HA, HK1, HO_3, HB⟩ := hrel
      cases gk with
      | zero => exact absurd HA.out (by simp [accountingref14_Bytes.l0])
      | succ k1 =>
        have H := HA.out
        clear HA
        simp only [accountingref14_Bytes.l0] at H
        by_cases c5 : x4_1 ≥ 0
        · rw [if_pos c5] at H
          have c5b0 : decide (0 ≤ x4_1) = true := decide_eq_true c5
          clear c5
          by_cases c6 : 0 ≤ x4_1
          · rw [if_pos c6] at H
            have c6b0 : decide (0 ≤ x4_1) = true := decide_eq_true c6
            clear c6
            by_cases c7 : x4_1 < (x3_1.length : Int)
            · rw [if_pos c7] at H
              have c7b0 : decide (x4_1 < (x3_1.length : Int)) = true := decide_eq_true c7
              clear c7
              obtain ⟨y284, hy284⟩ : ∃ y_ : List Int, y_ = (x3_1.set (x4_1 : Int).toNat ((Int.tmod x0_1 256) % 256)) := ⟨_, rfl⟩
              replace H : (accountingref14_Bytes.l0 k1 (IntKind.u64.wrap (Int.tdiv x0_1 256)) y284 (wrap64 (x4_1 - 1))) = some r := by first | (rw [hy284]; with_reducible exact H) | (have H2_ := (Option.bind_some _ _).symm.trans H; rw [hy284]; with_reducible exact H2_) | (have H2_ := (Option.bind_some _ _).symm.trans H; with_reducible exact H2_) | with_reducible exact H | (rw [hy284]; exact H) | exact H
              have Ny284 := Aside0.mk hy284
              clear hy284
              have H' := Aside0.mk H
              clear H
              have p8 : 0 ≤ (x4_1 : Int) := of_decide_eq_true (by first | (with_reducible assumption) | assumption)
              have q8 : (x4_1 : Int) < ((x3_1.length : Int) : Int) := of_decide_eq_true (by first | (with_reducible assumption) | assumption)
              obtain ⟨go8, co8, eo8, gb8, gl8, cl8, HG8⟩ := Kd.R_form HO_3.out (by omega)
              (first | cases eo8 | (injection eo8 with ea_ en_ ec_; (first | subst ea_ | (injection ea_ with ea_; subst ea_)); subst ec_; clear en_))
              have GB8 := Aside0.mk gb8
              have GG8 := Aside0.mk HG8
              clear gb8 gl8 HG8
              obtain ⟨hx8_0, hf8_0⟩ := Kd.R_celln 0 HO_3.out (x4_1 : Int) p8 q8
              replace p8 := eq_true p8
              replace q8 := eq_true q8
              have HP9 := Kd.R_putg HO_3.out (x4_1 : Int) ((Int.tmod x0_1 256) % 256)
              go_wp2_with (first | ((with_reducible refine gate_store (t := 5) (p := 15) rfl ?_); refine store_event (t := 5) (p := 15) (v := ?vo_w10) (w1 := (wr.setCell ⟨go8, (x4_1 : Int).toNat, none⟩ (.int .u8 ((Int.tmod x0_1 256) % 256)))) ?hg ?ho ?hn ?hr ?_; (case ho => rfl); (case hg => rfl); (case hn => rfl); (case hr => first | (go_simp; done) | (go_simp; rfl)); intro w10 hw; have hg : wr.grownBy w10 (some go8) := (by rw [hw]; exact HP9.2); have hp_ : Kd.R (Kd.int .u8) 5 w10 w.heap.size (fun _ => True) (.slice (some ⟨go8, 0, none⟩) x3_1.length co8) y284 := (by rw [hw, Ny284.out]; exact HP9.1); clear HP9; have n0_ := Aside0.mk (hp_); have n1_ := Aside0.mk ((by rw [hw]; exact below_set (HB.out) GB8.out : Below w.heap.size w w10)); clear HO_3; clear HB; have HO_3 := n0_; have HB := n1_; clear n0_ n1_; clear hg hw hp_))
              go_roundg k1
              case measure => have := HK1.out; omega
              case rel => exact ⟨(IntKind.u64.wrap (Int.tdiv x0_1 256)), (y284), (wrap64 (x4_1 - 1)), (by first | rfl | (simp; done) | (simp [*]; done)), (by first | rfl | (simp; done) | (simp [*]; done)), H', ⟨by have := HK1.out; omega⟩, ⟨by (with_reducible repeat (first | apply Kd.R_alloc | apply Kd.R_drewN | apply Kd.R_drew)); exact HO_3.out⟩, ⟨by repeat (first | (with_reducible first | exact HB.out | apply below_alloc | apply pw_below_drewN | apply below_drew1) | exact HB.out)⟩⟩
            · rw [if_neg c7] at H
              exact absurd H (by simp)
          · rw [if_neg c6] at H
            exact absurd H (by simp)
        · rw [if_neg c5] at H
          have c5b0 : decide (0 ≤ x4_1) = false := decide_eq_false c5
          clear c5
          obtain rfl := Option.some.inj H
          go_wp2
          go_ret
          exact ⟨_, by first | rfl | (simp [errW_none, errW_some] <;> rfl) | (simp [*, errW_none, errW_some] <;> rfl), by (with_reducible repeat (first | apply Kd.R_alloc | apply Kd.R_drewN | apply Kd.R_drew)); exact HO_3.out, by repeat (first | (with_reducible first | exact HB.out | apply below_alloc | apply pw_below_drewN | apply below_drew1) | exact HB.out)⟩
  · rw [if_neg c2] at H
    exact absurd H (by simp)

/-! ### accountingref14_Text: function 27 -/
def byteB (b : List Int) : Bool := decide (b.length = 8) && b.all fun c => decide (0 ≤ c) && decide (c ≤ 255)
def hexL (b : List Int) : ByteArray := strOfNums (b.flatMap fun c => [bt digs (c / 16), bt digs (c % 16)])
def accountingref14_Text.f (k : Nat) (a0 : Int) : Option (ByteArray) := (accountingref14_Bytes.f k a0).bind fun b => if byteB b = true then some (hexL b) else none
theorem accountingref14_Text.mono : ∀ a0 k, LeO (accountingref14_Text.f k a0) (accountingref14_Text.f (k + 1) a0) := fun a0 k => LeO.bind (accountingref14_Bytes.mono a0 k) (fun _ => LeO.refl _)
theorem byteB_at {b : List Int} (h : byteB b = true) : b.length = 8 ∧ ∀ i : Int, 0 ≤ rd b i ∧ rd b i ≤ 255 := by
  simp only [byteB, Bool.and_eq_true, decide_eq_true_eq, List.all_eq_true] at h
  refine ⟨h.1, fun i => ?_⟩
  unfold rd
  rw [List.getD_eq_getElem?_getD]
  cases e : b[i.toNat]? with
  | none => simp
  | some v => exact h.2 v (List.mem_of_getElem? e)
theorem bt_digs (n : Int) : 0 ≤ bt digs n ∧ bt digs n ≤ 255 := bt_range _ _
theorem digs_cut (n : Int) (h0 : 0 ≤ n) (h1 : n < 16) : digs.extract n.toNat (n + 1).toNat = strOfNums [bt digs n] := by
  obtain ⟨m, rfl⟩ := Int.eq_ofNat_of_zero_le h0
  have hm : m < 16 := by omega
  clear h0 h1
  revert m
  decide
theorem strOf_append (a b : List Int) : strOfNums (a ++ b) = strOfNums a ++ strOfNums b := by
  apply ByteArray.ext
  simp [strOfNums, ByteArray.data_append]
theorem hexL_step (b : List Int) (i : Nat) (h : i < b.length) (s : ByteArray) (hs : s = hexL (b.take i)) (_ : 0 ≤ rd b i) (_ : rd b i ≤ 255) :
    (s ++ strOfNums [bt digs (rd b i / 16)]) ++ strOfNums [bt digs (rd b i % 16)] = hexL (b.take (i + 1)) := by
  have e : rd b i = b[i] := by unfold rd; simp [List.getD_eq_getElem?_getD, List.getElem?_eq_getElem h]
  rw [hs, List.take_succ_eq_append_getElem h]
  unfold hexL
  rw [List.flatMap_append, strOf_append, ByteArray.append_assoc, ← strOf_append, ← e]
  rfl
theorem quiet_add_ {P : Program} {f : FuncId} {args : Array Value} {w : World} {n : Nat} {v : Value}
    (h : Calls P f args (w.drewN n) fun e w' => e = .returned v ∧ Drawn0 (w.drewN n) w') : Calls P f args (w.drewN n) fun e w'' => e = .returned v ∧ ∃ m, w'' = w.drewN m :=
  h.mono fun _ _ ⟨he, ⟨m, hm⟩⟩ => ⟨he, n + m, by rw [hm, World.drewN_drewN]⟩
theorem quiet_add2_ {P : Program} {f : FuncId} {args : Array Value} {w : World} {a n : Nat} {v : Value}
    (h : Calls P f args (w.drewN (a + n)) fun e w' => e = .returned v ∧ Drawn0 (w.drewN (a + n)) w') : Calls P f args (w.drewN (a + n)) fun e w'' => e = .returned v ∧ ∃ m, w'' = w.drewN (a + m) :=
  h.mono fun _ _ ⟨he, ⟨m, hm⟩⟩ => ⟨he, n + m, by rw [hm, World.drewN_drewN, Nat.add_assoc]⟩
theorem cut_run (n : Int) (h0 : 0 ≤ n) (h1 : n < 16) (W : World) : (Instr.slice 9 (.string (⟨#[48, 49, 50, 51, 52, 53, 54, 55, 56, 57, 97, 98, 99, 100, 101, 102]⟩ : ByteArray)) (some (.int .i64 n)) (some (.int .i64 (n + 1))) none).run Try.prog W = .ok (.string (strOfNums [bt digs n])) W := by
  rw [← digs_cut n h0 h1]
  exact run_slice_string W 9 digs .i64 .i64 n (n + 1) Try.underlying9 h0 (by omega) (show n + 1 ≤ (16 : Int) by omega)
theorem add_run (s : ByteArray) (x : Int) (h : s.size ≤ 17) (W : World) : (Op.stringOp .add s (strOfNums [x])).run Try.prog W = .ok (.string (s ++ strOfNums [x])) W := by
  exact run_string_add_sum W s _ (by show s.size + 1 ≤ _; omega)
theorem hexL_size (b : List Int) (i : Nat) (hl : b.length = 8) (hi : i ≤ 8) : (hexL (b.take i)).size ≤ 16 := by
  unfold hexL strOfNums
  show (List.map _ _).toArray.size ≤ 16
  rw [List.size_toArray, List.length_map, List.length_flatMap]
  have : ∀ l : List Int, (List.map (fun a : Int => [bt digs (a / 16), bt digs (a % 16)].length) l).sum = 2 * l.length := fun l => by
    induction l with
    | nil => rfl
    | cons a l ih => rw [List.map_cons, List.sum_cons, ih, List.length_cons]; simp; omega
  rw [this, List.length_take]
  omega
set_option maxHeartbeats 8000000 in
set_option maxRecDepth 100000 in
theorem accountingref14_Text.calls (k : Nat) (a0 : Int) (r : ByteArray) (w : World) (h : accountingref14_Text.f k a0 = some r) :
    Calls Try.prog 27 #[.int .u64 a0] w fun e w' => e = .returned (.string r) ∧ Below w.heap.size w w' := by
  obtain ⟨b, hb, h⟩ := Option.bind_eq_some_iff.mp h
  by_cases hB : byteB b = true
  · rw [if_pos hB] at h
    obtain rfl := Option.some.inj h
    clear h
    obtain ⟨hl, hr⟩ := byteB_at hB
    have HB := Aside0.mk hb
    have HL := Aside0.mk hl
    have HR := Aside0.mk hr
    clear hb hl hr hB
    go_enter Try.func27, Try.ntmps27
    go_wp2_with (go_at_call 25; refine (accountingref14_Bytes.calls k a0 b _ HB.out).mono ?_; rintro e w1 ⟨v0, rfl, ho, hbl⟩; obtain ⟨A, c, rfl⟩ := Kd.R_slice ho; have HO := Aside0.mk ho; have HBL := Aside0.mk hbl; clear ho hbl)
    go_loopw [4, 5] (fun v4 v5 w' => ∃ (s : ByteArray) (i : Nat), v4 = .string s ∧ v5 = .int .i64 i ∧ i ≤ 8 ∧ Aside0 (s = hexL (b.take i)) ∧ Aside0 (∃ n, w' = w1.drewN n)) (fun _ v5 _ => 8 - (intOf v5).toNat)
    case atStart => exact ⟨_, 0, rfl, rfl, by omega, ⟨rfl⟩, ⟨0, rfl⟩⟩
    case round =>
      obtain ⟨s, i, rfl, rfl, hi, HS, ⟨n, rfl⟩⟩ := hrel
      by_cases hlt : i < 8
      · have hil : i < b.length := by have := HL.out; omega
        obtain ⟨ad, e, hx⟩ := Kd.at_int (Kd.R_reads' HO.out).2.2 (i : Int) (by omega) (by omega)
        cases e
        rw [Int.toNat_natCast] at hx
        have hr0 := (HR.out i).1
        have hr1 := (HR.out i).2
        have hd : decide ((i : Int) < 8) = true := decide_eq_true (by omega)
        have hq : (i : Int) < (b.length : Int) := by omega
        go_wp2
        go_quiet (fail)
        go_wp2
        have k0 : 0 ≤ rd b (i : Int) / 16 := by omega
        have k1 : rd b (i : Int) / 16 + 1 ≤ 16 := by omega
        have k2 : 0 ≤ rd b (i : Int) % 16 := by omega
        have k3 : rd b (i : Int) % 16 + 1 ≤ 16 := by omega
        have s1 := fun W => cut_run _ (by omega) (by omega : rd b (i : Int) / 16 < 16) W
        have s2 := fun W => cut_run _ (by omega) (by omega : rd b (i : Int) % 16 < 16) W
        have hs : s.size ≤ 16 := by rw [HS.out]; exact hexL_size _ _ HL.out hi
        have a1 := fun W => add_run s (bt digs (rd b (i : Int) / 16)) (by omega) W
        have a2 := fun W => add_run (s ++ strOfNums [bt digs (rd b (i : Int) / 16)]) (bt digs (rd b (i : Int) % 16)) (by rw [ByteArray.size_append]; show s.size + 1 ≤ 17; omega) W
        clear k0 k1 k2 k3
        go_quiet ((go_at_call 32; exact quiet_add2_ (accountingref14_digits.calls _ _ rfl)))
        clear s1 s2 a1 a2
        go_wp2
        go_roundw
        case rel => exact ⟨_, i + 1, rfl, by go_num, by omega, ⟨hexL_step b i hil s HS.out hr0 hr1⟩, ⟨_, rfl⟩⟩
        case measure => simp [intOf]; omega
      · have hd : decide ((i : Int) < 8) = false := decide_eq_false (by omega)
        have h8 : i = 8 := by omega
        have HS8 : Aside0 (s = hexL b) := ⟨by rw [HS.out, h8, List.take_of_length_le (by rw [HL.out]; omega)]⟩
        clear h8 HS
        go_wp2
        go_ret
        exact ⟨congrArg (fun z => Ending.returned (Value.string z)) HS8.out, pw_below_drewN HBL.out _⟩
  · rw [if_neg hB] at h
    exact absurd h (by simp)

end Go.Proofs.Ytinhoindkpaibaa.X
