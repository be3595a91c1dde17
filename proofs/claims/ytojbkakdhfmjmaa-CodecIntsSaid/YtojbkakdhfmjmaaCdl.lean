/- Plain laws of the codec's numbers and texts: both sides come to one law over lists. No program in sight but the printed functions' names. -/
import Derived.Test.YtojbkakdhfmjmaaX
import Derived.Test.YtojbkakdhfmjmaaXSt
import Derived.Laws.Bits64
import Derived.Laws.Bits64b
import Derived.Laws.DeepNot64
namespace Go.Proofs.Ytojbkakdhfmjmaa.Pure
open Go.RowKit Go.Proofs.Ytojbkakdhfmjmaa.X Go.Proofs.YtojbkakdhfmjmaaW.PrintWords Go.Proofs.YtojbkakdhfmjmaaW.PrintLast Go.Proofs.YtojbkakdhfmjmaaW.PrintMore

theorem drop_nil_ {α : Type} {l : List α} {i : Nat} (h : l.drop i = []) : l.length ≤ i := List.drop_eq_nil_iff.mp h
theorem drop_cons_ {α : Type} {l s : List α} {c : α} {i : Nat} (h : l.drop i = c :: s) : i < l.length ∧ l[i]? = some c ∧ l.drop (i + 1) = s := by
  have hlt : i < l.length := by
    rcases Nat.lt_or_ge i l.length with h1 | h1
    · exact h1
    · rw [List.drop_eq_nil_of_le h1] at h; cases h
  rw [List.drop_eq_getElem_cons hlt] at h
  injection h with h1 h2
  exact ⟨hlt, by rw [List.getElem?_eq_getElem hlt, h1], h2⟩
theorem rd_some {l : List Int} {i : Nat} {c : Int} (h : l[i]? = some c) : rd l (i : Int) = c := by
  unfold rd; rw [Int.toNat_natCast, List.getD_eq_getElem?_getD, h]; rfl
theorem wrap_succ {i n : Nat} (h : i < n) (hn : n ≤ 9223372036854775807) : wrap64 ((i : Int) + 1) = ((i + 1 : Nat) : Int) := by
  unfold wrap64; omega
theorem u64_small {n : Int} (h0 : 0 ≤ n) (h1 : n < 18446744073709551616) : IntKind.u64.wrap n = n := by
  rw [IntKind.wrap_u64]; omega
theorem w64_small {n : Int} (h0 : -9223372036854775808 ≤ n) (h1 : n < 9223372036854775808) : wrap64 n = n := by
  unfold wrap64; omega
theorem wf_u8 {a : Int} (h : (Lit.int .u8 a).wf = true) : 0 ≤ a ∧ a < 256 := by
  have h1 : IntKind.u8.min = 0 := rfl
  have h2 : IntKind.u8.max = 255 := rfl
  simp only [Lit.wf, Bool.and_eq_true, decide_eq_true_eq] at h
  omega
theorem wf_i64 {a : Int} (h : (Lit.int .i64 a).wf = true) : -9223372036854775808 ≤ a ∧ a < 9223372036854775808 := by
  have h1 : IntKind.i64.min = -9223372036854775808 := rfl
  have h2 : IntKind.i64.max = 9223372036854775807 := rfl
  simp only [Lit.wf, Bool.and_eq_true, decide_eq_true_eq] at h
  omega

/-! ### bits -/
theorem or8_all : ∀ c : Nat, c < 256 → Go.bits .or .u8 (c : Int) 128 = ((c % 128 + 128 : Nat) : Int) := by decide +kernel
theorem and8_all : ∀ c : Nat, c < 256 → Go.bits .and .u8 (c : Int) 127 = ((c % 128 : Nat) : Int) := by decide +kernel
theorem or8 (c : Int) (h0 : 0 ≤ c) (h1 : c < 256) : Go.bits .or .u8 c 128 = c % 128 + 128 := by
  obtain ⟨n, rfl⟩ := Int.eq_ofNat_of_zero_le h0
  rw [or8_all n (by omega)]; omega
theorem and8 (c : Int) (h0 : 0 ≤ c) (h1 : c < 256) : Go.bits .and .u8 c 127 = c % 128 := by
  obtain ⟨n, rfl⟩ := Int.eq_ofNat_of_zero_le h0
  rw [and8_all n (by omega)]; omega
theorem xor_comm_ (k : IntKind) (a b : Int) : Go.bits .xor k a b = Go.bits .xor k b a := by
  unfold Go.bits; simp only [BitVec.xor_comm]
theorem xor_zero_u64 (a : Nat) (h : a < 18446744073709551616) : Go.bits .xor .u64 (a : Int) 0 = a := by
  have := bits_xor_u64_nat a 0 h (by omega)
  rw [Nat.xor_zero] at this; exact this
theorem xor_ones_u64 (a : Nat) (h : a < 18446744073709551616) : Go.bits .xor .u64 (a : Int) 18446744073709551615 = 18446744073709551615 - (a : Int) := by
  show IntKind.u64.wrap ((BitVec.ofInt 64 (a : Int) ^^^ BitVec.ofInt 64 18446744073709551615).toNat : Int) = _
  have h1 : BitVec.ofInt 64 18446744073709551615 = BitVec.allOnes 64 := by decide
  rw [h1, BitVec.xor_allOnes, BitVec.toNat_not, ofInt_u64 a (by omega), IntKind.wrap_u64]
  omega
theorem xor_zero_i64 (a : Nat) (h : a < 9223372036854775808) : Go.bits .xor .i64 (a : Int) 0 = a := by
  show IntKind.i64.wrap ((BitVec.ofInt 64 (a : Int) ^^^ BitVec.ofInt 64 0).toNat : Int) = _
  have h1 : BitVec.ofInt 64 0 = 0#64 := by decide
  rw [h1, BitVec.xor_zero, ofInt_u64 a (by omega), IntKind.wrap_i64]
  omega

/-! ### PutInt -/
def vL : Nat → Int → List Int
  | 0, _ => []
  | f + 1, x => if x ≥ 128 then (x % 128 + 128) :: vL f (x / 128) else [x]
theorem vL_len : ∀ (f : Nat) (x : Int), (vL f x).length ≤ f
  | 0, _ => by simp [vL]
  | f + 1, x => by
    unfold vL; split
    · simp; exact vL_len f _
    · simp
theorem div_lt_pow {x : Int} {f : Nat} (h : x < 128 ^ (f + 1)) : x / 128 < 128 ^ f := by
  rw [Int.pow_succ] at h
  exact Int.ediv_lt_of_lt_mul (by decide) h
theorem put_l0 : ∀ (f : Nat) (x : Int) (out : List Int), 0 ≤ x → x < 128 ^ (f + 1) → out.length + f ≤ 100 → Ev (fun k => codec_PutInt.l0 k out x) (out ++ vL (f + 1) x) := by
  intro f
  induction f with
  | zero =>
    intro x out h0 h1 ho
    have h1 : x < 128 := h1
    refine Ev.step (f := fun _ => some (out ++ [x % 256])) (fun k => ?_) ?_
    · simp only [codec_PutInt.l0]; rw [if_neg (by omega), if_pos (by omega)]
    · unfold vL; rw [if_neg (by omega), show x % 256 = x by omega]; exact Ev.now _
  | succ f ih =>
    intro x out h0 h1 ho
    by_cases hx : x ≥ 128
    · refine Ev.step (f := fun k => codec_PutInt.l0 k (out ++ [x % 128 + 128]) (x / 128)) (fun k => ?_) ?_
      · simp only [codec_PutInt.l0]; rw [if_pos hx, if_pos (by omega), or8 _ (by omega) (by omega), show x % 256 % 128 = x % 128 by omega]
      · have := ih (x / 128) (out ++ [x % 128 + 128]) (by omega) (div_lt_pow h1) (by simp; omega)
        rw [vL, if_pos hx]
        simpa using this
    · refine Ev.step (f := fun _ => some (out ++ [x % 256])) (fun k => ?_) ?_
      · simp only [codec_PutInt.l0]; rw [if_neg (by omega), if_pos (by omega)]
      · unfold vL; rw [if_neg (by omega), show x % 256 = x by omega]; exact Ev.now _
theorem rput_l0 : ∀ (f : Nat) (x : Int) (out : List Int), 0 ≤ x → x < 18446744073709551616 → x < 128 ^ (f + 1) → out.length + f ≤ 100 → Ev (fun k => accountingref13_PutInt.l0 k x out) (out ++ vL (f + 1) x) := by
  intro f
  induction f with
  | zero =>
    intro x out h0 hm h1 ho
    have h1 : x < 128 := h1
    refine Ev.step (f := fun _ => some (out ++ [x % 256])) (fun k => ?_) ?_
    · simp only [accountingref13_PutInt.l0]; rw [if_neg (by omega), if_pos (by omega)]
    · unfold vL; rw [if_neg (by omega), show x % 256 = x by omega]; exact Ev.now _
  | succ f ih =>
    intro x out h0 hm h1 ho
    by_cases hx : x ≥ 128
    · refine Ev.step (f := fun k => accountingref13_PutInt.l0 k (x / 128) (out ++ [x % 128 + 128])) (fun k => ?_) ?_
      · have e1 : Int.tdiv x 128 = x / 128 := Int.tdiv_eq_ediv_of_nonneg h0
        have e2 : Int.tmod x 128 = x % 128 := Int.tmod_eq_emod_of_nonneg h0
        simp only [accountingref13_PutInt.l0]
        rw [if_pos hx, if_pos (by omega), e1, e2, u64_small (n := x / 128) (by omega) (by omega), u64_small (n := x % 128 + 128) (by omega) (by omega), show (x % 128 + 128) % 256 = x % 128 + 128 by omega]
      · have := ih (x / 128) (out ++ [x % 128 + 128]) (by omega) (by omega) (div_lt_pow h1) (by simp; omega)
        rw [vL, if_pos hx]
        simpa using this
    · refine Ev.step (f := fun _ => some (out ++ [x % 256])) (fun k => ?_) ?_
      · simp only [accountingref13_PutInt.l0]; rw [if_neg (by omega), if_pos (by omega)]
      · unfold vL; rw [if_neg (by omega), show x % 256 = x by omega]; exact Ev.now _
def zz (n : Int) : Int := if n < 0 then -2 * n - 1 else 2 * n
theorem zz_range (n : Int) (h0 : -9223372036854775808 ≤ n) (h1 : n < 9223372036854775808) : 0 ≤ zz n ∧ zz n < 18446744073709551616 := by
  unfold zz; split <;> omega
theorem zz_xor (n : Int) (h0 : -9223372036854775808 ≤ n) (h1 : n < 9223372036854775808) :
    Go.bits .xor .u64 (IntKind.u64.wrap ((IntKind.u64.wrap (n)) * 2)) (IntKind.u64.wrap (n / 9223372036854775808)) = zz n := by
  unfold zz
  by_cases hn : n < 0
  · have e1 : IntKind.u64.wrap (IntKind.u64.wrap n * 2) = ((2 * n + 18446744073709551616).toNat : Int) := by
      rw [IntKind.wrap_u64, IntKind.wrap_u64]; omega
    have e2 : IntKind.u64.wrap (n / 9223372036854775808) = 18446744073709551615 := by
      rw [IntKind.wrap_u64]; omega
    rw [e1, e2, xor_ones_u64 _ (by omega), if_pos hn]; omega
  · have e1 : IntKind.u64.wrap (IntKind.u64.wrap n * 2) = ((2 * n).toNat : Int) := by
      rw [IntKind.wrap_u64, IntKind.wrap_u64]; omega
    have e2 : IntKind.u64.wrap (n / 9223372036854775808) = 0 := by
      rw [IntKind.wrap_u64]; omega
    rw [e1, e2, xor_zero_u64 _ (by omega), if_neg hn]; omega
def putS (n : Int) : List Int := vL 10 (zz n)
theorem putS_len (n : Int) : (putS n).length ≤ 10 := vL_len _ _
theorem put_ev (n : Int) (h0 : -9223372036854775808 ≤ n) (h1 : n < 9223372036854775808) : Ev (fun k => codec_PutInt.f k n) (putS n) := by
  unfold codec_PutInt.f
  rw [zz_xor n h0 h1]
  have := zz_range n h0 h1
  exact put_l0 9 (zz n) [] this.1 (by have : (128 : Int) ^ 10 = 1180591620717411303424 := by decide
                                      omega) (by simp)
theorem rput_ev (n : Int) (h0 : -9223372036854775808 ≤ n) (h1 : n < 9223372036854775808) : Ev (fun k => accountingref13_PutInt.f k n) (putS n) := by
  have hz := zz_range n h0 h1
  have h128 : zz n < 128 ^ (9 + 1) := by
    have : (128 : Int) ^ (9 + 1) = 1180591620717411303424 := by decide
    omega
  have hl : Ev (fun k => accountingref13_PutInt.j0 k (zz n)) (putS n) := Ev.step (f := fun k => accountingref13_PutInt.l0 k (zz n) []) (fun k => rfl) (rput_l0 9 (zz n) [] hz.1 hz.2 h128 (by simp))
  unfold accountingref13_PutInt.f
  by_cases hn : n < 0
  · simp only [if_pos hn]
    have e : IntKind.u64.wrap ((IntKind.u64.wrap ((IntKind.u64.wrap (wrap64 (-(wrap64 (n + 1))))) * 2)) + 1) = zz n := by
      rw [w64_small (n := n + 1) (by omega) (by omega), w64_small (n := -(n + 1)) (by omega) (by omega), u64_small (n := -(n + 1)) (by omega) (by omega), u64_small (n := -(n + 1) * 2) (by omega) (by omega), u64_small (by omega) (by omega)]
      unfold zz; rw [if_pos hn]; omega
    rw [e]; exact hl
  · simp only [if_neg hn]
    have e : IntKind.u64.wrap ((IntKind.u64.wrap n) * 2) = zz n := by
      rw [u64_small (n := n) (by omega) (by omega), u64_small (by omega) (by omega)]
      unfold zz; rw [if_neg hn]; omega
    rw [e]; exact hl

/-! ### TakeInt -/
def fin (x : Int) : Int := if x % 2 = 1 then -(x / 2) - 1 else x / 2
def badS (i : Nat) (b : Int) : Bool := (decide (i = 9) && decide (b > 1)) || (decide (i > 0) && decide (b = 0))
def tS : List Int → Nat → Int → Int × Int × Int
  | [], i, _ => if i < 10 then (0, 0, 6) else (0, 0, 5)
  | b :: s, i, x => if i < 10 then (if badS i b = true then (0, 0, 5) else if b < 128 then (fin (x + b % 128 * 128 ^ i), ((i + 1 : Nat) : Int), 0) else tS s (i + 1) (x + b % 128 * 128 ^ i)) else (0, 0, 5)
theorem pow128 (i : Nat) : ((128 ^ i : Nat) : Int) = (128 : Int) ^ i := by rw [Int.natCast_pow]; rfl
theorem step_bound (i : Nat) (x b : Int) (hi : i < 10) (hx0 : 0 ≤ x) (hx : x < 128 ^ i) (hb0 : 0 ≤ b) (hb1 : b < 256) (h9 : i = 9 → b ≤ 1) :
    0 ≤ b % 128 * 128 ^ i ∧ x + b % 128 * 128 ^ i < 18446744073709551616 ∧ x + b % 128 * 128 ^ i < 128 ^ (i + 1) := by
  have hp : (0 : Int) < 128 ^ i := Int.pow_pos (by decide)
  have hc0 : 0 ≤ b % 128 := by omega
  have hc1 : b % 128 ≤ 127 := by omega
  have h1 := Int.mul_nonneg hc0 (Int.le_of_lt hp)
  have h2 : b % 128 * 128 ^ i ≤ 127 * 128 ^ i := Int.mul_le_mul_of_nonneg_right hc1 (Int.le_of_lt hp)
  have h3 : x + b % 128 * 128 ^ i < 128 ^ (i + 1) := by rw [Int.pow_succ]; omega
  refine ⟨h1, ?_, h3⟩
  by_cases h : i = 9
  · subst h
    have := h9 rfl
    have e : (128 : Int) ^ 9 = 9223372036854775808 := by decide
    rw [e] at hx ⊢
    omega
  · have h4 : (128 : Nat) ^ (i + 1) ≤ 128 ^ 9 := Nat.pow_le_pow_right (by decide) (by omega)
    have h5 : (128 : Int) ^ (i + 1) ≤ 9223372036854775808 := by rw [← pow128]; have : 128 ^ 9 = 9223372036854775808 := by decide
                                                                omega
    omega
theorem or_shift (i : Nat) (x b : Int) (hi : i < 10) (hx0 : 0 ≤ x) (hx : x < 128 ^ i) (hb0 : 0 ≤ b) (hb1 : b < 256) (h9 : i = 9 → b ≤ 1) :
    Go.bits .or .u64 x (shl .u64 (IntKind.u64.wrap (Go.bits .and .u8 b 127)) (wrap64 (7 * (i : Int)))) = x + b % 128 * 128 ^ i := by
  obtain ⟨s1, s2, s3⟩ := step_bound i x b hi hx0 hx hb0 hb1 h9
  rw [and8 b hb0 hb1, u64_small (by omega) (by omega), w64_small (by omega) (by omega)]
  obtain ⟨c, hc⟩ := Int.eq_ofNat_of_zero_le (show 0 ≤ b % 128 by omega)
  obtain ⟨y, rfl⟩ := Int.eq_ofNat_of_zero_le hx0
  rw [hc] at s1 s2 s3 ⊢
  have e : (c : Int) * 128 ^ i = ((c <<< (7 * i) : Nat) : Int) := by
    rw [Nat.shiftLeft_eq, Int.natCast_mul, Nat.pow_mul, pow128]
  rw [e] at s1 s2 s3 ⊢
  have e2 : shl .u64 (c : Int) (7 * (i : Int)) = ((c <<< (7 * i) : Nat) : Int) := by
    unfold shl
    have hm : min (7 * (i : Int)).toNat IntKind.u64.bits = 7 * i := by
      have : IntKind.u64.bits = 64 := rfl
      omega
    have e3 : (c : Int) * 2 ^ (7 * i) = ((c <<< (7 * i) : Nat) : Int) := by
      rw [Nat.shiftLeft_eq, Int.natCast_mul, Int.natCast_pow]; rfl
    rw [hm, e3]
    exact u64_small s1 (by omega)
  rw [e2]
  have hy : y < 2 ^ (7 * i) := by
    rw [Nat.pow_mul]
    have : (y : Int) < ((128 ^ i : Nat) : Int) := by rw [pow128]; exact hx
    exact_mod_cast this
  rw [bits_or_u64_nat _ _ (by omega) (by omega), Nat.or_comm, ← Nat.shiftLeft_add_eq_or_of_lt hy]
  omega
theorem fin_xor (x : Int) (h0 : 0 ≤ x) (h1 : x < 18446744073709551616) :
    Go.bits .xor .i64 (wrap64 (x / 2)) (wrap64 (-(wrap64 (Go.bits .and .u64 x 1)))) = fin x := by
  obtain ⟨n, rfl⟩ := Int.eq_ofNat_of_zero_le h0
  have e := bits_and_u64_nat n 1 (by omega) (by omega)
  rw [Nat.and_one_is_mod] at e
  have e' : Go.bits .and .u64 (n : Int) 1 = ((n % 2 : Nat) : Int) := e
  rw [e', w64_small (n := (n : Int) / 2) (by omega) (by omega), w64_small (n := ((n % 2 : Nat) : Int)) (by omega) (by omega), show (n : Int) / 2 = ((n / 2 : Nat) : Int) by omega]
  unfold fin
  rcases Nat.mod_two_eq_zero_or_one n with h | h
  · rw [h, if_neg (by omega), show wrap64 (-((0 : Nat) : Int)) = 0 by (unfold wrap64; omega), xor_zero_i64 _ (by omega)]; omega
  · rw [h, if_pos (by omega), show wrap64 (-((1 : Nat) : Int)) = -1 by (unfold wrap64; omega), xor_comm_, i64_not _ (by omega)]; omega
theorem bad_no {i : Nat} {b : Int} (h : badS i b = false) : (i = 9 → b ≤ 1) ∧ (i > 0 → b ≠ 0) := by
  simp only [badS, Bool.or_eq_false_iff, Bool.and_eq_false_iff, decide_eq_false_iff_not] at h
  omega
theorem take_l0 (l : List Int) (hl : l.length ≤ 9223372036854775807) (hr : ∀ b ∈ l, 0 ≤ b ∧ b < 256) : ∀ (s : List Int) (i : Nat) (x : Int), l.drop i = s → i ≤ l.length → i ≤ 10 → 0 ≤ x → x < 128 ^ i → Ev (fun k => codec_TakeInt.l0 k l x i) (tS s i x) := by
  intro s
  induction s with
  | nil =>
    intro i x hd hil hi _ _
    have := drop_nil_ hd
    by_cases h : i < 10
    · refine Ev.step (f := fun _ => some (0, 0, 6)) (fun k => by simp only [codec_TakeInt.l0]; rw [if_pos (by omega), if_pos (by omega)]) ?_
      unfold tS; rw [if_pos h]; exact Ev.now _
    · refine Ev.step (f := fun _ => some (0, 0, 5)) (fun k => by simp only [codec_TakeInt.l0]; rw [if_neg (by omega)]) ?_
      unfold tS; rw [if_neg h]; exact Ev.now _
  | cons b s ih =>
    intro i x hd hil hi hx0 hx
    obtain ⟨hlt, hc, hd'⟩ := drop_cons_ hd
    obtain ⟨hb0, hb1⟩ := hr b (List.mem_of_getElem? hc)
    by_cases h : i < 10
    · unfold tS; rw [if_pos h]
      refine Ev.step (f := fun k => codec_TakeInt.j1 k l x i b i (badS i b)) (fun k => ?_) ?_
      · simp only [codec_TakeInt.l0]
        rw [if_pos (by omega), if_neg (by omega), if_pos (by omega), if_pos (by omega), rd_some hc]
        unfold badS
        by_cases c1 : i = 9
        · subst c1
          rw [if_pos (by decide)]
          by_cases c2 : b > 1
          · rw [if_pos c2]; simp [c2]
          · rw [if_neg c2, if_pos (by decide)]; simp [c2]; rfl
        · rw [if_neg (by omega)]
          by_cases c3 : i > 0
          · rw [if_pos (by omega)]; simp [c1, c3]; rfl
          · rw [if_neg (by omega)]; simp [c1, c3]
      · cases hbad : badS i b with
        | true => exact Ev.step (f := fun _ => some (0, 0, 5)) (fun k => by simp only [codec_TakeInt.j1, if_true]) (by simp only [if_true]; exact Ev.now _)
        | false =>
          obtain ⟨h9, hz⟩ := bad_no hbad
          obtain ⟨s1, s2, s3⟩ := step_bound i x b h hx0 hx hb0 hb1 h9
          have eo := or_shift i x b h hx0 hx hb0 hb1 h9
          simp only [Bool.false_eq_true, if_false]
          by_cases c : b < 128
          · rw [if_pos c]
            refine Ev.step (f := fun _ => some (fin (x + b % 128 * 128 ^ i), ((i + 1 : Nat) : Int), 0)) (fun k => ?_) (Ev.now _)
            simp only [codec_TakeInt.j1]
            rw [if_neg (by decide), if_pos (by rw [w64_small (by omega) (by omega)]; omega), if_pos c, eo, fin_xor _ (by omega) s2, wrap_succ hlt hl]
          · rw [if_neg c]
            refine Ev.step (fun k => ?_) (ih (i + 1) (x + b % 128 * 128 ^ i) hd' (by omega) (by omega) (by omega) s3)
            simp only [codec_TakeInt.j1]
            rw [if_neg (by decide), if_pos (by rw [w64_small (by omega) (by omega)]; omega), if_neg c, eo, wrap_succ hlt hl]
    · refine Ev.step (f := fun _ => some (0, 0, 5)) (fun k => by simp only [codec_TakeInt.l0]; rw [if_neg (by omega)]) ?_
      unfold tS; rw [if_neg h]; exact Ev.now _
theorem rtake_l0 (l : List Int) (hl : l.length ≤ 9223372036854775807) (hr : ∀ b ∈ l, 0 ≤ b ∧ b < 256) : ∀ (s : List Int) (i : Nat) (x p : Int), l.drop i = s → i ≤ l.length → i ≤ 10 → 0 ≤ x → x < 128 ^ i → (i < 10 → p = 128 ^ i) → Ev (fun k => accountingref13_TakeInt.l0 k l x p i) (tS s i x) := by
  intro s
  induction s with
  | nil =>
    intro i x p hd hil hi _ _ _
    have := drop_nil_ hd
    by_cases h : i < 10
    · refine Ev.step (f := fun _ => some (0, 0, 6)) (fun k => by simp only [accountingref13_TakeInt.l0]; rw [if_pos (by omega), if_pos (by omega)]) ?_
      unfold tS; rw [if_pos h]; exact Ev.now _
    · refine Ev.step (f := fun _ => some (0, 0, 5)) (fun k => by simp only [accountingref13_TakeInt.l0]; rw [if_neg (by omega)]) ?_
      unfold tS; rw [if_neg h]; exact Ev.now _
  | cons b s ih =>
    intro i x p hd hil hi hx0 hx hp
    obtain ⟨hlt, hc, hd'⟩ := drop_cons_ hd
    obtain ⟨hb0, hb1⟩ := hr b (List.mem_of_getElem? hc)
    by_cases h : i < 10
    · unfold tS; rw [if_pos h]
      obtain rfl := hp h
      refine Ev.step (f := fun k => accountingref13_TakeInt.j1 k l x (128 ^ i) i (badS i b)) (fun k => ?_) ?_
      · simp only [accountingref13_TakeInt.l0]
        rw [if_pos (by omega), if_neg (by omega)]
        unfold badS
        by_cases c1 : i = 9
        · subst c1
          rw [if_pos (by decide), if_pos (by decide), if_pos (by omega), rd_some hc]
          by_cases c2 : b > 1
          · rw [if_pos c2]; simp [c2]
          · rw [if_neg c2, if_pos (by decide)]; simp [c2]; rfl
        · rw [if_neg (by omega)]
          by_cases c3 : i > 0
          · rw [if_pos (by omega), if_pos (by omega), if_pos (by omega), rd_some hc]; simp [c1, c3]; rfl
          · rw [if_neg (by omega)]; simp [c1, c3]
      · cases hbad : badS i b with
        | true => exact Ev.step (f := fun _ => some (0, 0, 5)) (fun k => by simp only [accountingref13_TakeInt.j1, if_true]) (by simp only [if_true]; exact Ev.now _)
        | false =>
          obtain ⟨h9, hz⟩ := bad_no hbad
          obtain ⟨s1, s2, s3⟩ := step_bound i x b h hx0 hx hb0 hb1 h9
          have et : Int.tmod b 128 = b % 128 := Int.tmod_eq_emod_of_nonneg hb0
          have eo : IntKind.u64.wrap (x + (IntKind.u64.wrap ((IntKind.u64.wrap (Int.tmod b 128)) * 128 ^ i))) = x + b % 128 * 128 ^ i := by
            rw [et, u64_small (n := b % 128) (by omega) (by omega), u64_small (n := b % 128 * 128 ^ i) s1 (by omega), u64_small (by omega) s2]
          simp only [Bool.false_eq_true, if_false]
          generalize hX : x + b % 128 * 128 ^ i = X at *
          by_cases c : b < 128
          · rw [if_pos c]
            refine Ev.step (f := fun _ => some (fin X, ((i + 1 : Nat) : Int), 0)) (fun k => ?_) (Ev.now _)
            have e1 : Int.tdiv X 2 = X / 2 := Int.tdiv_eq_ediv_of_nonneg (by omega)
            have e2 : Int.tmod X 2 = X % 2 := Int.tmod_eq_emod_of_nonneg (by omega)
            simp only [accountingref13_TakeInt.j1]
            rw [if_neg (by decide), if_pos (by omega), if_pos (by omega), rd_some hc, if_pos c, eo, e1, e2, u64_small (n := X / 2) (by omega) (by omega), w64_small (n := X / 2) (by omega) (by omega), w64_small (n := -(X / 2)) (by omega) (by omega), w64_small (n := -(X / 2) - 1) (by omega) (by omega), wrap_succ hlt hl]
            unfold fin; split <;> rfl
          · rw [if_neg c]
            refine Ev.step (fun k => ?_) (ih (i + 1) X (IntKind.u64.wrap (128 ^ i * 128)) hd' (by omega) (by omega) (by omega) s3 ?_)
            · simp only [accountingref13_TakeInt.j1]
              rw [if_neg (by decide), if_pos (by omega), if_pos (by omega), rd_some hc, if_neg c, eo, wrap_succ hlt hl]
            · intro h10
              rw [Int.pow_succ]
              have h4 : (128 : Nat) ^ (i + 1) ≤ 128 ^ 9 := Nat.pow_le_pow_right (by decide) (by omega)
              have h5 : (128 : Int) ^ (i + 1) ≤ 9223372036854775808 := by rw [← pow128]; have : 128 ^ 9 = 9223372036854775808 := by decide
                                                                          omega
              rw [Int.pow_succ] at h5
              have hp : (0 : Int) < 128 ^ i := Int.pow_pos (by decide)
              exact u64_small (by omega) (by omega)
    · refine Ev.step (f := fun _ => some (0, 0, 5)) (fun k => by simp only [accountingref13_TakeInt.l0]; rw [if_neg (by omega)]) ?_
      unfold tS; rw [if_neg h]; exact Ev.now _
theorem take_ev (l : List Int) (hl : l.length ≤ 9223372036854775807) (hr : ∀ b ∈ l, 0 ≤ b ∧ b < 256) : Ev (fun k => codec_TakeInt.f k l) (tS l 0 0) :=
  take_l0 l hl hr l 0 0 rfl (by omega) (by omega) (by omega) (by decide)
theorem rtake_ev (l : List Int) (hl : l.length ≤ 9223372036854775807) (hr : ∀ b ∈ l, 0 ≤ b ∧ b < 256) : Ev (fun k => accountingref13_TakeInt.f k l) (tS l 0 0) :=
  rtake_l0 l hl hr l 0 0 1 rfl (by omega) (by omega) (by omega) (by decide) (fun _ => rfl)
theorem fin_zz (n : Int) : fin (zz n) = n := by unfold fin zz; split <;> split <;> omega
theorem t_v (more : List Int) : ∀ (f : Nat) (y : Int) (i : Nat) (x : Int), y < 128 ^ (f + 1) → i + f ≤ 9 → 0 ≤ x → 0 ≤ y → (i > 0 → y ≠ 0) → x + y * 128 ^ i < 18446744073709551616 → tS (vL (f + 1) y ++ more) i x = (fin (x + y * 128 ^ i), ((i + (vL (f + 1) y).length : Nat) : Int), 0) := by
  intro f
  induction f with
  | zero =>
    intro y i x h1 hi hx0 hy0 hyi hm
    have h1 : y < 128 := h1
    have hbad : badS i y = false := by
      simp only [badS, Bool.or_eq_false_iff, Bool.and_eq_false_iff, decide_eq_false_iff_not]
      refine ⟨?_, by omega⟩
      by_cases h : i = 9
      · subst h; have e : (128 : Int) ^ 9 = 9223372036854775808 := by decide
        rw [e] at hm; omega
      · exact .inl h
    rw [vL, if_neg (by omega)]
    simp only [List.cons_append, List.nil_append, tS, hbad, Bool.false_eq_true, if_false, if_pos h1, if_pos (show i < 10 by omega), show y % 128 = y by omega, List.length_cons, List.length_nil]
  | succ f ih =>
    intro y i x h1 hi hx0 hy0 hyi hm
    by_cases hy : y ≥ 128
    · have hbad : badS i (y % 128 + 128) = false := by
        simp only [badS, Bool.or_eq_false_iff, Bool.and_eq_false_iff, decide_eq_false_iff_not]
        omega
      rw [vL, if_pos hy]
      have hp : (0 : Int) < 128 ^ i := Int.pow_pos (by decide)
      have hq : 0 ≤ y % 128 * 128 ^ i := Int.mul_nonneg (by omega) (by omega)
      have e : x + y % 128 * 128 ^ i + y / 128 * 128 ^ (i + 1) = x + y * 128 ^ i := by
        have : y * 128 ^ i = (y % 128 + 128 * (y / 128)) * 128 ^ i := by rw [Int.emod_add_mul_ediv]
        rw [this, Int.pow_succ, Int.add_mul]
        have : y / 128 * (128 ^ i * 128) = 128 * (y / 128) * 128 ^ i := by
          rw [Int.mul_comm (128 ^ i) 128, ← Int.mul_assoc, Int.mul_comm (y / 128) 128]
        omega
      have := ih (y / 128) (i + 1) (x + y % 128 * 128 ^ i) (div_lt_pow h1) (by omega) (by omega) (by omega) (fun _ => by omega) (by omega)
      simp only [List.cons_append, tS, hbad, Bool.false_eq_true, if_false, if_neg (show ¬ y % 128 + 128 < 128 by omega), if_pos (show i < 10 by omega), show (y % 128 + 128) % 128 = y % 128 by omega, List.length_cons, this, e]
      simp only [Prod.mk.injEq, true_and, and_true]
      omega
    · have h1 : y < 128 := by omega
      have hbad : badS i y = false := by
        simp only [badS, Bool.or_eq_false_iff, Bool.and_eq_false_iff, decide_eq_false_iff_not]
        omega
      rw [vL, if_neg (by omega)]
      simp only [List.cons_append, List.nil_append, tS, hbad, Bool.false_eq_true, if_false, if_pos h1, if_pos (show i < 10 by omega), show y % 128 = y by omega, List.length_cons, List.length_nil]
theorem t_put (n : Int) (h0 : -9223372036854775808 ≤ n) (h1 : n < 9223372036854775808) (more : List Int) : tS (putS n ++ more) 0 0 = (n, ((putS n).length : Int), 0) := by
  have hz := zz_range n h0 h1
  have := t_v more 9 (zz n) 0 0 (by have : (128 : Int) ^ 10 = 1180591620717411303424 := by decide
                                    omega) (by omega) (by omega) hz.1 (by omega) (by rw [Int.pow_zero]; omega)
  rw [Int.pow_zero, Int.zero_add, Int.mul_one, fin_zz, Nat.zero_add] at this
  exact this
theorem vL_range : ∀ (f : Nat) (x : Int), 0 ≤ x → ∀ b ∈ vL f x, 0 ≤ b ∧ b < 256
  | 0, _, _ => by simp [vL]
  | f + 1, x, h0 => by
    intro b hb
    unfold vL at hb
    split at hb
    · rcases List.mem_cons.1 hb with rfl | hb
      · omega
      · exact vL_range f (x / 128) (by omega) b hb
    · rcases List.mem_cons.1 hb with rfl | hb
      · omega
      · cases hb
theorem tS_pos : ∀ (s : List Int) (i : Nat) (x : Int), 0 ≤ (tS s i x).2.1 ∧ (tS s i x).2.1 ≤ ((i + s.length : Nat) : Int)
  | [], i, x => by unfold tS; split <;> simp <;> omega
  | b :: s, i, x => by
    unfold tS
    split
    · split
      · simp; omega
      · split
        · simp; omega
        · have := tS_pos s (i + 1) (x + b % 128 * 128 ^ i)
          simp only [List.length_cons]; omega
    · simp; omega

/-! ### plain texts -/
theorem rplain_l0 (s : ByteArray) (hs : s.size ≤ 9223372036854775807) : ∀ (d i : Nat), i + d = s.size → (∀ j : Nat, j < i → printableS (bt s j) = true) → Ev (fun k => accountingref06_Plain.l0 k s i) (plainS s) := by
  intro d
  induction d with
  | zero =>
    intro i h hj
    refine Ev.step (f := fun _ => some (decide ((s.size : Int) ≤ 60))) (fun k => by simp only [accountingref06_Plain.l0]; rw [if_neg (by omega)]) ?_
    have : plainS s = decide ((s.size : Int) ≤ 60) := by
      unfold plainS
      rw [allB_true (fun j h2 => hj j (by omega)), Bool.and_true]
      exact decide_eq_decide.2 (by omega)
    rw [this]; exact Ev.now _
  | succ d ih =>
    intro i h hj
    cases hp : printableS (bt s i) with
    | true =>
      have hp' := hp
      simp only [printableS, Bool.and_eq_true, decide_eq_true_eq] at hp'
      refine Ev.step (fun k => ?_) (ih (i + 1) (by omega) (fun j hj2 => ?_))
      · simp only [accountingref06_Plain.l0]
        rw [if_pos (by omega), if_pos (by omega), if_neg (by omega), if_neg (by omega), wrap_succ (n := s.size) (by omega) hs]
      · by_cases e : j = i
        · subst e; exact hp
        · exact hj j (by omega)
    | false =>
      have e : plainS s = false := by
        unfold plainS; rw [allB_false (i := i) (by omega) hp, Bool.and_false]
      simp only [printableS, Bool.and_eq_false_iff, decide_eq_false_iff_not] at hp
      refine Ev.step (f := fun _ => some false) (fun k => ?_) (by rw [e]; exact Ev.now _)
      simp only [accountingref06_Plain.l0]
      rw [if_pos (by omega), if_pos (by omega)]
      by_cases c : bt s i < 32
      · rw [if_pos c]
      · rw [if_neg c, if_pos (by omega)]
theorem rplain_ev (s : ByteArray) (hs : s.size ≤ 9223372036854775807) : Ev (fun k => accountingref06_Plain.f k s) (plainS s) :=
  rplain_l0 s hs s.size 0 (by omega) (fun j h => by omega)

/-! ### the lives -/
theorem lives_ev : Ev (fun k => accountinglaw13_lives.f k) true :=
  Ev.of accountinglaw13_lives.mono (k := 70) (by decide +kernel)
theorem lives_bind : Ev (fun k => (accountinglaw13_lives.f k).bind fun t => some t) true := Ev.bind lives_ev (Ev.now _)

theorem CodecTakesInt : accountinglaw13_CodecTakesInt.Said := by
  intro l hl
  obtain ⟨hl, hr⟩ := hl
  refine Ev.rounds (?_ : Ev (fun k => accountinglaw13_CodecTakesInt.f k l) true)
  refine Ev.bind (take_ev l hl fun b hb => wf_u8 (hr b hb)) (Ev.bind (rtake_ev l hl fun b hb => wf_u8 (hr b hb)) ?_)
  simp only [if_true]
  exact lives_bind

theorem CodecInts : accountinglaw13_CodecInts.Said := by
  intro n l hn hl
  obtain ⟨hl, hr⟩ := hl
  obtain ⟨h0, h1⟩ := wf_i64 hn
  refine Ev.rounds (?_ : Ev (fun k => accountinglaw13_CodecInts.f k n l) true)
  unfold accountinglaw13_CodecInts.f
  by_cases hb : (l.length : Int) > 400
  · simp only [if_pos hb]; exact Ev.now _
  simp only [if_neg hb]
  have hp := putS_len n
  have ht := t_put n h0 h1 l
  refine Ev.bind (put_ev n h0 h1) ?_
  simp only [Option.bind_some, List.length_nil, Nat.zero_add, List.nil_append, if_pos (show (putS n).length < 140737488355328 by omega), if_pos (show (putS n).length + l.length < 140737488355328 by omega)]
  refine Ev.bind (take_ev _ (by simp; omega) (fun b hb => ?_)) (Ev.bind (rput_ev n h0 h1) ?_)
  · rcases List.mem_append.1 hb with hb | hb
    · exact vL_range _ _ (zz_range n h0 h1).1 b hb
    · exact wf_u8 (hr b hb)
  · simp only [ht, if_true]
    exact lives_bind

theorem bytes_str (s : ByteArray) : strOfNums (bytesOf s) = s := by
  unfold strOfNums bytesOf
  rw [List.map_map]
  have : (s.data.toList.map fun b : UInt8 => UInt8.ofNat ((b.toNat : Int)).toNat) = s.data.toList := by
    conv => rhs; rw [← List.map_id s.data.toList]
    apply List.map_congr_left
    intro b _
    simp
  first
  | (simp only [Function.comp_def]; rw [this])
  | (simp [Function.comp_def])
theorem bytes_range (s : ByteArray) : ∀ b ∈ bytesOf s, 0 ≤ b ∧ b < 256 := by
  intro b hb
  obtain ⟨c, _, rfl⟩ := List.mem_map.1 hb
  have := c.toNat_lt
  omega
def ptS (s : ByteArray) : List Int × Int := if plainS s = true then (putS s.size ++ bytesOf s, 0) else ([], 5)
theorem plain_size {s : ByteArray} (h : plainS s = true) : s.size ≤ 60 := by
  unfold plainS at h
  simp only [Bool.and_eq_true, decide_eq_true_eq] at h
  exact h.1
theorem puttext_ev (s : ByteArray) : Ev (fun k => codec_PutText.f k s) (ptS s) := by
  unfold codec_PutText.f ptS
  simp only [words_Plain.f, Option.bind_some]
  cases h : plainS s with
  | false => simp only [Bool.false_eq_true, if_false]; exact Ev.now _
  | true =>
    have := plain_size h
    have hp := putS_len s.size
    simp only [if_true]
    refine Ev.bind (put_ev _ (by omega) (by omega)) ?_
    simp only [if_pos (show (putS (s.size : Int)).length + s.size < 140737488355328 by omega)]
    exact Ev.now _
theorem rputtext_ev (s : ByteArray) (hs : s.size ≤ 9223372036854775807) : Ev (fun k => accountingref13_PutText.f k s) (ptS s) := by
  unfold accountingref13_PutText.f ptS
  refine Ev.bind (rplain_ev s hs) ?_
  cases h : plainS s with
  | false => simp only [Bool.false_eq_true, if_false]; exact Ev.now _
  | true =>
    have := plain_size h
    have hp := putS_len s.size
    simp only [if_true]
    refine Ev.bind (rput_ev _ (by omega) (by omega)) ?_
    simp only [if_pos (show (putS (s.size : Int)).length + s.size < 140737488355328 by omega)]
    exact Ev.now _
/-- The text behind a length n, that took p bytes. -/
def ttC (l : List Int) (n p : Int) : ByteArray × Int × Int :=
  if (l.length : Int) - p < n then ((⟨#[]⟩ : ByteArray), 0, 6) else
  let s := strOfNums ((l.take (p + n).toNat).drop p.toNat)
  if plainS s = true then (s, p + n, 0) else ((⟨#[]⟩ : ByteArray), 0, 5)
def ttS (l : List Int) : ByteArray × Int × Int :=
  let t := tS l 0 0
  if t.2.2 = 0 then (if t.1 < 0 ∨ t.1 > 60 then ((⟨#[]⟩ : ByteArray), 0, 9) else ttC l t.1 t.2.1) else ((⟨#[]⟩ : ByteArray), 0, t.2.2)
theorem str_size (l : List Int) : (strOfNums l).size = l.length := by simp [strOfNums, ByteArray.size]
theorem tt_j0 (l : List Int) (hl : l.length ≤ 9223372036854775807) (n p : Int) (hn0 : 0 ≤ n) (hn1 : n ≤ 60) (hp0 : 0 ≤ p) (hp1 : p ≤ l.length) : Ev (fun k => codec_TakeText.j0 k l n p false) (ttC l n p) := by
  unfold ttC
  by_cases c : (l.length : Int) - p < n
  · rw [if_pos c]
    exact Ev.step (f := fun _ => some ((⟨#[]⟩ : ByteArray), 0, 6)) (fun k => by simp only [codec_TakeText.j0]; rw [if_neg (by decide), if_pos (by rw [w64_small (by omega) (by omega)]; exact c)]) (Ev.now _)
  · rw [if_neg c]
    have e : wrap64 (p + n) = p + n := w64_small (by omega) (by omega)
    refine Ev.step (f := fun k => (words_Plain.f (strOfNums ((l.take (p + n).toNat).drop p.toNat))).bind fun t => if t = true then some (strOfNums ((l.take (p + n).toNat).drop p.toNat), p + n, 0) else some ((⟨#[]⟩ : ByteArray), 0, 5)) (fun k => ?_) ?_
    · simp only [codec_TakeText.j0]
      rw [if_neg (by decide), if_neg (by rw [w64_small (by omega) (by omega)]; exact c), e, if_pos (by omega), if_pos (by omega), if_pos (by omega)]
    · simp only [words_Plain.f, Option.bind_some]
      cases h : plainS (strOfNums ((l.take (p + n).toNat).drop p.toNat)) <;> simp only [if_true, Bool.false_eq_true, if_false] <;> exact Ev.now _
theorem rtt_j0 (l : List Int) (hl : l.length ≤ 9223372036854775807) (n p : Int) (hn0 : 0 ≤ n) (hn1 : n ≤ 60) (hp0 : 0 ≤ p) (hp1 : p ≤ l.length) : Ev (fun k => accountingref13_TakeText.j0 k l n p false) (ttC l n p) := by
  unfold ttC
  by_cases c : (l.length : Int) - p < n
  · rw [if_pos c]
    exact Ev.step (f := fun _ => some ((⟨#[]⟩ : ByteArray), 0, 6)) (fun k => by simp only [accountingref13_TakeText.j0]; rw [if_neg (by decide), if_pos (by rw [w64_small (by omega) (by omega)]; exact c)]) (Ev.now _)
  · rw [if_neg c]
    have e : wrap64 (p + n) = p + n := w64_small (by omega) (by omega)
    refine Ev.step (f := fun k => (accountingref06_Plain.f k (strOfNums ((l.take (p + n).toNat).drop p.toNat))).bind fun t => if t = true then some (strOfNums ((l.take (p + n).toNat).drop p.toNat), p + n, 0) else some ((⟨#[]⟩ : ByteArray), 0, 5)) (fun k => ?_) (Ev.bind (rplain_ev _ ?_) ?_)
    · simp only [accountingref13_TakeText.j0]
      rw [if_neg (by decide), if_neg (by rw [w64_small (by omega) (by omega)]; exact c), e, if_pos (by omega), if_pos (by omega), if_pos (by omega)]
    · rw [str_size]; simp; omega
    · cases h : plainS (strOfNums ((l.take (p + n).toNat).drop p.toNat)) <;> simp only [h, if_true, Bool.false_eq_true, if_false] <;> exact Ev.now _
theorem tt_ev (l : List Int) (hl : l.length ≤ 9223372036854775807) (hr : ∀ b ∈ l, 0 ≤ b ∧ b < 256) : Ev (fun k => codec_TakeText.f k l) (ttS l) := by
  unfold codec_TakeText.f ttS
  refine Ev.bind (take_ev l hl hr) ?_
  have hp := tS_pos l 0 0
  simp only
  generalize tS l 0 0 = t at *
  by_cases c : t.2.2 = 0
  · simp only [if_pos c]
    have hj : Ev (fun k => codec_TakeText.j0 k l t.1 t.2.1 true) ((⟨#[]⟩ : ByteArray), 0, 9) := Ev.step (f := fun _ => some ((⟨#[]⟩ : ByteArray), 0, 9)) (fun k => by simp only [codec_TakeText.j0, if_true]) (Ev.now _)
    by_cases c1 : t.1 < 0
    · simp only [if_pos c1, if_pos (show t.1 < 0 ∨ t.1 > 60 by omega)]; exact hj
    by_cases c2 : t.1 > 60
    · simp only [if_neg c1, decide_eq_true c2, if_pos (show t.1 < 0 ∨ t.1 > 60 by omega)]; exact hj
    · simp only [if_neg c1, decide_eq_false c2, if_neg (show ¬ (t.1 < 0 ∨ t.1 > 60) by omega)]
      exact tt_j0 l hl _ _ (by omega) (by omega) hp.1 (by omega)
  · simp only [if_neg c]; exact Ev.now _
theorem rtt_ev (l : List Int) (hl : l.length ≤ 9223372036854775807) (hr : ∀ b ∈ l, 0 ≤ b ∧ b < 256) : Ev (fun k => accountingref13_TakeText.f k l) (ttS l) := by
  unfold accountingref13_TakeText.f ttS
  refine Ev.bind (rtake_ev l hl hr) ?_
  have hp := tS_pos l 0 0
  simp only
  generalize tS l 0 0 = t at *
  by_cases c : t.2.2 = 0
  · simp only [if_pos c]
    have hj : Ev (fun k => accountingref13_TakeText.j0 k l t.1 t.2.1 true) ((⟨#[]⟩ : ByteArray), 0, 9) := Ev.step (f := fun _ => some ((⟨#[]⟩ : ByteArray), 0, 9)) (fun k => by simp only [accountingref13_TakeText.j0, if_true]) (Ev.now _)
    by_cases c1 : t.1 < 0
    · simp only [if_pos c1, if_pos (show t.1 < 0 ∨ t.1 > 60 by omega)]; exact hj
    by_cases c2 : t.1 > 60
    · simp only [if_neg c1, decide_eq_true c2, if_pos (show t.1 < 0 ∨ t.1 > 60 by omega)]; exact hj
    · simp only [if_neg c1, decide_eq_false c2, if_neg (show ¬ (t.1 < 0 ∨ t.1 > 60) by omega)]
      exact rtt_j0 l hl _ _ (by omega) (by omega) hp.1 (by omega)
  · simp only [if_neg c]; exact Ev.now _
theorem tt_put (s : ByteArray) (h : plainS s = true) (more : List Int) : ttS (putS s.size ++ bytesOf s ++ more) = (s, ((putS (s.size : Int) ++ bytesOf s).length : Int), 0) := by
  have hs := plain_size h
  have hb := bytesOf_length s
  unfold ttS
  rw [List.append_assoc, t_put _ (by omega) (by omega)]
  simp only [if_true]
  rw [if_neg (by omega)]
  unfold ttC
  rw [if_neg (by simp only [List.length_append]; omega)]
  have e : ((putS (s.size : Int) ++ (bytesOf s ++ more)).take (((putS (s.size : Int)).length : Int) + s.size).toNat).drop ((putS (s.size : Int)).length : Int).toNat = bytesOf s := by
    rw [Int.toNat_natCast, ← List.append_assoc, List.take_left' (by simp only [List.length_append]; omega), List.drop_left' rfl]
  simp only [e, bytes_str, h, if_true]
  simp only [List.length_append, Prod.mk.injEq, true_and, and_true]
  omega

theorem CodecTakesText : accountinglaw13_CodecTakesText.Said := by
  intro l hl
  obtain ⟨hl, hr⟩ := hl
  refine Ev.rounds (?_ : Ev (fun k => accountinglaw13_CodecTakesText.f k l) true)
  refine Ev.bind (tt_ev l hl fun b hb => wf_u8 (hr b hb)) (Ev.bind (rtt_ev l hl fun b hb => wf_u8 (hr b hb)) ?_)
  simp only [if_true]
  exact lives_bind

theorem CodecTexts : accountinglaw13_CodecTexts.Said := by
  intro s l hs hl
  obtain ⟨hl, hr⟩ := hl
  refine Ev.rounds (?_ : Ev (fun k => accountinglaw13_CodecTexts.f k s l) true)
  have hj : Ev (fun k => accountinglaw13_CodecTexts.j0 k s l true) true := Ev.step (f := fun _ => some true) (fun k => by simp only [accountinglaw13_CodecTexts.j0, if_true]) (Ev.now _)
  unfold accountinglaw13_CodecTexts.f
  by_cases c1 : (s.size : Int) > 400
  · simp only [if_pos c1]; exact hj
  by_cases c2 : (l.length : Int) > 400
  · simp only [if_neg c1, decide_eq_true c2]; exact hj
  simp only [if_neg c1, decide_eq_false c2]
  refine Ev.step (f := fun k => (codec_PutText.f k s).bind fun bt185 => ((accountingref13_PutText.f k s).bind fun bt189 => (if (strOfNums bt185.1).toList = (strOfNums bt189.1).toList then (if bt185.2 = bt189.2 then ((accountinglaw13_lives.f k).bind fun t193 => (accountinglaw13_CodecTexts.j1 k s l bt185.1 bt189.2 (!t193))) else (accountinglaw13_CodecTexts.j1 k s l bt185.1 bt189.2 true)) else (accountinglaw13_CodecTexts.j1 k s l bt185.1 bt189.2 true)))) (fun k => by simp only [accountinglaw13_CodecTexts.j0]; rw [if_neg (by decide)]) ?_
  refine Ev.bind (puttext_ev s) (Ev.bind (rputtext_ev s hs) ?_)
  simp only [if_true]
  refine Ev.bind lives_ev ?_
  unfold ptS
  cases h : plainS s with
  | false =>
    simp only [Bool.false_eq_true, if_false]
    exact Ev.step (f := fun _ => some true) (fun k => by simp only [accountinglaw13_CodecTexts.j1]; rw [if_neg (by decide), if_neg (by decide)]) (Ev.now _)
  | true =>
    simp only [if_true]
    have hz := plain_size h
    have hp := putS_len s.size
    have hb := bytesOf_length s
    have hT := tt_put s h l
    generalize hx : putS (s.size : Int) ++ bytesOf s = x at *
    have hxl : x.length ≤ 70 := by rw [← hx]; simp only [List.length_append]; omega
    refine Ev.step (f := fun k => (codec_TakeText.f k (x ++ l)).bind fun bt203 => (if bt203.1.toList = s.toList then (if bt203.2.1 = (x.length : Int) then (some (bt203.2.2 == 0)) else (some false)) else (some false))) (fun k => ?_) (Ev.bind (tt_ev _ (by simp only [List.length_append]; omega) (fun b hb => ?_)) ?_)
    · simp only [accountinglaw13_CodecTexts.j1]
      rw [if_neg (by decide)]
      simp only [if_true, Option.bind_some, List.length_nil, Nat.zero_add, List.nil_append, if_pos (show x.length < 140737488355328 by omega), if_pos (show x.length + l.length < 140737488355328 by omega)]
    · rcases List.mem_append.1 hb with hb | hb
      · rw [← hx] at hb
        rcases List.mem_append.1 hb with hb | hb
        · exact vL_range _ _ (zz_range _ (by omega) (by omega)).1 b hb
        · exact bytes_range s b hb
      · exact wf_u8 (hr b hb)
    · rw [hT]; simp only [if_true]; exact Ev.now _
end Go.Proofs.Ytojbkakdhfmjmaa.Pure
