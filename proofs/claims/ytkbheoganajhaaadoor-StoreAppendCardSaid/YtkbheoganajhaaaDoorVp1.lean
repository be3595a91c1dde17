/- Proved here: plain laws of the codec's numbers: the digits of an integer, and reading them back. Conditions: none. -/
import Derived.Test.YtkbheoganajhaaaDoorVs6
import Derived.Laws.Bits64
import Derived.Laws.Bits64b
import Derived.Laws.DeepNot64
import Derived.Lib.Bytes
set_option linter.unusedVariables false
set_option linter.unusedSimpArgs false
namespace Go.Proofs.YtkbheoganajhaaaDoor.Vm.Co
open Go.RowKit
def shl (k : IntKind) (x y : Int) : Int := k.wrap (x * 2 ^ (min y.toNat k.bits))
def bytesOf (s : ByteArray) : List Int := s.data.toList.map fun b : UInt8 => (b.toNat : Int)
theorem drop_nil_ {α : Type} {l : List α} {i : Nat} (h : l.drop i = []) : l.length ≤ i := List.drop_eq_nil_iff.mp h
theorem drop_cons_ {α : Type} {l s : List α} {c : α} {i : Nat} (h : l.drop i = c :: s) : i < l.length ∧ l[i]? = some c ∧ l.drop (i + 1) = s := by
  have hlt : i < l.length := by
    rcases Nat.lt_or_ge i l.length with h1 | h1
    · exact h1
    · rw [List.drop_eq_nil_of_le h1] at h; cases h
  rw [List.drop_eq_getElem_cons hlt] at h
  injection h with h1 h2
  exact ⟨hlt, by rw [List.getElem?_eq_getElem hlt, h1], h2⟩
theorem u64_small {n : Int} (h0 : 0 ≤ n) (h1 : n < 18446744073709551616) : IntKind.u64.wrap n = n := by
  rw [IntKind.wrap_u64]; omega
theorem w64_small {n : Int} (h0 : -9223372036854775808 ≤ n) (h1 : n < 9223372036854775808) : wrap64 n = n := by
  unfold wrap64; omega
theorem or8_all : ∀ c : Nat, c < 256 → Go.bits .or .u8 (c : Int) 128 = ((c % 128 + 128 : Nat) : Int) := by decide +kernel
theorem and8_all : ∀ c : Nat, c < 256 → Go.bits .and .u8 (c : Int) 127 = ((c % 128 : Nat) : Int) := by decide +kernel
theorem or8 (c : Int) (h0 : 0 ≤ c) (h1 : c < 256) : Go.bits .or .u8 c 128 = c % 128 + 128 := by
  obtain ⟨n, rfl⟩ := Int.eq_ofNat_of_zero_le h0
  rw [or8_all n (by omega)]; omega
theorem and8 (c : Int) (h0 : 0 ≤ c) (h1 : c < 256) : Go.bits .and .u8 c 127 = c % 128 := by
  obtain ⟨n, rfl⟩ := Int.eq_ofNat_of_zero_le h0
  rw [and8_all n (by omega)]; omega
theorem xor_comm_ (k : IntKind) (a b : Int) : Go.bits .xor k a b = Go.bits .xor k b a := by
  unfold Go.bits; simp only [BitVec.xor_comm]
theorem xor_zero_u64 (a : Nat) (h : a < 18446744073709551616) : Go.bits .xor .u64 (a : Int) 0 = a := by
  have := bits_xor_u64_nat a 0 h (by omega)
  rw [Nat.xor_zero] at this; exact this
theorem xor_ones_u64 (a : Nat) (h : a < 18446744073709551616) : Go.bits .xor .u64 (a : Int) 18446744073709551615 = 18446744073709551615 - (a : Int) := by
  show IntKind.u64.wrap ((BitVec.ofInt 64 (a : Int) ^^^ BitVec.ofInt 64 18446744073709551615).toNat : Int) = _
  have h1 : BitVec.ofInt 64 18446744073709551615 = BitVec.allOnes 64 := by decide
  rw [h1, BitVec.xor_allOnes, BitVec.toNat_not, ofInt_u64 a (by omega), IntKind.wrap_u64]
  omega
theorem xor_zero_i64 (a : Nat) (h : a < 9223372036854775808) : Go.bits .xor .i64 (a : Int) 0 = a := by
  show IntKind.i64.wrap ((BitVec.ofInt 64 (a : Int) ^^^ BitVec.ofInt 64 0).toNat : Int) = _
  have h1 : BitVec.ofInt 64 0 = 0#64 := by decide
  rw [h1, BitVec.xor_zero, ofInt_u64 a (by omega), IntKind.wrap_i64]
  omega

/-! ### PutInt -/
def vL : Nat → Int → List Int
  | 0, _ => []
  | f + 1, x => if x ≥ 128 then (x % 128 + 128) :: vL f (x / 128) else [x]
theorem vL_len : ∀ (f : Nat) (x : Int), (vL f x).length ≤ f
  | 0, _ => by simp [vL]
  | f + 1, x => by
    unfold vL; split
    · simp; exact vL_len f _
    · simp
theorem div_lt_pow {x : Int} {f : Nat} (h : x < 128 ^ (f + 1)) : x / 128 < 128 ^ f := by
  rw [Int.pow_succ] at h
  exact Int.ediv_lt_of_lt_mul (by decide) h
def zz (n : Int) : Int := if n < 0 then -2 * n - 1 else 2 * n
theorem zz_range (n : Int) (h0 : -9223372036854775808 ≤ n) (h1 : n < 9223372036854775808) : 0 ≤ zz n ∧ zz n < 18446744073709551616 := by
  unfold zz; split <;> omega
theorem zz_xor (n : Int) (h0 : -9223372036854775808 ≤ n) (h1 : n < 9223372036854775808) :
    Go.bits .xor .u64 (IntKind.u64.wrap ((IntKind.u64.wrap (n)) * 2)) (IntKind.u64.wrap (n / 9223372036854775808)) = zz n := by
  unfold zz
  by_cases hn : n < 0
  · have e1 : IntKind.u64.wrap (IntKind.u64.wrap n * 2) = ((2 * n + 18446744073709551616).toNat : Int) := by
      rw [IntKind.wrap_u64, IntKind.wrap_u64]; omega
    have e2 : IntKind.u64.wrap (n / 9223372036854775808) = 18446744073709551615 := by
      rw [IntKind.wrap_u64]; omega
    rw [e1, e2, xor_ones_u64 _ (by omega), if_pos hn]; omega
  · have e1 : IntKind.u64.wrap (IntKind.u64.wrap n * 2) = ((2 * n).toNat : Int) := by
      rw [IntKind.wrap_u64, IntKind.wrap_u64]; omega
    have e2 : IntKind.u64.wrap (n / 9223372036854775808) = 0 := by
      rw [IntKind.wrap_u64]; omega
    rw [e1, e2, xor_zero_u64 _ (by omega), if_neg hn]; omega
def putS (n : Int) : List Int := vL 10 (zz n)
theorem putS_ne (n : Int) : putS n ≠ [] := by unfold putS vL; split <;> simp
theorem putS_len (n : Int) : (putS n).length ≤ 10 := vL_len _ _
def fin (x : Int) : Int := if x % 2 = 1 then -(x / 2) - 1 else x / 2
def badS (i : Nat) (b : Int) : Bool := (decide (i = 9) && decide (b > 1)) || (decide (i > 0) && decide (b = 0))
def tS : List Int → Nat → Int → Int × Int × Int
  | [], i, _ => if i < 10 then (0, 0, 6) else (0, 0, 5)
  | b :: s, i, x => if i < 10 then (if badS i b = true then (0, 0, 5) else if b < 128 then (fin (x + b % 128 * 128 ^ i), ((i + 1 : Nat) : Int), 0) else tS s (i + 1) (x + b % 128 * 128 ^ i)) else (0, 0, 5)
theorem pow128 (i : Nat) : ((128 ^ i : Nat) : Int) = (128 : Int) ^ i := by rw [Int.natCast_pow]; rfl
theorem step_bound (i : Nat) (x b : Int) (hi : i < 10) (hx0 : 0 ≤ x) (hx : x < 128 ^ i) (hb0 : 0 ≤ b) (hb1 : b < 256) (h9 : i = 9 → b ≤ 1) :
    0 ≤ b % 128 * 128 ^ i ∧ x + b % 128 * 128 ^ i < 18446744073709551616 ∧ x + b % 128 * 128 ^ i < 128 ^ (i + 1) := by
  have hp : (0 : Int) < 128 ^ i := Int.pow_pos (by decide)
  have hc0 : 0 ≤ b % 128 := by omega
  have hc1 : b % 128 ≤ 127 := by omega
  have h1 := Int.mul_nonneg hc0 (Int.le_of_lt hp)
  have h2 : b % 128 * 128 ^ i ≤ 127 * 128 ^ i := Int.mul_le_mul_of_nonneg_right hc1 (Int.le_of_lt hp)
  have h3 : x + b % 128 * 128 ^ i < 128 ^ (i + 1) := by rw [Int.pow_succ]; omega
  refine ⟨h1, ?_, h3⟩
  by_cases h : i = 9
  · subst h
    have := h9 rfl
    have e : (128 : Int) ^ 9 = 9223372036854775808 := by decide
    rw [e] at hx ⊢
    omega
  · have h4 : (128 : Nat) ^ (i + 1) ≤ 128 ^ 9 := Nat.pow_le_pow_right (by decide) (by omega)
    have h5 : (128 : Int) ^ (i + 1) ≤ 9223372036854775808 := by rw [← pow128]; have : 128 ^ 9 = 9223372036854775808 := by decide
                                                                omega
    omega
theorem or_shift (i : Nat) (x b : Int) (hi : i < 10) (hx0 : 0 ≤ x) (hx : x < 128 ^ i) (hb0 : 0 ≤ b) (hb1 : b < 256) (h9 : i = 9 → b ≤ 1) :
    Go.bits .or .u64 x (shl .u64 (IntKind.u64.wrap (Go.bits .and .u8 b 127)) (wrap64 (7 * (i : Int)))) = x + b % 128 * 128 ^ i := by
  obtain ⟨s1, s2, s3⟩ := step_bound i x b hi hx0 hx hb0 hb1 h9
  rw [and8 b hb0 hb1, u64_small (by omega) (by omega), w64_small (by omega) (by omega)]
  obtain ⟨c, hc⟩ := Int.eq_ofNat_of_zero_le (show 0 ≤ b % 128 by omega)
  obtain ⟨y, rfl⟩ := Int.eq_ofNat_of_zero_le hx0
  rw [hc] at s1 s2 s3 ⊢
  have e : (c : Int) * 128 ^ i = ((c <<< (7 * i) : Nat) : Int) := by
    rw [Nat.shiftLeft_eq, Int.natCast_mul, Nat.pow_mul, pow128]
  rw [e] at s1 s2 s3 ⊢
  have e2 : shl .u64 (c : Int) (7 * (i : Int)) = ((c <<< (7 * i) : Nat) : Int) := by
    unfold shl
    have hm : min (7 * (i : Int)).toNat IntKind.u64.bits = 7 * i := by
      have : IntKind.u64.bits = 64 := rfl
      omega
    have e3 : (c : Int) * 2 ^ (7 * i) = ((c <<< (7 * i) : Nat) : Int) := by
      rw [Nat.shiftLeft_eq, Int.natCast_mul, Int.natCast_pow]; rfl
    rw [hm, e3]
    exact u64_small s1 (by omega)
  rw [e2]
  have hy : y < 2 ^ (7 * i) := by
    rw [Nat.pow_mul]
    have : (y : Int) < ((128 ^ i : Nat) : Int) := by rw [pow128]; exact hx
    exact_mod_cast this
  rw [bits_or_u64_nat _ _ (by omega) (by omega), Nat.or_comm, ← Nat.shiftLeft_add_eq_or_of_lt hy]
  omega
theorem fin_xor (x : Int) (h0 : 0 ≤ x) (h1 : x < 18446744073709551616) :
    Go.bits .xor .i64 (wrap64 (x / 2)) (wrap64 (-(wrap64 (Go.bits .and .u64 x 1)))) = fin x := by
  obtain ⟨n, rfl⟩ := Int.eq_ofNat_of_zero_le h0
  have e := bits_and_u64_nat n 1 (by omega) (by omega)
  rw [Nat.and_one_is_mod] at e
  have e' : Go.bits .and .u64 (n : Int) 1 = ((n % 2 : Nat) : Int) := e
  rw [e', w64_small (n := (n : Int) / 2) (by omega) (by omega), w64_small (n := ((n % 2 : Nat) : Int)) (by omega) (by omega), show (n : Int) / 2 = ((n / 2 : Nat) : Int) by omega]
  unfold fin
  rcases Nat.mod_two_eq_zero_or_one n with h | h
  · rw [h, if_neg (by omega), show wrap64 (-((0 : Nat) : Int)) = 0 by (unfold wrap64; omega), xor_zero_i64 _ (by omega)]; omega
  · rw [h, if_pos (by omega), show wrap64 (-((1 : Nat) : Int)) = -1 by (unfold wrap64; omega), xor_comm_, i64_not _ (by omega)]; omega
theorem bad_no {i : Nat} {b : Int} (h : badS i b = false) : (i = 9 → b ≤ 1) ∧ (i > 0 → b ≠ 0) := by
  simp only [badS, Bool.or_eq_false_iff, Bool.and_eq_false_iff, decide_eq_false_iff_not] at h
  omega
theorem fin_zz (n : Int) : fin (zz n) = n := by unfold fin zz; split <;> split <;> omega
theorem t_v (more : List Int) : ∀ (f : Nat) (y : Int) (i : Nat) (x : Int), y < 128 ^ (f + 1) → i + f ≤ 9 → 0 ≤ x → 0 ≤ y → (i > 0 → y ≠ 0) → x + y * 128 ^ i < 18446744073709551616 → tS (vL (f + 1) y ++ more) i x = (fin (x + y * 128 ^ i), ((i + (vL (f + 1) y).length : Nat) : Int), 0) := by
  intro f
  induction f with
  | zero =>
    intro y i x h1 hi hx0 hy0 hyi hm
    have h1 : y < 128 := h1
    have hbad : badS i y = false := by
      simp only [badS, Bool.or_eq_false_iff, Bool.and_eq_false_iff, decide_eq_false_iff_not]
      refine ⟨?_, by omega⟩
      by_cases h : i = 9
      · subst h; have e : (128 : Int) ^ 9 = 9223372036854775808 := by decide
        rw [e] at hm; omega
      · exact .inl h
    rw [vL, if_neg (by omega)]
    simp only [List.cons_append, List.nil_append, tS, hbad, Bool.false_eq_true, if_false, if_pos h1, if_pos (show i < 10 by omega), show y % 128 = y by omega, List.length_cons, List.length_nil]
  | succ f ih =>
    intro y i x h1 hi hx0 hy0 hyi hm
    by_cases hy : y ≥ 128
    · have hbad : badS i (y % 128 + 128) = false := by
        simp only [badS, Bool.or_eq_false_iff, Bool.and_eq_false_iff, decide_eq_false_iff_not]
        omega
      rw [vL, if_pos hy]
      have hp : (0 : Int) < 128 ^ i := Int.pow_pos (by decide)
      have hq : 0 ≤ y % 128 * 128 ^ i := Int.mul_nonneg (by omega) (by omega)
      have e : x + y % 128 * 128 ^ i + y / 128 * 128 ^ (i + 1) = x + y * 128 ^ i := by
        have : y * 128 ^ i = (y % 128 + 128 * (y / 128)) * 128 ^ i := by rw [Int.emod_add_mul_ediv]
        rw [this, Int.pow_succ, Int.add_mul]
        have : y / 128 * (128 ^ i * 128) = 128 * (y / 128) * 128 ^ i := by
          rw [Int.mul_comm (128 ^ i) 128, ← Int.mul_assoc, Int.mul_comm (y / 128) 128]
        omega
      have := ih (y / 128) (i + 1) (x + y % 128 * 128 ^ i) (div_lt_pow h1) (by omega) (by omega) (by omega) (fun _ => by omega) (by omega)
      simp only [List.cons_append, tS, hbad, Bool.false_eq_true, if_false, if_neg (show ¬ y % 128 + 128 < 128 by omega), if_pos (show i < 10 by omega), show (y % 128 + 128) % 128 = y % 128 by omega, List.length_cons, this, e]
      simp only [Prod.mk.injEq, true_and, and_true]
      omega
    · have h1 : y < 128 := by omega
      have hbad : badS i y = false := by
        simp only [badS, Bool.or_eq_false_iff, Bool.and_eq_false_iff, decide_eq_false_iff_not]
        omega
      rw [vL, if_neg (by omega)]
      simp only [List.cons_append, List.nil_append, tS, hbad, Bool.false_eq_true, if_false, if_pos h1, if_pos (show i < 10 by omega), show y % 128 = y by omega, List.length_cons, List.length_nil]
theorem t_put (n : Int) (h0 : -9223372036854775808 ≤ n) (h1 : n < 9223372036854775808) (more : List Int) : tS (putS n ++ more) 0 0 = (n, ((putS n).length : Int), 0) := by
  have hz := zz_range n h0 h1
  have := t_v more 9 (zz n) 0 0 (by have : (128 : Int) ^ 10 = 1180591620717411303424 := by decide
                                    omega) (by omega) (by omega) hz.1 (by omega) (by rw [Int.pow_zero]; omega)
  rw [Int.pow_zero, Int.zero_add, Int.mul_one, fin_zz, Nat.zero_add] at this
  exact this
theorem vL_range : ∀ (f : Nat) (x : Int), 0 ≤ x → ∀ b ∈ vL f x, 0 ≤ b ∧ b < 256
  | 0, _, _ => by simp [vL]
  | f + 1, x, h0 => by
    intro b hb
    unfold vL at hb
    split at hb
    · rcases List.mem_cons.1 hb with rfl | hb
      · omega
      · exact vL_range f (x / 128) (by omega) b hb
    · rcases List.mem_cons.1 hb with rfl | hb
      · omega
      · cases hb
theorem tS_pos : ∀ (s : List Int) (i : Nat) (x : Int), 0 ≤ (tS s i x).2.1 ∧ (tS s i x).2.1 ≤ ((i + s.length : Nat) : Int)
  | [], i, x => by unfold tS; split <;> simp <;> omega
  | b :: s, i, x => by
    unfold tS
    split
    · split
      · simp; omega
      · split
        · simp; omega
        · have := tS_pos s (i + 1) (x + b % 128 * 128 ^ i)
          simp only [List.length_cons]; omega
    · simp; omega

/-! ### plain texts -/
theorem bytes_str (s : ByteArray) : strOfNums (bytesOf s) = s := by
  unfold strOfNums bytesOf
  rw [List.map_map]
  have : (s.data.toList.map fun b : UInt8 => UInt8.ofNat ((b.toNat : Int)).toNat) = s.data.toList := by
    conv => rhs; rw [← List.map_id s.data.toList]
    apply List.map_congr_left
    intro b _
    simp
  first
  | (simp only [Function.comp_def]; rw [this])
  | (simp [Function.comp_def])
theorem bytes_range (s : ByteArray) : ∀ b ∈ bytesOf s, 0 ≤ b ∧ b < 256 := by
  intro b hb
  obtain ⟨c, _, rfl⟩ := List.mem_map.1 hb
  have := c.toNat_lt
  omega
end Go.Proofs.YtkbheoganajhaaaDoor.Vm.Co
