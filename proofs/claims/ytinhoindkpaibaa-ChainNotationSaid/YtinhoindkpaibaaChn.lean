/- The notation of checksums, over data alone: Bytes, Sum, Text, Parse against the reference, and back. -/
import Derived.Test.YtinhoindkpaibaaChl
import Derived.Laws.Bits64
namespace Go.Proofs.Ytinhoindkpaibaa.Pure
open Go.RowKit Go.Proofs.Ytinhoindkpaibaa.X Go.Proofs.YtinhoindkpaibaaW.PrintWords Go.Proofs.YtinhoindkpaibaaW.PrintLast

theorem u64_small {n : Int} (h0 : 0 ≤ n) (h1 : n < 18446744073709551616) : IntKind.u64.wrap n = n := by
  rw [IntKind.wrap_u64]; omega
theorem or_low (x c m : Int) (j : Nat) (hm : m = 2 ^ j) (hj : j ≤ 8) (hc0 : 0 ≤ c) (hc1 : c < m) :
    Go.bits .or .u64 (IntKind.u64.wrap (x * m)) c = IntKind.u64.wrap (x * m) + c := by
  obtain ⟨q, hq, hq2⟩ : ∃ q : Nat, IntKind.u64.wrap (x * m) = ((q <<< j : Nat) : Int) ∧ q <<< j < 18446744073709551616 := by
    have hM : (18446744073709551616 : Int) = m * 2 ^ (64 - j) := by
      rw [hm, ← Int.pow_add, Nat.add_sub_cancel' (by omega)]; rfl
    have h2 : (x * m) % 18446744073709551616 = (x % 2 ^ (64 - j)) * m := by
      rw [hM, Int.mul_comm x m, Int.mul_emod_mul_of_pos _ _ (by omega), Int.mul_comm]
    have hp : (0 : Int) < 2 ^ (64 - j) := Int.pow_pos (by omega)
    have h3 := Int.emod_nonneg x (Int.ne_of_gt hp)
    obtain ⟨q, hq⟩ := Int.eq_ofNat_of_zero_le h3
    refine ⟨q, ?_, ?_⟩
    · rw [IntKind.wrap_u64, h2, hq, Nat.shiftLeft_eq, Int.natCast_mul, hm]; norm_cast
    · have h4 : ((q <<< j : Nat) : Int) = (x * m) % 18446744073709551616 := by
        rw [h2, hq, Nat.shiftLeft_eq, Int.natCast_mul, hm]; norm_cast
      omega
  obtain ⟨n, rfl⟩ := Int.eq_ofNat_of_zero_le hc0
  have hn : n < 2 ^ j := by have : (n : Int) < ((2 ^ j : Nat) : Int) := by rw [Int.natCast_pow]; exact hm ▸ hc1
                            exact_mod_cast this
  have h256 : (2 : Nat) ^ j ≤ 2 ^ 8 := Nat.pow_le_pow_right (by omega) hj
  rw [hq, bits_or_u64_nat _ _ hq2 (by omega), ← Nat.shiftLeft_add_eq_or_of_lt hn]
  norm_cast

/-! ### Sum -/
def sumS (x c : Int) : Int := IntKind.u64.wrap (x * 256) + c
theorem sum_l0 (l : List Int) (hl : l.length = 8) (hr : ∀ c ∈ l, 0 ≤ c ∧ c < 256) : ∀ (s : List Int) (i : Nat) (x : Int), l.drop i = s → Ev (fun k => chain_Sum.l0 k x l (l.length : Int) i) (s.foldl sumS x, 0) := by
  intro s
  induction s with
  | nil =>
    intro i x hd
    have := drop_nil_ hd
    exact Ev.step (f := fun _ => some (x, 0)) (fun k => by simp only [chain_Sum.l0]; rw [if_neg (by omega)]) (Ev.now _)
  | cons c s ih =>
    intro i x hd
    obtain ⟨hlt, hc, hd'⟩ := drop_cons_ hd
    obtain ⟨c0, c1⟩ := hr c (List.mem_of_getElem? hc)
    refine Ev.step (fun k => ?_) (ih (i + 1) (sumS x c) hd')
    simp only [chain_Sum.l0]
    rw [if_pos (by omega), if_pos (by omega), if_pos (by omega), rd_some hc, wrap_succ hlt (by omega), u64_small c0 (by omega), or_low x c 256 8 (by decide) (by omega) c0 c1]
    rfl
theorem rsum_l0 (l : List Int) (hl : l.length = 8) (hr : ∀ c ∈ l, 0 ≤ c ∧ c < 256) : ∀ (s : List Int) (i : Nat) (x : Int), l.drop i = s → Ev (fun k => accountingref14_Sum.l0 k l x i) (s.foldl sumS x, 0) := by
  intro s
  induction s with
  | nil =>
    intro i x hd
    have := drop_nil_ hd
    exact Ev.step (f := fun _ => some (x, 0)) (fun k => by simp only [accountingref14_Sum.l0]; rw [if_neg (by omega)]) (Ev.now _)
  | cons c s ih =>
    intro i x hd
    obtain ⟨hlt, hc, hd'⟩ := drop_cons_ hd
    obtain ⟨c0, c1⟩ := hr c (List.mem_of_getElem? hc)
    refine Ev.step (fun k => ?_) (ih (i + 1) (sumS x c) hd')
    simp only [accountingref14_Sum.l0]
    have hw : IntKind.u64.wrap (IntKind.u64.wrap (x * 256) + c) = IntKind.u64.wrap (x * 256) + c := by
      have : IntKind.u64.wrap (x * 256) = (x * 256) % 18446744073709551616 := IntKind.wrap_u64 _
      rw [this]
      apply u64_small <;> omega
    rw [if_pos (by omega), if_pos (by omega), if_pos (by omega), rd_some hc, wrap_succ hlt (by omega), u64_small c0 (by omega), hw]
    rfl
def sumR (l : List Int) : Int × Int := if l.length < 8 then (0, 6) else if l.length > 8 then (0, 5) else (l.foldl sumS 0, 0)
theorem sum_ev (l : List Int) (hr : ∀ c ∈ l, 0 ≤ c ∧ c < 256) : Ev (fun k => chain_Sum.f k l) (sumR l) := by
  unfold chain_Sum.f sumR
  by_cases h1 : l.length < 8
  · simp only [if_pos (show (l.length : Int) < 8 by omega), if_pos h1]; exact Ev.now _
  by_cases h2 : l.length > 8
  · simp only [if_neg (show ¬ (l.length : Int) < 8 by omega), if_neg h1, if_pos (show (l.length : Int) > 8 by omega), if_pos h2]; exact Ev.now _
  simp only [if_neg (show ¬ (l.length : Int) < 8 by omega), if_neg h1, if_neg (show ¬ (l.length : Int) > 8 by omega), if_neg h2]
  exact sum_l0 l (by omega) hr l 0 0 rfl
theorem rsum_ev (l : List Int) (hr : ∀ c ∈ l, 0 ≤ c ∧ c < 256) : Ev (fun k => accountingref14_Sum.f k l) (sumR l) := by
  unfold accountingref14_Sum.f sumR
  by_cases h1 : l.length < 8
  · simp only [if_pos (show (l.length : Int) < 8 by omega), if_pos h1]; exact Ev.now _
  by_cases h2 : l.length > 8
  · simp only [if_neg (show ¬ (l.length : Int) < 8 by omega), if_neg h1, if_pos (show (l.length : Int) > 8 by omega), if_pos h2]; exact Ev.now _
  simp only [if_neg (show ¬ (l.length : Int) < 8 by omega), if_neg h1, if_neg (show ¬ (l.length : Int) > 8 by omega), if_neg h2]
  exact rsum_l0 l (by omega) hr l 0 0 rfl

/-! ### Bytes -/
def bytesS (a : Int) : List Int := [a / 72057594037927936 % 256, a / 281474976710656 % 256, a / 1099511627776 % 256, a / 4294967296 % 256, a / 16777216 % 256, a / 65536 % 256, a / 256 % 256, a % 256]
theorem rbytes_step (k : Nat) (x : Int) (out : List Int) (i : Nat) (h0 : 0 ≤ x) (h1 : x < 18446744073709551616) (hi : i < out.length) (hn : out.length ≤ 8) :
    accountingref14_Bytes.l0 (k + 1) x out i = accountingref14_Bytes.l0 k (x / 256) (out.set i (x % 256)) ((i : Int) - 1) := by
  simp only [accountingref14_Bytes.l0]
  have e1 : Int.tdiv x 256 = x / 256 := Int.tdiv_eq_ediv_of_nonneg h0
  have e2 : Int.tmod x 256 = x % 256 := Int.tmod_eq_emod_of_nonneg h0
  have e3 : wrap64 ((i : Int) - 1) = (i : Int) - 1 := by unfold wrap64; omega
  rw [if_pos (by omega), if_pos (by omega), if_pos (by omega), e1, e2, u64_small (by omega) (by omega), Int.emod_emod_of_dvd _ (Int.dvd_refl _), e3, Int.toNat_natCast]
theorem rbytes_ev (a : Int) (h0 : 0 ≤ a) (h1 : a < 18446744073709551616) : Ev (fun k => accountingref14_Bytes.f k a) (bytesS a) := by
  refine Ev.of (accountingref14_Bytes.mono a) (k := 9) ?_
  unfold accountingref14_Bytes.f
  rw [if_pos (by omega)]
  have s7 := rbytes_step 8 a (List.replicate 8 0) 7 h0 h1 (by simp) (by simp)
  have s6 := rbytes_step 7 (a / 256) [0, 0, 0, 0, 0, 0, 0, a % 256] 6 (by omega) (by omega) (by simp) (by simp)
  have s5 := rbytes_step 6 (a / 256 / 256) [0, 0, 0, 0, 0, 0, a / 256 % 256, a % 256] 5 (by omega) (by omega) (by simp) (by simp)
  have s4 := rbytes_step 5 (a / 256 / 256 / 256) [0, 0, 0, 0, 0, a / 256 / 256 % 256, a / 256 % 256, a % 256] 4 (by omega) (by omega) (by simp) (by simp)
  have s3 := rbytes_step 4 (a / 256 / 256 / 256 / 256) [0, 0, 0, 0, a / 256 / 256 / 256 % 256, a / 256 / 256 % 256, a / 256 % 256, a % 256] 3 (by omega) (by omega) (by simp) (by simp)
  have s2 := rbytes_step 3 (a / 256 / 256 / 256 / 256 / 256) [0, 0, 0, a / 256 / 256 / 256 / 256 % 256, a / 256 / 256 / 256 % 256, a / 256 / 256 % 256, a / 256 % 256, a % 256] 2 (by omega) (by omega) (by simp) (by simp)
  have s1 := rbytes_step 2 (a / 256 / 256 / 256 / 256 / 256 / 256) [0, 0, a / 256 / 256 / 256 / 256 / 256 % 256, a / 256 / 256 / 256 / 256 % 256, a / 256 / 256 / 256 % 256, a / 256 / 256 % 256, a / 256 % 256, a % 256] 1 (by omega) (by omega) (by simp) (by simp)
  have s0 := rbytes_step 1 (a / 256 / 256 / 256 / 256 / 256 / 256 / 256) [0, a / 256 / 256 / 256 / 256 / 256 / 256 % 256, a / 256 / 256 / 256 / 256 / 256 % 256, a / 256 / 256 / 256 / 256 % 256, a / 256 / 256 / 256 % 256, a / 256 / 256 % 256, a / 256 % 256, a % 256] 0 (by omega) (by omega) (by simp) (by simp)
  refine s7.trans (s6.trans (s5.trans (s4.trans (s3.trans (s2.trans (s1.trans (s0.trans ?_)))))))
  simp only [accountingref14_Bytes.l0]
  rw [if_neg (by decide)]
  simp only [List.set_cons_zero, bytesS, Option.some.injEq, List.cons.injEq, and_true]
  repeat' apply And.intro
  all_goals omega
theorem bytes_range (a : Int) : ∀ c ∈ bytesS a, 0 ≤ c ∧ c < 256 := by
  intro c hc
  simp only [bytesS, List.mem_cons, List.not_mem_nil, or_false] at hc
  omega
theorem sum_bytes (a : Int) (h0 : 0 ≤ a) (h1 : a < 18446744073709551616) : sumR (bytesS a) = (a, 0) := by
  have st : ∀ x d : Int, 0 ≤ x → x < 72057594037927936 → sumS x d = x * 256 + d := fun x d hx hx2 => by
    unfold sumS; rw [u64_small (by omega) (by omega)]
  show ((bytesS a).foldl sumS 0, (0 : Int)) = (a, 0)
  simp only [bytesS, List.foldl_cons, List.foldl_nil]
  rw [st 0 _ (by omega) (by omega), show 0 * 256 + a / 72057594037927936 % 256 = a / 72057594037927936 by omega]
  rw [st (a / 72057594037927936) _ (by omega) (by omega), show a / 72057594037927936 * 256 + a / 281474976710656 % 256 = a / 281474976710656 by omega]
  rw [st (a / 281474976710656) _ (by omega) (by omega), show a / 281474976710656 * 256 + a / 1099511627776 % 256 = a / 1099511627776 by omega]
  rw [st (a / 1099511627776) _ (by omega) (by omega), show a / 1099511627776 * 256 + a / 4294967296 % 256 = a / 4294967296 by omega]
  rw [st (a / 4294967296) _ (by omega) (by omega), show a / 4294967296 * 256 + a / 16777216 % 256 = a / 16777216 by omega]
  rw [st (a / 16777216) _ (by omega) (by omega), show a / 16777216 * 256 + a / 65536 % 256 = a / 65536 by omega]
  rw [st (a / 65536) _ (by omega) (by omega), show a / 65536 * 256 + a / 256 % 256 = a / 256 by omega]
  rw [st (a / 256) _ (by omega) (by omega), show a / 256 * 256 + a % 256 = a by omega]

/-! ### digits -/
theorem and15_eq (x : Int) : Go.bits .and .u64 x 15 = x % 16 := by
  have e : Go.bits .and .u64 x 15 = (((BitVec.ofInt 64 x &&& BitVec.ofInt 64 15).toNat : Nat) : Int) := by
    show IntKind.u64.wrap ((BitVec.ofInt 64 x &&& BitVec.ofInt 64 15).toNat : Int) = _
    have := (BitVec.ofInt 64 x &&& BitVec.ofInt 64 15).isLt
    rw [IntKind.wrap_u64]
    omega
  rw [e, BitVec.toNat_and, show (BitVec.ofInt 64 15).toNat = 2 ^ 4 - 1 from rfl, Nat.and_two_pow_sub_one_eq_mod, BitVec.toNat_ofInt]
  omega
theorem hexB_eq (x : Int) : hexB x = bt digs (x % 16) := by unfold hexB; rw [and15_eq]
def valS (c : Int) : Int := if 48 ≤ c ∧ c ≤ 57 then c - 48 else if 97 ≤ c ∧ c ≤ 102 then c - 87 else -1
theorem valS_digs : ∀ n : Nat, n < 16 → valS (bt digs n) = n := by decide
theorem rvalue_all : ∀ c : Nat, c < 256 → accountingref14_value.f 20 (c : Int) = some (valS c) := by decide +kernel
theorem value_all : ∀ c : Nat, c < 256 → chain_value.f 20 (c : Int) = some (if valS c < 0 then (0, false) else (valS c, true)) := by decide +kernel
theorem rvalue_ev (c : Int) (h0 : 0 ≤ c) (h1 : c ≤ 255) : Ev (fun k => accountingref14_value.f k c) (valS c) := by
  obtain ⟨n, rfl⟩ := Int.eq_ofNat_of_zero_le h0
  exact Ev.of (accountingref14_value.mono _) (rvalue_all n (by omega))
theorem value_ev (c : Int) (h0 : 0 ≤ c) (h1 : c ≤ 255) : Ev (fun k => chain_value.f k c) (if valS c < 0 then (0, false) else (valS c, true)) := by
  obtain ⟨n, rfl⟩ := Int.eq_ofNat_of_zero_le h0
  exact Ev.of (chain_value.mono _) (value_all n (by omega))
theorem valS_lt (c : Int) : valS c < 16 := by unfold valS; split <;> (try split) <;> omega

/-! ### Parse -/
/-- The number of the d bytes from i on, behind x. -/
def pS (s : ByteArray) : Nat → Nat → Int → Int × Int
  | 0, _, x => (x, 0)
  | d + 1, i, x => if valS (bt s i) < 0 then (0, 5) else pS s d (i + 1) (IntKind.u64.wrap (x * 16) + valS (bt s i))
theorem parse_l0 (s : ByteArray) (hs : s.size = 16) : ∀ (d i : Nat) (x : Int), i + d = 16 → Ev (fun k => chain_Parse.l0 k s x (s.size : Int) i) (pS s d i x) := by
  intro d
  induction d with
  | zero =>
    intro i x h
    exact Ev.step (f := fun _ => some (x, 0)) (fun k => by simp only [chain_Parse.l0]; rw [if_neg (by omega)]) (Ev.now _)
  | succ d ih =>
    intro i x h
    have hb := bt_range s (i : Int)
    refine Ev.step (f := fun k => (chain_value.f k (bt s i)).bind fun b => if b.2 = true then chain_Parse.l0 k s (Go.bits .or .u64 (IntKind.u64.wrap (x * 16)) b.1) (s.size : Int) ((i + 1 : Nat) : Int) else some (0, 5)) (fun k => ?_) (Ev.bind (value_ev _ hb.1 hb.2) ?_)
    · simp only [chain_Parse.l0]
      rw [if_pos (by omega), if_pos (by omega), if_pos (by omega), wrap_succ (n := 16) (by omega) (by omega)]
    · unfold pS
      by_cases hv : valS (bt s i) < 0
      · simp only [if_pos hv, Bool.false_eq_true, if_false]; exact Ev.now _
      · simp only [if_neg hv, if_true]
        rw [or_low x _ 16 4 (by decide) (by omega) (by omega) (valS_lt _)]
        exact ih (i + 1) _ (by omega)
theorem rparse_l0 (s : ByteArray) (hs : s.size = 16) : ∀ (d i : Nat) (x : Int), i + d = 16 → Ev (fun k => accountingref14_Parse.l0 k s x i) (pS s d i x) := by
  intro d
  induction d with
  | zero =>
    intro i x h
    exact Ev.step (f := fun _ => some (x, 0)) (fun k => by simp only [accountingref14_Parse.l0]; rw [if_neg (by omega), if_pos (by omega)]) (Ev.now _)
  | succ d ih =>
    intro i x h
    have hb := bt_range s (i : Int)
    refine Ev.step (f := fun k => (accountingref14_value.f k (bt s i)).bind fun v => if v < 0 then some (0, 5) else (accountingref14_value.f k (bt s i)).bind fun u => accountingref14_Parse.l0 k s (IntKind.u64.wrap (IntKind.u64.wrap (x * 16) + IntKind.u64.wrap u)) ((i + 1 : Nat) : Int)) (fun k => ?_) (Ev.bind (rvalue_ev _ hb.1 hb.2) ?_)
    · simp only [accountingref14_Parse.l0]
      rw [if_pos (by omega), if_pos (by omega), wrap_succ (n := 16) (by omega) (by omega)]
    · unfold pS
      by_cases hv : valS (bt s i) < 0
      · simp only [if_pos hv]; exact Ev.now _
      · simp only [if_neg hv]
        refine Ev.bind (rvalue_ev _ hb.1 hb.2) ?_
        have h16 := valS_lt (bt s i)
        have hw : IntKind.u64.wrap (IntKind.u64.wrap (x * 16) + IntKind.u64.wrap (valS (bt s i))) = IntKind.u64.wrap (x * 16) + valS (bt s i) := by
          rw [u64_small (n := valS (bt s i)) (by omega) (by omega), IntKind.wrap_u64 (x * 16)]
          apply u64_small <;> omega
        rw [hw]
        exact ih (i + 1) _ (by omega)
theorem rparse_bad (s : ByteArray) (hs : s.size ≤ 100) (hne : s.size ≠ 16) : ∀ (d i : Nat) (x : Int), i + d = s.size → Ev (fun k => accountingref14_Parse.l0 k s x i) (0, 5) := by
  intro d
  induction d with
  | zero =>
    intro i x h
    exact Ev.step (f := fun _ => some (0, 5)) (fun k => by simp only [accountingref14_Parse.l0]; rw [if_neg (by omega), if_neg (by omega)]) (Ev.now _)
  | succ d ih =>
    intro i x h
    have hb := bt_range s (i : Int)
    refine Ev.step (f := fun k => (accountingref14_value.f k (bt s i)).bind fun v => if v < 0 then some (0, 5) else (accountingref14_value.f k (bt s i)).bind fun u => accountingref14_Parse.l0 k s (IntKind.u64.wrap (IntKind.u64.wrap (x * 16) + IntKind.u64.wrap u)) ((i + 1 : Nat) : Int)) (fun k => ?_) (Ev.bind (rvalue_ev _ hb.1 hb.2) ?_)
    · simp only [accountingref14_Parse.l0]
      rw [if_pos (by omega), if_pos (by omega), wrap_succ (n := s.size) (by omega) (by omega)]
    · by_cases hv : valS (bt s i) < 0
      · simp only [if_pos hv]; exact Ev.now _
      · simp only [if_neg hv]
        exact Ev.bind (rvalue_ev _ hb.1 hb.2) (ih (i + 1) _ (by omega))
def parseR (s : ByteArray) : Int × Int := if s.size = 16 then pS s 16 0 0 else (0, 5)
theorem parse_ev (s : ByteArray) : Ev (fun k => chain_Parse.f k s) (parseR s) := by
  unfold chain_Parse.f parseR
  by_cases h : s.size = 16
  · simp only [if_pos (show (s.size : Int) = 16 by omega), if_pos h]
    exact parse_l0 s h 16 0 0 (by omega)
  · simp only [if_neg (show ¬ (s.size : Int) = 16 by omega), if_neg h]; exact Ev.now _
theorem rparse_ev (s : ByteArray) (hs : s.size ≤ 100) : Ev (fun k => accountingref14_Parse.f k s) (parseR s) := by
  unfold accountingref14_Parse.f parseR
  by_cases h : s.size = 16
  · rw [if_pos h]; exact rparse_l0 s h 16 0 0 (by omega)
  · rw [if_neg h]; exact rparse_bad s hs h s.size 0 0 (by omega)

/-! ### Text -/
def textL (a : Int) : List Int := [hexB (a / 1152921504606846976), hexB (a / 72057594037927936), hexB (a / 4503599627370496), hexB (a / 281474976710656), hexB (a / 17592186044416), hexB (a / 1099511627776), hexB (a / 68719476736), hexB (a / 4294967296), hexB (a / 268435456), hexB (a / 16777216), hexB (a / 1048576), hexB (a / 65536), hexB (a / 4096), hexB (a / 256), hexB (a / 16), hexB a]
theorem text_f (a : Int) : chain_Text.f a = some (strOfNums (textL a)) := rfl
theorem hexL_bytes (a : Int) : hexL (bytesS a) = strOfNums (textL a) := by
  unfold hexL bytesS textL
  simp only [List.flatMap_cons, List.flatMap_nil, List.append_nil, List.cons_append, List.nil_append, hexB_eq]
  congr 1
  simp only [List.cons.injEq, and_true]
  refine ⟨?_, ?_, ?_, ?_, ?_, ?_, ?_, ?_, ?_, ?_, ?_, ?_, ?_, ?_, ?_, ?_⟩ <;> (congr 1; omega)
theorem rtext_ev (a : Int) (h0 : 0 ≤ a) (h1 : a < 18446744073709551616) : Ev (fun k => accountingref14_Text.f k a) (strOfNums (textL a)) := by
  refine Ev.bind (rbytes_ev a h0 h1) ?_
  have hB : byteB (bytesS a) = true := by
    simp only [byteB, Bool.and_eq_true, decide_eq_true_eq, List.all_eq_true]
    exact ⟨rfl, fun c hc => by have := bytes_range a c hc; omega⟩
  simp only [if_pos hB, hexL_bytes]
  exact Ev.now _
theorem bt_strOf (l : List Int) (i : Nat) (c : Int) (h : l[i]? = some c) (h0 : 0 ≤ c) (h1 : c ≤ 255) : bt (strOfNums l) (i : Int) = c := by
  have hi : i < l.length := by
    rcases Nat.lt_or_ge i l.length with h2 | h2
    · exact h2
    · rw [List.getElem?_eq_none h2] at h; cases h
  have hsz : (strOfNums l).size = l.length := by simp [strOfNums, ByteArray.size]
  unfold bt
  rw [dif_pos (by rw [Int.toNat_natCast, hsz]; exact hi)]
  have e : l[i] = c := by rw [List.getElem?_eq_getElem hi] at h; injection h
  show (((strOfNums l).data[((i : Int)).toNat]'_).toNat : Int) = c
  simp only [strOfNums, Int.toNat_natCast, List.getElem_toArray, List.getElem_map, e]
  obtain ⟨n, rfl⟩ := Int.eq_ofNat_of_zero_le h0
  simp
  omega
theorem text_at (a : Int) : ∀ d : Nat, d < 16 → (textL a)[15 - d]? = some (hexB (a / 16 ^ d))
  | 0, _ => by simp [textL]
  | 1, _ => rfl
  | 2, _ => rfl
  | 3, _ => rfl
  | 4, _ => rfl
  | 5, _ => rfl
  | 6, _ => rfl
  | 7, _ => rfl
  | 8, _ => rfl
  | 9, _ => rfl
  | 10, _ => rfl
  | 11, _ => rfl
  | 12, _ => rfl
  | 13, _ => rfl
  | 14, _ => rfl
  | 15, _ => rfl
  | d + 16, h => absurd h (by omega)
theorem hexB_range (x : Int) : 0 ≤ hexB x ∧ hexB x ≤ 255 := bt_range _ _
theorem val_hexB (x : Int) : valS (hexB x) = x % 16 := by
  rw [hexB_eq]
  obtain ⟨n, hn⟩ := Int.eq_ofNat_of_zero_le (Int.emod_nonneg x (show (16 : Int) ≠ 0 by decide))
  rw [hn]
  exact valS_digs n (by omega)
theorem parse_text (a : Int) (h0 : 0 ≤ a) (h1 : a < 18446744073709551616) : ∀ d : Nat, d ≤ 16 → pS (strOfNums (textL a)) d (16 - d) (a / 16 ^ d) = (a, 0) := by
  intro d
  induction d with
  | zero => intro _; simp [pS]
  | succ d ih =>
    intro hd
    unfold pS
    have hb : bt (strOfNums (textL a)) ((16 - (d + 1) : Nat) : Int) = hexB (a / 16 ^ d) := by
      refine bt_strOf _ _ _ ?_ (hexB_range _).1 (hexB_range _).2
      rw [show 16 - (d + 1) = 15 - d by omega]
      exact text_at a d (by omega)
    rw [hb, val_hexB, if_neg (by omega)]
    have hp : (0 : Int) < 16 ^ d := Int.pow_pos (by omega)
    have hq : a / 16 ^ (d + 1) = a / 16 ^ d / 16 := by rw [Int.pow_succ, Int.ediv_ediv_of_nonneg (by omega)]
    have hnn : 0 ≤ a / 16 ^ d := Int.ediv_nonneg h0 (by omega)
    have hle : a / 16 ^ d ≤ a := Int.ediv_le_self _ h0
    have e : IntKind.u64.wrap (a / 16 ^ (d + 1) * 16) + a / 16 ^ d % 16 = a / 16 ^ d := by
      rw [hq, u64_small (by omega) (by omega)]
      omega
    rw [e, show 16 - (d + 1) + 1 = 16 - d by omega]
    exact ih (by omega)
theorem parseR_text (a : Int) (h0 : 0 ≤ a) (h1 : a < 18446744073709551616) : parseR (strOfNums (textL a)) = (a, 0) := by
  unfold parseR
  rw [if_pos (by simp [strOfNums, ByteArray.size, textL])]
  have := parse_text a h0 h1 16 (by omega)
  rw [show a / 16 ^ 16 = 0 from Int.ediv_eq_zero_of_lt h0 (by simpa using h1)] at this
  exact this

theorem wf_u64 {a : Int} (h : (Lit.int .u64 a).wf = true) : 0 ≤ a ∧ a < 18446744073709551616 := by
  have h1 : IntKind.u64.min = 0 := rfl
  have h2 : IntKind.u64.max = 18446744073709551615 := rfl
  simp only [Lit.wf, Bool.and_eq_true, decide_eq_true_eq] at h
  omega
theorem wf_u8 {a : Int} (h : (Lit.int .u8 a).wf = true) : 0 ≤ a ∧ a < 256 := by
  have h1 : IntKind.u8.min = 0 := rfl
  have h2 : IntKind.u8.max = 255 := rfl
  simp only [Lit.wf, Bool.and_eq_true, decide_eq_true_eq] at h
  omega
theorem ChainRoundTrip : accountinglaw14_ChainRoundTrip.Said := by
  intro a ha
  obtain ⟨h0, h1⟩ := wf_u64 ha
  refine Ev.rounds (?_ : Ev (fun k => accountinglaw14_ChainRoundTrip.f k a) true)
  unfold accountinglaw14_ChainRoundTrip.f
  have hs := sum_ev (bytesS a) (bytes_range a)
  rw [sum_bytes a h0 h1] at hs
  have hp := parse_ev (strOfNums (textL a))
  rw [parseR_text a h0 h1] at hp
  rw [text_f, show chain_Bytes.f a = some (bytesS a) from rfl]
  simp only [Option.bind_some]
  refine Ev.bind hs (Ev.bind hp ?_)
  simp only [if_true]
  exact lives_bind
theorem ChainNotation : accountinglaw14_ChainNotation.Said := by
  intro a l s ha hl hs
  obtain ⟨h0, h1⟩ := wf_u64 ha
  have hr : ∀ c ∈ l, 0 ≤ c ∧ c < 256 := fun c hc => wf_u8 (hl.2 c hc)
  refine Ev.rounds (?_ : Ev (fun k => accountinglaw14_ChainNotation.f k a l s) true)
  have hj : Ev (fun k => accountinglaw14_ChainNotation.j0 k a l s true) true :=
    Ev.step (fun k => by simp only [accountinglaw14_ChainNotation.j0, if_true]) lives_bind
  unfold accountinglaw14_ChainNotation.f
  by_cases c1 : (l.length : Int) > 100
  · simp only [if_pos c1]; exact hj
  simp only [if_neg c1]
  cases c2 : decide ((s.size : Int) > 100) with
  | true => exact hj
  | false =>
    have hs2 : s.size ≤ 100 := by have := of_decide_eq_false c2; omega
    refine Ev.step (f := fun k => (chain_Sum.f k l).bind fun b1 => (accountingref14_Sum.f k l).bind fun b2 => (chain_Parse.f k s).bind fun b3 => (accountingref14_Parse.f k s).bind fun b4 => (accountingref14_Bytes.f k a).bind fun t => if (strOfNums (bytesS a)).toList = (strOfNums t).toList then (accountingref14_Text.f k a).bind fun u => if (strOfNums (textL a)).toList = u.toList then if b1.1 = b2.1 then if b1.2 = b2.2 then if b3.1 = b4.1 then if b3.2 = b4.2 then (accountinglaw14_lives.f k).bind fun t302 => some t302 else some false else some false else some false else some false else some false else some false) (fun k => ?_) ?_
    · simp only [accountinglaw14_ChainNotation.j0, Bool.false_eq_true, if_false, text_f, show chain_Bytes.f a = some (bytesS a) from rfl, Option.bind_some]
    · refine Ev.bind (sum_ev l hr) (Ev.bind (rsum_ev l hr) (Ev.bind (parse_ev s) (Ev.bind (rparse_ev s hs2) (Ev.bind (rbytes_ev a h0 h1) ?_))))
      simp only [if_true]
      refine Ev.bind (rtext_ev a h0 h1) ?_
      simp only [if_true]
      exact lives_bind
end Go.Proofs.Ytinhoindkpaibaa.Pure
