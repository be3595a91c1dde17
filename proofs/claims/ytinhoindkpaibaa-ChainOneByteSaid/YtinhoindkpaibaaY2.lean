-- written by xprint.py (a program of this session's, over the kit's print.py). Lean checks it.
import Derived.Test.YtinhoindkpaibaaY0
import Derived.Test.YtinhoindkpaibaaY1
namespace Go.Proofs.Ytinhoindkpaibaa.Y
open Go.RowKit Go.Proofs.YtinhoindkpaibaaW.PrintWords Go.Proofs.YtinhoindkpaibaaW.PrintLast Go.Proofs.YtinhoindkpaibaaW.PrintMore
attribute [local go_sem] max2_int min2_int max_two min_two max_three min_three max_four min_four   -- for this text's walks alone
set_option linter.unusedVariables false
set_option linter.unusedSimpArgs false

/-! ### chain_Text: function 26 -/
theorem and15 (x : Int) : 0 ≤ Go.bits .and .u64 x 15 ∧ Go.bits .and .u64 x 15 < 16 := by
  have e : Go.bits .and .u64 x 15 = (((BitVec.ofInt 64 x &&& BitVec.ofInt 64 15).toNat : Nat) : Int) := by
    show IntKind.u64.wrap ((BitVec.ofInt 64 x &&& BitVec.ofInt 64 15).toNat : Int) = _
    have := (BitVec.ofInt 64 x &&& BitVec.ofInt 64 15).isLt
    rw [IntKind.wrap_u64]
    omega
  have h : (BitVec.ofInt 64 x &&& BitVec.ofInt 64 15).toNat ≤ 15 := by
    rw [BitVec.toNat_and]
    exact Nat.and_le_right
  omega
def digs : ByteArray := ⟨#[48, 49, 50, 51, 52, 53, 54, 55, 56, 57, 97, 98, 99, 100, 101, 102]⟩
/-- A hexadecimal digit. -/
def hexB (x : Int) : Int := bt digs (Go.bits .and .u64 x 15)
def chain_Text.f (a0 : Int) : Option (ByteArray) := some (strOfNums [hexB (a0 / 1152921504606846976), hexB (a0 / 72057594037927936), hexB (a0 / 4503599627370496), hexB (a0 / 281474976710656), hexB (a0 / 17592186044416), hexB (a0 / 1099511627776), hexB (a0 / 68719476736), hexB (a0 / 4294967296), hexB (a0 / 268435456), hexB (a0 / 16777216), hexB (a0 / 1048576), hexB (a0 / 65536), hexB (a0 / 4096), hexB (a0 / 256), hexB (a0 / 16), hexB a0])
theorem hex_at (x : Int) : ∀ h : (Go.bits .and .u64 x 15).toNat < (⟨#[48, 49, 50, 51, 52, 53, 54, 55, 56, 57, 97, 98, 99, 100, 101, 102]⟩ : ByteArray).size, (((⟨#[48, 49, 50, 51, 52, 53, 54, 55, 56, 57, 97, 98, 99, 100, 101, 102]⟩ : ByteArray)[(Go.bits .and .u64 x 15).toNat]'h).toNat : Int) = hexB x := fun h => bt_at digs _ h
set_option maxHeartbeats 8000000 in
set_option maxRecDepth 100000 in
theorem chain_Text.calls (a0 : Int) (r : ByteArray) (w : World) (h : chain_Text.f a0 = some r) :
    Calls Try.prog 26 #[.int .u64 a0] w fun e w' => e = .returned (.string r) ∧ Below w.heap.size w w' := by
  obtain rfl := Option.some.inj h
  clear h
  go_enter Try.func26, Try.ntmps26
  go_wp2
  refine wp_loop_rounds 17 ?_
  rw [rounds_succ]
  have h0 := and15 a0
  have h1 := hex_at a0
  go_wp2
  clear h0 h1
  rw [rounds_succ]
  have h0 := and15 (a0 / 16)
  have h1 := hex_at (a0 / 16)
  go_wp2
  clear h0 h1
  rw [rounds_succ]
  have h0 := and15 (a0 / 256)
  have h1 := hex_at (a0 / 256)
  go_wp2
  clear h0 h1
  rw [rounds_succ]
  have h0 := and15 (a0 / 4096)
  have h1 := hex_at (a0 / 4096)
  go_wp2
  clear h0 h1
  rw [rounds_succ]
  have h0 := and15 (a0 / 65536)
  have h1 := hex_at (a0 / 65536)
  go_wp2
  clear h0 h1
  rw [rounds_succ]
  have h0 := and15 (a0 / 1048576)
  have h1 := hex_at (a0 / 1048576)
  go_wp2
  clear h0 h1
  rw [rounds_succ]
  have h0 := and15 (a0 / 16777216)
  have h1 := hex_at (a0 / 16777216)
  go_wp2
  clear h0 h1
  rw [rounds_succ]
  have h0 := and15 (a0 / 268435456)
  have h1 := hex_at (a0 / 268435456)
  go_wp2
  clear h0 h1
  rw [rounds_succ]
  have h0 := and15 (a0 / 4294967296)
  have h1 := hex_at (a0 / 4294967296)
  go_wp2
  clear h0 h1
  rw [rounds_succ]
  have h0 := and15 (a0 / 68719476736)
  have h1 := hex_at (a0 / 68719476736)
  go_wp2
  clear h0 h1
  rw [rounds_succ]
  have h0 := and15 (a0 / 1099511627776)
  have h1 := hex_at (a0 / 1099511627776)
  go_wp2
  clear h0 h1
  rw [rounds_succ]
  have h0 := and15 (a0 / 17592186044416)
  have h1 := hex_at (a0 / 17592186044416)
  go_wp2
  clear h0 h1
  rw [rounds_succ]
  have h0 := and15 (a0 / 281474976710656)
  have h1 := hex_at (a0 / 281474976710656)
  go_wp2
  clear h0 h1
  rw [rounds_succ]
  have h0 := and15 (a0 / 4503599627370496)
  have h1 := hex_at (a0 / 4503599627370496)
  go_wp2
  clear h0 h1
  rw [rounds_succ]
  have h0 := and15 (a0 / 72057594037927936)
  have h1 := hex_at (a0 / 72057594037927936)
  go_wp2
  clear h0 h1
  rw [rounds_succ]
  have h0 := and15 (a0 / 1152921504606846976)
  have h1 := hex_at (a0 / 1152921504606846976)
  go_wp2
  clear h0 h1
  rw [rounds_succ]
  have hC := Kd.V_reads' (arr_V .u8 _ 5 58 w.heap.size (fun k_ => w.heap.size ≤ k_) _ _ [hexB (a0 / 1152921504606846976), hexB (a0 / 72057594037927936), hexB (a0 / 4503599627370496), hexB (a0 / 281474976710656), hexB (a0 / 17592186044416), hexB (a0 / 1099511627776), hexB (a0 / 68719476736), hexB (a0 / 4294967296), hexB (a0 / 268435456), hexB (a0 / 16777216), hexB (a0 / 1048576), hexB (a0 / 65536), hexB (a0 / 4096), hexB (a0 / 256), hexB (a0 / 16), hexB a0] (heap_alloc_new w (.cells #[.int .u8 (hexB (a0 / 1152921504606846976)), .int .u8 (hexB (a0 / 72057594037927936)), .int .u8 (hexB (a0 / 4503599627370496)), .int .u8 (hexB (a0 / 281474976710656)), .int .u8 (hexB (a0 / 17592186044416)), .int .u8 (hexB (a0 / 1099511627776)), .int .u8 (hexB (a0 / 68719476736)), .int .u8 (hexB (a0 / 4294967296)), .int .u8 (hexB (a0 / 268435456)), .int .u8 (hexB (a0 / 16777216)), .int .u8 (hexB (a0 / 1048576)), .int .u8 (hexB (a0 / 65536)), .int .u8 (hexB (a0 / 4096)), .int .u8 (hexB (a0 / 256)), .int .u8 (hexB (a0 / 16)), .int .u8 (hexB a0)] 58)) (Nat.le_refl _) rfl (by simp))
  have hs := Kd.C_string (P := Try.prog) (src := 23) (dst := 9) (c := 16) (n := 16) Try.underlying23 Try.underlying5 Try.underlying9 hC.2.2
  clear hC
  go_wp2
  go_ret
  exact ⟨rfl, below_alloc (Below.refl _ _) _⟩

/-! ### accountinglaw14_lives: function 11 -/
def accountinglaw14_lives.f (k : Nat)  : Option (Bool) := (chain_All.f k (([(([] : List Int)), (([1] : List Int))] : List (List Int)))).bind fun t127 => ((chain_Text.f 258).bind fun t130 => ((chain_Parse.f k (⟨#[48, 48, 48, 48, 48, 48, 48, 48, 48, 48, 48, 48, 48, 48, 102, 102]⟩ : ByteArray)).bind fun bt131 => ((chain_Parse.f k (⟨#[48, 48, 48, 48, 48, 48, 48, 48, 48, 48, 48, 48, 48, 48, 70, 70]⟩ : ByteArray)).bind fun bt133 => ((chain_Sum.f k (([0, 0, 0, 0, 0, 0, 1, 2] : List Int))).bind fun bt138 => ((chain_Sum.f k (([1] : List Int))).bind fun bt143 => ((chain_Sum.f k (([0, 0, 0, 0, 0, 0, 1, 2, 3] : List Int))).bind fun bt148 => (if (t127.length : Int) = 2 then ((chain_Next.f k 0 (([0] : List Int))).bind fun t153 => (if t153 = 1099511628211 then ((chain_Check.f k ([] : List (List Int)) t127).bind fun t154 => (if t154 = 0 then ((chain_Check.f k (([(([] : List Int)), (([1] : List Int))] : List (List Int))) t127).bind fun t164 => (if t164 = (-1) then (if t130.toList = ([48, 48, 48, 48, 48, 48, 48, 48, 48, 48, 48, 48, 48, 49, 48, 50] : List UInt8) then (if bt131.1 = 255 then (if bt131.2 = 0 then (if bt133.2 = 5 then (if bt138.1 = 258 then (if bt138.2 = 0 then (if bt143.2 = 6 then (some (bt148.2 == 5)) else (none)) else (none)) else (none)) else (none)) else (none)) else (none)) else (none)) else (none))) else (none))) else (none))) else (none))))))))
theorem accountinglaw14_lives.mono : ∀ k, LeO (accountinglaw14_lives.f k ) (accountinglaw14_lives.f (k + 1) ) := by
  intro  k
  unfold accountinglaw14_lives.f
  repeat' first
      | (with_reducible exact chain_All.mono _ _)
      | (with_reducible exact chain_Check.mono _ _ _)
      | (with_reducible exact chain_Next.mono _ _ _)
      | (with_reducible exact chain_Parse.mono _ _)
      | (with_reducible exact chain_Sum.mono _ _)
      | (with_reducible exact LeO.refl _)
      | (with_reducible exact LeO.none _)
      | (with_reducible refine LeO.ite ?_ ?_)
      | (with_reducible refine LeO.bind ?_ (fun _ => ?_))
      | exact chain_All.mono _ _
      | exact chain_Check.mono _ _ _
      | exact chain_Next.mono _ _ _
      | exact chain_Parse.mono _ _
      | exact chain_Sum.mono _ _
      | exact LeO.none _
      | refine LeO.ite ?_ ?_
      | refine LeO.bind ?_ (fun _ => ?_)
set_option maxHeartbeats 8000000 in
set_option maxRecDepth 100000 in
theorem accountinglaw14_lives.calls (k : Nat)  (r : Bool) (w : World) (h : accountinglaw14_lives.f k  = some r) :
    Calls Try.prog 11 #[] w fun e w' => e = .returned (.bool r) ∧ Below w.heap.size w w' := by
  have HB := Aside0.mk (Below.refl w.heap.size w)
  have H : ((chain_All.f k (([(([] : List Int)), (([1] : List Int))] : List (List Int)))).bind fun t127 => ((chain_Text.f 258).bind fun t130 => ((chain_Parse.f k (⟨#[48, 48, 48, 48, 48, 48, 48, 48, 48, 48, 48, 48, 48, 48, 102, 102]⟩ : ByteArray)).bind fun bt131 => ((chain_Parse.f k (⟨#[48, 48, 48, 48, 48, 48, 48, 48, 48, 48, 48, 48, 48, 48, 70, 70]⟩ : ByteArray)).bind fun bt133 => ((chain_Sum.f k (([0, 0, 0, 0, 0, 0, 1, 2] : List Int))).bind fun bt138 => ((chain_Sum.f k (([1] : List Int))).bind fun bt143 => ((chain_Sum.f k (([0, 0, 0, 0, 0, 0, 1, 2, 3] : List Int))).bind fun bt148 => (if (t127.length : Int) = 2 then ((chain_Next.f k 0 (([0] : List Int))).bind fun t153 => (if t153 = 1099511628211 then ((chain_Check.f k ([] : List (List Int)) t127).bind fun t154 => (if t154 = 0 then ((chain_Check.f k (([(([] : List Int)), (([1] : List Int))] : List (List Int))) t127).bind fun t164 => (if t164 = (-1) then (if t130.toList = ([48, 48, 48, 48, 48, 48, 48, 48, 48, 48, 48, 48, 48, 49, 48, 50] : List UInt8) then (if bt131.1 = 255 then (if bt131.2 = 0 then (if bt133.2 = 5 then (if bt138.1 = 258 then (if bt138.2 = 0 then (if bt143.2 = 6 then (some (bt148.2 == 5)) else (none)) else (none)) else (none)) else (none)) else (none)) else (none)) else (none)) else (none))) else (none))) else (none))) else (none))))))))) = some r := h
  clear h
  obtain ⟨y118, hy118⟩ : ∃ y_ : List Int, y_ = (([] : List Int)) := ⟨_, rfl⟩
  replace H : ((chain_All.f k (([y118, (([1] : List Int))] : List (List Int)))).bind fun t127 => ((chain_Text.f 258).bind fun t130 => ((chain_Parse.f k (⟨#[48, 48, 48, 48, 48, 48, 48, 48, 48, 48, 48, 48, 48, 48, 102, 102]⟩ : ByteArray)).bind fun bt131 => ((chain_Parse.f k (⟨#[48, 48, 48, 48, 48, 48, 48, 48, 48, 48, 48, 48, 48, 48, 70, 70]⟩ : ByteArray)).bind fun bt133 => ((chain_Sum.f k (([0, 0, 0, 0, 0, 0, 1, 2] : List Int))).bind fun bt138 => ((chain_Sum.f k (([1] : List Int))).bind fun bt143 => ((chain_Sum.f k (([0, 0, 0, 0, 0, 0, 1, 2, 3] : List Int))).bind fun bt148 => (if (t127.length : Int) = 2 then ((chain_Next.f k 0 (([0] : List Int))).bind fun t153 => (if t153 = 1099511628211 then ((chain_Check.f k ([] : List (List Int)) t127).bind fun t154 => (if t154 = 0 then ((chain_Check.f k (([(([] : List Int)), (([1] : List Int))] : List (List Int))) t127).bind fun t164 => (if t164 = (-1) then (if t130.toList = ([48, 48, 48, 48, 48, 48, 48, 48, 48, 48, 48, 48, 48, 49, 48, 50] : List UInt8) then (if bt131.1 = 255 then (if bt131.2 = 0 then (if bt133.2 = 5 then (if bt138.1 = 258 then (if bt138.2 = 0 then (if bt143.2 = 6 then (some (bt148.2 == 5)) else (none)) else (none)) else (none)) else (none)) else (none)) else (none)) else (none)) else (none))) else (none))) else (none))) else (none))))))))) = some r := by first | (rw [hy118]; with_reducible exact H) | (have H2_ := (Option.bind_some _ _).symm.trans H; rw [hy118]; with_reducible exact H2_) | (have H2_ := (Option.bind_some _ _).symm.trans H; with_reducible exact H2_) | with_reducible exact H | (rw [hy118]; exact H) | exact H
  have Ny118 := Aside0.mk hy118
  clear hy118
  obtain ⟨y121, hy121⟩ : ∃ y_ : List Int, y_ = (([1] : List Int)) := ⟨_, rfl⟩
  replace H : ((chain_All.f k (([y118, y121] : List (List Int)))).bind fun t127 => ((chain_Text.f 258).bind fun t130 => ((chain_Parse.f k (⟨#[48, 48, 48, 48, 48, 48, 48, 48, 48, 48, 48, 48, 48, 48, 102, 102]⟩ : ByteArray)).bind fun bt131 => ((chain_Parse.f k (⟨#[48, 48, 48, 48, 48, 48, 48, 48, 48, 48, 48, 48, 48, 48, 70, 70]⟩ : ByteArray)).bind fun bt133 => ((chain_Sum.f k (([0, 0, 0, 0, 0, 0, 1, 2] : List Int))).bind fun bt138 => ((chain_Sum.f k (([1] : List Int))).bind fun bt143 => ((chain_Sum.f k (([0, 0, 0, 0, 0, 0, 1, 2, 3] : List Int))).bind fun bt148 => (if (t127.length : Int) = 2 then ((chain_Next.f k 0 (([0] : List Int))).bind fun t153 => (if t153 = 1099511628211 then ((chain_Check.f k ([] : List (List Int)) t127).bind fun t154 => (if t154 = 0 then ((chain_Check.f k (([(([] : List Int)), (([1] : List Int))] : List (List Int))) t127).bind fun t164 => (if t164 = (-1) then (if t130.toList = ([48, 48, 48, 48, 48, 48, 48, 48, 48, 48, 48, 48, 48, 49, 48, 50] : List UInt8) then (if bt131.1 = 255 then (if bt131.2 = 0 then (if bt133.2 = 5 then (if bt138.1 = 258 then (if bt138.2 = 0 then (if bt143.2 = 6 then (some (bt148.2 == 5)) else (none)) else (none)) else (none)) else (none)) else (none)) else (none)) else (none)) else (none))) else (none))) else (none))) else (none))))))))) = some r := by first | (rw [hy121]; with_reducible exact H) | (have H2_ := (Option.bind_some _ _).symm.trans H; rw [hy121]; with_reducible exact H2_) | (have H2_ := (Option.bind_some _ _).symm.trans H; with_reducible exact H2_) | with_reducible exact H | (rw [hy121]; exact H) | exact H
  have Ny121 := Aside0.mk hy121
  clear hy121
  obtain ⟨y124, hy124⟩ : ∃ y_ : List (List Int), y_ = (([y118, y121] : List (List Int))) := ⟨_, rfl⟩
  replace H : ((chain_All.f k y124).bind fun t127 => ((chain_Text.f 258).bind fun t130 => ((chain_Parse.f k (⟨#[48, 48, 48, 48, 48, 48, 48, 48, 48, 48, 48, 48, 48, 48, 102, 102]⟩ : ByteArray)).bind fun bt131 => ((chain_Parse.f k (⟨#[48, 48, 48, 48, 48, 48, 48, 48, 48, 48, 48, 48, 48, 48, 70, 70]⟩ : ByteArray)).bind fun bt133 => ((chain_Sum.f k (([0, 0, 0, 0, 0, 0, 1, 2] : List Int))).bind fun bt138 => ((chain_Sum.f k (([1] : List Int))).bind fun bt143 => ((chain_Sum.f k (([0, 0, 0, 0, 0, 0, 1, 2, 3] : List Int))).bind fun bt148 => (if (t127.length : Int) = 2 then ((chain_Next.f k 0 (([0] : List Int))).bind fun t153 => (if t153 = 1099511628211 then ((chain_Check.f k ([] : List (List Int)) t127).bind fun t154 => (if t154 = 0 then ((chain_Check.f k (([(([] : List Int)), (([1] : List Int))] : List (List Int))) t127).bind fun t164 => (if t164 = (-1) then (if t130.toList = ([48, 48, 48, 48, 48, 48, 48, 48, 48, 48, 48, 48, 48, 49, 48, 50] : List UInt8) then (if bt131.1 = 255 then (if bt131.2 = 0 then (if bt133.2 = 5 then (if bt138.1 = 258 then (if bt138.2 = 0 then (if bt143.2 = 6 then (some (bt148.2 == 5)) else (none)) else (none)) else (none)) else (none)) else (none)) else (none)) else (none)) else (none))) else (none))) else (none))) else (none))))))))) = some r := by first | (rw [hy124]; with_reducible exact H) | (have H2_ := (Option.bind_some _ _).symm.trans H; rw [hy124]; with_reducible exact H2_) | (have H2_ := (Option.bind_some _ _).symm.trans H; with_reducible exact H2_) | with_reducible exact H | (rw [hy124]; exact H) | exact H
  have Ny124 := Aside0.mk hy124
  clear hy124
  replace H := Option.bind_eq_some_iff.mp H
  obtain ⟨t127, A10, H⟩ := H
  replace H : ((chain_Text.f 258).bind fun t130 => ((chain_Parse.f k (⟨#[48, 48, 48, 48, 48, 48, 48, 48, 48, 48, 48, 48, 48, 48, 102, 102]⟩ : ByteArray)).bind fun bt131 => ((chain_Parse.f k (⟨#[48, 48, 48, 48, 48, 48, 48, 48, 48, 48, 48, 48, 48, 48, 70, 70]⟩ : ByteArray)).bind fun bt133 => ((chain_Sum.f k (([0, 0, 0, 0, 0, 0, 1, 2] : List Int))).bind fun bt138 => ((chain_Sum.f k (([1] : List Int))).bind fun bt143 => ((chain_Sum.f k (([0, 0, 0, 0, 0, 0, 1, 2, 3] : List Int))).bind fun bt148 => (if (t127.length : Int) = 2 then ((chain_Next.f k 0 (([0] : List Int))).bind fun t153 => (if t153 = 1099511628211 then ((chain_Check.f k ([] : List (List Int)) t127).bind fun t154 => (if t154 = 0 then ((chain_Check.f k (([(([] : List Int)), (([1] : List Int))] : List (List Int))) t127).bind fun t164 => (if t164 = (-1) then (if t130.toList = ([48, 48, 48, 48, 48, 48, 48, 48, 48, 48, 48, 48, 48, 49, 48, 50] : List UInt8) then (if bt131.1 = 255 then (if bt131.2 = 0 then (if bt133.2 = 5 then (if bt138.1 = 258 then (if bt138.2 = 0 then (if bt143.2 = 6 then (some (bt148.2 == 5)) else (none)) else (none)) else (none)) else (none)) else (none)) else (none)) else (none)) else (none))) else (none))) else (none))) else (none)))))))) = some r := H
  have A1 := Aside0.mk A10
  clear A10
  replace H := Option.bind_eq_some_iff.mp H
  obtain ⟨t130, A20, H⟩ := H
  replace H : ((chain_Parse.f k (⟨#[48, 48, 48, 48, 48, 48, 48, 48, 48, 48, 48, 48, 48, 48, 102, 102]⟩ : ByteArray)).bind fun bt131 => ((chain_Parse.f k (⟨#[48, 48, 48, 48, 48, 48, 48, 48, 48, 48, 48, 48, 48, 48, 70, 70]⟩ : ByteArray)).bind fun bt133 => ((chain_Sum.f k (([0, 0, 0, 0, 0, 0, 1, 2] : List Int))).bind fun bt138 => ((chain_Sum.f k (([1] : List Int))).bind fun bt143 => ((chain_Sum.f k (([0, 0, 0, 0, 0, 0, 1, 2, 3] : List Int))).bind fun bt148 => (if (t127.length : Int) = 2 then ((chain_Next.f k 0 (([0] : List Int))).bind fun t153 => (if t153 = 1099511628211 then ((chain_Check.f k ([] : List (List Int)) t127).bind fun t154 => (if t154 = 0 then ((chain_Check.f k (([(([] : List Int)), (([1] : List Int))] : List (List Int))) t127).bind fun t164 => (if t164 = (-1) then (if t130.toList = ([48, 48, 48, 48, 48, 48, 48, 48, 48, 48, 48, 48, 48, 49, 48, 50] : List UInt8) then (if bt131.1 = 255 then (if bt131.2 = 0 then (if bt133.2 = 5 then (if bt138.1 = 258 then (if bt138.2 = 0 then (if bt143.2 = 6 then (some (bt148.2 == 5)) else (none)) else (none)) else (none)) else (none)) else (none)) else (none)) else (none)) else (none))) else (none))) else (none))) else (none))))))) = some r := H
  have A2 := Aside0.mk A20
  clear A20
  replace H := Option.bind_eq_some_iff.mp H
  obtain ⟨⟨t131, t132⟩, A30, H⟩ := H
  replace H : ((chain_Parse.f k (⟨#[48, 48, 48, 48, 48, 48, 48, 48, 48, 48, 48, 48, 48, 48, 70, 70]⟩ : ByteArray)).bind fun bt133 => ((chain_Sum.f k (([0, 0, 0, 0, 0, 0, 1, 2] : List Int))).bind fun bt138 => ((chain_Sum.f k (([1] : List Int))).bind fun bt143 => ((chain_Sum.f k (([0, 0, 0, 0, 0, 0, 1, 2, 3] : List Int))).bind fun bt148 => (if (t127.length : Int) = 2 then ((chain_Next.f k 0 (([0] : List Int))).bind fun t153 => (if t153 = 1099511628211 then ((chain_Check.f k ([] : List (List Int)) t127).bind fun t154 => (if t154 = 0 then ((chain_Check.f k (([(([] : List Int)), (([1] : List Int))] : List (List Int))) t127).bind fun t164 => (if t164 = (-1) then (if t130.toList = ([48, 48, 48, 48, 48, 48, 48, 48, 48, 48, 48, 48, 48, 49, 48, 50] : List UInt8) then (if t131 = 255 then (if t132 = 0 then (if bt133.2 = 5 then (if bt138.1 = 258 then (if bt138.2 = 0 then (if bt143.2 = 6 then (some (bt148.2 == 5)) else (none)) else (none)) else (none)) else (none)) else (none)) else (none)) else (none)) else (none))) else (none))) else (none))) else (none)))))) = some r := H
  have A3 := Aside0.mk A30
  clear A30
  replace H := Option.bind_eq_some_iff.mp H
  obtain ⟨⟨t133, t134⟩, A40, H⟩ := H
  replace H : ((chain_Sum.f k (([0, 0, 0, 0, 0, 0, 1, 2] : List Int))).bind fun bt138 => ((chain_Sum.f k (([1] : List Int))).bind fun bt143 => ((chain_Sum.f k (([0, 0, 0, 0, 0, 0, 1, 2, 3] : List Int))).bind fun bt148 => (if (t127.length : Int) = 2 then ((chain_Next.f k 0 (([0] : List Int))).bind fun t153 => (if t153 = 1099511628211 then ((chain_Check.f k ([] : List (List Int)) t127).bind fun t154 => (if t154 = 0 then ((chain_Check.f k (([(([] : List Int)), (([1] : List Int))] : List (List Int))) t127).bind fun t164 => (if t164 = (-1) then (if t130.toList = ([48, 48, 48, 48, 48, 48, 48, 48, 48, 48, 48, 48, 48, 49, 48, 50] : List UInt8) then (if t131 = 255 then (if t132 = 0 then (if t134 = 5 then (if bt138.1 = 258 then (if bt138.2 = 0 then (if bt143.2 = 6 then (some (bt148.2 == 5)) else (none)) else (none)) else (none)) else (none)) else (none)) else (none)) else (none)) else (none))) else (none))) else (none))) else (none))))) = some r := H
  have A4 := Aside0.mk A40
  clear A40
  obtain ⟨y135, hy135⟩ : ∃ y_ : List Int, y_ = (([0, 0, 0, 0, 0, 0, 1, 2] : List Int)) := ⟨_, rfl⟩
  replace H : ((chain_Sum.f k y135).bind fun bt138 => ((chain_Sum.f k (([1] : List Int))).bind fun bt143 => ((chain_Sum.f k (([0, 0, 0, 0, 0, 0, 1, 2, 3] : List Int))).bind fun bt148 => (if (t127.length : Int) = 2 then ((chain_Next.f k 0 (([0] : List Int))).bind fun t153 => (if t153 = 1099511628211 then ((chain_Check.f k ([] : List (List Int)) t127).bind fun t154 => (if t154 = 0 then ((chain_Check.f k (([(([] : List Int)), (([1] : List Int))] : List (List Int))) t127).bind fun t164 => (if t164 = (-1) then (if t130.toList = ([48, 48, 48, 48, 48, 48, 48, 48, 48, 48, 48, 48, 48, 49, 48, 50] : List UInt8) then (if t131 = 255 then (if t132 = 0 then (if t134 = 5 then (if bt138.1 = 258 then (if bt138.2 = 0 then (if bt143.2 = 6 then (some (bt148.2 == 5)) else (none)) else (none)) else (none)) else (none)) else (none)) else (none)) else (none)) else (none))) else (none))) else (none))) else (none))))) = some r := by first | (rw [hy135]; with_reducible exact H) | (have H2_ := (Option.bind_some _ _).symm.trans H; rw [hy135]; with_reducible exact H2_) | (have H2_ := (Option.bind_some _ _).symm.trans H; with_reducible exact H2_) | with_reducible exact H | (rw [hy135]; exact H) | exact H
  have Ny135 := Aside0.mk hy135
  clear hy135
  replace H := Option.bind_eq_some_iff.mp H
  obtain ⟨⟨t138, t139⟩, A50, H⟩ := H
  replace H : ((chain_Sum.f k (([1] : List Int))).bind fun bt143 => ((chain_Sum.f k (([0, 0, 0, 0, 0, 0, 1, 2, 3] : List Int))).bind fun bt148 => (if (t127.length : Int) = 2 then ((chain_Next.f k 0 (([0] : List Int))).bind fun t153 => (if t153 = 1099511628211 then ((chain_Check.f k ([] : List (List Int)) t127).bind fun t154 => (if t154 = 0 then ((chain_Check.f k (([(([] : List Int)), (([1] : List Int))] : List (List Int))) t127).bind fun t164 => (if t164 = (-1) then (if t130.toList = ([48, 48, 48, 48, 48, 48, 48, 48, 48, 48, 48, 48, 48, 49, 48, 50] : List UInt8) then (if t131 = 255 then (if t132 = 0 then (if t134 = 5 then (if t138 = 258 then (if t139 = 0 then (if bt143.2 = 6 then (some (bt148.2 == 5)) else (none)) else (none)) else (none)) else (none)) else (none)) else (none)) else (none)) else (none))) else (none))) else (none))) else (none)))) = some r := H
  have A5 := Aside0.mk A50
  clear A50
  obtain ⟨y140, hy140⟩ : ∃ y_ : List Int, y_ = (([1] : List Int)) := ⟨_, rfl⟩
  replace H : ((chain_Sum.f k y140).bind fun bt143 => ((chain_Sum.f k (([0, 0, 0, 0, 0, 0, 1, 2, 3] : List Int))).bind fun bt148 => (if (t127.length : Int) = 2 then ((chain_Next.f k 0 (([0] : List Int))).bind fun t153 => (if t153 = 1099511628211 then ((chain_Check.f k ([] : List (List Int)) t127).bind fun t154 => (if t154 = 0 then ((chain_Check.f k (([(([] : List Int)), (([1] : List Int))] : List (List Int))) t127).bind fun t164 => (if t164 = (-1) then (if t130.toList = ([48, 48, 48, 48, 48, 48, 48, 48, 48, 48, 48, 48, 48, 49, 48, 50] : List UInt8) then (if t131 = 255 then (if t132 = 0 then (if t134 = 5 then (if t138 = 258 then (if t139 = 0 then (if bt143.2 = 6 then (some (bt148.2 == 5)) else (none)) else (none)) else (none)) else (none)) else (none)) else (none)) else (none)) else (none))) else (none))) else (none))) else (none)))) = some r := by first | (rw [hy140]; with_reducible exact H) | (have H2_ := (Option.bind_some _ _).symm.trans H; rw [hy140]; with_reducible exact H2_) | (have H2_ := (Option.bind_some _ _).symm.trans H; with_reducible exact H2_) | with_reducible exact H | (rw [hy140]; exact H) | exact H
  have Ny140 := Aside0.mk hy140
  clear hy140
  replace H := Option.bind_eq_some_iff.mp H
  obtain ⟨⟨t143, t144⟩, A60, H⟩ := H
  replace H : ((chain_Sum.f k (([0, 0, 0, 0, 0, 0, 1, 2, 3] : List Int))).bind fun bt148 => (if (t127.length : Int) = 2 then ((chain_Next.f k 0 (([0] : List Int))).bind fun t153 => (if t153 = 1099511628211 then ((chain_Check.f k ([] : List (List Int)) t127).bind fun t154 => (if t154 = 0 then ((chain_Check.f k (([(([] : List Int)), (([1] : List Int))] : List (List Int))) t127).bind fun t164 => (if t164 = (-1) then (if t130.toList = ([48, 48, 48, 48, 48, 48, 48, 48, 48, 48, 48, 48, 48, 49, 48, 50] : List UInt8) then (if t131 = 255 then (if t132 = 0 then (if t134 = 5 then (if t138 = 258 then (if t139 = 0 then (if t144 = 6 then (some (bt148.2 == 5)) else (none)) else (none)) else (none)) else (none)) else (none)) else (none)) else (none)) else (none))) else (none))) else (none))) else (none))) = some r := H
  have A6 := Aside0.mk A60
  clear A60
  obtain ⟨y145, hy145⟩ : ∃ y_ : List Int, y_ = (([0, 0, 0, 0, 0, 0, 1, 2, 3] : List Int)) := ⟨_, rfl⟩
  replace H : ((chain_Sum.f k y145).bind fun bt148 => (if (t127.length : Int) = 2 then ((chain_Next.f k 0 (([0] : List Int))).bind fun t153 => (if t153 = 1099511628211 then ((chain_Check.f k ([] : List (List Int)) t127).bind fun t154 => (if t154 = 0 then ((chain_Check.f k (([(([] : List Int)), (([1] : List Int))] : List (List Int))) t127).bind fun t164 => (if t164 = (-1) then (if t130.toList = ([48, 48, 48, 48, 48, 48, 48, 48, 48, 48, 48, 48, 48, 49, 48, 50] : List UInt8) then (if t131 = 255 then (if t132 = 0 then (if t134 = 5 then (if t138 = 258 then (if t139 = 0 then (if t144 = 6 then (some (bt148.2 == 5)) else (none)) else (none)) else (none)) else (none)) else (none)) else (none)) else (none)) else (none))) else (none))) else (none))) else (none))) = some r := by first | (rw [hy145]; with_reducible exact H) | (have H2_ := (Option.bind_some _ _).symm.trans H; rw [hy145]; with_reducible exact H2_) | (have H2_ := (Option.bind_some _ _).symm.trans H; with_reducible exact H2_) | with_reducible exact H | (rw [hy145]; exact H) | exact H
  have Ny145 := Aside0.mk hy145
  clear hy145
  replace H := Option.bind_eq_some_iff.mp H
  obtain ⟨⟨t148, t149⟩, A70, H⟩ := H
  replace H : (if (t127.length : Int) = 2 then ((chain_Next.f k 0 (([0] : List Int))).bind fun t153 => (if t153 = 1099511628211 then ((chain_Check.f k ([] : List (List Int)) t127).bind fun t154 => (if t154 = 0 then ((chain_Check.f k (([(([] : List Int)), (([1] : List Int))] : List (List Int))) t127).bind fun t164 => (if t164 = (-1) then (if t130.toList = ([48, 48, 48, 48, 48, 48, 48, 48, 48, 48, 48, 48, 48, 49, 48, 50] : List UInt8) then (if t131 = 255 then (if t132 = 0 then (if t134 = 5 then (if t138 = 258 then (if t139 = 0 then (if t144 = 6 then (some (t149 == 5)) else (none)) else (none)) else (none)) else (none)) else (none)) else (none)) else (none)) else (none))) else (none))) else (none))) else (none)) = some r := H
  have A7 := Aside0.mk A70
  clear A70
  by_cases c8 : (t127.length : Int) = 2
  · rw [if_pos c8] at H
    have c8b0 : ((t127.length : Int) == 2) = true := beq_iff_eq.mpr c8
    have c8b1 : ((t127.length : Int) != 2) = false := bne_eq_false_iff_eq.mpr c8
    clear c8
    obtain ⟨y150, hy150⟩ : ∃ y_ : List Int, y_ = (([0] : List Int)) := ⟨_, rfl⟩
    replace H : ((chain_Next.f k 0 y150).bind fun t153 => (if t153 = 1099511628211 then ((chain_Check.f k ([] : List (List Int)) t127).bind fun t154 => (if t154 = 0 then ((chain_Check.f k (([(([] : List Int)), (([1] : List Int))] : List (List Int))) t127).bind fun t164 => (if t164 = (-1) then (if t130.toList = ([48, 48, 48, 48, 48, 48, 48, 48, 48, 48, 48, 48, 48, 49, 48, 50] : List UInt8) then (if t131 = 255 then (if t132 = 0 then (if t134 = 5 then (if t138 = 258 then (if t139 = 0 then (if t144 = 6 then (some (t149 == 5)) else (none)) else (none)) else (none)) else (none)) else (none)) else (none)) else (none)) else (none))) else (none))) else (none))) = some r := by first | (rw [hy150]; with_reducible exact H) | (have H2_ := (Option.bind_some _ _).symm.trans H; rw [hy150]; with_reducible exact H2_) | (have H2_ := (Option.bind_some _ _).symm.trans H; with_reducible exact H2_) | with_reducible exact H | (rw [hy150]; exact H) | exact H
    have Ny150 := Aside0.mk hy150
    clear hy150
    replace H := Option.bind_eq_some_iff.mp H
    obtain ⟨t153, A90, H⟩ := H
    replace H : (if t153 = 1099511628211 then ((chain_Check.f k ([] : List (List Int)) t127).bind fun t154 => (if t154 = 0 then ((chain_Check.f k (([(([] : List Int)), (([1] : List Int))] : List (List Int))) t127).bind fun t164 => (if t164 = (-1) then (if t130.toList = ([48, 48, 48, 48, 48, 48, 48, 48, 48, 48, 48, 48, 48, 49, 48, 50] : List UInt8) then (if t131 = 255 then (if t132 = 0 then (if t134 = 5 then (if t138 = 258 then (if t139 = 0 then (if t144 = 6 then (some (t149 == 5)) else (none)) else (none)) else (none)) else (none)) else (none)) else (none)) else (none)) else (none))) else (none))) else (none)) = some r := H
    have A9 := Aside0.mk A90
    clear A90
    by_cases c10 : t153 = 1099511628211
    · rw [if_pos c10] at H
      have c10b0 : (t153 == 1099511628211) = true := beq_iff_eq.mpr c10
      have c10b1 : (t153 != 1099511628211) = false := bne_eq_false_iff_eq.mpr c10
      clear c10
      replace H := Option.bind_eq_some_iff.mp H
      obtain ⟨t154, A110, H⟩ := H
      replace H : (if t154 = 0 then ((chain_Check.f k (([(([] : List Int)), (([1] : List Int))] : List (List Int))) t127).bind fun t164 => (if t164 = (-1) then (if t130.toList = ([48, 48, 48, 48, 48, 48, 48, 48, 48, 48, 48, 48, 48, 49, 48, 50] : List UInt8) then (if t131 = 255 then (if t132 = 0 then (if t134 = 5 then (if t138 = 258 then (if t139 = 0 then (if t144 = 6 then (some (t149 == 5)) else (none)) else (none)) else (none)) else (none)) else (none)) else (none)) else (none)) else (none))) else (none)) = some r := H
      have A11 := Aside0.mk A110
      clear A110
      by_cases c12 : t154 = 0
      · rw [if_pos c12] at H
        have c12b0 : (t154 == 0) = true := beq_iff_eq.mpr c12
        have c12b1 : (t154 != 0) = false := bne_eq_false_iff_eq.mpr c12
        clear c12
        obtain ⟨y155, hy155⟩ : ∃ y_ : List Int, y_ = (([] : List Int)) := ⟨_, rfl⟩
        replace H : ((chain_Check.f k (([y155, (([1] : List Int))] : List (List Int))) t127).bind fun t164 => (if t164 = (-1) then (if t130.toList = ([48, 48, 48, 48, 48, 48, 48, 48, 48, 48, 48, 48, 48, 49, 48, 50] : List UInt8) then (if t131 = 255 then (if t132 = 0 then (if t134 = 5 then (if t138 = 258 then (if t139 = 0 then (if t144 = 6 then (some (t149 == 5)) else (none)) else (none)) else (none)) else (none)) else (none)) else (none)) else (none)) else (none))) = some r := by first | (rw [hy155]; with_reducible exact H) | (have H2_ := (Option.bind_some _ _).symm.trans H; rw [hy155]; with_reducible exact H2_) | (have H2_ := (Option.bind_some _ _).symm.trans H; with_reducible exact H2_) | with_reducible exact H | (rw [hy155]; exact H) | exact H
        have Ny155 := Aside0.mk hy155
        clear hy155
        obtain ⟨y158, hy158⟩ : ∃ y_ : List Int, y_ = (([1] : List Int)) := ⟨_, rfl⟩
        replace H : ((chain_Check.f k (([y155, y158] : List (List Int))) t127).bind fun t164 => (if t164 = (-1) then (if t130.toList = ([48, 48, 48, 48, 48, 48, 48, 48, 48, 48, 48, 48, 48, 49, 48, 50] : List UInt8) then (if t131 = 255 then (if t132 = 0 then (if t134 = 5 then (if t138 = 258 then (if t139 = 0 then (if t144 = 6 then (some (t149 == 5)) else (none)) else (none)) else (none)) else (none)) else (none)) else (none)) else (none)) else (none))) = some r := by first | (rw [hy158]; with_reducible exact H) | (have H2_ := (Option.bind_some _ _).symm.trans H; rw [hy158]; with_reducible exact H2_) | (have H2_ := (Option.bind_some _ _).symm.trans H; with_reducible exact H2_) | with_reducible exact H | (rw [hy158]; exact H) | exact H
        have Ny158 := Aside0.mk hy158
        clear hy158
        obtain ⟨y161, hy161⟩ : ∃ y_ : List (List Int), y_ = (([y155, y158] : List (List Int))) := ⟨_, rfl⟩
        replace H : ((chain_Check.f k y161 t127).bind fun t164 => (if t164 = (-1) then (if t130.toList = ([48, 48, 48, 48, 48, 48, 48, 48, 48, 48, 48, 48, 48, 49, 48, 50] : List UInt8) then (if t131 = 255 then (if t132 = 0 then (if t134 = 5 then (if t138 = 258 then (if t139 = 0 then (if t144 = 6 then (some (t149 == 5)) else (none)) else (none)) else (none)) else (none)) else (none)) else (none)) else (none)) else (none))) = some r := by first | (rw [hy161]; with_reducible exact H) | (have H2_ := (Option.bind_some _ _).symm.trans H; rw [hy161]; with_reducible exact H2_) | (have H2_ := (Option.bind_some _ _).symm.trans H; with_reducible exact H2_) | with_reducible exact H | (rw [hy161]; exact H) | exact H
        have Ny161 := Aside0.mk hy161
        clear hy161
        replace H := Option.bind_eq_some_iff.mp H
        obtain ⟨t164, A130, H⟩ := H
        replace H : (if t164 = (-1) then (if t130.toList = ([48, 48, 48, 48, 48, 48, 48, 48, 48, 48, 48, 48, 48, 49, 48, 50] : List UInt8) then (if t131 = 255 then (if t132 = 0 then (if t134 = 5 then (if t138 = 258 then (if t139 = 0 then (if t144 = 6 then (some (t149 == 5)) else (none)) else (none)) else (none)) else (none)) else (none)) else (none)) else (none)) else (none)) = some r := H
        have A13 := Aside0.mk A130
        clear A130
        by_cases c14 : t164 = (-1)
        · rw [if_pos c14] at H
          have c14b0 : (t164 == (-1)) = true := beq_iff_eq.mpr c14
          have c14b1 : (t164 != (-1)) = false := bne_eq_false_iff_eq.mpr c14
          clear c14
          by_cases c15 : t130.toList = ([48, 48, 48, 48, 48, 48, 48, 48, 48, 48, 48, 48, 48, 49, 48, 50] : List UInt8)
          · rw [if_pos c15] at H
            have c15b0 : (t130.toList == ([48, 48, 48, 48, 48, 48, 48, 48, 48, 48, 48, 48, 48, 49, 48, 50] : List UInt8)) = true := beq_iff_eq.mpr c15
            have c15b1 : (t130.toList != ([48, 48, 48, 48, 48, 48, 48, 48, 48, 48, 48, 48, 48, 49, 48, 50] : List UInt8)) = false := bne_eq_false_iff_eq.mpr c15
            clear c15
            by_cases c16 : t131 = 255
            · rw [if_pos c16] at H
              have c16b0 : (t131 == 255) = true := beq_iff_eq.mpr c16
              have c16b1 : (t131 != 255) = false := bne_eq_false_iff_eq.mpr c16
              clear c16
              by_cases c17 : t132 = 0
              · rw [if_pos c17] at H
                have c17b0 : (t132 == 0) = true := beq_iff_eq.mpr c17
                have c17b1 : (t132 != 0) = false := bne_eq_false_iff_eq.mpr c17
                clear c17
                by_cases c18 : t134 = 5
                · rw [if_pos c18] at H
                  have c18b0 : (t134 == 5) = true := beq_iff_eq.mpr c18
                  have c18b1 : (t134 != 5) = false := bne_eq_false_iff_eq.mpr c18
                  clear c18
                  by_cases c19 : t138 = 258
                  · rw [if_pos c19] at H
                    have c19b0 : (t138 == 258) = true := beq_iff_eq.mpr c19
                    have c19b1 : (t138 != 258) = false := bne_eq_false_iff_eq.mpr c19
                    clear c19
                    by_cases c20 : t139 = 0
                    · rw [if_pos c20] at H
                      have c20b0 : (t139 == 0) = true := beq_iff_eq.mpr c20
                      have c20b1 : (t139 != 0) = false := bne_eq_false_iff_eq.mpr c20
                      clear c20
                      by_cases c21 : t144 = 6
                      · rw [if_pos c21] at H
                        have c21b0 : (t144 == 6) = true := beq_iff_eq.mpr c21
                        have c21b1 : (t144 != 6) = false := bne_eq_false_iff_eq.mpr c21
                        clear c21
                        obtain rfl := Option.some.inj H
                        go_enter Try.func11, Try.ntmps11
                        go_wp2_with (first | ((with_reducible refine gate_dst (N := 13) rfl ?_); (try (refine gate_guard (by rfl) ?_; dsimp only)); refine Kd.R_lit (Kd.int .u8) _ 5 ?hg (N := 13) ?hd (xs := ([] : List Int)) (inner := []) (ok := fun _ => True) (okp := fun _ => True) ?hr ?hp (fun _ hk => hk) trivial (Below.refl _ _) (Nat.le_refl _) (by simp) ?_; (case hd => rfl); (case hg => rfl); (case hr => first | (go_simp; done) | (go_simp; rfl)); (case hp => exact (Reps.none _ _)); intro v119 w22 ho23 hb hg_ hnew_; clear hg_ hnew_; (first | rw [← Ny118.out] at ho23 | (simp only [Int.reduceToNat] at ho23; rw [← Ny118.out] at ho23)); have n0_ := Aside0.mk (Kd.R_lower ho23 (below_size (by repeat (first | (with_reducible first | exact HB.out | apply below_alloc | apply pw_below_drewN | apply below_drew1) | exact HB.out)))); have n1_ := Aside0.mk (below_step (by repeat (first | (with_reducible first | exact HB.out | apply below_alloc | apply pw_below_drewN | apply below_drew1) | exact HB.out)) hb); clear HB; have HO120 := n0_; have HB := n1_; clear n0_ n1_; clear hb ho23) | ((with_reducible refine gate_dst (N := 14) rfl ?_); (try (refine gate_guard (by rfl) ?_; dsimp only)); refine Kd.R_lit (Kd.int .u8) _ 5 ?hg (N := 14) ?hd (xs := ([1] : List Int)) (inner := [.int .u8 1]) (ok := fun _ => True) (okp := fun _ => True) ?hr ?hp (fun _ hk => hk) trivial (Below.refl _ _) (Nat.le_refl _) (by simp) ?_; (case hd => rfl); (case hg => rfl); (case hr => first | (go_simp; done) | (go_simp; rfl)); (case hp => exact (Reps.one (show Kd.M (Kd.int .u8) _ _ _ 1 [.int .u8 1] from rfl) (Reps.none _ _))); intro v122 w24 ho25 hb hg_ hnew_; clear hg_ hnew_; (first | rw [← Ny121.out] at ho25 | (simp only [Int.reduceToNat] at ho25; rw [← Ny121.out] at ho25)); have n0_ := Aside0.mk (Kd.R_elder' (by (with_reducible repeat (first | apply Kd.R_alloc | apply Kd.R_drewN | apply Kd.R_drew)); exact HO120.out) (Kd.R_base ho25) hb); have n1_ := Aside0.mk (Kd.R_lower (Kd.R_new' ho25 (Kd.R_lt (by (with_reducible repeat (first | apply Kd.R_alloc | apply Kd.R_drewN | apply Kd.R_drew)); exact HO120.out))) (below_size (by repeat (first | (with_reducible first | exact HB.out | apply below_alloc | apply pw_below_drewN | apply below_drew1) | exact HB.out)))); have n2_ := Aside0.mk (below_step (by repeat (first | (with_reducible first | exact HB.out | apply below_alloc | apply pw_below_drewN | apply below_drew1) | exact HB.out)) hb); clear HO120; clear HB; have HO120 := n0_; have HO123 := n1_; have HB := n2_; clear n0_ n1_ n2_; clear hb ho25; obtain ⟨Ao26, co26, eo26⟩ := Kd.R_slice HO120.out; subst eo26; obtain ⟨Ao27, co27, eo27⟩ := Kd.R_slice HO123.out; subst eo27) | ((with_reducible refine gate_dst (N := 15) rfl ?_); (try (refine gate_guard (by rfl) ?_; dsimp only)); refine Kd.N_lit (Kd.slice 5 (Kd.int .u8)) _ 23 ?hg (N' := 15) ?hd (xs := ([y118, y121] : List (List Int))) (inner := [.slice Ao26 y118.length co26, .slice Ao27 y121.length co27]) (ok := (fun _ => True)) (okp := (fun _ => True)) ?hr ?hp (fun _ hk => hk) ((show ∀ k_, w24.heap.size ≤ k_ → (fun _ => True) k_ from fun k_ hk => trivial) _ (Nat.le_refl _)) (Below.refl _ _) (Nat.le_refl _) (by simp) ?_; (case hd => rfl); (case hg => rfl); (case hr => first | (go_simp; done) | (go_simp; rfl)); (case hp => exact (Reps.one (show Kd.FK (Kd.slice 5 (Kd.int .u8)) _ _ y118 [.slice Ao26 y118.length co26] from (Kd.FK_slice_mk (Kd.R_reads' (Kd.R_mono (ok' := (fun _ => True)) (HO120.out) (fun k_ hk => trivial))).2.1 (Kd.R_F (Kd.R_mono (ok' := (fun _ => True)) (HO120.out) (fun k_ hk => trivial))))) (Reps.one (show Kd.FK (Kd.slice 5 (Kd.int .u8)) _ _ y121 [.slice Ao27 y121.length co27] from (Kd.FK_slice_mk (Kd.R_reads' (Kd.R_mono (ok' := (fun _ => True)) (HO123.out) (fun k_ hk => trivial))).2.1 (Kd.R_F (Kd.R_mono (ok' := (fun _ => True)) (HO123.out) (fun k_ hk => trivial))))) (Reps.none _ _)))); intro v125 w28 ho29 hb hg_ hnew_; clear hg_ hnew_; (first | rw [← Ny124.out] at ho29 | (simp only [Int.reduceToNat] at ho29; rw [← Ny124.out] at ho29)); have n0_ := Aside0.mk (Kd.N_lower ho29 (below_size (by repeat (first | (with_reducible first | exact HB.out | apply below_alloc | apply pw_below_drewN | apply below_drew1) | exact HB.out)))); have n1_ := Aside0.mk (below_step (by repeat (first | (with_reducible first | exact HB.out | apply below_alloc | apply pw_below_drewN | apply below_drew1) | exact HB.out)) hb); clear HB; clear HO120; clear HO123; have HO126 := n0_; have HB := n1_; clear n0_ n1_; clear hb ho29; obtain ⟨Ao30, co30, eo30⟩ := Kd.N_slice HO126.out; subst eo30) | ((with_reducible refine gate_callee (f := 16) rfl ?_); refine goesL_ (some 16) rfl rfl Try.func16 (by kernel_rfl) rfl #[.slice Ao30 y124.length co30] rfl (by (try simp only [List.map_toArray, List.map_cons, List.map_nil]); first | done | rfl | (simp only [List.length_drop, List.length_take]; rfl)) ?_; (with_reducible refine (chain_All.calls k _ _ y124 t127 _ ?side1 ?side2 A1.out).mono ?_); (case side1 => repeat (first | exact (Kd.N_reads' HO126.out).2.2 | (with_reducible refine Kd.C_alloc ?_ _) | (with_reducible refine Kd.C_drewN ?_ _) | (with_reducible refine Kd.C_drew ?_))); (case side2 => exact (Kd.N_reads' HO126.out).2.1); rintro e w31 ⟨v128, rfl, ho0, hb⟩; refine ⟨_, rfl, ?_⟩; have n0_ := Aside0.mk (Kd.N_elder' (by (with_reducible repeat (first | apply Kd.N_alloc | apply Kd.N_drewN | apply Kd.N_drew)); exact HO126.out) (Kd.R_base ho0) hb); have n1_ := Aside0.mk (Kd.R_lower ho0 (below_size (by repeat (first | (with_reducible first | exact HB.out | apply below_alloc | apply pw_below_drewN | apply below_drew1) | exact HB.out)))); have n2_ := Aside0.mk (below_step (by repeat (first | (with_reducible first | exact HB.out | apply below_alloc | apply pw_below_drewN | apply below_drew1) | exact HB.out)) hb); clear HO126; clear HB; have HO126 := n0_; have HO129 := n1_; have HB := n2_; clear n0_ n1_ n2_; (try clear hb); (try clear hb2); (try clear hk); (try clear hi); (try clear ho0)) | ((with_reducible refine gate_callee (f := 26) rfl ?_); refine goesL_ (some 17) rfl rfl Try.func26 (by kernel_rfl) rfl #[.int .u64 258] rfl (by (try simp only [List.map_toArray, List.map_cons, List.map_nil]); first | done | rfl | (simp only [List.length_drop, List.length_take]; rfl)) ?_; (with_reducible refine (chain_Text.calls 258 t130 _ A2.out).mono ?_); rintro e w32 ⟨rfl, hb⟩; refine ⟨_, rfl, ?_⟩; have n0_ := Aside0.mk (Kd.N_below (by (with_reducible repeat (first | apply Kd.N_alloc | apply Kd.N_drewN | apply Kd.N_drew)); exact HO126.out) hb); have n1_ := Aside0.mk (Kd.R_below (by (with_reducible repeat (first | apply Kd.R_alloc | apply Kd.R_drewN | apply Kd.R_drew)); exact HO129.out) hb); have n2_ := Aside0.mk (below_step (by repeat (first | (with_reducible first | exact HB.out | apply below_alloc | apply pw_below_drewN | apply below_drew1) | exact HB.out)) hb); clear HO126; clear HO129; clear HB; have HO126 := n0_; have HO129 := n1_; have HB := n2_; clear n0_ n1_ n2_; (try clear hb); (try clear hb2); (try clear hk); (try clear hi)) | ((with_reducible refine gate_callee (f := 22) rfl ?_); refine goesL_ (some 19) rfl rfl Try.func22 (by kernel_rfl) rfl #[.string (⟨#[48, 48, 48, 48, 48, 48, 48, 48, 48, 48, 48, 48, 48, 48, 102, 102]⟩ : ByteArray)] rfl (by (try simp only [List.map_toArray, List.map_cons, List.map_nil]); first | done | rfl | (simp only [List.length_drop, List.length_take]; rfl)) ?_; (with_reducible refine (chain_Parse.calls k (⟨#[48, 48, 48, 48, 48, 48, 48, 48, 48, 48, 48, 48, 48, 48, 102, 102]⟩ : ByteArray) t131 t132 _ A3.out).mono ?_); rintro e w' ⟨rfl, ⟨nd, rfl⟩⟩; refine ⟨_, rfl, ?_⟩) | ((with_reducible refine gate_callee (f := 22) rfl ?_); refine goesL_ (some 23) rfl rfl Try.func22 (by kernel_rfl) rfl #[.string (⟨#[48, 48, 48, 48, 48, 48, 48, 48, 48, 48, 48, 48, 48, 48, 70, 70]⟩ : ByteArray)] rfl (by (try simp only [List.map_toArray, List.map_cons, List.map_nil]); first | done | rfl | (simp only [List.length_drop, List.length_take]; rfl)) ?_; (with_reducible refine (chain_Parse.calls k (⟨#[48, 48, 48, 48, 48, 48, 48, 48, 48, 48, 48, 48, 48, 48, 70, 70]⟩ : ByteArray) t133 t134 _ A4.out).mono ?_); rintro e w' ⟨rfl, ⟨nd, rfl⟩⟩; refine ⟨_, rfl, ?_⟩) | ((with_reducible refine gate_dst (N := 27) rfl ?_); (try (refine gate_guard (by rfl) ?_; dsimp only)); refine Kd.R_lit (Kd.int .u8) _ 5 ?hg (N := 27) ?hd (xs := ([0, 0, 0, 0, 0, 0, 1, 2] : List Int)) (inner := [.int .u8 0, .int .u8 0, .int .u8 0, .int .u8 0, .int .u8 0, .int .u8 0, .int .u8 1, .int .u8 2]) (ok := fun _ => True) (okp := fun _ => True) ?hr ?hp (fun _ hk => hk) trivial (Below.refl _ _) (Nat.le_refl _) (by simp) ?_; (case hd => rfl); (case hg => rfl); (case hr => first | (go_simp; done) | (go_simp; rfl)); (case hp => exact (Reps.one (show Kd.M (Kd.int .u8) _ _ _ 0 [.int .u8 0] from rfl) (Reps.one (show Kd.M (Kd.int .u8) _ _ _ 0 [.int .u8 0] from rfl) (Reps.one (show Kd.M (Kd.int .u8) _ _ _ 0 [.int .u8 0] from rfl) (Reps.one (show Kd.M (Kd.int .u8) _ _ _ 0 [.int .u8 0] from rfl) (Reps.one (show Kd.M (Kd.int .u8) _ _ _ 0 [.int .u8 0] from rfl) (Reps.one (show Kd.M (Kd.int .u8) _ _ _ 0 [.int .u8 0] from rfl) (Reps.one (show Kd.M (Kd.int .u8) _ _ _ 1 [.int .u8 1] from rfl) (Reps.one (show Kd.M (Kd.int .u8) _ _ _ 2 [.int .u8 2] from rfl) (Reps.none _ _)))))))))); intro v136 w33 ho34 hb hg_ hnew_; clear hg_ hnew_; (first | rw [← Ny135.out] at ho34 | (simp only [Int.reduceToNat] at ho34; rw [← Ny135.out] at ho34)); have n0_ := Aside0.mk (Kd.N_elder' (by (with_reducible repeat (first | apply Kd.N_alloc | apply Kd.N_drewN | apply Kd.N_drew)); exact HO126.out) (Kd.R_base ho34) hb); have n1_ := Aside0.mk (Kd.R_below (by (with_reducible repeat (first | apply Kd.R_alloc | apply Kd.R_drewN | apply Kd.R_drew)); exact HO129.out) hb); have n2_ := Aside0.mk (Kd.R_lower ho34 (below_size (by repeat (first | (with_reducible first | exact HB.out | apply below_alloc | apply pw_below_drewN | apply below_drew1) | exact HB.out)))); have n3_ := Aside0.mk (below_step (by repeat (first | (with_reducible first | exact HB.out | apply below_alloc | apply pw_below_drewN | apply below_drew1) | exact HB.out)) hb); clear HO126; clear HO129; clear HB; have HO126 := n0_; have HO129 := n1_; have HO137 := n2_; have HB := n3_; clear n0_ n1_ n2_ n3_; clear hb ho34; obtain ⟨Ao35, co35, eo35⟩ := Kd.R_slice HO137.out; subst eo35) | ((with_reducible refine gate_callee (f := 20) rfl ?_); refine goesL_ (some 28) rfl rfl Try.func20 (by kernel_rfl) rfl #[.slice Ao35 y135.length co35] rfl (by (try simp only [List.map_toArray, List.map_cons, List.map_nil]); first | done | rfl | (simp only [List.length_drop, List.length_take]; rfl)) ?_; (with_reducible refine (chain_Sum.calls k _ _ y135 t138 t139 _ ?side1 ?side2 A5.out).mono ?_); (case side1 => repeat (first | exact (Kd.R_reads' HO137.out).2.2 | (with_reducible refine Kd.C_alloc ?_ _) | (with_reducible refine Kd.C_drewN ?_ _) | (with_reducible refine Kd.C_drew ?_))); (case side2 => exact (Kd.R_reads' HO137.out).2.1); rintro e w' ⟨rfl, ⟨nd, rfl⟩⟩; refine ⟨_, rfl, ?_⟩) | ((with_reducible refine gate_dst (N := 32) rfl ?_); (try (refine gate_guard (by rfl) ?_; dsimp only)); refine Kd.R_lit (Kd.int .u8) _ 5 ?hg (N := 32) ?hd (xs := ([1] : List Int)) (inner := [.int .u8 1]) (ok := fun _ => True) (okp := fun _ => True) ?hr ?hp (fun _ hk => hk) trivial (Below.refl _ _) (Nat.le_refl _) (by simp) ?_; (case hd => rfl); (case hg => rfl); (case hr => first | (go_simp; done) | (go_simp; rfl)); (case hp => exact (Reps.one (show Kd.M (Kd.int .u8) _ _ _ 1 [.int .u8 1] from rfl) (Reps.none _ _))); intro v141 w36 ho37 hb hg_ hnew_; clear hg_ hnew_; (first | rw [← Ny140.out] at ho37 | (simp only [Int.reduceToNat] at ho37; rw [← Ny140.out] at ho37)); have n0_ := Aside0.mk (Kd.N_elder' (by (with_reducible repeat (first | apply Kd.N_alloc | apply Kd.N_drewN | apply Kd.N_drew)); exact HO126.out) (Kd.R_base ho37) hb); have n1_ := Aside0.mk (Kd.R_below (by (with_reducible repeat (first | apply Kd.R_alloc | apply Kd.R_drewN | apply Kd.R_drew)); exact HO129.out) hb); have n2_ := Aside0.mk (Kd.R_elder' (by (with_reducible repeat (first | apply Kd.R_alloc | apply Kd.R_drewN | apply Kd.R_drew)); exact HO137.out) (Kd.R_base ho37) hb); have n3_ := Aside0.mk (Kd.R_lower (Kd.R_new' ho37 (Kd.R_lt (by (with_reducible repeat (first | apply Kd.R_alloc | apply Kd.R_drewN | apply Kd.R_drew)); exact HO137.out))) (below_size (by repeat (first | (with_reducible first | exact HB.out | apply below_alloc | apply pw_below_drewN | apply below_drew1) | exact HB.out)))); have n4_ := Aside0.mk (below_step (by repeat (first | (with_reducible first | exact HB.out | apply below_alloc | apply pw_below_drewN | apply below_drew1) | exact HB.out)) hb); clear HO126; clear HO129; clear HO137; clear HB; have HO126 := n0_; have HO129 := n1_; have HO137 := n2_; have HO142 := n3_; have HB := n4_; clear n0_ n1_ n2_ n3_ n4_; clear hb ho37; obtain ⟨Ao38, co38, eo38⟩ := Kd.R_slice HO142.out; subst eo38) | ((with_reducible refine gate_callee (f := 20) rfl ?_); refine goesL_ (some 33) rfl rfl Try.func20 (by kernel_rfl) rfl #[.slice Ao38 y140.length co38] rfl (by (try simp only [List.map_toArray, List.map_cons, List.map_nil]); first | done | rfl | (simp only [List.length_drop, List.length_take]; rfl)) ?_; (with_reducible refine (chain_Sum.calls k _ _ y140 t143 t144 _ ?side1 ?side2 A6.out).mono ?_); (case side1 => repeat (first | exact (Kd.R_reads' HO142.out).2.2 | (with_reducible refine Kd.C_alloc ?_ _) | (with_reducible refine Kd.C_drewN ?_ _) | (with_reducible refine Kd.C_drew ?_))); (case side2 => exact (Kd.R_reads' HO142.out).2.1); rintro e w' ⟨rfl, ⟨nd, rfl⟩⟩; refine ⟨_, rfl, ?_⟩) | ((with_reducible refine gate_dst (N := 37) rfl ?_); (try (refine gate_guard (by rfl) ?_; dsimp only)); refine Kd.R_lit (Kd.int .u8) _ 5 ?hg (N := 37) ?hd (xs := ([0, 0, 0, 0, 0, 0, 1, 2, 3] : List Int)) (inner := [.int .u8 0, .int .u8 0, .int .u8 0, .int .u8 0, .int .u8 0, .int .u8 0, .int .u8 1, .int .u8 2, .int .u8 3]) (ok := fun _ => True) (okp := fun _ => True) ?hr ?hp (fun _ hk => hk) trivial (Below.refl _ _) (Nat.le_refl _) (by simp) ?_; (case hd => rfl); (case hg => rfl); (case hr => first | (go_simp; done) | (go_simp; rfl)); (case hp => exact (Reps.one (show Kd.M (Kd.int .u8) _ _ _ 0 [.int .u8 0] from rfl) (Reps.one (show Kd.M (Kd.int .u8) _ _ _ 0 [.int .u8 0] from rfl) (Reps.one (show Kd.M (Kd.int .u8) _ _ _ 0 [.int .u8 0] from rfl) (Reps.one (show Kd.M (Kd.int .u8) _ _ _ 0 [.int .u8 0] from rfl) (Reps.one (show Kd.M (Kd.int .u8) _ _ _ 0 [.int .u8 0] from rfl) (Reps.one (show Kd.M (Kd.int .u8) _ _ _ 0 [.int .u8 0] from rfl) (Reps.one (show Kd.M (Kd.int .u8) _ _ _ 1 [.int .u8 1] from rfl) (Reps.one (show Kd.M (Kd.int .u8) _ _ _ 2 [.int .u8 2] from rfl) (Reps.one (show Kd.M (Kd.int .u8) _ _ _ 3 [.int .u8 3] from rfl) (Reps.none _ _))))))))))); intro v146 w39 ho40 hb hg_ hnew_; clear hg_ hnew_; (first | rw [← Ny145.out] at ho40 | (simp only [Int.reduceToNat] at ho40; rw [← Ny145.out] at ho40)); have n0_ := Aside0.mk (Kd.N_elder' (by (with_reducible repeat (first | apply Kd.N_alloc | apply Kd.N_drewN | apply Kd.N_drew)); exact HO126.out) (Kd.R_base ho40) hb); have n1_ := Aside0.mk (Kd.R_below (by (with_reducible repeat (first | apply Kd.R_alloc | apply Kd.R_drewN | apply Kd.R_drew)); exact HO129.out) hb); have n2_ := Aside0.mk (Kd.R_elder' (by (with_reducible repeat (first | apply Kd.R_alloc | apply Kd.R_drewN | apply Kd.R_drew)); exact HO137.out) (Kd.R_base ho40) hb); have n3_ := Aside0.mk (Kd.R_elder' (by (with_reducible repeat (first | apply Kd.R_alloc | apply Kd.R_drewN | apply Kd.R_drew)); exact HO142.out) (Kd.R_base ho40) hb); have n4_ := Aside0.mk (Kd.R_lower (Kd.R_new' (Kd.R_new' ho40 (Kd.R_lt (by (with_reducible repeat (first | apply Kd.R_alloc | apply Kd.R_drewN | apply Kd.R_drew)); exact HO137.out))) (Kd.R_lt (by (with_reducible repeat (first | apply Kd.R_alloc | apply Kd.R_drewN | apply Kd.R_drew)); exact HO142.out))) (below_size (by repeat (first | (with_reducible first | exact HB.out | apply below_alloc | apply pw_below_drewN | apply below_drew1) | exact HB.out)))); have n5_ := Aside0.mk (below_step (by repeat (first | (with_reducible first | exact HB.out | apply below_alloc | apply pw_below_drewN | apply below_drew1) | exact HB.out)) hb); clear HO126; clear HO129; clear HO137; clear HO142; clear HB; have HO126 := n0_; have HO129 := n1_; have HO137 := n2_; have HO142 := n3_; have HO147 := n4_; have HB := n5_; clear n0_ n1_ n2_ n3_ n4_ n5_; clear hb ho40; obtain ⟨Ao41, co41, eo41⟩ := Kd.R_slice HO147.out; subst eo41) | ((with_reducible refine gate_callee (f := 20) rfl ?_); refine goesL_ (some 38) rfl rfl Try.func20 (by kernel_rfl) rfl #[.slice Ao41 y145.length co41] rfl (by (try simp only [List.map_toArray, List.map_cons, List.map_nil]); first | done | rfl | (simp only [List.length_drop, List.length_take]; rfl)) ?_; (with_reducible refine (chain_Sum.calls k _ _ y145 t148 t149 _ ?side1 ?side2 A7.out).mono ?_); (case side1 => repeat (first | exact (Kd.R_reads' HO147.out).2.2 | (with_reducible refine Kd.C_alloc ?_ _) | (with_reducible refine Kd.C_drewN ?_ _) | (with_reducible refine Kd.C_drew ?_))); (case side2 => exact (Kd.R_reads' HO147.out).2.1); rintro e w' ⟨rfl, ⟨nd, rfl⟩⟩; refine ⟨_, rfl, ?_⟩; obtain ⟨Ao42, co42, eo42⟩ := Kd.R_slice HO129.out; subst eo42) | ((with_reducible refine gate_dst (N := 45) rfl ?_); (try (refine gate_guard (by rfl) ?_; dsimp only)); refine Kd.R_lit (Kd.int .u8) _ 5 ?hg (N := 45) ?hd (xs := ([0] : List Int)) (inner := [.int .u8 0]) (ok := fun _ => True) (okp := fun _ => True) ?hr ?hp (fun _ hk => hk) trivial (Below.refl _ _) (Nat.le_refl _) (by simp) ?_; (case hd => rfl); (case hg => rfl); (case hr => first | (go_simp; done) | (go_simp; rfl)); (case hp => exact (Reps.one (show Kd.M (Kd.int .u8) _ _ _ 0 [.int .u8 0] from rfl) (Reps.none _ _))); intro v151 w43 ho44 hb hg_ hnew_; clear hg_ hnew_; (first | rw [← Ny150.out] at ho44 | (simp only [Int.reduceToNat] at ho44; rw [← Ny150.out] at ho44)); have n0_ := Aside0.mk (Kd.N_elder' (by (with_reducible repeat (first | apply Kd.N_alloc | apply Kd.N_drewN | apply Kd.N_drew)); exact HO126.out) (Kd.R_base ho44) hb); have n1_ := Aside0.mk (Kd.R_below (by (with_reducible repeat (first | apply Kd.R_alloc | apply Kd.R_drewN | apply Kd.R_drew)); exact HO129.out) hb); have n2_ := Aside0.mk (Kd.R_elder' (by (with_reducible repeat (first | apply Kd.R_alloc | apply Kd.R_drewN | apply Kd.R_drew)); exact HO137.out) (Kd.R_base ho44) hb); have n3_ := Aside0.mk (Kd.R_elder' (by (with_reducible repeat (first | apply Kd.R_alloc | apply Kd.R_drewN | apply Kd.R_drew)); exact HO142.out) (Kd.R_base ho44) hb); have n4_ := Aside0.mk (Kd.R_elder' (by (with_reducible repeat (first | apply Kd.R_alloc | apply Kd.R_drewN | apply Kd.R_drew)); exact HO147.out) (Kd.R_base ho44) hb); have n5_ := Aside0.mk (Kd.R_lower (Kd.R_new' (Kd.R_new' (Kd.R_new' ho44 (Kd.R_lt (by (with_reducible repeat (first | apply Kd.R_alloc | apply Kd.R_drewN | apply Kd.R_drew)); exact HO137.out))) (Kd.R_lt (by (with_reducible repeat (first | apply Kd.R_alloc | apply Kd.R_drewN | apply Kd.R_drew)); exact HO142.out))) (Kd.R_lt (by (with_reducible repeat (first | apply Kd.R_alloc | apply Kd.R_drewN | apply Kd.R_drew)); exact HO147.out))) (below_size (by repeat (first | (with_reducible first | exact HB.out | apply below_alloc | apply pw_below_drewN | apply below_drew1) | exact HB.out)))); have n6_ := Aside0.mk (below_step (by repeat (first | (with_reducible first | exact HB.out | apply below_alloc | apply pw_below_drewN | apply below_drew1) | exact HB.out)) hb); clear HO126; clear HO129; clear HO137; clear HO142; clear HO147; clear HB; have HO126 := n0_; have HO129 := n1_; have HO137 := n2_; have HO142 := n3_; have HO147 := n4_; have HO152 := n5_; have HB := n6_; clear n0_ n1_ n2_ n3_ n4_ n5_ n6_; clear hb ho44; obtain ⟨Ao45, co45, eo45⟩ := Kd.R_slice HO152.out; subst eo45) | (go_at_call 12; (with_reducible refine (chain_Next.calls k 0 _ _ y150 t153 _ ?side1 ?side2 A9.out).mono ?_); (case side1 => repeat (first | exact (Kd.R_reads' HO152.out).2.2 | (with_reducible refine Kd.C_alloc ?_ _) | (with_reducible refine Kd.C_drewN ?_ _) | (with_reducible refine Kd.C_drew ?_))); (case side2 => exact (Kd.R_reads' HO152.out).2.1); rintro e w46 ⟨rfl, hb⟩; have n0_ := Aside0.mk (Kd.N_below (by (with_reducible repeat (first | apply Kd.N_alloc | apply Kd.N_drewN | apply Kd.N_drew)); exact HO126.out) hb); have n1_ := Aside0.mk (Kd.R_below (by (with_reducible repeat (first | apply Kd.R_alloc | apply Kd.R_drewN | apply Kd.R_drew)); exact HO129.out) hb); have n2_ := Aside0.mk (Kd.R_below (by (with_reducible repeat (first | apply Kd.R_alloc | apply Kd.R_drewN | apply Kd.R_drew)); exact HO137.out) hb); have n3_ := Aside0.mk (Kd.R_below (by (with_reducible repeat (first | apply Kd.R_alloc | apply Kd.R_drewN | apply Kd.R_drew)); exact HO142.out) hb); have n4_ := Aside0.mk (Kd.R_below (by (with_reducible repeat (first | apply Kd.R_alloc | apply Kd.R_drewN | apply Kd.R_drew)); exact HO147.out) hb); have n5_ := Aside0.mk (Kd.R_below (by (with_reducible repeat (first | apply Kd.R_alloc | apply Kd.R_drewN | apply Kd.R_drew)); exact HO152.out) hb); have n6_ := Aside0.mk (below_step (by repeat (first | (with_reducible first | exact HB.out | apply below_alloc | apply pw_below_drewN | apply below_drew1) | exact HB.out)) hb); clear HO126; clear HO129; clear HO137; clear HO142; clear HO147; clear HO152; clear HB; have HO126 := n0_; have HO129 := n1_; have HO137 := n2_; have HO142 := n3_; have HO147 := n4_; have HO152 := n5_; have HB := n6_; clear n0_ n1_ n2_ n3_ n4_ n5_ n6_; (try clear hb); (try clear hb2); (try clear hk); (try clear hi)) | (go_at_call 18; refine calls_of_args (args' := #[.slice none ([] : List (List Int)).length 0, .slice Ao42 t127.length co42]) ?hargs ?_; (case hargs => first | (with_reducible rfl) | (simp only [List.length_nil]; done)); (with_reducible refine (chain_Check.calls k _ _ ([] : List (List Int)) _ _ t127 t154 _ ?side1 ?side2 ?side3 ?side4 A11.out).mono ?_); (case side1 => exact Kd.C_nil _ _); (case side2 => exact Nat.le_refl _); (case side3 => repeat (first | exact (Kd.R_reads' HO129.out).2.2 | (with_reducible refine Kd.C_alloc ?_ _) | (with_reducible refine Kd.C_drewN ?_ _) | (with_reducible refine Kd.C_drew ?_))); (case side4 => exact (Kd.R_reads' HO129.out).2.1); rintro e w47 ⟨rfl, hb⟩; have n0_ := Aside0.mk (Kd.N_below (by (with_reducible repeat (first | apply Kd.N_alloc | apply Kd.N_drewN | apply Kd.N_drew)); exact HO126.out) hb); have n1_ := Aside0.mk (Kd.R_below (by (with_reducible repeat (first | apply Kd.R_alloc | apply Kd.R_drewN | apply Kd.R_drew)); exact HO129.out) hb); have n2_ := Aside0.mk (Kd.R_below (by (with_reducible repeat (first | apply Kd.R_alloc | apply Kd.R_drewN | apply Kd.R_drew)); exact HO137.out) hb); have n3_ := Aside0.mk (Kd.R_below (by (with_reducible repeat (first | apply Kd.R_alloc | apply Kd.R_drewN | apply Kd.R_drew)); exact HO142.out) hb); have n4_ := Aside0.mk (Kd.R_below (by (with_reducible repeat (first | apply Kd.R_alloc | apply Kd.R_drewN | apply Kd.R_drew)); exact HO147.out) hb); have n5_ := Aside0.mk (Kd.R_below (by (with_reducible repeat (first | apply Kd.R_alloc | apply Kd.R_drewN | apply Kd.R_drew)); exact HO152.out) hb); have n6_ := Aside0.mk (below_step (by repeat (first | (with_reducible first | exact HB.out | apply below_alloc | apply pw_below_drewN | apply below_drew1) | exact HB.out)) hb); clear HO126; clear HO129; clear HO137; clear HO142; clear HO147; clear HO152; clear HB; have HO126 := n0_; have HO129 := n1_; have HO137 := n2_; have HO142 := n3_; have HO147 := n4_; have HO152 := n5_; have HB := n6_; clear n0_ n1_ n2_ n3_ n4_ n5_ n6_; (try clear hb); (try clear hb2); (try clear hk); (try clear hi)) | ((with_reducible refine gate_dst (N := 55) rfl ?_); (try (refine gate_guard (by rfl) ?_; dsimp only)); refine Kd.R_lit (Kd.int .u8) _ 5 ?hg (N := 55) ?hd (xs := ([] : List Int)) (inner := []) (ok := fun _ => True) (okp := fun _ => True) ?hr ?hp (fun _ hk => hk) trivial (Below.refl _ _) (Nat.le_refl _) (by simp) ?_; (case hd => rfl); (case hg => rfl); (case hr => first | (go_simp; done) | (go_simp; rfl)); (case hp => exact (Reps.none _ _)); intro v156 w48 ho49 hb hg_ hnew_; clear hg_ hnew_; (first | rw [← Ny155.out] at ho49 | (simp only [Int.reduceToNat] at ho49; rw [← Ny155.out] at ho49)); have n0_ := Aside0.mk (Kd.N_elder' (by (with_reducible repeat (first | apply Kd.N_alloc | apply Kd.N_drewN | apply Kd.N_drew)); exact HO126.out) (Kd.R_base ho49) hb); have n1_ := Aside0.mk (Kd.R_below (by (with_reducible repeat (first | apply Kd.R_alloc | apply Kd.R_drewN | apply Kd.R_drew)); exact HO129.out) hb); have n2_ := Aside0.mk (Kd.R_elder' (by (with_reducible repeat (first | apply Kd.R_alloc | apply Kd.R_drewN | apply Kd.R_drew)); exact HO137.out) (Kd.R_base ho49) hb); have n3_ := Aside0.mk (Kd.R_elder' (by (with_reducible repeat (first | apply Kd.R_alloc | apply Kd.R_drewN | apply Kd.R_drew)); exact HO142.out) (Kd.R_base ho49) hb); have n4_ := Aside0.mk (Kd.R_elder' (by (with_reducible repeat (first | apply Kd.R_alloc | apply Kd.R_drewN | apply Kd.R_drew)); exact HO147.out) (Kd.R_base ho49) hb); have n5_ := Aside0.mk (Kd.R_elder' (by (with_reducible repeat (first | apply Kd.R_alloc | apply Kd.R_drewN | apply Kd.R_drew)); exact HO152.out) (Kd.R_base ho49) hb); have n6_ := Aside0.mk (Kd.R_lower (Kd.R_new' (Kd.R_new' (Kd.R_new' (Kd.R_new' ho49 (Kd.R_lt (by (with_reducible repeat (first | apply Kd.R_alloc | apply Kd.R_drewN | apply Kd.R_drew)); exact HO137.out))) (Kd.R_lt (by (with_reducible repeat (first | apply Kd.R_alloc | apply Kd.R_drewN | apply Kd.R_drew)); exact HO142.out))) (Kd.R_lt (by (with_reducible repeat (first | apply Kd.R_alloc | apply Kd.R_drewN | apply Kd.R_drew)); exact HO147.out))) (Kd.R_lt (by (with_reducible repeat (first | apply Kd.R_alloc | apply Kd.R_drewN | apply Kd.R_drew)); exact HO152.out))) (below_size (by repeat (first | (with_reducible first | exact HB.out | apply below_alloc | apply pw_below_drewN | apply below_drew1) | exact HB.out)))); have n7_ := Aside0.mk (below_step (by repeat (first | (with_reducible first | exact HB.out | apply below_alloc | apply pw_below_drewN | apply below_drew1) | exact HB.out)) hb); clear HO126; clear HO129; clear HO137; clear HO142; clear HO147; clear HO152; clear HB; have HO126 := n0_; have HO129 := n1_; have HO137 := n2_; have HO142 := n3_; have HO147 := n4_; have HO152 := n5_; have HO157 := n6_; have HB := n7_; clear n0_ n1_ n2_ n3_ n4_ n5_ n6_ n7_; clear hb ho49) | ((with_reducible refine gate_dst (N := 56) rfl ?_); (try (refine gate_guard (by rfl) ?_; dsimp only)); refine Kd.R_lit (Kd.int .u8) _ 5 ?hg (N := 56) ?hd (xs := ([1] : List Int)) (inner := [.int .u8 1]) (ok := fun _ => True) (okp := fun _ => True) ?hr ?hp (fun _ hk => hk) trivial (Below.refl _ _) (Nat.le_refl _) (by simp) ?_; (case hd => rfl); (case hg => rfl); (case hr => first | (go_simp; done) | (go_simp; rfl)); (case hp => exact (Reps.one (show Kd.M (Kd.int .u8) _ _ _ 1 [.int .u8 1] from rfl) (Reps.none _ _))); intro v159 w50 ho51 hb hg_ hnew_; clear hg_ hnew_; (first | rw [← Ny158.out] at ho51 | (simp only [Int.reduceToNat] at ho51; rw [← Ny158.out] at ho51)); have n0_ := Aside0.mk (Kd.N_elder' (by (with_reducible repeat (first | apply Kd.N_alloc | apply Kd.N_drewN | apply Kd.N_drew)); exact HO126.out) (Kd.R_base ho51) hb); have n1_ := Aside0.mk (Kd.R_below (by (with_reducible repeat (first | apply Kd.R_alloc | apply Kd.R_drewN | apply Kd.R_drew)); exact HO129.out) hb); have n2_ := Aside0.mk (Kd.R_elder' (by (with_reducible repeat (first | apply Kd.R_alloc | apply Kd.R_drewN | apply Kd.R_drew)); exact HO137.out) (Kd.R_base ho51) hb); have n3_ := Aside0.mk (Kd.R_elder' (by (with_reducible repeat (first | apply Kd.R_alloc | apply Kd.R_drewN | apply Kd.R_drew)); exact HO142.out) (Kd.R_base ho51) hb); have n4_ := Aside0.mk (Kd.R_elder' (by (with_reducible repeat (first | apply Kd.R_alloc | apply Kd.R_drewN | apply Kd.R_drew)); exact HO147.out) (Kd.R_base ho51) hb); have n5_ := Aside0.mk (Kd.R_elder' (by (with_reducible repeat (first | apply Kd.R_alloc | apply Kd.R_drewN | apply Kd.R_drew)); exact HO152.out) (Kd.R_base ho51) hb); have n6_ := Aside0.mk (Kd.R_elder' (by (with_reducible repeat (first | apply Kd.R_alloc | apply Kd.R_drewN | apply Kd.R_drew)); exact HO157.out) (Kd.R_base ho51) hb); have n7_ := Aside0.mk (Kd.R_lower (Kd.R_new' (Kd.R_new' (Kd.R_new' (Kd.R_new' (Kd.R_new' ho51 (Kd.R_lt (by (with_reducible repeat (first | apply Kd.R_alloc | apply Kd.R_drewN | apply Kd.R_drew)); exact HO137.out))) (Kd.R_lt (by (with_reducible repeat (first | apply Kd.R_alloc | apply Kd.R_drewN | apply Kd.R_drew)); exact HO142.out))) (Kd.R_lt (by (with_reducible repeat (first | apply Kd.R_alloc | apply Kd.R_drewN | apply Kd.R_drew)); exact HO147.out))) (Kd.R_lt (by (with_reducible repeat (first | apply Kd.R_alloc | apply Kd.R_drewN | apply Kd.R_drew)); exact HO152.out))) (Kd.R_lt (by (with_reducible repeat (first | apply Kd.R_alloc | apply Kd.R_drewN | apply Kd.R_drew)); exact HO157.out))) (below_size (by repeat (first | (with_reducible first | exact HB.out | apply below_alloc | apply pw_below_drewN | apply below_drew1) | exact HB.out)))); have n8_ := Aside0.mk (below_step (by repeat (first | (with_reducible first | exact HB.out | apply below_alloc | apply pw_below_drewN | apply below_drew1) | exact HB.out)) hb); clear HO126; clear HO129; clear HO137; clear HO142; clear HO147; clear HO152; clear HO157; clear HB; have HO126 := n0_; have HO129 := n1_; have HO137 := n2_; have HO142 := n3_; have HO147 := n4_; have HO152 := n5_; have HO157 := n6_; have HO160 := n7_; have HB := n8_; clear n0_ n1_ n2_ n3_ n4_ n5_ n6_ n7_ n8_; clear hb ho51; obtain ⟨Ao52, co52, eo52⟩ := Kd.R_slice HO157.out; subst eo52; obtain ⟨Ao53, co53, eo53⟩ := Kd.R_slice HO160.out; subst eo53) | ((with_reducible refine gate_dst (N := 57) rfl ?_); (try (refine gate_guard (by rfl) ?_; dsimp only)); refine Kd.N_lit (Kd.slice 5 (Kd.int .u8)) _ 23 ?hg (N' := 57) ?hd (xs := ([y155, y158] : List (List Int))) (inner := [.slice Ao52 y155.length co52, .slice Ao53 y158.length co53]) (ok := (fun k_ => some k_ ≠ (.slice Ao30 y124.length co30 : Value).ownBlock ∧ some k_ ≠ (.slice Ao42 t127.length co42 : Value).ownBlock ∧ some k_ ≠ (.slice Ao35 y135.length co35 : Value).ownBlock ∧ some k_ ≠ (.slice Ao38 y140.length co38 : Value).ownBlock ∧ some k_ ≠ (.slice Ao41 y145.length co41 : Value).ownBlock ∧ some k_ ≠ (.slice Ao45 y150.length co45 : Value).ownBlock)) (okp := (fun k_ => some k_ ≠ (.slice Ao30 y124.length co30 : Value).ownBlock ∧ some k_ ≠ (.slice Ao42 t127.length co42 : Value).ownBlock ∧ some k_ ≠ (.slice Ao35 y135.length co35 : Value).ownBlock ∧ some k_ ≠ (.slice Ao38 y140.length co38 : Value).ownBlock ∧ some k_ ≠ (.slice Ao41 y145.length co41 : Value).ownBlock ∧ some k_ ≠ (.slice Ao45 y150.length co45 : Value).ownBlock)) ?hr ?hp (fun _ hk => hk) ((show ∀ k_, w50.heap.size ≤ k_ → (fun k_ => some k_ ≠ (.slice Ao30 y124.length co30 : Value).ownBlock ∧ some k_ ≠ (.slice Ao42 t127.length co42 : Value).ownBlock ∧ some k_ ≠ (.slice Ao35 y135.length co35 : Value).ownBlock ∧ some k_ ≠ (.slice Ao38 y140.length co38 : Value).ownBlock ∧ some k_ ≠ (.slice Ao41 y145.length co41 : Value).ownBlock ∧ some k_ ≠ (.slice Ao45 y150.length co45 : Value).ownBlock) k_ from fun k_ hk => ⟨Kd.fresh' (Kd.N_lt (by (with_reducible repeat (first | apply Kd.N_alloc | apply Kd.N_drewN | apply Kd.N_drew)); exact HO126.out)) k_ hk, Kd.fresh' (Kd.R_lt (by (with_reducible repeat (first | apply Kd.R_alloc | apply Kd.R_drewN | apply Kd.R_drew)); exact HO129.out)) k_ hk, Kd.fresh' (Kd.R_lt (by (with_reducible repeat (first | apply Kd.R_alloc | apply Kd.R_drewN | apply Kd.R_drew)); exact HO137.out)) k_ hk, Kd.fresh' (Kd.R_lt (by (with_reducible repeat (first | apply Kd.R_alloc | apply Kd.R_drewN | apply Kd.R_drew)); exact HO142.out)) k_ hk, Kd.fresh' (Kd.R_lt (by (with_reducible repeat (first | apply Kd.R_alloc | apply Kd.R_drewN | apply Kd.R_drew)); exact HO147.out)) k_ hk, Kd.fresh' (Kd.R_lt (by (with_reducible repeat (first | apply Kd.R_alloc | apply Kd.R_drewN | apply Kd.R_drew)); exact HO152.out)) k_ hk⟩) _ (Nat.le_refl _)) (Below.refl _ _) (Nat.le_refl _) (by simp) ?_; (case hd => rfl); (case hg => rfl); (case hr => first | (go_simp; done) | (go_simp; rfl)); (case hp => exact (Reps.one (show Kd.FK (Kd.slice 5 (Kd.int .u8)) _ _ y155 [.slice Ao52 y155.length co52] from (Kd.FK_slice_mk (Kd.R_reads' (Kd.R_mono (ok' := (fun k_ => some k_ ≠ (.slice Ao30 y124.length co30 : Value).ownBlock ∧ some k_ ≠ (.slice Ao42 t127.length co42 : Value).ownBlock ∧ some k_ ≠ (.slice Ao35 y135.length co35 : Value).ownBlock ∧ some k_ ≠ (.slice Ao38 y140.length co38 : Value).ownBlock ∧ some k_ ≠ (.slice Ao41 y145.length co41 : Value).ownBlock ∧ some k_ ≠ (.slice Ao45 y150.length co45 : Value).ownBlock)) (Kd.R_apart' (Kd.R_apart' (HO157.out) (Kd.N_typed HO126.out) (by decide)) (Kd.R_typed HO129.out) (by decide)) (fun k_ hk => ⟨hk.1.2, ⟨hk.2, ⟨hk.1.1.1.1.1.1.2, ⟨hk.1.1.1.1.1.2, ⟨hk.1.1.1.1.2, hk.1.1.1.2⟩⟩⟩⟩⟩))).2.1 (Kd.R_F (Kd.R_mono (ok' := (fun k_ => some k_ ≠ (.slice Ao30 y124.length co30 : Value).ownBlock ∧ some k_ ≠ (.slice Ao42 t127.length co42 : Value).ownBlock ∧ some k_ ≠ (.slice Ao35 y135.length co35 : Value).ownBlock ∧ some k_ ≠ (.slice Ao38 y140.length co38 : Value).ownBlock ∧ some k_ ≠ (.slice Ao41 y145.length co41 : Value).ownBlock ∧ some k_ ≠ (.slice Ao45 y150.length co45 : Value).ownBlock)) (Kd.R_apart' (Kd.R_apart' (HO157.out) (Kd.N_typed HO126.out) (by decide)) (Kd.R_typed HO129.out) (by decide)) (fun k_ hk => ⟨hk.1.2, ⟨hk.2, ⟨hk.1.1.1.1.1.1.2, ⟨hk.1.1.1.1.1.2, ⟨hk.1.1.1.1.2, hk.1.1.1.2⟩⟩⟩⟩⟩))))) (Reps.one (show Kd.FK (Kd.slice 5 (Kd.int .u8)) _ _ y158 [.slice Ao53 y158.length co53] from (Kd.FK_slice_mk (Kd.R_reads' (Kd.R_mono (ok' := (fun k_ => some k_ ≠ (.slice Ao30 y124.length co30 : Value).ownBlock ∧ some k_ ≠ (.slice Ao42 t127.length co42 : Value).ownBlock ∧ some k_ ≠ (.slice Ao35 y135.length co35 : Value).ownBlock ∧ some k_ ≠ (.slice Ao38 y140.length co38 : Value).ownBlock ∧ some k_ ≠ (.slice Ao41 y145.length co41 : Value).ownBlock ∧ some k_ ≠ (.slice Ao45 y150.length co45 : Value).ownBlock)) (Kd.R_apart' (Kd.R_apart' (HO160.out) (Kd.N_typed HO126.out) (by decide)) (Kd.R_typed HO129.out) (by decide)) (fun k_ hk => ⟨hk.1.2, ⟨hk.2, ⟨hk.1.1.1.1.1.1.2, ⟨hk.1.1.1.1.1.2, ⟨hk.1.1.1.1.2, hk.1.1.1.2⟩⟩⟩⟩⟩))).2.1 (Kd.R_F (Kd.R_mono (ok' := (fun k_ => some k_ ≠ (.slice Ao30 y124.length co30 : Value).ownBlock ∧ some k_ ≠ (.slice Ao42 t127.length co42 : Value).ownBlock ∧ some k_ ≠ (.slice Ao35 y135.length co35 : Value).ownBlock ∧ some k_ ≠ (.slice Ao38 y140.length co38 : Value).ownBlock ∧ some k_ ≠ (.slice Ao41 y145.length co41 : Value).ownBlock ∧ some k_ ≠ (.slice Ao45 y150.length co45 : Value).ownBlock)) (Kd.R_apart' (Kd.R_apart' (HO160.out) (Kd.N_typed HO126.out) (by decide)) (Kd.R_typed HO129.out) (by decide)) (fun k_ hk => ⟨hk.1.2, ⟨hk.2, ⟨hk.1.1.1.1.1.1.2, ⟨hk.1.1.1.1.1.2, ⟨hk.1.1.1.1.2, hk.1.1.1.2⟩⟩⟩⟩⟩))))) (Reps.none _ _)))); intro v162 w54 ho55 hb hg_ hnew_; clear hg_ hnew_; (first | rw [← Ny161.out] at ho55 | (simp only [Int.reduceToNat] at ho55; rw [← Ny161.out] at ho55)); have n0_ := Aside0.mk (Kd.N_elder' (by (with_reducible repeat (first | apply Kd.N_alloc | apply Kd.N_drewN | apply Kd.N_drew)); exact HO126.out) (Kd.N_base ho55) hb); have n1_ := Aside0.mk (Kd.R_below (by (with_reducible repeat (first | apply Kd.R_alloc | apply Kd.R_drewN | apply Kd.R_drew)); exact HO129.out) hb); have n2_ := Aside0.mk (Kd.R_below (by (with_reducible repeat (first | apply Kd.R_alloc | apply Kd.R_drewN | apply Kd.R_drew)); exact HO137.out) hb); have n3_ := Aside0.mk (Kd.R_below (by (with_reducible repeat (first | apply Kd.R_alloc | apply Kd.R_drewN | apply Kd.R_drew)); exact HO142.out) hb); have n4_ := Aside0.mk (Kd.R_below (by (with_reducible repeat (first | apply Kd.R_alloc | apply Kd.R_drewN | apply Kd.R_drew)); exact HO147.out) hb); have n5_ := Aside0.mk (Kd.R_below (by (with_reducible repeat (first | apply Kd.R_alloc | apply Kd.R_drewN | apply Kd.R_drew)); exact HO152.out) hb); have n6_ := Aside0.mk (Kd.N_lower ho55 (below_size (by repeat (first | (with_reducible first | exact HB.out | apply below_alloc | apply pw_below_drewN | apply below_drew1) | exact HB.out)))); have n7_ := Aside0.mk (below_step (by repeat (first | (with_reducible first | exact HB.out | apply below_alloc | apply pw_below_drewN | apply below_drew1) | exact HB.out)) hb); clear HO126; clear HO129; clear HO137; clear HO142; clear HO147; clear HO152; clear HB; clear HO157; clear HO160; have HO126 := n0_; have HO129 := n1_; have HO137 := n2_; have HO142 := n3_; have HO147 := n4_; have HO152 := n5_; have HO163 := n6_; have HB := n7_; clear n0_ n1_ n2_ n3_ n4_ n5_ n6_ n7_; clear hb ho55; obtain ⟨Ao56, co56, eo56⟩ := Kd.N_slice HO163.out; subst eo56) | (go_at_call 18; (with_reducible refine (chain_Check.calls k _ _ y161 _ _ t127 t164 _ ?side1 ?side2 ?side3 ?side4 A13.out).mono ?_); (case side1 => repeat (first | exact (Kd.N_reads' HO163.out).2.2 | (with_reducible refine Kd.C_alloc ?_ _) | (with_reducible refine Kd.C_drewN ?_ _) | (with_reducible refine Kd.C_drew ?_))); (case side2 => exact (Kd.N_reads' HO163.out).2.1); (case side3 => repeat (first | exact (Kd.R_reads' HO129.out).2.2 | (with_reducible refine Kd.C_alloc ?_ _) | (with_reducible refine Kd.C_drewN ?_ _) | (with_reducible refine Kd.C_drew ?_))); (case side4 => exact (Kd.R_reads' HO129.out).2.1); rintro e w57 ⟨rfl, hb⟩; have n0_ := Aside0.mk (Kd.N_below (by (with_reducible repeat (first | apply Kd.N_alloc | apply Kd.N_drewN | apply Kd.N_drew)); exact HO126.out) hb); have n1_ := Aside0.mk (Kd.R_below (by (with_reducible repeat (first | apply Kd.R_alloc | apply Kd.R_drewN | apply Kd.R_drew)); exact HO129.out) hb); have n2_ := Aside0.mk (Kd.R_below (by (with_reducible repeat (first | apply Kd.R_alloc | apply Kd.R_drewN | apply Kd.R_drew)); exact HO137.out) hb); have n3_ := Aside0.mk (Kd.R_below (by (with_reducible repeat (first | apply Kd.R_alloc | apply Kd.R_drewN | apply Kd.R_drew)); exact HO142.out) hb); have n4_ := Aside0.mk (Kd.R_below (by (with_reducible repeat (first | apply Kd.R_alloc | apply Kd.R_drewN | apply Kd.R_drew)); exact HO147.out) hb); have n5_ := Aside0.mk (Kd.R_below (by (with_reducible repeat (first | apply Kd.R_alloc | apply Kd.R_drewN | apply Kd.R_drew)); exact HO152.out) hb); have n6_ := Aside0.mk (Kd.N_below (by (with_reducible repeat (first | apply Kd.N_alloc | apply Kd.N_drewN | apply Kd.N_drew)); exact HO163.out) hb); have n7_ := Aside0.mk (below_step (by repeat (first | (with_reducible first | exact HB.out | apply below_alloc | apply pw_below_drewN | apply below_drew1) | exact HB.out)) hb); clear HO126; clear HO129; clear HO137; clear HO142; clear HO147; clear HO152; clear HO163; clear HB; have HO126 := n0_; have HO129 := n1_; have HO137 := n2_; have HO142 := n3_; have HO147 := n4_; have HO152 := n5_; have HO163 := n6_; have HB := n7_; clear n0_ n1_ n2_ n3_ n4_ n5_ n6_ n7_; (try clear hb); (try clear hb2); (try clear hk); (try clear hi)))
                        go_ret
                        exact ⟨by first | rfl | (simp [errW_none, errW_some] <;> rfl) | (simp [*, errW_none, errW_some] <;> rfl), by repeat (first | (with_reducible first | exact HB.out | apply below_alloc | apply pw_below_drewN | apply below_drew1) | exact HB.out)⟩
                      · rw [if_neg c21] at H
                        exact absurd H (by simp)
                    · rw [if_neg c20] at H
                      exact absurd H (by simp)
                  · rw [if_neg c19] at H
                    exact absurd H (by simp)
                · rw [if_neg c18] at H
                  exact absurd H (by simp)
              · rw [if_neg c17] at H
                exact absurd H (by simp)
            · rw [if_neg c16] at H
              exact absurd H (by simp)
          · rw [if_neg c15] at H
            exact absurd H (by simp)
        · rw [if_neg c14] at H
          exact absurd H (by simp)
      · rw [if_neg c12] at H
        exact absurd H (by simp)
    · rw [if_neg c10] at H
      exact absurd H (by simp)
  · rw [if_neg c8] at H
    exact absurd H (by simp)

/-! ### accountinglaw14_large: function 14 -/
def accountinglaw14_large.l0 : Nat → List (List Int) → Int → Option (Bool)
  | 0, _, _ => none
  | k + 1, x0, x3 => if x3 < (x0.length : Int) then (if 0 ≤ x3 then (if ((rd_L1 x0 x3).length : Int) > 400 then (some true) else (accountinglaw14_large.l0 k x0 (wrap64 (x3 + 1)))) else (none)) else (some false)
def accountinglaw14_large.f (k : Nat) (l0 : List (List Int)) : Option (Bool) := if (l0.length : Int) > 40 then (some true) else (accountinglaw14_large.l0 k l0 0)
theorem accountinglaw14_large.mono_l : ∀ k, (∀ y0 y1, LeO (accountinglaw14_large.l0 k y0 y1) (accountinglaw14_large.l0 (k + 1) y0 y1))
  | 0 => fun _ _ r h => by simp [accountinglaw14_large.l0] at h
  | k + 1 => by
    have ih0 := accountinglaw14_large.mono_l k
    · intro y0 y1
      unfold accountinglaw14_large.l0
      repeat' first
      | (with_reducible exact ih0 _ _)
      | (with_reducible exact LeO.refl _)
      | (with_reducible exact LeO.none _)
      | (with_reducible refine LeO.ite ?_ ?_)
      | (with_reducible refine LeO.bind ?_ (fun _ => ?_))
      | exact ih0 _ _
      | exact LeO.none _
      | refine LeO.ite ?_ ?_
      | refine LeO.bind ?_ (fun _ => ?_)
theorem accountinglaw14_large.mono : ∀ a0 k, LeO (accountinglaw14_large.f k a0) (accountinglaw14_large.f (k + 1) a0) := by
  intro a0 k
  have ih0 := accountinglaw14_large.mono_l k
  unfold accountinglaw14_large.f
  repeat' first
      | (with_reducible exact ih0 _ _)
      | (with_reducible exact LeO.refl _)
      | (with_reducible exact LeO.none _)
      | (with_reducible refine LeO.ite ?_ ?_)
      | (with_reducible refine LeO.bind ?_ (fun _ => ?_))
      | exact ih0 _ _
      | exact LeO.none _
      | refine LeO.ite ?_ ?_
      | refine LeO.bind ?_ (fun _ => ?_)
set_option maxHeartbeats 8000000 in
set_option maxRecDepth 100000 in
theorem accountinglaw14_large.calls (k : Nat) (A0 : Option Addr) (c0 : Nat) (l0 : List (List Int)) (r : Bool) (w : World) (hr0 : Kd.C (Kd.slice 5 (Kd.int .u8)) w A0 l0.length l0) (hc0 : l0.length ≤ c0) (h : accountinglaw14_large.f k l0 = some r) :
    Calls Try.prog 14 #[.slice A0 l0.length c0] w fun e w' => e = .returned (.bool r) ∧ Drawn0 w w' := by
  have HR0 := Aside0.mk hr0
  have HC0 := Aside0.mk hc0
  clear hr0 hc0
  have H : (if (l0.length : Int) > 40 then (some true) else (accountinglaw14_large.l0 k l0 0)) = some r := h
  clear h
  by_cases c2 : (l0.length : Int) > 40
  · rw [if_pos c2] at H
    have c2b0 : decide (40 < (l0.length : Int)) = true := decide_eq_true c2
    have c2b1 : decide (40 < l0.length) = true := decide_eq_true (by omega)
    clear c2
    obtain rfl := Option.some.inj H
    go_enter Try.func14, Try.ntmps14
    go_wp2
    go_ret
    exact ⟨by first | rfl | (simp; done) | (simp [*]; done), by repeat (first | exact Drawn0.refl _ | apply Drawn0.step)⟩
  · rw [if_neg c2] at H
    have c2b0 : decide (40 < (l0.length : Int)) = false := decide_eq_false c2
    have c2b1 : decide (40 < l0.length) = false := decide_eq_false (by omega)
    clear c2
    have H' := Aside0.mk H
    clear H
    go_enter Try.func14, Try.ntmps14
    go_wp2
    go_loopg [3] k (fun kq v3 w' => ∃ (x3_1 : Int), v3 = .int .i64 x3_1 ∧ Aside0 (accountinglaw14_large.l0 kq l0 x3_1 = some r) ∧ Aside0 (kq ≤ k) ∧ Drawn0 w w')
    case atStart => exact ⟨(0), (by first | rfl | (simp; done) | (simp [*]; done)), H', ⟨Nat.le_refl _⟩, by repeat (first | exact Drawn0.refl _ | apply Drawn0.step)⟩
    case round =>
      clear H'
      try clear c1
      try clear c2
      try clear c2b0
      try clear c2b1
      try clear p2
      obtain ⟨x3_1, rfl, HA, HK1, ⟨m1, rfl⟩⟩ := hrel
      cases gk with
      | zero => exact absurd HA.out (by simp [accountinglaw14_large.l0])
      | succ k1 =>
        have H := HA.out
        clear HA
        simp only [accountinglaw14_large.l0] at H
        by_cases c3 : x3_1 < (l0.length : Int)
        · rw [if_pos c3] at H
          have c3b0 : decide (x3_1 < (l0.length : Int)) = true := decide_eq_true c3
          clear c3
          by_cases c4 : 0 ≤ x3_1
          · rw [if_pos c4] at H
            have c4b0 : decide (0 ≤ x3_1) = true := decide_eq_true c4
            clear c4
            by_cases c5 : ((rd_L1 l0 x3_1).length : Int) > 400
            · rw [if_pos c5] at H
              have c5b0 : decide (400 < ((rd_L1 l0 x3_1).length : Int)) = true := decide_eq_true c5
              have c5b1 : decide (400 < (rd_L1 l0 x3_1).length) = true := decide_eq_true (by omega)
              clear c5
              obtain rfl := Option.some.inj H
              have p165 : 0 ≤ (x3_1 : Int) := of_decide_eq_true (by first | (with_reducible assumption) | assumption)
              have q165 : x3_1 < (l0.length : Int) := of_decide_eq_true (by first | (with_reducible assumption) | assumption)
              obtain ⟨ad165, A165_0, c165_0, e165, hx165_0, hl165_0, hi165_0⟩ := at_L1 HR0.out x3_1 p165 q165
              cases e165
              have HR165_0 := Aside0.mk hi165_0
              have HC165_0 := Aside0.mk hl165_0
              clear hi165_0 hl165_0
              replace p165 := eq_true p165
              replace q165 := eq_true q165
              go_wp2
              go_ret
              exact ⟨by first | rfl | (simp; done) | (simp [*]; done), by repeat (first | exact Drawn0.refl _ | apply Drawn0.step)⟩
            · rw [if_neg c5] at H
              have c5b0 : decide (400 < ((rd_L1 l0 x3_1).length : Int)) = false := decide_eq_false c5
              have c5b1 : decide (400 < (rd_L1 l0 x3_1).length) = false := decide_eq_false (by omega)
              clear c5
              have H' := Aside0.mk H
              clear H
              have p165 : 0 ≤ (x3_1 : Int) := of_decide_eq_true (by first | (with_reducible assumption) | assumption)
              have q165 : x3_1 < (l0.length : Int) := of_decide_eq_true (by first | (with_reducible assumption) | assumption)
              obtain ⟨ad165, A165_0, c165_0, e165, hx165_0, hl165_0, hi165_0⟩ := at_L1 HR0.out x3_1 p165 q165
              cases e165
              have HR165_0 := Aside0.mk hi165_0
              have HC165_0 := Aside0.mk hl165_0
              clear hi165_0 hl165_0
              replace p165 := eq_true p165
              replace q165 := eq_true q165
              go_wp2
              go_roundg k1
              case measure => have := HK1.out; omega
              case rel => exact ⟨(wrap64 (x3_1 + 1)), (by first | rfl | (simp; done) | (simp [*]; done)), H', ⟨by have := HK1.out; omega⟩, by repeat (first | exact Drawn0.refl _ | apply Drawn0.step)⟩
          · rw [if_neg c4] at H
            exact absurd H (by simp)
        · rw [if_neg c3] at H
          have c3b0 : decide (x3_1 < (l0.length : Int)) = false := decide_eq_false c3
          clear c3
          obtain rfl := Option.some.inj H
          go_wp2
          go_ret
          exact ⟨by first | rfl | (simp; done) | (simp [*]; done), by repeat (first | exact Drawn0.refl _ | apply Drawn0.step)⟩

end Go.Proofs.Ytinhoindkpaibaa.Y
