/- Proved here: the law, on a machine over pure data, and what it needs, part 5. Conditions: none. -/
import Derived.Laws.Bits64
import Derived.Laws.Bits64b
import Derived.Laws.DeepNot64
import Derived.Lib.Bytes
import Derived.Test.YtaefaadjncehmaaGreatDoorZ4
set_option maxRecDepth 10000
set_option linter.unusedVariables false
set_option linter.unusedSimpArgs false
namespace Go.Proofs.YtaefaadjncehmaaGreatDoor.Vm
open Go Go.Proofs
structure Entry where
  no : Int
  ent : ByteArray
  book : Int
  val : Int
  kind : Int
  ref : ByteArray
  who : ByteArray
  rev : Int
  lines : List Line
  lr : Bool
def encE (e : Entry) : V := .agg [.i64 e.no, .str e.ent, .i64 e.book, .i64 e.val, .i64 e.kind, .str e.ref, .str e.who, .i64 e.rev, .list (te e.lr 49) (e.lines.map encL) (nr e.lr)]
structure smallE (e : Entry) : Prop where
  ent : small e.ent
  ref : small e.ref
  who : small e.who
  lines : ∀ l ∈ e.lines, smallL l
  len : e.lines.length < 4611686018427387904
  nil : e.lr = true → e.lines = []
def headS (e : Entry) : Int :=
  if e.no < 0 ∨ 4000 < e.no ∨ e.rev < 0 ∨ 4000 < e.rev then 3
  else if (codeS e.ent && codeS e.who) = false then 7
  else if (dayS e.book && dayS e.val) = false then 11
  else if e.kind < 1 ∨ 7 < e.kind then 10
  else if plainS e.ref = false then 5
  else if e.lines.length < 2 then 2
  else if 100 < e.lines.length then 9
  else 0
theorem head_ok (e : Entry) (hs : smallE e) : L.pl 95 [encE e] = some (.ret (.i64 (headS e))) := by
  refine W_of (pl_w k95_eq ?_)
  simp only [k95, encE]
  repeat' (first | (simp -implicitDefEqProofs only [ze, zd, simprocAttr, code_ok, isDay_ok, plain_ok, nr_pur, List.length_map]) | (with_reducible refine wgd_cases ?_ ?_ <;> intro hb) | (with_reducible refine wcond_cases ?_ ?_ <;> intro hb) | (with_reducible refine qd_i (by kernel_rfl) ?_) | (with_reducible refine W_itn_cases ?_ ?_; omega))
  all_goals (refine ret_i ?_; simp_all [headS]; try omega)
theorem rhead_ok (e : Entry) (hs : smallE e) : L.pl 159 [encE e] = some (.ret (.i64 (headS e))) := by
  refine W_of (pl_w k159_eq ?_)
  simp only [k159, encE]
  repeat' (first | (simp -implicitDefEqProofs only [ze, zd, simprocAttr, rcode_ok e.ent hs.ent, rcode_ok e.who hs.who, rday_ok, rplain_ok e.ref hs.ref, nr_pur, List.length_map]) | (with_reducible refine wgd_cases ?_ ?_ <;> intro hb) | (with_reducible refine wcond_cases ?_ ?_ <;> intro hb) | (with_reducible refine qd_i (by kernel_rfl) ?_) | (with_reducible refine W_itn_cases ?_ ?_; omega))
  all_goals (refine ret_i ?_; simp_all [headS]; try omega)
noncomputable instance : DecidableEq Tag := fun a b => Classical.propDecidable _
noncomputable instance : DecidableEq Line := fun a b => Classical.propDecidable _
noncomputable instance : DecidableEq Entry := fun a b => Classical.propDecidable _
def Line.k (l : Line) : Line := { l with tr := false }
def Entry.k (e : Entry) : Entry := { e with lines := e.lines.map Line.k, lr := false }
theorem list_eq {α : Type} {a b : List α} (hl : a.length = b.length) (hp : ∀ j, j < a.length → a[j]? = b[j]?) : a = b := by
  apply List.ext_getElem?
  intro j
  rcases Nat.lt_or_ge j a.length with h | h
  · exact hp j h
  · rw [List.getElem?_eq_none h, List.getElem?_eq_none (by omega)]
theorem list_ne {α : Type} {a b : List α} {i : Nat} {x y : α} (hx : a[i]? = some x) (hy : b[i]? = some y) (h : ¬ x = y) : ¬ a = b := fun e => by
  subst e; rw [hx] at hy; exact h (Option.some.inj hy)
theorem tag_ext {a b : Tag} : a = b ↔ a.n = b.n ∧ a.v = b.v := by cases a; cases b; simp
theorem lk_ext {a b : Line} : a.k = b.k ↔ a.acc = b.acc ∧ a.cur = b.cur ∧ a.amt = b.amt ∧ a.base = b.base ∧ a.par = b.par ∧ a.pty = b.pty ∧ a.tags = b.tags := by cases a; cases b; simp [Line.k]
theorem ek_ext {a b : Entry} : a.k = b.k ↔ a.no = b.no ∧ a.ent = b.ent ∧ a.book = b.book ∧ a.val = b.val ∧ a.kind = b.kind ∧ a.ref = b.ref ∧ a.who = b.who ∧ a.rev = b.rev ∧ a.lines.map Line.k = b.lines.map Line.k := by cases a; cases b; simp [Entry.k]
theorem te_or {α : Type} {l : List α} {b : Bool} (h : b = true → l = []) (e : Nat) : l = [] ∨ te b e = e := by
  cases b
  · exact .inr rfl
  · exact .inl (h rfl)
theorem tagsame_ok (a b : List Tag) (ea eb ra rb : Nat) (hl : a.length < 4611686018427387904) (hea : a = [] ∨ ea = 202) (heb : b = [] ∨ eb = 202) : L.pl 217 [.list ea (a.map encT) ra, .list eb (b.map encT) rb] = some (.ret (.bool (decide (a = b)))) := by
  refine W_of (pl_w k217_eq ?_)
  simp only [k217, k217_t0]
  by_cases hlen : a.length = b.length
  · have hd : decide ((a.length : Int) = (b.length : Int)) = true := decide_eq_true (by omega)
    repeat' (first | (simp -implicitDefEqProofs only [ze, zd, simprocAttr, List.length_map, hd]) | (with_reducible refine wgd_cases ?_ ?_ <;> intro hb) | (with_reducible refine wcond_cases ?_ ?_ <;> intro hb) | (with_reducible refine qd_i (by kernel_rfl) ?_) | (with_reducible refine W_itn_cases ?_ ?_; omega))
    refine loop_w (fun n tm st nx => ∃ i : Nat, n = a.length - i ∧ i ≤ a.length ∧ tm 5 = .i64 i ∧ tm 0 = .list ea (a.map encT) ra ∧ tm 1 = .list eb (b.map encT) rb ∧ ∀ j, j < i → a[j]? = b[j]?) a.length ⟨0, by omega, by omega, ?_, ?_, ?_, by omega⟩ ?_
    · simp -implicitDefEqProofs only [ze, zd, simprocAttr]; try rfl
    · simp -implicitDefEqProofs only [ze, zd, simprocAttr]
    · simp -implicitDefEqProofs only [ze, zd, simprocAttr]
    · rintro n tm st nx ⟨i, hi, hi2, h5, h0, h1, hp⟩
      simp only [k217_l0]
      by_cases hlt : i < a.length
      · have e1 : ea = 202 := by
          rcases hea with rfl | h
          · simp at hlt
          · exact h
        have e2 : eb = 202 := by
          rcases heb with rfl | h
          · rw [List.length_nil] at hlen; omega
          · exact h
        subst e1; subst e2
        obtain ⟨x, hx⟩ := get_lt hlt
        obtain ⟨y, hy⟩ := get_lt (l := b) (i := i) (by omega)
        have hd : decide ((i : Int) < (a.length : Int)) = true := decide_eq_true (by omega)
        repeat' (first | (simp -implicitDefEqProofs only [ze, zd, simprocAttr, h5, h0, h1, hd, hx, hy, encT, List.length_map, tag_ext]) | (with_reducible refine wgd_cases ?_ ?_ <;> intro hb) | (with_reducible refine wcond_cases ?_ ?_ <;> intro hb) | (with_reducible refine qd_i (by kernel_rfl) ?_) | (with_reducible refine W_itn_cases ?_ ?_; omega))
        · exact ret_b (decide_eq_false (list_ne hx hy fun e => by subst e; simp at hb)).symm
        · have hxy : x = y := by rw [tag_ext]; simpa using hb
          refine ⟨a.length - (i + 1), by omega, i + 1, rfl, by omega, up64 (by omega), fun j hj => ?_⟩
          rcases Nat.lt_succ_iff_lt_or_eq.mp hj with h | rfl
          · exact hp j h
          · rw [hx, hy, hxy]
      · have hd : decide ((i : Int) < (a.length : Int)) = false := decide_eq_false (by omega)
        repeat' (first | (simp -implicitDefEqProofs only [ze, zd, simprocAttr, h5, h0, h1, hd, List.length_map]) | (with_reducible refine wgd_cases ?_ ?_ <;> intro hb) | (with_reducible refine wcond_cases ?_ ?_ <;> intro hb) | (with_reducible refine qd_i (by kernel_rfl) ?_) | (with_reducible refine W_itn_cases ?_ ?_; omega))
        exact ret_b (decide_eq_true (list_eq hlen fun j hj => hp j (by omega))).symm
  · have hd : decide ((a.length : Int) = (b.length : Int)) = false := decide_eq_false (by omega)
    repeat' (first | (simp -implicitDefEqProofs only [ze, zd, simprocAttr, List.length_map, hd]) | (with_reducible refine wgd_cases ?_ ?_ <;> intro hb) | (with_reducible refine wcond_cases ?_ ?_ <;> intro hb) | (with_reducible refine qd_i (by kernel_rfl) ?_) | (with_reducible refine W_itn_cases ?_ ?_; omega))
    exact ret_b (decide_eq_false fun e => hlen (by rw [e])).symm
def nilL (l : Line) : Prop := l.tr = true → l.tags = []
theorem alike_ok (a b : Line) (hl : a.tags.length < 4611686018427387904) (hna : nilL a) (hnb : nilL b) : L.pl 169 [encL a, encL b] = some (.ret (.bool (decide (a.acc = b.acc) && decide (a.cur = b.cur) && decide (a.par = b.par) && decide (a.pty = b.pty) && decide (a.tags = b.tags)))) := by
  refine W_of (pl_w k169_eq ?_)
  simp only [k169, encL]
  repeat' (first | (simp -implicitDefEqProofs only [ze, zd, simprocAttr, tagsame_ok a.tags b.tags (te a.tr 202) (te b.tr 202) (nr a.tr) (nr b.tr) hl (te_or hna _) (te_or hnb _), nr_pur]) | (with_reducible refine wgd_cases ?_ ?_ <;> intro hb) | (with_reducible refine wcond_cases ?_ ?_ <;> intro hb) | (with_reducible refine qd_i (by kernel_rfl) ?_) | (with_reducible refine W_itn_cases ?_ ?_; omega))
  all_goals (refine ret_b ?_; simp_all)
theorem sameline_ok (a b : Line) (hl : a.tags.length < 4611686018427387904) (hna : nilL a) (hnb : nilL b) : L.pl 120 [encL a, encL b] = some (.ret (.bool (decide (a.k = b.k)))) := by
  have h := alike_ok a b hl hna hnb
  simp only [encL] at h
  refine W_of (pl_w k120_eq ?_)
  simp only [k120, encL]
  repeat' (first | (simp -implicitDefEqProofs only [ze, zd, simprocAttr, h, nr_pur]) | (with_reducible refine wgd_cases ?_ ?_ <;> intro hb) | (with_reducible refine wcond_cases ?_ ?_ <;> intro hb) | (with_reducible refine qd_i (by kernel_rfl) ?_) | (with_reducible refine W_itn_cases ?_ ?_; omega))
  all_goals (refine ret_b (Bool.eq_iff_iff.mpr ?_); simp_all [lk_ext])
  all_goals (first | done | (constructor <;> intros <;> simp_all))
theorem samelines_ok (a b : List Line) (ea eb ra rb : Nat) (hl : a.length < 4611686018427387904) (ht : ∀ l ∈ a, l.tags.length < 4611686018427387904) (hna : ∀ l ∈ a, nilL l) (hnb : ∀ l ∈ b, nilL l) (hea : a = [] ∨ ea = 49) (heb : b = [] ∨ eb = 49) : L.pl 64 [.list ea (a.map encL) ra, .list eb (b.map encL) rb] = some (.ret (.bool (decide (a.map Line.k = b.map Line.k)))) := by
  refine W_of (pl_w k64_eq ?_)
  simp only [k64, k64_t0]
  by_cases hlen : a.length = b.length
  · have hd : decide ((a.length : Int) = (b.length : Int)) = true := decide_eq_true (by omega)
    repeat' (first | (simp -implicitDefEqProofs only [ze, zd, simprocAttr, List.length_map, hd]) | (with_reducible refine wgd_cases ?_ ?_ <;> intro hb) | (with_reducible refine wcond_cases ?_ ?_ <;> intro hb) | (with_reducible refine qd_i (by kernel_rfl) ?_) | (with_reducible refine W_itn_cases ?_ ?_; omega))
    refine loop_w (fun n tm st nx => ∃ i : Nat, n = a.length - i ∧ i ≤ a.length ∧ tm 5 = .i64 i ∧ tm 0 = .list ea (a.map encL) ra ∧ tm 1 = .list eb (b.map encL) rb ∧ ∀ j, j < i → (a.map Line.k)[j]? = (b.map Line.k)[j]?) a.length ⟨0, by omega, by omega, ?_, ?_, ?_, by omega⟩ ?_
    · simp -implicitDefEqProofs only [ze, zd, simprocAttr]; try rfl
    · simp -implicitDefEqProofs only [ze, zd, simprocAttr]
    · simp -implicitDefEqProofs only [ze, zd, simprocAttr]
    · rintro n tm st nx ⟨i, hi, hi2, h5, h0, h1, hp⟩
      simp only [k64_l0]
      by_cases hlt : i < a.length
      · have e1 : ea = 49 := by
          rcases hea with rfl | h
          · simp at hlt
          · exact h
        have e2 : eb = 49 := by
          rcases heb with rfl | h
          · rw [List.length_nil] at hlen; omega
          · exact h
        subst e1; subst e2
        obtain ⟨x, hx⟩ := get_lt hlt
        obtain ⟨y, hy⟩ := get_lt (l := b) (i := i) (by omega)
        have hd : decide ((i : Int) < (a.length : Int)) = true := decide_eq_true (by omega)
        have hs := sameline_ok x y (ht x (List.mem_of_getElem? hx)) (hna x (List.mem_of_getElem? hx)) (hnb y (List.mem_of_getElem? hy))
        simp only [encL] at hs
        have hkx : (a.map Line.k)[i]? = some x.k := by simp [hx]
        have hky : (b.map Line.k)[i]? = some y.k := by simp [hy]
        repeat' (first | (simp -implicitDefEqProofs only [ze, zd, simprocAttr, h5, h0, h1, hd, hx, hy, encL, List.length_map, hs, nr_pur]) | (with_reducible refine wgd_cases ?_ ?_ <;> intro hb) | (with_reducible refine wcond_cases ?_ ?_ <;> intro hb) | (with_reducible refine qd_i (by kernel_rfl) ?_) | (with_reducible refine W_itn_cases ?_ ?_; omega))
        · exact ret_b (decide_eq_false (list_ne hkx hky (by simpa using hb))).symm
        · have hxy : x.k = y.k := by simpa using hb
          refine ⟨a.length - (i + 1), by omega, i + 1, rfl, by omega, up64 (by omega), fun j hj => ?_⟩
          rcases Nat.lt_succ_iff_lt_or_eq.mp hj with h | rfl
          · have := hp j h; rwa [List.getElem?_map, List.getElem?_map] at this
          · rw [hx, hy, Option.map_some, Option.map_some, hxy]
      · have hd : decide ((i : Int) < (a.length : Int)) = false := decide_eq_false (by omega)
        repeat' (first | (simp -implicitDefEqProofs only [ze, zd, simprocAttr, h5, h0, h1, hd, List.length_map]) | (with_reducible refine wgd_cases ?_ ?_ <;> intro hb) | (with_reducible refine wcond_cases ?_ ?_ <;> intro hb) | (with_reducible refine qd_i (by kernel_rfl) ?_) | (with_reducible refine W_itn_cases ?_ ?_; omega))
        exact ret_b (decide_eq_true (list_eq (by simpa using hlen) fun j hj => hp j (by simp at hj; omega))).symm
  · have hd : decide ((a.length : Int) = (b.length : Int)) = false := decide_eq_false (by omega)
    repeat' (first | (simp -implicitDefEqProofs only [ze, zd, simprocAttr, List.length_map, hd]) | (with_reducible refine wgd_cases ?_ ?_ <;> intro hb) | (with_reducible refine wcond_cases ?_ ?_ <;> intro hb) | (with_reducible refine qd_i (by kernel_rfl) ?_) | (with_reducible refine W_itn_cases ?_ ?_; omega))
    exact ret_b (decide_eq_false fun e => hlen (by have := congrArg List.length e; simpa using this)).symm
def nilE (e : Entry) : Prop := (e.lr = true → e.lines = []) ∧ ∀ l ∈ e.lines, nilL l
theorem smallE.nils {e : Entry} (h : smallE e) : nilE e := ⟨h.nil, fun l hl => (h.lines l hl).nil⟩
theorem same_ok (a b : Entry) (hl : a.lines.length < 4611686018427387904) (ht : ∀ l ∈ a.lines, l.tags.length < 4611686018427387904) (hna : nilE a) (hnb : nilE b) : L.pl 29 [encE a, encE b] = some (.ret (.bool (decide (a.k = b.k)))) := by
  refine W_of (pl_w k29_eq ?_)
  simp only [k29, encE]
  repeat' (first | (simp -implicitDefEqProofs only [ze, zd, simprocAttr, samelines_ok a.lines b.lines (te a.lr 49) (te b.lr 49) (nr a.lr) (nr b.lr) hl ht hna.2 hnb.2 (te_or hna.1 _) (te_or hnb.1 _), nr_pur]) | (with_reducible refine wgd_cases ?_ ?_ <;> intro hb) | (with_reducible refine wcond_cases ?_ ?_ <;> intro hb) | (with_reducible refine qd_i (by kernel_rfl) ?_) | (with_reducible refine W_itn_cases ?_ ?_; omega))
  all_goals (refine ret_b (Bool.eq_iff_iff.mpr ?_); simp_all [ek_ext])
end Go.Proofs.YtaefaadjncehmaaGreatDoor.Vm
set_option linter.unusedVariables false
set_option linter.unusedSimpArgs false
namespace Go.Proofs.YtaefaadjncehmaaGreatDoor.Vm.Co
open Go.RowKit
def shl (k : IntKind) (x y : Int) : Int := k.wrap (x * 2 ^ (min y.toNat k.bits))
def bytesOf (s : ByteArray) : List Int := s.data.toList.map fun b : UInt8 => (b.toNat : Int)
theorem u64_small {n : Int} (h0 : 0 ≤ n) (h1 : n < 18446744073709551616) : IntKind.u64.wrap n = n := by
  rw [IntKind.wrap_u64]; omega
theorem w64_small {n : Int} (h0 : -9223372036854775808 ≤ n) (h1 : n < 9223372036854775808) : wrap64 n = n := by
  unfold wrap64; omega
theorem and8_all : ∀ c : Nat, c < 256 → Go.bits .and .u8 (c : Int) 127 = ((c % 128 : Nat) : Int) := by decide +kernel
theorem and8 (c : Int) (h0 : 0 ≤ c) (h1 : c < 256) : Go.bits .and .u8 c 127 = c % 128 := by
  obtain ⟨n, rfl⟩ := Int.eq_ofNat_of_zero_le h0
  rw [and8_all n (by omega)]; omega
theorem xor_comm_ (k : IntKind) (a b : Int) : Go.bits .xor k a b = Go.bits .xor k b a := by
  unfold Go.bits; simp only [BitVec.xor_comm]
theorem xor_zero_i64 (a : Nat) (h : a < 9223372036854775808) : Go.bits .xor .i64 (a : Int) 0 = a := by
  show IntKind.i64.wrap ((BitVec.ofInt 64 (a : Int) ^^^ BitVec.ofInt 64 0).toNat : Int) = _
  have h1 : BitVec.ofInt 64 0 = 0#64 := by decide
  rw [h1, BitVec.xor_zero, ofInt_u64 a (by omega), IntKind.wrap_i64]
  omega
def vL : Nat → Int → List Int
  | 0, _ => []
  | f + 1, x => if x ≥ 128 then (x % 128 + 128) :: vL f (x / 128) else [x]
def zz (n : Int) : Int := if n < 0 then -2 * n - 1 else 2 * n
def putS (n : Int) : List Int := vL 10 (zz n)
def fin (x : Int) : Int := if x % 2 = 1 then -(x / 2) - 1 else x / 2
def badS (i : Nat) (b : Int) : Bool := (decide (i = 9) && decide (b > 1)) || (decide (i > 0) && decide (b = 0))
def tS : List Int → Nat → Int → Int × Int × Int
  | [], i, _ => if i < 10 then (0, 0, 6) else (0, 0, 5)
  | b :: s, i, x => if i < 10 then (if badS i b = true then (0, 0, 5) else if b < 128 then (fin (x + b % 128 * 128 ^ i), ((i + 1 : Nat) : Int), 0) else tS s (i + 1) (x + b % 128 * 128 ^ i)) else (0, 0, 5)
theorem pow128 (i : Nat) : ((128 ^ i : Nat) : Int) = (128 : Int) ^ i := by rw [Int.natCast_pow]; rfl
theorem step_bound (i : Nat) (x b : Int) (hi : i < 10) (hx0 : 0 ≤ x) (hx : x < 128 ^ i) (hb0 : 0 ≤ b) (hb1 : b < 256) (h9 : i = 9 → b ≤ 1) :
    0 ≤ b % 128 * 128 ^ i ∧ x + b % 128 * 128 ^ i < 18446744073709551616 ∧ x + b % 128 * 128 ^ i < 128 ^ (i + 1) := by
  have hp : (0 : Int) < 128 ^ i := Int.pow_pos (by decide)
  have hc0 : 0 ≤ b % 128 := by omega
  have hc1 : b % 128 ≤ 127 := by omega
  have h1 := Int.mul_nonneg hc0 (Int.le_of_lt hp)
  have h2 : b % 128 * 128 ^ i ≤ 127 * 128 ^ i := Int.mul_le_mul_of_nonneg_right hc1 (Int.le_of_lt hp)
  have h3 : x + b % 128 * 128 ^ i < 128 ^ (i + 1) := by rw [Int.pow_succ]; omega
  refine ⟨h1, ?_, h3⟩
  by_cases h : i = 9
  · subst h
    have := h9 rfl
    have e : (128 : Int) ^ 9 = 9223372036854775808 := by decide
    rw [e] at hx ⊢
    omega
  · have h4 : (128 : Nat) ^ (i + 1) ≤ 128 ^ 9 := Nat.pow_le_pow_right (by decide) (by omega)
    have h5 : (128 : Int) ^ (i + 1) ≤ 9223372036854775808 := by rw [← pow128]; have : 128 ^ 9 = 9223372036854775808 := by decide
                                                                omega
    omega
theorem or_shift (i : Nat) (x b : Int) (hi : i < 10) (hx0 : 0 ≤ x) (hx : x < 128 ^ i) (hb0 : 0 ≤ b) (hb1 : b < 256) (h9 : i = 9 → b ≤ 1) :
    Go.bits .or .u64 x (shl .u64 (IntKind.u64.wrap (Go.bits .and .u8 b 127)) (wrap64 (7 * (i : Int)))) = x + b % 128 * 128 ^ i := by
  obtain ⟨s1, s2, s3⟩ := step_bound i x b hi hx0 hx hb0 hb1 h9
  rw [and8 b hb0 hb1, u64_small (by omega) (by omega), w64_small (by omega) (by omega)]
  obtain ⟨c, hc⟩ := Int.eq_ofNat_of_zero_le (show 0 ≤ b % 128 by omega)
  obtain ⟨y, rfl⟩ := Int.eq_ofNat_of_zero_le hx0
  rw [hc] at s1 s2 s3 ⊢
  have e : (c : Int) * 128 ^ i = ((c <<< (7 * i) : Nat) : Int) := by
    rw [Nat.shiftLeft_eq, Int.natCast_mul, Nat.pow_mul, pow128]
  rw [e] at s1 s2 s3 ⊢
  have e2 : shl .u64 (c : Int) (7 * (i : Int)) = ((c <<< (7 * i) : Nat) : Int) := by
    unfold shl
    have hm : min (7 * (i : Int)).toNat IntKind.u64.bits = 7 * i := by
      have : IntKind.u64.bits = 64 := rfl
      omega
    have e3 : (c : Int) * 2 ^ (7 * i) = ((c <<< (7 * i) : Nat) : Int) := by
      rw [Nat.shiftLeft_eq, Int.natCast_mul, Int.natCast_pow]; rfl
    rw [hm, e3]
    exact u64_small s1 (by omega)
  rw [e2]
  have hy : y < 2 ^ (7 * i) := by
    rw [Nat.pow_mul]
    have : (y : Int) < ((128 ^ i : Nat) : Int) := by rw [pow128]; exact hx
    exact_mod_cast this
  rw [bits_or_u64_nat _ _ (by omega) (by omega), Nat.or_comm, ← Nat.shiftLeft_add_eq_or_of_lt hy]
  omega
theorem fin_xor (x : Int) (h0 : 0 ≤ x) (h1 : x < 18446744073709551616) :
    Go.bits .xor .i64 (wrap64 (x / 2)) (wrap64 (-(wrap64 (Go.bits .and .u64 x 1)))) = fin x := by
  obtain ⟨n, rfl⟩ := Int.eq_ofNat_of_zero_le h0
  have e := bits_and_u64_nat n 1 (by omega) (by omega)
  rw [Nat.and_one_is_mod] at e
  have e' : Go.bits .and .u64 (n : Int) 1 = ((n % 2 : Nat) : Int) := e
  rw [e', w64_small (n := (n : Int) / 2) (by omega) (by omega), w64_small (n := ((n % 2 : Nat) : Int)) (by omega) (by omega), show (n : Int) / 2 = ((n / 2 : Nat) : Int) by omega]
  unfold fin
  rcases Nat.mod_two_eq_zero_or_one n with h | h
  · rw [h, if_neg (by omega), show wrap64 (-((0 : Nat) : Int)) = 0 by (unfold wrap64; omega), xor_zero_i64 _ (by omega)]; omega
  · rw [h, if_pos (by omega), show wrap64 (-((1 : Nat) : Int)) = -1 by (unfold wrap64; omega), xor_comm_, i64_not _ (by omega)]; omega
theorem bad_no {i : Nat} {b : Int} (h : badS i b = false) : (i = 9 → b ≤ 1) ∧ (i > 0 → b ≠ 0) := by
  simp only [badS, Bool.or_eq_false_iff, Bool.and_eq_false_iff, decide_eq_false_iff_not] at h
  omega
theorem tS_pos : ∀ (s : List Int) (i : Nat) (x : Int), 0 ≤ (tS s i x).2.1 ∧ (tS s i x).2.1 ≤ ((i + s.length : Nat) : Int)
  | [], i, x => by unfold tS; split <;> simp <;> omega
  | b :: s, i, x => by
    unfold tS
    split
    · split
      · simp; omega
      · split
        · simp; omega
        · have := tS_pos s (i + 1) (x + b % 128 * 128 ^ i)
          simp only [List.length_cons]; omega
    · simp; omega
end Go.Proofs.YtaefaadjncehmaaGreatDoor.Vm.Co
set_option maxRecDepth 10000
set_option linter.unusedVariables false
set_option linter.unusedSimpArgs false
namespace Go.Proofs.YtaefaadjncehmaaGreatDoor.Vm
open Go Go.Proofs
def bv (l : List Int) : List V := l.map fun b => V.sc (.int .u8 b)
theorem bv_app (a b : List Int) : bv (a ++ b) = bv a ++ bv b := by simp [bv]
theorem bv_len (a : List Int) : (bv a).length = a.length := by simp [bv]
def i64r (n : Int) : Prop := -9223372036854775808 ≤ n ∧ n < 9223372036854775808
def Grow (st : St) (nx : Nat) (e : Nat) (xs : List V) (v : V) : Prop := (xs = [] ∧ v = .list 0 [] 1) ∨ ∃ r, 8 ≤ r ∧ r < nx ∧ v = .list e xs r ∧ st r = some (.tok xs.length e)
end Go.Proofs.YtaefaadjncehmaaGreatDoor.Vm
set_option maxRecDepth 10000
set_option linter.unusedVariables false
set_option linter.unusedSimpArgs false
namespace Go.Proofs.YtaefaadjncehmaaGreatDoor.Vm
open Go Go.Proofs
def ptB (s : ByteArray) : List Int := Co.putS s.size ++ Co.bytesOf s
theorem plain_size {s : ByteArray} (h : plainS s = true) : s.size ≤ 60 := by
  simp only [plainS, Bool.and_eq_true, decide_eq_true_eq] at h; exact h.1
def Enc (st : St) (nx id : Nat) (out : List Int) : Prop := id < nx ∧ ∃ v, st id = some (.cells [v]) ∧ Grow st nx 5 (bv out) v
def Keep (st st' : St) (nx id : Nat) : Prop := ∀ i cs, i < nx → i ≠ id → st i = some (.cells cs) → st' i = some (.cells cs)
theorem W_hp {o : Option HR} {D : HR → Prop} {C : R → Prop} (h : W o D) (k : ∀ r, D r → W (match some r with | some (.ret v st' n) => some (R.big v st' n) | some (.pan v st' n) => some (.bpan v st' n) | none => none) C) : W (match o with | some (.ret v st' n) => some (R.big v st' n) | some (.pan v st' n) => some (.bpan v st' n) | none => none) C := by
  obtain ⟨r, rfl, hd⟩ := h; exact k r hd
end Go.Proofs.YtaefaadjncehmaaGreatDoor.Vm
set_option maxRecDepth 10000
set_option linter.unusedVariables false
set_option linter.unusedSimpArgs false
namespace Go.Proofs.YtaefaadjncehmaaGreatDoor.Vm
open Go Go.Proofs
theorem Enc.upd {st : St} {nx nx' id j : Nat} {out : List Int} (h : Enc st nx id out) (hj : nx ≤ j) (hn : nx ≤ nx') (o : Option Ob) : Enc (upd st j o) nx' id out := by
  obtain ⟨hid, v, hv, hg⟩ := h
  refine ⟨by omega, v, by rw [upd_at, if_neg (by omega)]; exact hv, ?_⟩
  rcases hg with hg | ⟨r, h1, h2, h3, h4⟩
  · exact .inl hg
  · exact .inr ⟨r, h1, by omega, h3, by rw [upd_at, if_neg (by omega)]; exact h4⟩
theorem Enc.le {st : St} {nx nx' id : Nat} {out : List Int} (h : Enc st nx id out) (hn : nx ≤ nx') : Enc st nx' id out := by
  obtain ⟨hid, v, hv, hg⟩ := h
  refine ⟨by omega, v, hv, ?_⟩
  rcases hg with hg | ⟨r, h1, h2, h3, h4⟩
  · exact .inl hg
  · exact .inr ⟨r, h1, by omega, h3, h4⟩
theorem Keep.trans {st st' st'' : St} {nx nx' id : Nat} (h : Keep st st' nx id) (k : Keep st' st'' nx' id) (hn : nx ≤ nx') : Keep st st'' nx id := fun i cs h1 h2 h3 => k i cs (by omega) h2 (h i cs h1 h2 h3)
theorem Keep.upd {st : St} {nx id j : Nat} (hj : nx ≤ j) (o : Option Ob) : Keep st (upd st j o) nx id := fun i cs h1 h2 h3 => by rw [upd_at, if_neg (by omega)]; exact h3
def tagsB (l : List Tag) : List Int := l.flatMap fun t => ptB t.n ++ ptB t.v
def lineB (l : Line) : List Int := ptB l.acc ++ ptB l.cur ++ Co.putS l.amt ++ Co.putS l.base ++ ptB l.par ++ ptB l.pty ++ Co.putS l.tags.length ++ tagsB l.tags
structure plainL (l : Line) : Prop where
  acc : plainS l.acc = true
  cur : plainS l.cur = true
  amt : i64r l.amt
  base : i64r l.base
  par : plainS l.par = true
  pty : plainS l.pty = true
  tags : ∀ t ∈ l.tags, plainS t.n = true ∧ plainS t.v = true
  len : l.tags.length ≤ 1000
  nil : l.tr = true → l.tags = []
end Go.Proofs.YtaefaadjncehmaaGreatDoor.Vm
set_option maxRecDepth 10000
set_option linter.unusedVariables false
set_option linter.unusedSimpArgs false
namespace Go.Proofs.YtaefaadjncehmaaGreatDoor.Vm
open Go Go.Proofs
def linesB (l : List Line) : List Int := l.flatMap lineB
def headB (e : Entry) : List Int := Co.putS e.no ++ ptB e.ent ++ Co.putS e.book ++ Co.putS e.val ++ Co.putS e.kind ++ ptB e.ref ++ ptB e.who ++ Co.putS e.rev ++ Co.putS e.lines.length
def entryB (e : Entry) : List Int := headB e ++ linesB e.lines
structure plainE (e : Entry) : Prop where
  no : i64r e.no
  ent : plainS e.ent = true
  book : i64r e.book
  val : i64r e.val
  kind : i64r e.kind
  ref : plainS e.ref = true
  who : plainS e.who = true
  rev : i64r e.rev
  lines : ∀ l ∈ e.lines, plainL l
  len : e.lines.length ≤ 100
  nil : e.lr = true → e.lines = []
end Go.Proofs.YtaefaadjncehmaaGreatDoor.Vm
set_option maxRecDepth 10000
set_option linter.unusedVariables false
set_option linter.unusedSimpArgs false
namespace Go.Proofs.YtaefaadjncehmaaGreatDoor.Vm
open Go Go.Proofs
def iv (l : List Int) : List V := l.map V.i64
theorem iv_len (l : List Int) : (iv l).length = l.length := by simp [iv]
def inI64 (x : Int) : Bool := decide (-9223372036854775808 ≤ x) && decide (x < 9223372036854775808)
theorem reck_add64 (x y : Int) (hx : 0 ≤ x) (hy : 0 ≤ y) (k : Int) (hk0 : 0 ≤ k) (hk : k ≤ 1) : reck Tryz.prog (callFunc 190 #[.int .u64 x, .int .u64 y, .int .u64 k]) =
    some (.value (.tuple #[.int .u64 ((x + y + k) % 18446744073709551616), .int .u64 ((x + y + k) / 18446744073709551616)])) := by
  have key : ∀ k : Nat, k ≤ 1 → reck Tryz.prog (callFunc 190 #[.int .u64 x, .int .u64 y, .int .u64 (k : Int)]) =
      some (.value (Extern.MathBitsCarry.pair ((x.toNat + y.toNat + k) % Extern.MathBitsCarry.m64) ((x.toNat + y.toNat + k) / Extern.MathBitsCarry.m64))) := by
    intro k hk
    have : k = 0 ∨ k = 1 := by omega
    rcases this with rfl | rfl
    · show _ = _; kernel_rfl
    · show _ = _; kernel_rfl
  obtain ⟨k, rfl⟩ := Int.eq_ofNat_of_zero_le hk0
  rw [key k (by omega)]
  obtain ⟨X, rfl⟩ := Int.eq_ofNat_of_zero_le hx
  obtain ⟨Y, rfl⟩ := Int.eq_ofNat_of_zero_le hy
  simp only [Extern.MathBitsCarry.pair, Extern.MathBitsCarry.m64, Int.toNat_natCast]
  congr 5 <;> simp <;> omega
theorem sum_take (l : List Int) (i : Nat) (x : Int) (h : l[i]? = some x) : (l.take (i + 1)).sum = (l.take i).sum + x := by
  rw [List.take_add_one, h, List.sum_append]; simp
theorem sum_bound (l : List Int) (h : ∀ x ∈ l, i64r x) : -(9223372036854775808 * (l.length : Int)) ≤ l.sum ∧ l.sum ≤ 9223372036854775808 * (l.length : Int) := by
  induction l with
  | nil => simp
  | cons a r ih =>
    have h1 := h a (by simp)
    have h2 := ih fun x hx => h x (by simp [hx])
    simp only [i64r] at h1
    simp only [List.sum_cons, List.length_cons]
    omega
theorem numsum_ok (l : List Int) (r : Nat) (hi : ∀ x ∈ l, i64r x) (hl : l.length < 1073741824) : L.pl 136 [.list 3 (iv l) r] = some (.ret (.tup [.i64 (if inI64 l.sum = true then l.sum else 0), .bool (inI64 l.sum)])) := by
  refine W_of (pl_w k136_eq ?_)
  simp only [k136]
  repeat' (first | (simp -implicitDefEqProofs only [ze, zd, simprocAttr, iv_len]) | (with_reducible refine wgd_cases ?_ ?_ <;> intro hb) | (with_reducible refine wcond_cases ?_ ?_ <;> intro hb) | (with_reducible refine qd_i (by kernel_rfl) ?_) | (with_reducible refine W_itn_cases ?_ ?_; omega))
  refine loop_w (fun n tm st nx => ∃ i : Nat, n = l.length - i ∧ i ≤ l.length ∧ tm 11 = .i64 i ∧ tm 10 = .i64 l.length ∧ tm 9 = .list 3 (iv l) r ∧ tm 5 = .sc (.int .u64 ((l.take i).sum % 18446744073709551616)) ∧ tm 4 = .sc (.int .u64 ((l.take i).sum / 18446744073709551616 % 18446744073709551616))) l.length ⟨0, by omega, by omega, ?_, ?_, ?_, ?_, ?_⟩ ?_
  · simp -implicitDefEqProofs only [ze, zd, simprocAttr]; try rfl
  · simp -implicitDefEqProofs only [ze, zd, simprocAttr]
  · simp -implicitDefEqProofs only [ze, zd, simprocAttr]
  · simp -implicitDefEqProofs only [ze, zd, simprocAttr]; try rfl
  · simp -implicitDefEqProofs only [ze, zd, simprocAttr]; try rfl
  rintro n tm st nx ⟨i, hn, hi2, h11, h10, h9, h5, h4⟩
  simp only [k136_l0]
  generalize hS : (l.take i).sum = S at *
  by_cases hlt : i < l.length
  · obtain ⟨x, hx⟩ := get_lt hlt
    have hxr := hi x (List.mem_of_getElem? hx)
    simp only [i64r] at hxr
    have hd : decide ((i : Int) < (l.length : Int)) = true := decide_eq_true (by omega)
    have hs2 := sum_take l i x hx
    rw [hS] at hs2
    have hix : (iv l)[i]? = some (V.i64 x) := by simp [iv, hx]
    have hw : IntKind.u64.wrap x = x % 18446744073709551616 := by rw [IntKind.wrap_u64]
    have hsh := shr_eq x (Nat.min 63 IntKind.i64.bits) 9223372036854775808 (by decide)
    have hw2 : IntKind.u64.wrap (x / 9223372036854775808) = x / 9223372036854775808 % 18446744073709551616 := by rw [IntKind.wrap_u64]
    have ha := reck_add64 (S % 18446744073709551616) (x % 18446744073709551616) (by omega) (by omega) 0 (by omega) (by omega)
    have hb := reck_add64 (S / 18446744073709551616 % 18446744073709551616) (x / 9223372036854775808 % 18446744073709551616) (by omega) (by omega) ((S % 18446744073709551616 + x % 18446744073709551616 + 0) / 18446744073709551616) (by omega) (by omega)
    repeat' (first | (simp -implicitDefEqProofs only [ze, zd, simprocAttr, h11, h10, h9, h5, h4, hd, hix, hw, hsh, hw2, ha, hb]) | (with_reducible refine wgd_cases ?_ ?_ <;> intro hb) | (with_reducible refine wcond_cases ?_ ?_ <;> intro hb) | (with_reducible refine qd_i (by kernel_rfl) ?_) | (with_reducible refine W_itn_cases ?_ ?_; omega))
    exact ⟨l.length - (i + 1), by omega, i + 1, rfl, by omega, up64 (by omega), by rw [hs2]; congr 2; omega, by rw [hs2]; congr 2; omega⟩
  · have hd : decide ((i : Int) < (l.length : Int)) = false := decide_eq_false (by omega)
    repeat' (first | (simp -implicitDefEqProofs only [ze, zd, simprocAttr, h11, h10, h9, h5, h4, hd, k136_t0]) | (with_reducible refine wgd_cases ?_ ?_ <;> intro hb) | (with_reducible refine wcond_cases ?_ ?_ <;> intro hb) | (with_reducible refine qd_i (by kernel_rfl) ?_) | (with_reducible refine W_itn_cases ?_ ?_; omega))
    all_goals
      have hie : i = l.length := by omega
      rw [hie, List.take_length] at hS
      have hbd := sum_bound l hi
      rw [hS] at hbd ⊢
      have hw1 : IntKind.i64.wrap (S % 18446744073709551616) = (if S % 18446744073709551616 < 9223372036854775808 then S % 18446744073709551616 else S % 18446744073709551616 - 18446744073709551616) := by
        rw [IntKind.wrap_i64]; split <;> omega
      have hsh := shr_eq (IntKind.i64.wrap (S % 18446744073709551616)) (Nat.min 63 IntKind.i64.bits) 9223372036854775808 (by decide)
      rw [hsh, IntKind.wrap_u64, hw1] at hb
    · have hin : inI64 S = false := by
        simp only [Bool.not_eq_true', decide_eq_false_iff_not] at hb
        simp only [inI64, Bool.and_eq_false_iff, decide_eq_false_iff_not]
        split at hb <;> omega
      rw [hin]; rfl
    · have hin : inI64 S = true ∧ S = (if S % 18446744073709551616 < 9223372036854775808 then S % 18446744073709551616 else S % 18446744073709551616 - 18446744073709551616) := by
        simp only [Bool.not_eq_false', decide_eq_true_eq] at hb
        simp only [inI64, Bool.and_eq_true, decide_eq_true_eq]
        split at hb <;> split <;> omega
      rw [hw1, hin.1, ← hin.2]; rfl
end Go.Proofs.YtaefaadjncehmaaGreatDoor.Vm
set_option maxRecDepth 10000
set_option linter.unusedVariables false
set_option linter.unusedSimpArgs false
namespace Go.Proofs.YtaefaadjncehmaaGreatDoor.Vm
open Go Go.Proofs
def sumOk (l : List Int) (m : Int) : Bool := inI64 l.sum && within l.sum m
theorem sum_ok (l : List Int) (r : Nat) (m : Int) (hi : ∀ x ∈ l, i64r x) (hl : l.length < 1073741824) (h0 : 0 ≤ m) (h1 : m < 4611686018427387904) : L.pl 205 [.i64 m, .list 3 (iv l) r] = some (.ret (.tup [.i64 (if sumOk l m = true then l.sum else 0), .i64 (if sumOk l m = true then 0 else 4)])) := by
  have hn : ∀ r, L.pl 136 [.list 3 (iv l) r] = some (.ret (.tup [.i64 (if inI64 l.sum = true then l.sum else 0), .bool (inI64 l.sum)])) := fun r => numsum_ok l r hi hl
  refine W_of (pl_w k205_eq ?_)
  simp only [k205]
  cases h : inI64 l.sum with
  | true =>
    simp only [h, if_true] at hn
    repeat' (first | (simp -implicitDefEqProofs only [ze, zd, simprocAttr, hn, within_ok l.sum m h0 h1]) | (with_reducible refine wgd_cases ?_ ?_ <;> intro hb) | (with_reducible refine wcond_cases ?_ ?_ <;> intro hb) | (with_reducible refine qd_i (by kernel_rfl) ?_) | (with_reducible refine W_itn_cases ?_ ?_; omega))
    all_goals simp_all [sumOk]
  | false =>
    simp only [h, Bool.false_eq_true, if_false] at hn
    repeat' (first | (simp -implicitDefEqProofs only [ze, zd, simprocAttr, hn]) | (with_reducible refine wgd_cases ?_ ?_ <;> intro hb) | (with_reducible refine wcond_cases ?_ ?_ <;> intro hb) | (with_reducible refine qd_i (by kernel_rfl) ?_) | (with_reducible refine W_itn_cases ?_ ?_; omega))
    all_goals simp_all [sumOk]
theorem both_ok {st : St} {nx id : Nat} {A B : List Int} {ra rb : Nat} (hid : id < nx) (hc : st id = some (.cells [.list 3 (iv A) ra, .list 3 (iv B) rb])) (hA : ∀ x ∈ A, i64r x) (hB : ∀ x ∈ B, i64r x) (hlA : A.length < 1073741824) (hlB : B.length < 1073741824) (m : Int) (h0 : 0 ≤ m) (h1 : m < 4611686018427387904) :
    W (L.hp 155 [.ptr id 0, .i64 m] st nx) fun r => ∃ nx', r = .ret (.tup [.i64 (if (sumOk A m && sumOk B m) = true then A.sum else 0), .i64 (if (sumOk A m && sumOk B m) = true then B.sum else 0), .i64 (if (sumOk A m && sumOk B m) = true then 0 else 4)]) st nx' ∧ nx ≤ nx' := by
  refine hp_w k155_eq ?_
  simp only [k155]
  have ha := fun r => sum_ok A r m hA hlA h0 h1
  have hb := fun r => sum_ok B r m hB hlB h0 h1
  cases hsA : sumOk A m with
  | true =>
    cases hsB : sumOk B m with
    | true =>
      simp only [hsA, hsB, if_true] at ha hb
      repeat' (first | (simp -implicitDefEqProofs only [ze, zd, simprocAttr, hc, ha, hb]) | (with_reducible refine wgd_cases ?_ ?_ <;> intro hb) | (with_reducible refine wcond_cases ?_ ?_ <;> intro hb) | (with_reducible refine qd_i (by kernel_rfl) ?_) | (with_reducible refine W_itn_cases ?_ ?_; omega))
      all_goals (first | (exact ⟨_, rfl, by omega⟩) | simp_all)
    | false =>
      simp only [hsA, hsB, if_true, Bool.false_eq_true, if_false] at ha hb
      repeat' (first | (simp -implicitDefEqProofs only [ze, zd, simprocAttr, hc, ha, hb]) | (with_reducible refine wgd_cases ?_ ?_ <;> intro hb) | (with_reducible refine wcond_cases ?_ ?_ <;> intro hb) | (with_reducible refine qd_i (by kernel_rfl) ?_) | (with_reducible refine W_itn_cases ?_ ?_; omega))
      all_goals (first | (exact ⟨_, rfl, by omega⟩) | simp_all)
  | false =>
    simp only [hsA, Bool.false_eq_true, if_false] at ha
    repeat' (first | (simp -implicitDefEqProofs only [ze, zd, simprocAttr, hc, ha]) | (with_reducible refine wgd_cases ?_ ?_ <;> intro hb) | (with_reducible refine wcond_cases ?_ ?_ <;> intro hb) | (with_reducible refine qd_i (by kernel_rfl) ?_) | (with_reducible refine W_itn_cases ?_ ?_; omega))
    all_goals (first | (exact ⟨_, rfl, by omega⟩) | simp_all)
structure Col where
  key : ByteArray
  id : Nat
  A : List Int
  B : List Int
  ra : Nat
  rb : Nat
structure ColOk (st : St) (nx : Nat) (c : Col) : Prop where
  cell : st c.id = some (.cells [.list 3 (iv c.A) c.ra, .list 3 (iv c.B) c.rb])
  a : st c.ra = some (.tok c.A.length 3)
  b : st c.rb = some (.tok c.B.length 3)
  ab : c.ra ≠ c.rb
  id_lt : c.id < nx
  a_lt : c.ra < nx
  b_lt : c.rb < nx
  a8 : 8 ≤ c.ra
  b8 : 8 ≤ c.rb
theorem iv_app (A : List Int) (x : Int) : iv (A ++ [x]) = iv A ++ [V.i64 x] := by simp [iv]
theorem add_new {st : St} {nx id : Nat} (k : ByteArray) (hid : id < nx) (h8 : 8 ≤ nx) (hc : st id = some (.cells [.list 0 [] 1, .list 0 [] 1])) (l : Line) :
    W (L.hp 204 [.ptr id 0, encL l] st nx) fun r => ∃ st' nx' ra rb, r = .ret (.tup []) st' nx' ∧ nx ≤ nx' ∧ ColOk st' nx' ⟨k, id, [l.amt], [l.base], ra, rb⟩ ∧ nx ≤ ra ∧ nx ≤ rb ∧ ∀ i, i < nx → i ≠ id → st' i = st i := by
  refine hp_w k204_eq ?_
  simp only [k204, encL]
  have hne : ∀ j, (id = nx + j) = False := fun j => eq_false (by omega)
  have hne0 : (id = nx) = False := eq_false (by omega)
  have hne' : ∀ j, (nx + j = id) = False := fun j => eq_false (by omega)
  have hne0' : (nx = id) = False := eq_false (by omega)
  have hs : ∀ j, (nx = nx + (j + 1)) = False := fun j => eq_false (by omega)
  repeat' (first | (simp -implicitDefEqProofs only [ze, zd, simprocAttr, hc, hne, hne', hne0, hne0', hs]) | (with_reducible refine W_itn_cases ?_ ?_; omega))
  refine qd_i ?_ ?_
  · simp [recsOk, ordB, Rec.free, Rec.wr, disj, List.range, List.range.loop, hne, hne', hne0, hne0']; try decide
  repeat' (first | (simp -implicitDefEqProofs only [ze, zd, simprocAttr, hc, hne, hne', hne0, hne0', hs]) | (with_reducible refine W_itn_cases ?_ ?_; omega))
  refine qd_i ?_ ?_
  · simp [recsOk, ordB, Rec.free, Rec.wr, disj, List.range, List.range.loop, hne, hne', hne0, hne0']; try decide
  simp -implicitDefEqProofs only [ze, zd, simprocAttr]
  refine ⟨_, _, nx + 72, nx + 168, rfl, by omega, ⟨?_, ?_, ?_, ?_, ?_, ?_, ?_, ?_, ?_⟩, by omega, by omega, fun i h1 h2 => ?_⟩
  · simp only [upd_at, if_true]; rfl
  · simp [upd_at, hne']
  · simp [upd_at, hne']
  · show nx + 72 ≠ nx + 168; omega
  · show id < _; omega
  · show nx + 72 < _; omega
  · show nx + 168 < _; omega
  · show 8 ≤ nx + 72; omega
  · show 8 ≤ nx + 168; omega
  · have c1 : ¬ i = nx := by omega
    have c2 : ¬ i = nx + 64 := by omega
    have c3 : ¬ i = nx + 72 := by omega
    have c4 : ¬ i = nx + 160 := by omega
    have c5 : ¬ i = nx + 168 := by omega
    simp [upd_at, h2, c1, c2, c3, c4, c5]
theorem add_old {st : St} {nx : Nat} {c : Col} (h : ColOk st nx c) (l : Line) (hA : c.A.length < 1073741824) (hB : c.B.length < 1073741824) :
    W (L.hp 204 [.ptr c.id 0, encL l] st nx) fun r => ∃ st' nx', r = .ret (.tup []) st' nx' ∧ nx ≤ nx' ∧ ColOk st' nx' ⟨c.key, c.id, c.A ++ [l.amt], c.B ++ [l.base], c.ra, c.rb⟩ ∧ ∀ i, i < nx → i ≠ c.id → i ≠ c.ra → i ≠ c.rb → st' i = st i := by
  obtain ⟨k, id, A, B, ra, rb⟩ := c
  obtain ⟨hc, ha, hb, hab, hid, hal, hbl, ha8, hb8⟩ := h
  simp only at hc ha hb hab hid hal hbl ha8 hb8 hA hB
  refine hp_w k204_eq ?_
  simp only [k204, encL]
  have hne : ∀ j, (id = nx + j) = False := fun j => eq_false (by omega)
  have hne0 : (id = nx) = False := eq_false (by omega)
  have hne' : ∀ j, (nx + j = id) = False := fun j => eq_false (by omega)
  have hne0' : (nx = id) = False := eq_false (by omega)
  have hs : ∀ j, (nx = nx + (j + 1)) = False := fun j => eq_false (by omega)
  have a0 : (ra = 0) = False := eq_false (by omega)
  have a1 : (ra = 1) = False := eq_false (by omega)
  have an : ∀ j, (ra = nx + j) = False := fun j => eq_false (by omega)
  have an' : ∀ j, (nx + j = ra) = False := fun j => eq_false (by omega)
  have an0 : (ra = nx) = False := eq_false (by omega)
  have an0' : (nx = ra) = False := eq_false (by omega)
  have ai : (ra = id) = False := eq_false fun e => by subst e; rw [hc] at ha; cases ha
  have ai' : (id = ra) = False := eq_false fun e => by subst e; rw [hc] at ha; cases ha
  have b0 : (rb = 0) = False := eq_false (by omega)
  have b1 : (rb = 1) = False := eq_false (by omega)
  have bn : ∀ j, (rb = nx + j) = False := fun j => eq_false (by omega)
  have bn' : ∀ j, (nx + j = rb) = False := fun j => eq_false (by omega)
  have bn0 : (rb = nx) = False := eq_false (by omega)
  have bn0' : (nx = rb) = False := eq_false (by omega)
  have bi : (rb = id) = False := eq_false fun e => by subst e; rw [hc] at hb; cases hb
  have bi' : (id = rb) = False := eq_false fun e => by subst e; rw [hc] at hb; cases hb
  have ab : (ra = rb) = False := eq_false hab
  have ab' : (rb = ra) = False := eq_false fun e => hab e.symm
  have il := iv_len A
  have il' := iv_len B
  repeat' (first | (simp -implicitDefEqProofs only [ze, zd, simprocAttr, hc, hne, hne', hne0, hne0', hs, a0, a1, an, an0, an0', bn0', ai, ai', b0, b1, bn, bn0, bi, bi', ab, ab', ha, hb, iv_len]) | (with_reducible refine W_itn_cases ?_ ?_; omega))
  refine qd_i ?_ ?_
  · simp [recsOk, ordB, Rec.free, Rec.wr, disj, List.range, List.range.loop, hne, hne', hne0, hne0', an, an', an0, an0', ai, ai', bn, bn', bn0, bn0', bi, bi', ab, ab']; try decide
  repeat' (first | (simp -implicitDefEqProofs only [ze, zd, simprocAttr, hc, hne, hne', hne0, hne0', hs, a0, a1, an, an0, an0', bn0', ai, ai', b0, b1, bn, bn0, bi, bi', ab, ab', ha, hb, iv_len]) | (with_reducible refine W_itn_cases ?_ ?_; omega))
  refine qd_i ?_ ?_
  · simp [recsOk, ordB, Rec.free, Rec.wr, disj, List.range, List.range.loop, hne, hne', hne0, hne0', an, an', an0, an0', ai, ai', bn, bn', bn0, bn0', bi, bi', ab, ab']; try decide
  simp -implicitDefEqProofs only [ze, zd, simprocAttr]
  refine ⟨_, _, rfl, by omega, ⟨?_, ?_, ?_, hab, ?_, ?_, ?_, ha8, hb8⟩, fun i h1 h2 h3 h4 => ?_⟩
  · simp only [upd_at, if_true, iv_app]
  · simp [upd_at, ai, ab, hab, an]
  · simp [upd_at, bi, ab', bn]
  · show id < _; omega
  · show ra < _; omega
  · show rb < _; omega
  · have c1 : ¬ i = nx := by omega
    have c2 : ¬ i = nx + 64 := by omega
    have c4 : ¬ i = nx + 160 := by omega
    simp [upd_at, h2, h3, h4, c1, c2, c4]
end Go.Proofs.YtaefaadjncehmaaGreatDoor.Vm
set_option maxRecDepth 10000
set_option linter.unusedVariables false
set_option linter.unusedSimpArgs false
namespace Go.Proofs.YtaefaadjncehmaaGreatDoor.Vm
open Go Go.Proofs
def names (cs : List Col) : List Nat := cs.flatMap fun c => [c.id, c.ra, c.rb]
def ents (cs : List Col) : List (V × V) := cs.map fun c => (V.str c.key, V.ptr c.id 0)
structure Cols (st : St) (nx mid : Nat) (cs : List Col) : Prop where
  tab : st mid = some (.map (ents cs) true)
  lt : mid < nx
  ok : ∀ c ∈ cs, ColOk st nx c
  nd : (names cs).Nodup
  keys : (cs.map (·.key)).Nodup
theorem ColOk.same {st st' : St} {nx nx' : Nat} {c : Col} (h : ColOk st nx c) (hn : nx ≤ nx') (h1 : st' c.id = st c.id) (h2 : st' c.ra = st c.ra) (h3 : st' c.rb = st c.rb) : ColOk st' nx' c :=
  ⟨by rw [h1]; exact h.cell, by rw [h2]; exact h.a, by rw [h3]; exact h.b, h.ab, by have := h.id_lt; omega, by have := h.a_lt; omega, by have := h.b_lt; omega, h.a8, h.b8⟩
theorem names_lt {st : St} {nx mid : Nat} {cs : List Col} (h : Cols st nx mid cs) : ∀ i ∈ names cs, i < nx := by
  intro i hi
  simp only [names, List.mem_flatMap, List.mem_cons, List.not_mem_nil, or_false] at hi
  obtain ⟨c, hc, h1⟩ := hi
  have := h.ok c hc
  rcases h1 with rfl | rfl | rfl
  · exact this.id_lt
  · exact this.a_lt
  · exact this.b_lt
theorem mid_not {st : St} {nx mid : Nat} {cs : List Col} (h : Cols st nx mid cs) : mid ∉ names cs := by
  intro hi
  simp only [names, List.mem_flatMap, List.mem_cons, List.not_mem_nil, or_false] at hi
  obtain ⟨c, hc, h1⟩ := hi
  have h2 := h.ok c hc
  have h3 := h.tab
  rcases h1 with rfl | rfl | rfl
  · rw [h2.cell] at h3; cases h3
  · rw [h2.a] at h3; cases h3
  · rw [h2.b] at h3; cases h3
theorem Cols.old {st st' : St} {nx nx' mid : Nat} {pre post : List Col} {c c' : Col} (h : Cols st nx mid (pre ++ c :: post)) (hn : nx ≤ nx') (hc : ColOk st' nx' c') (e1 : c'.key = c.key) (e2 : c'.id = c.id) (e3 : c'.ra = c.ra) (e4 : c'.rb = c.rb)
    (hk : ∀ i, i < nx → i ≠ c.id → i ≠ c.ra → i ≠ c.rb → st' i = st i) : Cols st' nx' mid (pre ++ c' :: post) := by
  have hnd := h.nd
  have hmid := mid_not h
  have hcn : ∀ d, d ∈ pre ++ post → ∀ i ∈ [d.id, d.ra, d.rb], i ≠ c.id ∧ i ≠ c.ra ∧ i ≠ c.rb := by
    intro d hd i hi
    have hi' : i ∈ names (pre ++ post) := by simp only [names, List.mem_flatMap]; exact ⟨d, hd, hi⟩
    have hp : (names (pre ++ c :: post)).Perm ([c.id, c.ra, c.rb] ++ names (pre ++ post)) := by
      have : names (pre ++ c :: post) = names pre ++ ([c.id, c.ra, c.rb] ++ names post) := by simp [names]
      rw [this]
      have e : names (pre ++ post) = names pre ++ names post := by simp [names]
      rw [e]
      exact List.perm_append_comm_assoc _ _ _
    have hnd2 := hp.nodup_iff.mp hnd
    rw [List.nodup_append] at hnd2
    have := hnd2.2.2
    exact ⟨fun e => this c.id (by simp) i hi' e.symm, fun e => this c.ra (by simp) i hi' e.symm, fun e => this c.rb (by simp) i hi' e.symm⟩
  refine ⟨?_, by have := h.lt; omega, ?_, ?_, ?_⟩
  · have hm : mid ≠ c.id ∧ mid ≠ c.ra ∧ mid ≠ c.rb := by
      have : names (pre ++ c :: post) = names pre ++ ([c.id, c.ra, c.rb] ++ names post) := by simp [names]
      rw [this] at hmid
      simp only [List.mem_append, List.mem_cons, List.not_mem_nil, or_false, not_or] at hmid
      exact ⟨hmid.2.1.1, hmid.2.1.2.1, hmid.2.1.2.2⟩
    rw [hk mid h.lt hm.1 hm.2.1 hm.2.2, h.tab]
    simp [ents, e1, e2]
  · intro d hd
    rcases List.mem_append.mp hd with hd | hd
    · have hd2 := h.ok d (List.mem_append.mpr (.inl hd))
      have hx := hcn d (List.mem_append.mpr (.inl hd))
      exact hd2.same hn (hk _ hd2.id_lt (hx _ (by simp)).1 (hx _ (by simp)).2.1 (hx _ (by simp)).2.2) (hk _ hd2.a_lt (hx _ (by simp)).1 (hx _ (by simp)).2.1 (hx _ (by simp)).2.2) (hk _ hd2.b_lt (hx _ (by simp)).1 (hx _ (by simp)).2.1 (hx _ (by simp)).2.2)
    · rcases List.mem_cons.mp hd with rfl | hd
      · exact hc
      · have hd2 := h.ok d (List.mem_append.mpr (.inr (List.mem_cons_of_mem _ hd)))
        have hx := hcn d (List.mem_append.mpr (.inr hd))
        exact hd2.same hn (hk _ hd2.id_lt (hx _ (by simp)).1 (hx _ (by simp)).2.1 (hx _ (by simp)).2.2) (hk _ hd2.a_lt (hx _ (by simp)).1 (hx _ (by simp)).2.1 (hx _ (by simp)).2.2) (hk _ hd2.b_lt (hx _ (by simp)).1 (hx _ (by simp)).2.1 (hx _ (by simp)).2.2)
  · have : names (pre ++ c' :: post) = names (pre ++ c :: post) := by simp [names, e2, e3, e4]
    rw [this]; exact hnd
  · have := h.keys
    simpa [e1] using this
theorem Cols.more {st st' : St} {nx nx' mid : Nat} {cs : List Col} {c : Col} (h : Cols st nx mid cs) (hn : nx ≤ nx') (hc : ColOk st' nx' c) (h1 : nx ≤ c.id) (h2 : nx ≤ c.ra) (h3 : nx ≤ c.rb) (hid : c.id ≠ c.ra ∧ c.id ≠ c.rb) (hkey : ∀ d ∈ cs, d.key ≠ c.key)
    (hm : st' mid = some (.map (ents (cs ++ [c])) true)) (hk : ∀ i ∈ names cs, st' i = st i) : Cols st' nx' mid (cs ++ [c]) := by
  have hlt := names_lt h
  have hmid := mid_not h
  refine ⟨hm, by have := h.lt; omega, ?_, ?_, ?_⟩
  · intro d hd
    rcases List.mem_append.mp hd with hd | hd
    · have hd2 := h.ok d hd
      have hne : ∀ i ∈ [d.id, d.ra, d.rb], i ∈ names cs := fun i hi => by simp only [names, List.mem_flatMap]; exact ⟨d, hd, hi⟩
      exact hd2.same hn (hk _ (hne _ (by simp))) (hk _ (hne _ (by simp))) (hk _ (hne _ (by simp)))
    · have : d = c := by simpa using hd
      subst this; exact hc
  · have e : names (cs ++ [c]) = names cs ++ [c.id, c.ra, c.rb] := by simp [names]
    rw [e, List.nodup_append]
    refine ⟨h.nd, by simp [hid.1, hid.2, hc.ab], ?_⟩
    intro a ha b hb
    have := hlt a ha
    simp only [List.mem_cons, List.not_mem_nil, or_false] at hb
    rcases hb with rfl | rfl | rfl <;> omega
  · rw [List.map_append, List.nodup_append]
    refine ⟨h.keys, by simp, ?_⟩
    intro a ha b hb
    simp only [List.mem_map] at ha
    obtain ⟨d, hd, rfl⟩ := ha
    simp only [List.map_cons, List.map_nil, List.mem_singleton] at hb
    subst hb
    exact hkey d hd
theorem find_no : ∀ (cs : List Col) (k : ByteArray) (j : Nat), (∀ d ∈ cs, d.key ≠ k) → mfind (.string k) (ents cs) j = some none
  | [], _, _, _ => rfl
  | c :: cs, k, j, h => by
    have h1 : ¬ c.key = k := h c (by simp)
    have h2 : ¬ k = c.key := fun e => h1 e.symm
    have hk : keyEq (.string k) (.string c.key) = some false := by simp only [keyEq]; rw [ba_beq, decide_eq_false h2]
    have e : ents (c :: cs) = (V.sc (.string c.key), V.ptr c.id 0) :: ents cs := rfl
    rw [e, mfind, hk]
    exact find_no cs k (j + 1) fun d hd => h d (List.mem_cons_of_mem _ hd)
theorem find_yes : ∀ (pre : List Col) (c : Col) (post : List Col) (j : Nat), (∀ d ∈ pre, d.key ≠ c.key) → mfind (.string c.key) (ents (pre ++ c :: post)) j = some (some (j + pre.length, V.ptr c.id 0))
  | [], c, post, j, _ => by
    have hk : keyEq (.string c.key) (.string c.key) = some true := by simp only [keyEq]; rw [ba_beq]; simp
    have e : ents ([] ++ c :: post) = (V.sc (.string c.key), V.ptr c.id 0) :: ents post := rfl
    rw [e, mfind, hk]; rfl
  | d :: pre, c, post, j, h => by
    have h1 : ¬ d.key = c.key := h d (by simp)
    have h2 : ¬ c.key = d.key := fun e => h1 e.symm
    have hk : keyEq (.string c.key) (.string d.key) = some false := by simp only [keyEq]; rw [ba_beq, decide_eq_false h2]
    have e : ents (d :: pre ++ c :: post) = (V.sc (.string d.key), V.ptr d.id 0) :: ents (pre ++ c :: post) := rfl
    rw [e, mfind, hk]
    show mfind _ _ _ = _
    rw [find_yes pre c post (j + 1) fun x hx => h x (List.mem_cons_of_mem _ hx)]
    simp only [List.length_cons, Option.some.injEq, Prod.mk.injEq, and_true]
    omega
end Go.Proofs.YtaefaadjncehmaaGreatDoor.Vm
set_option maxRecDepth 10000
set_option linter.unusedVariables false
set_option linter.unusedSimpArgs false
namespace Go.Proofs.YtaefaadjncehmaaGreatDoor.Vm
open Go Go.Proofs
def selA (ls : List Line) (k : ByteArray) : List Int := (ls.filter fun l => decide (l.cur = k)).map (·.amt)
def selB (ls : List Line) (k : ByteArray) : List Int := (ls.filter fun l => decide (l.cur = k)).map (·.base)
structure Tab (cs : List Col) (ls : List Line) : Prop where
  a : ∀ c ∈ cs, c.A = selA ls c.key ∧ c.B = selB ls c.key ∧ ∃ l ∈ ls, l.cur = c.key
  b : ∀ l ∈ ls, ∃ c ∈ cs, c.key = l.cur
theorem currency_ok (l : Line) : L.pl 154 [encL l] = some (.ret (.str l.cur)) := by
  refine W_of (pl_w k154_eq ?_)
  simp only [k154, encL]
  repeat' (first | (simp -implicitDefEqProofs only [ze, zd, simprocAttr]) | (with_reducible refine wgd_cases ?_ ?_ <;> intro hb) | (with_reducible refine wcond_cases ?_ ?_ <;> intro hb) | (with_reducible refine qd_i (by kernel_rfl) ?_) | (with_reducible refine W_itn_cases ?_ ?_; omega))
theorem Grow.upd {st : St} {nx nx' e j : Nat} {xs : List V} {v : V} (h : Grow st nx e xs v) (hj : nx ≤ j) (hn : nx ≤ nx') (o : Option Ob) : Grow (upd st j o) nx' e xs v := by
  rcases h with h | ⟨r, h1, h2, h3, h4⟩
  · exact .inl h
  · exact .inr ⟨r, h1, by omega, h3, by rw [upd_at, if_neg (by omega)]; exact h4⟩
theorem Cols.upd {st : St} {nx nx' mid j : Nat} {cs : List Col} (h : Cols st nx mid cs) (hj : nx ≤ j) (hn : nx ≤ nx') (o : Option Ob) : Cols (upd st j o) nx' mid cs :=
  ⟨by rw [upd_at, if_neg (by have := h.lt; omega)]; exact h.tab, by have := h.lt; omega,
   fun c hc => (h.ok c hc).same hn (by rw [upd_at, if_neg (by have := (h.ok c hc).id_lt; omega)]) (by rw [upd_at, if_neg (by have := (h.ok c hc).a_lt; omega)]) (by rw [upd_at, if_neg (by have := (h.ok c hc).b_lt; omega)]), h.nd, h.keys⟩
theorem Cols.le {st : St} {nx nx' mid : Nat} {cs : List Col} (h : Cols st nx mid cs) (hn : nx ≤ nx') : Cols st nx' mid cs :=
  ⟨h.tab, by have := h.lt; omega, fun c hc => (h.ok c hc).same hn rfl rfl rfl, h.nd, h.keys⟩
theorem Grow.le {st : St} {nx nx' e : Nat} {xs : List V} {v : V} (h : Grow st nx e xs v) (hn : nx ≤ nx') : Grow st nx' e xs v := by
  rcases h with h | ⟨r, h1, h2, h3, h4⟩
  · exact .inl h
  · exact .inr ⟨r, h1, by omega, h3, h4⟩
theorem selA_app (ls : List Line) (l : Line) (k : ByteArray) : selA (ls ++ [l]) k = if l.cur = k then selA ls k ++ [l.amt] else selA ls k := by
  by_cases h : l.cur = k <;> simp [selA, List.filter_append, h]
theorem selB_app (ls : List Line) (l : Line) (k : ByteArray) : selB (ls ++ [l]) k = if l.cur = k then selB ls k ++ [l.base] else selB ls k := by
  by_cases h : l.cur = k <;> simp [selB, List.filter_append, h]
theorem Tab.old {pre post : List Col} {c : Col} {ls : List Line} {l : Line} (h : Tab (pre ++ c :: post) ls) (hk : ((pre ++ c :: post).map (·.key)).Nodup) (e : c.key = l.cur) : Tab (pre ++ ⟨c.key, c.id, c.A ++ [l.amt], c.B ++ [l.base], c.ra, c.rb⟩ :: post) (ls ++ [l]) := by
  have hne : ∀ d, d ∈ pre ∨ d ∈ post → ¬ l.cur = d.key := by
    rw [List.map_append, List.map_cons, List.nodup_append] at hk
    intro d hd e2
    rcases hd with hd | hd
    · exact hk.2.2 d.key (List.mem_map_of_mem hd) c.key (by simp) (by rw [← e2, e])
    · have := hk.2.1
      rw [List.nodup_cons] at this
      exact this.1 (List.mem_map.mpr ⟨d, hd, by rw [← e2, e]⟩)
  have old : ∀ d, d ∈ pre ∨ d ∈ post → d.A = selA (ls ++ [l]) d.key ∧ d.B = selB (ls ++ [l]) d.key ∧ ∃ l2 ∈ ls ++ [l], l2.cur = d.key := by
    intro d hd
    have hd2 := h.a d (by rcases hd with hd | hd; exact List.mem_append.mpr (.inl hd); exact List.mem_append.mpr (.inr (List.mem_cons_of_mem _ hd)))
    rw [selA_app, selB_app, if_neg (hne d hd), if_neg (hne d hd)]
    obtain ⟨g1, g2, l2, g3, g4⟩ := hd2
    exact ⟨g1, g2, l2, List.mem_append.mpr (.inl g3), g4⟩
  refine ⟨fun d hd => ?_, fun l2 hl2 => ?_⟩
  · rcases List.mem_append.mp hd with hd | hd
    · exact old d (.inl hd)
    · rcases List.mem_cons.mp hd with rfl | hd
      · have hc := h.a c (by simp)
        refine ⟨?_, ?_, l, by simp, e.symm⟩
        · show c.A ++ [l.amt] = selA (ls ++ [l]) c.key; rw [selA_app, if_pos e.symm, hc.1]
        · show c.B ++ [l.base] = selB (ls ++ [l]) c.key; rw [selB_app, if_pos e.symm, hc.2.1]
      · exact old d (.inr hd)
  · rcases List.mem_append.mp hl2 with hl2 | hl2
    · obtain ⟨d, hd, hd2⟩ := h.b l2 hl2
      rcases List.mem_append.mp hd with hd | hd
      · exact ⟨d, List.mem_append.mpr (.inl hd), hd2⟩
      · rcases List.mem_cons.mp hd with rfl | hd
        · exact ⟨_, List.mem_append.mpr (.inr List.mem_cons_self), hd2⟩
        · exact ⟨d, List.mem_append.mpr (.inr (List.mem_cons_of_mem _ hd)), hd2⟩
    · have : l2 = l := by simpa using hl2
      subst this
      exact ⟨_, List.mem_append.mpr (.inr List.mem_cons_self), e⟩
theorem Tab.more {cs : List Col} {ls : List Line} {l : Line} (h : Tab cs ls) (hno : ∀ d ∈ cs, d.key ≠ l.cur) (id ra rb : Nat) : Tab (cs ++ [⟨l.cur, id, [l.amt], [l.base], ra, rb⟩]) (ls ++ [l]) := by
  have hnl : ∀ l2 ∈ ls, ¬ l2.cur = l.cur := fun l2 hl2 e => by
    obtain ⟨d, hd, hd2⟩ := h.b l2 hl2
    exact hno d hd (by rw [hd2, e])
  refine ⟨fun d hd => ?_, fun l2 hl2 => ?_⟩
  · rcases List.mem_append.mp hd with hd | hd
    · have hd2 := h.a d hd
      have hne : ¬ l.cur = d.key := fun e => hno d hd e.symm
      rw [selA_app, selB_app, if_neg hne, if_neg hne]
      obtain ⟨g1, g2, l2, g3, g4⟩ := hd2
      exact ⟨g1, g2, l2, List.mem_append.mpr (.inl g3), g4⟩
    · have : d = ⟨l.cur, id, [l.amt], [l.base], ra, rb⟩ := by simpa using hd
      subst this
      refine ⟨?_, ?_, l, by simp, rfl⟩
      · show [l.amt] = selA (ls ++ [l]) l.cur
        rw [selA_app, if_pos rfl]
        have : selA ls l.cur = [] := by simp only [selA, List.map_eq_nil_iff, List.filter_eq_nil_iff]; intro a ha; simpa using hnl a ha
        rw [this]; rfl
      · show [l.base] = selB (ls ++ [l]) l.cur
        rw [selB_app, if_pos rfl]
        have : selB ls l.cur = [] := by simp only [selB, List.map_eq_nil_iff, List.filter_eq_nil_iff]; intro a ha; simpa using hnl a ha
        rw [this]; rfl
  · rcases List.mem_append.mp hl2 with hl2 | hl2
    · obtain ⟨d, hd, hd2⟩ := h.b l2 hl2
      exact ⟨d, List.mem_append.mpr (.inl hd), hd2⟩
    · have : l2 = l := by simpa using hl2
      subst this
      exact ⟨⟨l2.cur, id, [l2.amt], [l2.base], ra, rb⟩, List.mem_append.mpr (.inr (List.mem_singleton.mpr rfl)), rfl⟩
theorem Grow.keep {st st' : St} {nx nx' : Nat} {xs : List V} {v : V} {c : Col} (h : Grow st nx 9 xs v) (hc : ColOk st nx c) (hn : nx ≤ nx') (hk : ∀ i, i < nx → i ≠ c.id → i ≠ c.ra → i ≠ c.rb → st' i = st i) : Grow st' nx' 9 xs v := by
  rcases h with h | ⟨r, h1, h2, h3, h4⟩
  · exact .inl h
  · refine .inr ⟨r, h1, by omega, h3, ?_⟩
    rw [hk r h2 (fun e => by rw [e, hc.cell] at h4; cases h4) (fun e => by rw [e, hc.a] at h4; simp at h4) (fun e => by rw [e, hc.b] at h4; simp at h4)]
    exact h4
theorem sel_len (ls : List Line) (k : ByteArray) : (selA ls k).length ≤ ls.length ∧ (selB ls k).length ≤ ls.length := by
  simp only [selA, selB, List.length_map]
  exact ⟨List.length_filter_le _ _, List.length_filter_le _ _⟩
theorem columns_ok (ls : List Line) (r : Nat) {st : St} {nx : Nat} (h8 : 8 ≤ nx) (hl : ls.length < 1000000) :
    W (L.hp 153 [.list 49 (ls.map encL) r, .fn (.func 154) [] []] st nx) fun q => ∃ st' nx' mid cs v, q = .ret (.tup [.map mid, v]) st' nx' ∧ nx ≤ nx' ∧ cs.length ≤ ls.length ∧ Cols st' nx' mid cs ∧ Tab cs ls ∧ Grow st' nx' 9 (cs.map fun c => V.str c.key) v := by
  refine hp_w k153_eq ?_
  simp only [k153]
  repeat' (first | (simp -implicitDefEqProofs only [ze, zd, simprocAttr, List.length_map]) | (with_reducible refine wgd_cases ?_ ?_ <;> intro hb) | (with_reducible refine wcond_cases ?_ ?_ <;> intro hb) | (with_reducible refine qd_i (by kernel_rfl) ?_) | (with_reducible refine W_itn_cases ?_ ?_; omega))
  refine loop_w (fun n tm st' nx' => ∃ (i mid : Nat) (cs : List Col) (v : V), n = ls.length - i ∧ i ≤ ls.length ∧ tm 14 = .i64 i ∧ tm 13 = .i64 ls.length ∧ tm 12 = .list 49 (ls.map encL) r ∧ tm 1 = .fn (.func 154) [] [] ∧ tm 6 = .map mid ∧ tm 7 = v ∧ nx ≤ nx' ∧ cs.length ≤ i ∧
      Cols st' nx' mid cs ∧ Tab cs (ls.take i) ∧ Grow st' nx' 9 (cs.map fun c => V.str c.key) v) ls.length ⟨0, nx + 16, [], _, by omega, by omega, ?_, ?_, ?_, ?_, ?_, rfl, by omega, Nat.le_refl _, ?_, ?_, ?_⟩ ?_
  · simp -implicitDefEqProofs only [ze, zd, simprocAttr]; try rfl
  · simp -implicitDefEqProofs only [ze, zd, simprocAttr]
  · simp -implicitDefEqProofs only [ze, zd, simprocAttr]
  · simp -implicitDefEqProofs only [ze, zd, simprocAttr]
  · simp -implicitDefEqProofs only [ze, zd, simprocAttr]
  · exact ⟨by simp [upd_at, ents], by omega, by simp, by simp [names], by simp⟩
  · exact ⟨by simp, by simp⟩
  · exact .inl ⟨rfl, by simp -implicitDefEqProofs only [ze, zd, simprocAttr]⟩
  rintro n tm st' nx' ⟨i, mid, cs, v, hn, hi2, h14, h13, h12, h1, h6, h7, hnx, hcl, hcs, htab, hg⟩
  simp only [k153_l0]
  have hmlt := hcs.lt
  by_cases hlt : i < ls.length
  · obtain ⟨l, hl2⟩ := get_lt hlt
    have hd : decide ((i : Int) < (ls.length : Int)) = true := decide_eq_true (by omega)
    have hcur := currency_ok l
    simp only [encL] at hcur
    have e1 : ls.take (i + 1) = ls.take i ++ [l] := by rw [List.take_add_one, hl2]; rfl
    have hm : ∀ j, (mid = nx' + j) = False := fun j => eq_false (by omega)
    have hm' : ∀ j, (nx' + j = mid) = False := fun j => eq_false (by omega)
    have hs : ∀ j, (nx' = nx' + (j + 1)) = False := fun j => eq_false (by omega)
    have hxc := fun (st : St) (i0 nx : Nat) (l : List V) => xcall_pl (P := Tryz.prog) (E := L) (st := st) (i0 := i0) (nx := nx) (g := 154) (l := l) (by kernel_rfl) rfl
    by_cases hin : ∃ c ∈ cs, c.key = l.cur
    · obtain ⟨c, hc, hck⟩ := hin
      obtain ⟨pre, post, rfl⟩ := List.append_of_mem hc
      have hpre : ∀ d ∈ pre, d.key ≠ c.key := by
        have := hcs.keys
        rw [List.map_append, List.nodup_append] at this
        intro d hd e
        exact this.2.2 d.key (List.mem_map_of_mem hd) c.key (by simp) e
      have hf := find_yes pre c post 0 hpre
      rw [hck] at hf
      have htb := hcs.tab
      repeat' (first | (simp -implicitDefEqProofs only [ze, zd, simprocAttr, h14, h13, h12, h1, h6, h7, hd, hl2, encL, hxc, hcur, nr_pur, hm, htb, hf]) | (with_reducible refine wgd_cases ?_ ?_ <;> intro hb) | (with_reducible refine wcond_cases ?_ ?_ <;> intro hb) | (with_reducible refine qd_i (by kernel_rfl) ?_) | (with_reducible refine W_itn_cases ?_ ?_; omega))
      have hcs2 := (hcs.upd (j := nx' + 24) (nx' := nx') (by omega) (Nat.le_refl _) (some (Ob.cells [V.sc (Value.string { data := #[] }), V.sc (Value.string { data := #[] }), V.sc (Value.int IntKind.i64 0), V.sc (Value.int IntKind.i64 0), V.sc (Value.string { data := #[] }), V.sc (Value.string { data := #[] }), V.list 0 [] 1]))).upd (j := nx' + 24) (nx' := nx' + 144) (by omega) (by omega) (some (Ob.cells [V.str l.acc, V.str l.cur, V.i64 l.amt, V.i64 l.base, V.str l.par, V.str l.pty, V.list (te l.tr 202) (List.map encT l.tags) (nr l.tr)]))
      have hca := htab.a c hc
      have hsl := sel_len (ls.take i) c.key
      have htl : (ls.take i).length ≤ ls.length := by rw [List.length_take]; omega
      refine W_hp (add_old (hcs2.ok c hc) l (by rw [hca.1]; omega) (by rw [hca.2.1]; omega)) ?_
      rintro _ ⟨sa, na, rfl, hna, hco, hka⟩
      repeat' (first | (simp -implicitDefEqProofs only [ze, zd, simprocAttr, h14, h13, h12, h1, h6, h7]) | (with_reducible refine wgd_cases ?_ ?_ <;> intro hb) | (with_reducible refine wcond_cases ?_ ?_ <;> intro hb) | (with_reducible refine qd_i (by kernel_rfl) ?_) | (with_reducible refine W_itn_cases ?_ ?_; omega))
      refine ⟨ls.length - (i + 1), by omega, i + 1, mid, pre ++ ⟨c.key, c.id, c.A ++ [l.amt], c.B ++ [l.base], c.ra, c.rb⟩ :: post, v, rfl, by omega, up64 (by omega), rfl, rfl, by omega, by simp only [List.length_append, List.length_cons] at hcl ⊢; omega, ?_, ?_, ?_⟩
      · exact (hcs2.old hna hco rfl rfl rfl rfl hka).le (by omega)
      · rw [e1]; exact htab.old hcs.keys hck
      · have hg2 := (hg.upd (j := nx' + 24) (nx' := nx') (by omega) (Nat.le_refl _) (some (Ob.cells [V.sc (Value.string { data := #[] }), V.sc (Value.string { data := #[] }), V.sc (Value.int IntKind.i64 0), V.sc (Value.int IntKind.i64 0), V.sc (Value.string { data := #[] }), V.sc (Value.string { data := #[] }), V.list 0 [] 1]))).upd (j := nx' + 24) (nx' := nx' + 144) (by omega) (by omega) (some (Ob.cells [V.str l.acc, V.str l.cur, V.i64 l.amt, V.i64 l.base, V.str l.par, V.str l.pty, V.list (te l.tr 202) (List.map encT l.tags) (nr l.tr)]))
        have hg3 := hg2.keep (hcs2.ok c hc) hna hka
        have e3 : (pre ++ ⟨c.key, c.id, c.A ++ [l.amt], c.B ++ [l.base], c.ra, c.rb⟩ :: post).map (fun c => V.str c.key) = (pre ++ c :: post).map fun c => V.str c.key := by simp
        rw [e3]
        exact hg3.le (by omega)
    · have hno : ∀ d ∈ cs, d.key ≠ l.cur := fun d hd e => hin ⟨d, hd, e⟩
      have hf := find_no cs l.cur 0 hno
      have hf2 : ∀ n2, mfind (.string l.cur) (ents cs ++ [(V.sc (.string l.cur), V.ptr n2 0)]) 0 = some (some (cs.length, V.ptr n2 0)) := fun n2 => by
        have := find_yes cs ⟨l.cur, n2, [], [], 0, 0⟩ [] 0 hno
        simpa [ents] using this
      have htb := hcs.tab
      have kl : (cs.map fun c => V.str c.key).length = cs.length := by simp
      rcases hg with ⟨hgn, rfl⟩ | ⟨rk, hk8, hkn, rfl, hkt⟩
      · have hcn : cs = [] := by simpa using hgn
        subst hcn
        simp only [ents, List.map_nil, List.nil_append] at hf hf2 htb
        repeat' (first | (simp -implicitDefEqProofs only [ze, zd, simprocAttr, h14, h13, h12, h1, h6, h7, hd, hl2, encL, hxc, hcur, nr_pur, hm, hm', hs, htb, hf, hf2]) | (with_reducible refine wgd_cases ?_ ?_ <;> intro hb) | (with_reducible refine wcond_cases ?_ ?_ <;> intro hb) | (with_reducible refine qd_i (by kernel_rfl) ?_) | (with_reducible refine W_itn_cases ?_ ?_; omega))
        refine W_hp (add_new l.cur (by omega) (by omega) (by simp [upd_at, hm, hm', hs]) l) ?_
        rintro _ ⟨sa, na, ra, rb, rfl, hna, hco, hra, hrb, hka⟩
        repeat' (first | (simp -implicitDefEqProofs only [ze, zd, simprocAttr, h14, h13, h12, h1, h6, h7]) | (with_reducible refine wgd_cases ?_ ?_ <;> intro hb) | (with_reducible refine wcond_cases ?_ ?_ <;> intro hb) | (with_reducible refine qd_i (by kernel_rfl) ?_) | (with_reducible refine W_itn_cases ?_ ?_; omega))
        refine ⟨ls.length - (i + 1), by omega, i + 1, mid, [] ++ [⟨l.cur, nx' + 128, [l.amt], [l.base], ra, rb⟩], _, rfl, by omega, up64 (by omega), rfl, rfl, by omega, by simp, ?_, ?_, ?_⟩
        · refine (hcs.more (by omega) hco (Nat.le_add_right _ _) (show nx' ≤ ra by omega) (show nx' ≤ rb by omega) ⟨by show nx' + 128 ≠ ra; omega, by show nx' + 128 ≠ rb; omega⟩ (by simp) ?_ (by simp [names])).le (Nat.le_add_right _ _)
          rw [hka mid (by omega) (by omega)]
          simp [upd_at, hm, ents]
        · rw [e1]; exact htab.more hno _ _ _
        · refine .inr ⟨nx' + 168, by omega, by omega, rfl, ?_⟩
          rw [hka _ (by omega) (by omega)]
          simp [upd_at]
      · have hr0 : (rk = 0) = False := eq_false (by omega)
        have hr1 : (rk = 1) = False := eq_false (by omega)
        have hrn : ∀ j, (rk = nx' + j) = False := fun j => eq_false (by omega)
        have hrn' : ∀ j, (nx' + j = rk) = False := fun j => eq_false (by omega)
        have hrm : (rk = mid) = False := eq_false fun e => by rw [e, hcs.tab] at hkt; cases hkt
        have hrm' : (mid = rk) = False := eq_false fun e => by rw [← e, hcs.tab] at hkt; cases hkt
        rw [kl] at hkt
        repeat' (first | (simp -implicitDefEqProofs only [ze, zd, simprocAttr, h14, h13, h12, h1, h6, h7, hd, hl2, encL, hxc, hcur, nr_pur, hm, hm', hs, htb, hf, hf2, hr0, hr1, hrn, hrn', hrm, hrm', hkt, kl, List.length_map]) | (with_reducible refine wgd_cases ?_ ?_ <;> intro hb) | (with_reducible refine wcond_cases ?_ ?_ <;> intro hb) | (with_reducible refine qd_i (by kernel_rfl) ?_) | (with_reducible refine W_itn_cases ?_ ?_; omega))
        refine W_hp (add_new l.cur (by omega) (by omega) (by simp [upd_at, hm, hm', hs, hrn, hrn']) l) ?_
        rintro _ ⟨sa, na, ra, rb, rfl, hna, hco, hra, hrb, hka⟩
        repeat' (first | (simp -implicitDefEqProofs only [ze, zd, simprocAttr, h14, h13, h12, h1, h6, h7]) | (with_reducible refine wgd_cases ?_ ?_ <;> intro hb) | (with_reducible refine wcond_cases ?_ ?_ <;> intro hb) | (with_reducible refine qd_i (by kernel_rfl) ?_) | (with_reducible refine W_itn_cases ?_ ?_; omega))
        refine ⟨ls.length - (i + 1), by omega, i + 1, mid, cs ++ [⟨l.cur, nx' + 128, [l.amt], [l.base], ra, rb⟩], _, rfl, by omega, up64 (by omega), rfl, rfl, by omega, by simp; omega, ?_, ?_, ?_⟩
        · refine (hcs.more (by omega) hco (Nat.le_add_right _ _) (show nx' ≤ ra by omega) (show nx' ≤ rb by omega) ⟨by show nx' + 128 ≠ ra; omega, by show nx' + 128 ≠ rb; omega⟩ hno ?_ ?_).le (Nat.le_add_right _ _)
          · rw [hka mid (by omega) (by omega)]
            simp [upd_at, hm, hrm', ents]
          · intro j hj
            have h1 := names_lt hcs j hj
            have h2 : ¬ j = mid := fun e => mid_not hcs (e ▸ hj)
            have h3 : ¬ j = rk := fun e => by
              subst e
              simp only [names, List.mem_flatMap, List.mem_cons, List.not_mem_nil, or_false] at hj
              obtain ⟨c, hc, h5⟩ := hj
              have h6 := hcs.ok c hc
              rcases h5 with e | e | e
              · rw [e, h6.cell] at hkt; cases hkt
              · rw [e, h6.a] at hkt; simp at hkt
              · rw [e, h6.b] at hkt; simp at hkt
            have h4 : ∀ k, ¬ j = nx' + k := fun k => by omega
            rw [hka j (by omega) (h4 _)]
            simp [upd_at, h2, h3, h4]
        · rw [e1]; exact htab.more hno _ _ _
        · refine .inr ⟨rk, by omega, by omega, by simp, ?_⟩
          rw [hka _ (by omega) (by omega)]
          simp [upd_at]
  · have hd : decide ((i : Int) < (ls.length : Int)) = false := decide_eq_false (by omega)
    have hie : i = ls.length := by omega
    rw [hie, List.take_length] at htab
    repeat' (first | (simp -implicitDefEqProofs only [ze, zd, simprocAttr, h14, h13, h6, h7, hd, k153_t0]) | (with_reducible refine wgd_cases ?_ ?_ <;> intro hb) | (with_reducible refine wcond_cases ?_ ?_ <;> intro hb) | (with_reducible refine qd_i (by kernel_rfl) ?_) | (with_reducible refine W_itn_cases ?_ ?_; omega))
    exact ⟨_, _, mid, cs, v, rfl, by omega, by omega, hcs.le (by omega), htab, hg.le (by omega)⟩
end Go.Proofs.YtaefaadjncehmaaGreatDoor.Vm
set_option maxRecDepth 10000
set_option linter.unusedVariables false
set_option linter.unusedSimpArgs false
namespace Go.Proofs.YtaefaadjncehmaaGreatDoor.Vm
open Go Go.Proofs
def okAt (ls : List Line) (k : ByteArray) : Bool := sumOk (selA ls k) 0 && sumOk (selB ls k) 0
def balS (ls : List Line) : Bool := ls.all fun l => okAt ls l.cur
def amts (ls : List Line) : Prop := ∀ l ∈ ls, i64r l.amt ∧ i64r l.base
theorem sel_mem {ls : List Line} (h : amts ls) (k : ByteArray) : (∀ x ∈ selA ls k, i64r x) ∧ ∀ x ∈ selB ls k, i64r x := by
  constructor
  · intro x hx
    simp only [selA, List.mem_map, List.mem_filter] at hx
    obtain ⟨l, ⟨hl, _⟩, rfl⟩ := hx
    exact (h l hl).1
  · intro x hx
    simp only [selB, List.mem_map, List.mem_filter] at hx
    obtain ⟨l, ⟨hl, _⟩, rfl⟩ := hx
    exact (h l hl).2
theorem balanced_ok (ls : List Line) (r : Nat) (ha : amts ls) (hl : ls.length < 1000000) : L.pl 97 [.list 49 (ls.map encL) r] = some (.ret (.bool (balS ls))) := by
  refine W_of (pl_w k97_eq ?_)
  simp only [k97]
  repeat' (first | (simp -implicitDefEqProofs only [ze, zd, simprocAttr]) | (with_reducible refine wgd_cases ?_ ?_ <;> intro hb) | (with_reducible refine wcond_cases ?_ ?_ <;> intro hb) | (with_reducible refine qd_i (by kernel_rfl) ?_) | (with_reducible refine W_itn_cases ?_ ?_; omega))
  refine W_hp (columns_ok ls r (by omega) hl) ?_
  rintro _ ⟨st, nx, mid, cs, v, rfl, hnx, hcl, hcs, htab, hg⟩
  have hbal : (cs.all fun c => okAt ls c.key) = balS ls := by
    rw [Bool.eq_iff_iff, balS, List.all_eq_true, List.all_eq_true]
    constructor
    · intro h l hl
      obtain ⟨c, hc, hk⟩ := htab.b l hl
      rw [← hk]; exact h c hc
    · intro h c hc
      obtain ⟨_, _, l, hl, hk⟩ := htab.a c hc
      rw [← hk]; exact h l hl
  have hlenv : ∃ e xs rk, v = .list e xs rk ∧ xs.length = cs.length ∧ (∀ (i : Nat) (c : Col), cs[i]? = some c → e = 9 ∧ xs[i]? = some (V.str c.key)) := by
    rcases hg with ⟨h1, h2⟩ | ⟨rk, _, _, h3, _⟩
    · have : cs = [] := by simpa using h1
      subst this
      exact ⟨0, [], 1, h2, rfl, fun i c h => by simp at h⟩
    · exact ⟨_, _, rk, h3, by simp, fun i c h => ⟨rfl, by simp [h]⟩⟩
  obtain ⟨e, xs, rk, rfl, hxl, hxs⟩ := hlenv
  repeat' (first | (simp -implicitDefEqProofs only [ze, zd, simprocAttr, hxl]) | (with_reducible refine wgd_cases ?_ ?_ <;> intro hb) | (with_reducible refine wcond_cases ?_ ?_ <;> intro hb) | (with_reducible refine qd_i (by kernel_rfl) ?_) | (with_reducible refine W_itn_cases ?_ ?_; omega))
  refine loop_w (fun n tm st' nx' => ∃ i : Nat, n = cs.length - i ∧ i ≤ cs.length ∧ tm 17 = .i64 i ∧ tm 16 = .i64 cs.length ∧ tm 15 = .list e xs rk ∧ tm 3 = .map mid ∧ st' = st ∧ nx ≤ nx' ∧ ∀ j, j < i → ∀ c, cs[j]? = some c → okAt ls c.key = true) cs.length ⟨0, by omega, by omega, ?_, ?_, ?_, ?_, rfl, by omega, by omega⟩ ?_
  · simp -implicitDefEqProofs only [ze, zd, simprocAttr]; try rfl
  · simp -implicitDefEqProofs only [ze, zd, simprocAttr]
  · simp -implicitDefEqProofs only [ze, zd, simprocAttr]
  · simp -implicitDefEqProofs only [ze, zd, simprocAttr]
  rintro n tm st' nx' ⟨i, hn, hi2, h17, h16, h15, h3, rfl, hnx', hp⟩
  simp only [k97_l0]
  by_cases hlt : i < cs.length
  · obtain ⟨c, hc⟩ := get_lt hlt
    have hcm := List.mem_of_getElem? hc
    obtain ⟨he, hx⟩ := hxs i c hc
    subst he
    have hd : decide ((i : Int) < (cs.length : Int)) = true := decide_eq_true (by omega)
    have hco := hcs.ok c hcm
    obtain ⟨hA, hB, _⟩ := htab.a c hcm
    have hsm := sel_mem ha c.key
    have hsl := sel_len ls c.key
    have htb := hcs.tab
    obtain ⟨pre, post, hsplit⟩ := List.append_of_mem hcm
    have hf : ∃ j, mfind (.string c.key) (ents cs) 0 = some (some (j, V.ptr c.id 0)) := by
      subst hsplit
      refine ⟨_, find_yes pre c post 0 ?_⟩
      have := hcs.keys
      rw [List.map_append, List.nodup_append] at this
      intro d hd e
      exact this.2.2 d.key (List.mem_map_of_mem hd) c.key (by simp) e
    obtain ⟨j, hf⟩ := hf
    repeat' (first | (simp -implicitDefEqProofs only [ze, zd, simprocAttr, h17, h16, h15, h3, hd, hx, htb, hf]) | (with_reducible refine wgd_cases ?_ ?_ <;> intro hb) | (with_reducible refine wcond_cases ?_ ?_ <;> intro hb) | (with_reducible refine qd_i (by kernel_rfl) ?_) | (with_reducible refine W_itn_cases ?_ ?_; omega))
    refine W_hp (both_ok (A := c.A) (B := c.B) (by have := hco.id_lt; omega) hco.cell (by rw [hA]; exact hsm.1) (by rw [hB]; exact hsm.2) (by rw [hA]; omega) (by rw [hB]; omega) 0 (by omega) (by omega)) ?_
    rintro _ ⟨na, rfl, hna⟩
    have hok : (sumOk c.A 0 && sumOk c.B 0) = okAt ls c.key := by rw [hA, hB]; rfl
    rw [hok]
    cases hokv : okAt ls c.key with
    | true =>
      repeat' (first | (simp -implicitDefEqProofs only [ze, zd, simprocAttr, h17, h16, h15, h3]) | (with_reducible refine wgd_cases ?_ ?_ <;> intro hb) | (with_reducible refine wcond_cases ?_ ?_ <;> intro hb) | (with_reducible refine qd_i (by kernel_rfl) ?_) | (with_reducible refine W_itn_cases ?_ ?_; omega))
      refine ⟨cs.length - (i + 1), by omega, i + 1, rfl, by omega, up64 (by omega), by omega, fun j hj d hd2 => ?_⟩
      rcases Nat.lt_succ_iff_lt_or_eq.mp hj with h | rfl
      · exact hp j h d hd2
      · rw [hc] at hd2; obtain rfl := Option.some.inj hd2; exact hokv
    | false =>
      repeat' (first | (simp -implicitDefEqProofs only [ze, zd, simprocAttr, h17, h16, h15, h3]) | (with_reducible refine wgd_cases ?_ ?_ <;> intro hb) | (with_reducible refine wcond_cases ?_ ?_ <;> intro hb) | (with_reducible refine qd_i (by kernel_rfl) ?_) | (with_reducible refine W_itn_cases ?_ ?_; omega))
      exact ret_b (by rw [← hbal]; exact (all_not hc hokv).symm)
  · have hd : decide ((i : Int) < (cs.length : Int)) = false := decide_eq_false (by omega)
    repeat' (first | (simp -implicitDefEqProofs only [ze, zd, simprocAttr, h17, h16, hd, k97_t0]) | (with_reducible refine wgd_cases ?_ ?_ <;> intro hb) | (with_reducible refine wcond_cases ?_ ?_ <;> intro hb) | (with_reducible refine qd_i (by kernel_rfl) ?_) | (with_reducible refine W_itn_cases ?_ ?_; omega))
    refine ret_b ?_
    rw [← hbal]
    exact (all_get fun j hj c hc => hp j (by omega) c hc).symm
def firstS : List Line → Nat → Option (Nat × Int)
  | [], _ => none
  | l :: r, i => if lineS l = 0 then firstS r (i + 1) else some (i, lineS l)
def checkS (e : Entry) : Int × Int :=
  if headS e = 0 then (match firstS e.lines 0 with
    | some (i, er) => ((i : Int), er)
    | none => if balS e.lines then (-1, 0) else (-1, 15))
  else (-1, headS e)
theorem first_none : ∀ (l : List Line) (k : Nat), (∀ j, j < l.length → ∀ x, l[j]? = some x → lineS x = 0) → firstS l k = none
  | [], _, _ => rfl
  | x :: r, k, h => by
    have h0 := h 0 (by simp) x rfl
    rw [firstS, if_pos h0]
    exact first_none r (k + 1) fun j hj y hy => h (j + 1) (by simpa using hj) y (by simpa using hy)
theorem first_some : ∀ (l : List Line) (k i : Nat) (x : Line), (∀ j, j < i → ∀ y, l[j]? = some y → lineS y = 0) → l[i]? = some x → ¬ lineS x = 0 → firstS l k = some (k + i, lineS x)
  | [], _, _, _, _, h, _ => by simp at h
  | y :: r, k, 0, x, _, h, hx => by
    have : y = x := by simpa using h
    subst this
    rw [firstS, if_neg hx]; rfl
  | y :: r, k, i + 1, x, hp, h, hx => by
    have h0 := hp 0 (by omega) y rfl
    rw [firstS, if_pos h0, first_some r (k + 1) i x (fun j hj z hz => hp (j + 1) (by omega) z (by simpa using hz)) (by simpa using h) hx]
    congr 2; omega
theorem check_ok (e : Entry) (hs : smallE e) (ha : amts e.lines) : L.pl 49 [encE e] = some (.ret (.tup [.i64 (checkS e).1, .i64 (checkS e).2])) := by
  have hh := head_ok e hs
  simp only [encE] at hh
  refine W_of (pl_w k49_eq ?_)
  simp only [k49, encE]
  by_cases h0 : headS e = 0
  · have hd0 : decide (headS e = 0) = true := decide_eq_true h0
    have hlen : e.lines.length ≤ 100 := by
      unfold headS at h0
      repeat' (split at h0 <;> first | omega | skip)
    have hlr : e.lr = false := by
      cases h : e.lr
      · rfl
      · have h1 := hs.nil h
        unfold headS at h0
        rw [h1] at h0
        repeat' (split at h0 <;> first | omega | skip)
        all_goals simp_all
    rw [hlr] at hh ⊢
    simp only [te_f] at hh ⊢
    have hbl := balanced_ok e.lines (nr false) ha (by omega)
    repeat' (first | (simp -implicitDefEqProofs only [ze, zd, simprocAttr, hh, nr_pur, h0, List.length_map]) | (with_reducible refine wgd_cases ?_ ?_ <;> intro hb) | (with_reducible refine wcond_cases ?_ ?_ <;> intro hb) | (with_reducible refine qd_i (by kernel_rfl) ?_) | (with_reducible refine W_itn_cases ?_ ?_; omega))
    refine loop_w (fun n tm st nx => ∃ i : Nat, n = e.lines.length - i ∧ i ≤ e.lines.length ∧ tm 16 = .i64 i ∧ tm 15 = .i64 e.lines.length ∧ tm 14 = .list 49 (e.lines.map encL) (nr false) ∧ tm 1 = .ptr 8 0 ∧ 9 ≤ nx ∧ st 8 = some (.cells [.i64 e.no, .str e.ent, .i64 e.book, .i64 e.val, .i64 e.kind, .str e.ref, .str e.who, .i64 e.rev, .list 49 (e.lines.map encL) (nr false)]) ∧
      ∀ j, j < i → ∀ x, e.lines[j]? = some x → lineS x = 0) e.lines.length ⟨0, by omega, by omega, ?_, ?_, ?_, ?_, by omega, ?_, by omega⟩ ?_
    · simp -implicitDefEqProofs only [ze, zd, simprocAttr]; try rfl
    · simp -implicitDefEqProofs only [ze, zd, simprocAttr]
    · simp -implicitDefEqProofs only [ze, zd, simprocAttr]
    · simp -implicitDefEqProofs only [ze, zd, simprocAttr]
    · simp -implicitDefEqProofs only [ze, zd, simprocAttr]
    rintro n tm st nx ⟨i, hn, hi2, h16, h15, h14, h1, hnx, hst, hp⟩
    simp only [k49_l0]
    have hnx8 : ∀ j, (8 = nx + j) = False := fun j => eq_false (by omega)
    by_cases hlt : i < e.lines.length
    · obtain ⟨l, hl⟩ := get_lt hlt
      have hd : decide ((i : Int) < (e.lines.length : Int)) = true := decide_eq_true (by omega)
      have hli := line_ok l (hs.lines l (List.mem_of_getElem? hl))
      simp only [encL] at hli
      by_cases hz : lineS l = 0
      · have hdz : decide (lineS l = 0) = true := decide_eq_true hz
        repeat' (first | (simp -implicitDefEqProofs only [ze, zd, simprocAttr, h16, h15, h14, h1, hd, hl, encL, nr_pur, hli, hdz, hnx8, hst]) | (with_reducible refine wgd_cases ?_ ?_ <;> intro hb) | (with_reducible refine wcond_cases ?_ ?_ <;> intro hb) | (with_reducible refine qd_i (by kernel_rfl) ?_) | (with_reducible refine W_itn_cases ?_ ?_; omega))
        refine ⟨e.lines.length - (i + 1), by omega, i + 1, rfl, by omega, up64 (by omega), fun j hj x hx => ?_⟩
        rcases Nat.lt_succ_iff_lt_or_eq.mp hj with h | rfl
        · exact hp j h x hx
        · rw [hl] at hx; obtain rfl := Option.some.inj hx; exact hz
      · have hdz : decide (lineS l = 0) = false := decide_eq_false hz
        repeat' (first | (simp -implicitDefEqProofs only [ze, zd, simprocAttr, h16, h15, h14, h1, hd, hl, encL, nr_pur, hli, hdz, hnx8, hst]) | (with_reducible refine wgd_cases ?_ ?_ <;> intro hb) | (with_reducible refine wcond_cases ?_ ?_ <;> intro hb) | (with_reducible refine qd_i (by kernel_rfl) ?_) | (with_reducible refine W_itn_cases ?_ ?_; omega))
        have hfs := first_some e.lines 0 i l (fun j hj y hy => hp j hj y hy) hl hz
        rw [Nat.zero_add] at hfs
        simp only [checkS, h0, if_true, hfs]
    · have hd : decide ((i : Int) < (e.lines.length : Int)) = false := decide_eq_false (by omega)
      have hfn := first_none e.lines 0 fun j hj x hx => hp j (by omega) x hx
      repeat' (first | (simp -implicitDefEqProofs only [ze, zd, simprocAttr, h16, h15, h14, h1, hd, hst, hbl, nr_pur, k49_t0]) | (with_reducible refine wgd_cases ?_ ?_ <;> intro hb) | (with_reducible refine wcond_cases ?_ ?_ <;> intro hb) | (with_reducible refine qd_i (by kernel_rfl) ?_) | (with_reducible refine W_itn_cases ?_ ?_; omega))
      all_goals simp_all [checkS]
  · have hd0 : decide (headS e = 0) = false := decide_eq_false h0
    repeat' (first | (simp -implicitDefEqProofs only [ze, zd, simprocAttr, hh, nr_pur, hd0]) | (with_reducible refine wgd_cases ?_ ?_ <;> intro hb) | (with_reducible refine wcond_cases ?_ ?_ <;> intro hb) | (with_reducible refine qd_i (by kernel_rfl) ?_) | (with_reducible refine W_itn_cases ?_ ?_; omega))
    all_goals simp_all [checkS]
end Go.Proofs.YtaefaadjncehmaaGreatDoor.Vm
set_option maxRecDepth 10000
set_option linter.unusedVariables false
set_option linter.unusedSimpArgs false
namespace Go.Proofs.YtaefaadjncehmaaGreatDoor.Vm
open Go Go.Proofs
theorem ch_pr (b : UInt8) (h : isCh b = true) : isPr b = true := by
  simp only [isCh, isLet, isDig, isPr, Bool.or_eq_true, Bool.and_eq_true, decide_eq_true_eq] at h ⊢; omega
theorem code_plain {s : ByteArray} (h : codeS s = true) : plainS s = true := by
  simp only [codeS, Bool.and_eq_true, decide_eq_true_eq] at h
  simp only [plainS, Bool.and_eq_true, decide_eq_true_eq]
  refine ⟨by omega, ?_⟩
  rw [List.all_eq_true] at h ⊢
  exact fun b hb => ch_pr b (h.2 b hb)
theorem empty_plain {s : ByteArray} (h : s.size = 0) : plainS s = true := by
  rw [size_zero.mpr h]; rfl
theorem opt_plain {s : ByteArray} (h : optS s = true) : plainS s = true := by
  simp only [optS, Bool.or_eq_true, decide_eq_true_eq] at h
  rcases h with h | h
  · exact empty_plain h
  · exact code_plain h
theorem cur_plain {s : ByteArray} (h : curS s = true) : plainS s = true := by
  simp only [curS, Bool.and_eq_true, decide_eq_true_eq] at h
  simp only [plainS, Bool.and_eq_true, decide_eq_true_eq]
  refine ⟨by omega, ?_⟩
  rw [List.all_eq_true] at h ⊢
  intro b hb
  have := h.2 b hb
  simp only [isUp, isPr, Bool.and_eq_true, decide_eq_true_eq] at this ⊢; omega
theorem line_plain {l : Line} (h : lineS l = 0) (ha : i64r l.amt ∧ i64r l.base) (hn : nilL l) : plainL l := by
  unfold lineS at h
  split at h
  · cases h
  split at h
  · cases h
  split at h
  · cases h
  split at h
  · cases h
  split at h
  · cases h
  rename_i h1 h2 h3 h4 h5
  simp only [Bool.not_eq_false, Bool.and_eq_true] at h1 h2 h3 h5
  simp only [rightS, Bool.and_eq_true, decide_eq_true_eq] at h5
  refine ⟨code_plain h1.1.1, cur_plain h2, ha.1, ha.2, opt_plain h1.1.2, opt_plain h1.2, fun t ht => ?_, by omega, hn⟩
  obtain ⟨j, hj, rfl⟩ := List.getElem_of_mem ht
  have h6 := List.all_eq_true.mp h5.2 j (List.mem_range.mpr hj)
  simp only [tagAt, List.getElem?_eq_getElem hj, Bool.and_eq_true, tagS] at h6
  exact ⟨code_plain h6.1.1, code_plain h6.1.2⟩
theorem first_all : ∀ (l : List Line) (k : Nat), firstS l k = none → ∀ x ∈ l, lineS x = 0
  | [], _, _ => by simp
  | y :: r, k, h => by
    unfold firstS at h
    split at h
    · rename_i h0
      intro x hx
      rcases List.mem_cons.mp hx with rfl | hx
      · exact h0
      · exact first_all r (k + 1) h x hx
    · cases h
structure rangeE (e : Entry) : Prop where
  no : i64r e.no
  book : i64r e.book
  val : i64r e.val
  kind : i64r e.kind
  rev : i64r e.rev
  amts : amts e.lines
theorem check_plain {e : Entry} (h : (checkS e).2 = 0) (hr : rangeE e) (hn : nilE e) : plainE e := by
  unfold checkS at h
  split at h
  · rename_i h0
    have hfn : firstS e.lines 0 = none := by
      split at h
      · rename_i i er hf
        exfalso
        have : ∀ (l : List Line) (k : Nat), firstS l k = some (i, er) → ¬ er = 0 := by
          intro l
          induction l with
          | nil => intro k h; cases h
          | cons y r ih =>
            intro k h
            unfold firstS at h
            split at h
            · exact ih _ h
            · rename_i hy; simp only [Option.some.injEq, Prod.mk.injEq] at h; rw [← h.2]; exact hy
        exact this _ _ hf h
      · assumption
    have hl := first_all _ _ hfn
    unfold headS at h0
    split at h0
    · cases h0
    split at h0
    · cases h0
    split at h0
    · cases h0
    split at h0
    · cases h0
    split at h0
    · cases h0
    split at h0
    · cases h0
    split at h0
    · cases h0
    rename_i h1 h2 h3 h4 h5 h6 h7
    simp only [Bool.not_eq_false, Bool.and_eq_true] at h2 h5
    exact ⟨hr.no, code_plain h2.1, hr.book, hr.val, hr.kind, h5, code_plain h2.2, hr.rev, fun l hl2 => line_plain (hl l hl2) (hr.amts l hl2) (hn.2 l hl2), by omega, hn.1⟩
  · rename_i h0; exact absurd h h0
end Go.Proofs.YtaefaadjncehmaaGreatDoor.Vm
set_option maxRecDepth 10000
set_option linter.unusedVariables false
set_option linter.unusedSimpArgs false
namespace Go.Proofs.YtaefaadjncehmaaGreatDoor.Vm
open Go Go.Proofs
def sB (l : List Int) : ByteArray := ⟨(l.map fun n => UInt8.ofNat n.toNat).toArray⟩
theorem bytesOfV_bv : ∀ l : List Int, bytesOfV (bv l) = some (l.map fun n => UInt8.ofNat n.toNat)
  | [] => rfl
  | x :: r => by
    have e : bv (x :: r) = V.sc (.int .u8 x) :: bv r := rfl
    rw [e, bytesOfV, bytesOfV_bv r]; rfl
def inR (l : List Int) : Prop := ∀ b ∈ l, 0 ≤ b ∧ b < 256
theorem sB_inj {a b : List Int} (ha : inR a) (hb : inR b) (h : sB a = sB b) : a = b := by
  have h1 : (a.map fun n => UInt8.ofNat n.toNat) = b.map fun n => UInt8.ofNat n.toNat := by
    have := congrArg ByteArray.data h
    have := congrArg Array.toList this
    simpa [sB] using this
  have back : ∀ l : List Int, inR l → ((l.map fun n => UInt8.ofNat n.toNat).map fun b : UInt8 => (b.toNat : Int)) = l := by
    intro l hl
    rw [List.map_map]
    conv => rhs; rw [← List.map_id l]
    apply List.map_congr_left
    intro x hx
    have := hl x hx
    show ((UInt8.ofNat x.toNat).toNat : Int) = x
    simp only [UInt8.toNat_ofNat']
    omega
  rw [← back a ha, ← back b hb, h1]
end Go.Proofs.YtaefaadjncehmaaGreatDoor.Vm
set_option linter.unusedVariables false
set_option linter.unusedSimpArgs false
namespace Go.Proofs.YtaefaadjncehmaaGreatDoor.Vm
open Go.ChangeShapes Go.WideShapes Go.ChangeAt Go.RowKit Go.Proofs
theorem RepPs.last {P : Program} {p : Pr} {cs : List Value} {o n : Nat} {xs : List V} (ha : RepPs P p xs ((cs.drop o).take n)) (hl : cs.length ≤ o + n) : RepPs P p xs (cs.drop o) := by
  rwa [List.take_of_length_le (by rw [List.length_drop]; omega)] at ha
section
variable {H : Type} {enc : TypeId × Value → H}
theorem encT_len (t : Tag) : (encT t).cells.length = 2 := rfl
theorem encL_len (l : Line) : (encL l).cells.length = 7 := rfl
end
end Go.Proofs.YtaefaadjncehmaaGreatDoor.Vm
set_option maxRecDepth 10000
set_option linter.unusedVariables false
set_option linter.unusedSimpArgs false
namespace Go.Proofs.YtaefaadjncehmaaGreatDoor.Vm
open Go Go.Proofs
def bOK (bs : List Int) : Prop := ∀ b ∈ bs, 0 ≤ b ∧ b < 256
theorem bOK.drop {bs : List Int} (h : bOK bs) (n : Nat) : bOK (bs.drop n) := fun b hb => h b (List.mem_of_mem_drop hb)
theorem bv_get (bs : List Int) (i : Nat) : (bv bs)[i]? = (bs[i]?).map fun b => V.sc (.int .u8 b) := by simp [bv]
theorem tS_10 (l : List Int) (x : Int) : Co.tS l 10 x = (0, 0, 5) := by cases l <;> simp [Co.tS]
theorem takefin (y : Int) (h0 : 0 ≤ y) (h1 : y < 18446744073709551616) : Go.bits .xor .i64 (IntKind.i64.wrap (y.fdiv (2 ^ Nat.min 1 IntKind.u64.bits))) (IntKind.i64.wrap (0 - IntKind.i64.wrap (Go.bits .and .u64 y 1))) = Co.fin y := by
  rw [shr_eq y _ 2 (by decide)]
  have := Co.fin_xor y h0 h1
  have e : ∀ z, IntKind.i64.wrap z = RowKit.wrap64 z := fun z => by rw [IntKind.wrap_i64]; unfold RowKit.wrap64; omega
  rw [Int.zero_sub, e, e, e]
  exact this
theorem takeint_ok (bs : List Int) (hb : bOK bs) (hl : bs.length < 4611686018427387904) (r : Nat) : L.pl 241 [.list 5 (bv bs) r] = some (.ret (.tup [.i64 (Co.tS bs 0 0).1, .i64 (Co.tS bs 0 0).2.1, .i64 (Co.tS bs 0 0).2.2])) := by
  refine W_of (pl_w k241_eq ?_)
  simp only [k241]
  repeat' (first | (simp -implicitDefEqProofs only [ze, zd, simprocAttr]) | (with_reducible refine wgd_cases ?_ ?_ <;> intro hb) | (with_reducible refine wcond_cases ?_ ?_ <;> intro hb) | (with_reducible refine qd_i (by kernel_rfl) ?_) | (with_reducible refine W_itn_cases ?_ ?_; omega))
  refine loop_w (fun n tm st nx => ∃ (i : Nat) (x : Int), n = 10 - i ∧ i ≤ 10 ∧ i ≤ bs.length ∧ 0 ≤ x ∧ x < 128 ^ i ∧ Co.tS (bs.drop i) i x = Co.tS bs 0 0 ∧ tm 8 = .i64 i ∧ tm 5 = .sc (.int .u64 x) ∧ tm 0 = .list 5 (bv bs) r) 10 ⟨0, 0, by omega, by omega, by omega, by omega, by decide, rfl, ?_, ?_, ?_⟩ ?_
  · simp -implicitDefEqProofs only [ze, zd, simprocAttr]; try rfl
  · simp -implicitDefEqProofs only [ze, zd, simprocAttr]
  · simp -implicitDefEqProofs only [ze, zd, simprocAttr]
  rintro n tm st nx ⟨i, x, hn, hi, hil, hx0, hx1, hts, h8, h5, h0⟩
  simp only [k241_l0, k241_t0]
  by_cases hlt : i < 10
  · have hd : decide ((i : Int) < 10) = true := decide_eq_true (by omega)
    by_cases hend : i = bs.length
    · have hd2 : decide ((i : Int) = (bs.length : Int)) = true := decide_eq_true (by omega)
      have e : bs.drop i = [] := List.drop_eq_nil_of_le (by omega)
      rw [e] at hts
      simp only [Co.tS, if_pos hlt] at hts
      repeat' (first | (simp -implicitDefEqProofs only [ze, zd, simprocAttr, h8, h5, h0, hd, bv_len, hd2, ← hts]) | (with_reducible refine wgd_cases ?_ ?_ <;> intro hb) | (with_reducible refine wcond_cases ?_ ?_ <;> intro hb) | (with_reducible refine qd_i (by kernel_rfl) ?_) | (with_reducible refine W_itn_cases ?_ ?_; omega))
    · have hd2 : decide ((i : Int) = (bs.length : Int)) = false := decide_eq_false (by omega)
      obtain ⟨b, hb1⟩ := get_lt (l := bs) (i := i) (by omega)
      obtain ⟨hb2, hb3⟩ := hb b (List.mem_of_getElem? hb1)
      have e : bs.drop i = b :: bs.drop (i + 1) := by rw [List.drop_eq_getElem_cons (by omega)]; rw [List.getElem?_eq_getElem (by omega)] at hb1; rw [Option.some.inj hb1]
      rw [e] at hts
      simp only [Co.tS, if_pos hlt] at hts
      have hm : IntKind.i64.wrap (7 * (i : Int)) = 7 * (i : Int) := wrap_i64 (by omega) (by omega)
      have hup : IntKind.i64.wrap ((i : Int) + 1) = ((i + 1 : Nat) : Int) := wrap_i64 (by omega) (by omega)
      have hneg : (7 * (i : Int) < 0) = False := eq_false (by omega)
      have hgo : Co.badS i b = false → ∃ y, Go.bits .or .u64 x (IntKind.u64.wrap (IntKind.u64.wrap (Go.bits .and .u8 b 127) * 2 ^ Nat.min (7 * (i : Int)).toNat IntKind.u64.bits)) = y ∧ y = x + b % 128 * 128 ^ i ∧ 0 ≤ y ∧ y < 18446744073709551616 ∧ y < 128 ^ (i + 1) := fun h => by
        obtain ⟨g1, g2⟩ := Co.bad_no h
        obtain ⟨s1, s2, s3⟩ := Co.step_bound i x b hlt hx0 hx1 hb2 hb3 g1
        refine ⟨x + b % 128 * 128 ^ i, ?_, rfl, by omega, s2, s3⟩
        have := Co.or_shift i x b hlt hx0 hx1 hb2 hb3 g1
        rw [Co.w64_small (by omega) (by omega)] at this
        exact this
      repeat' (first | (simp -implicitDefEqProofs only [ze, zd, simprocAttr, h8, h5, h0, hd, hd2, bv_len, bv_get, hb1, hm, hneg, hup]) | (with_reducible refine wgd_cases ?_ ?_ <;> intro hb) | (with_reducible refine wcond_cases ?_ ?_ <;> intro hb) | (with_reducible refine qd_i (by kernel_rfl) ?_) | (with_reducible refine W_itn_cases ?_ ?_; omega))
      all_goals (simp only [decide_eq_true_eq, decide_eq_false_iff_not] at *)
      all_goals first
        | (exfalso; omega)
        | (have hB : Co.badS i b = true := by (simp only [Co.badS, Bool.or_eq_true, Bool.and_eq_true, decide_eq_true_eq]; omega)
           rw [if_pos hB] at hts; rw [← hts])
        | (have hB : Co.badS i b = false := by (simp only [Co.badS, Bool.or_eq_false_iff, Bool.and_eq_false_iff, decide_eq_false_iff_not]; omega)
           obtain ⟨y, hy1, hy2, hy3, hy4, hy5⟩ := hgo hB
           rw [if_neg (by rw [hB]; simp), ← hy2] at hts
           first
           | (rw [if_pos (by assumption)] at hts; rw [← hts, hy1, takefin y hy3 hy4])
           | (rw [if_neg (by assumption)] at hts; exact ⟨10 - (i + 1), by omega, i + 1, y, rfl, by omega, by omega, hy3, hy5, hts, rfl, by rw [hy1]⟩))
  · have : i = 10 := by omega
    subst this
    have hd : decide (((10 : Nat) : Int) < 10) = false := by decide
    rw [tS_10] at hts
    repeat' (first | (simp -implicitDefEqProofs only [ze, zd, simprocAttr, h8, h5, h0, hd, ← hts]) | (with_reducible refine wgd_cases ?_ ?_ <;> intro hb) | (with_reducible refine wcond_cases ?_ ?_ <;> intro hb) | (with_reducible refine qd_i (by kernel_rfl) ?_) | (with_reducible refine W_itn_cases ?_ ?_; omega))
def strB (l : List Int) : ByteArray := ⟨(l.map fun b => UInt8.ofNat b.toNat).toArray⟩
theorem strB_len (l : List Int) : (strB l).size = l.length := by simp [strB, ByteArray.size]
def tT (bs : List Int) : ByteArray × Int × Int :=
  let q := Co.tS bs 0 0
  if q.2.2 ≠ 0 then (ByteArray.mk #[], 0, q.2.2)
  else if q.1 < 0 ∨ 60 < q.1 then (ByteArray.mk #[], 0, 9)
  else if (bs.length : Int) - q.2.1 < q.1 then (ByteArray.mk #[], 0, 6)
  else if plainS (strB ((bs.drop q.2.1.toNat).take q.1.toNat)) = false then (ByteArray.mk #[], 0, 5)
  else (strB ((bs.drop q.2.1.toNat).take q.1.toNat), q.2.1 + q.1, 0)
theorem bytesOfV_bq : ∀ (l : List Int), bytesOfV (bv l) = some (l.map fun b => UInt8.ofNat b.toNat)
  | [] => rfl
  | b :: l => by
    have := bytesOfV_bq l
    simp only [bv] at this
    simp only [bv, List.map_cons, bytesOfV, this, Option.map_some]
theorem bv_tk (l : List Int) (n : Nat) : (bv l).take n = bv (l.take n) := by simp [bv, List.map_take]
theorem bv_dp (l : List Int) (n : Nat) : (bv l).drop n = bv (l.drop n) := by simp [bv, List.map_drop]
theorem taketext_ok (bs : List Int) (hb : bOK bs) (hl : bs.length < 4611686018427387904) (r : Nat) : L.pl 242 [.list 5 (bv bs) r] = some (.ret (.tup [.str (tT bs).1, .i64 (tT bs).2.1, .i64 (tT bs).2.2])) := by
  refine W_of (pl_w k242_eq ?_)
  simp only [k242]
  have hp := Co.tS_pos bs 0 0
  unfold tT
  have ht := takeint_ok bs hb hl
  generalize hq : Co.tS bs 0 0 = q at hp ht ⊢
  obtain ⟨n, at_, e⟩ := q
  simp only at hp ht ⊢
  by_cases he : e = 0
  · subst he
    by_cases hn : n < 0 ∨ 60 < n
    · repeat' (first | (simp -implicitDefEqProofs only [ze, zd, simprocAttr, ht, bv_len]) | (with_reducible refine wgd_cases ?_ ?_ <;> intro hb) | (with_reducible refine wcond_cases ?_ ?_ <;> intro hb) | (with_reducible refine qd_i (by kernel_rfl) ?_) | (with_reducible refine W_itn_cases ?_ ?_; omega))
      all_goals (simp only [decide_eq_true_eq, decide_eq_false_iff_not] at *)
      all_goals first | (exfalso; omega) | simp [hn]
    · have hd1 : decide (n < 0) = false := decide_eq_false (by omega)
      have hd2 : decide (60 < n) = false := decide_eq_false (by omega)
      have hw : IntKind.i64.wrap ((bs.length : Int) - at_) = (bs.length : Int) - at_ := wrap_i64 (by omega) (by omega)
      have hw2 : IntKind.i64.wrap (at_ + n) = at_ + n := wrap_i64 (by omega) (by omega)
      by_cases hs : (bs.length : Int) - at_ < n
      · have hd3 : decide ((bs.length : Int) - at_ < n) = true := decide_eq_true hs
        repeat' (first | (simp -implicitDefEqProofs only [ze, zd, simprocAttr, ht, bv_len, hd1, hd2, hw, hd3]) | (with_reducible refine wgd_cases ?_ ?_ <;> intro hb) | (with_reducible refine wcond_cases ?_ ?_ <;> intro hb) | (with_reducible refine qd_i (by kernel_rfl) ?_) | (with_reducible refine W_itn_cases ?_ ?_; omega))
        simp [hn, hs]
      · have hd3 : decide ((bs.length : Int) - at_ < n) = false := decide_eq_false hs
        have heq : strB ((bs.drop at_.toNat).take n.toNat) = ByteArray.mk (List.map (fun b => UInt8.ofNat b.toNat) (List.drop at_.toNat (List.take (at_ + n).toNat bs))).toArray := by
          unfold strB
          rw [List.take_drop, show at_.toNat + n.toNat = (at_ + n).toNat by omega]
        repeat' (first | (simp -implicitDefEqProofs only [ze, zd, simprocAttr, ht, bv_len, hd1, hd2, hw, hw2, hd3, bytesOfV_bq, bv_tk, bv_dp, plain_ok]) | (with_reducible refine wgd_cases ?_ ?_ <;> intro hb) | (with_reducible refine wcond_cases ?_ ?_ <;> intro hb) | (with_reducible refine qd_i (by kernel_rfl) ?_) | (with_reducible refine W_itn_cases ?_ ?_; omega))
        all_goals (simp only [Bool.not_eq_eq_eq_not, Bool.not_true, Bool.not_false] at *; rw [← heq] at *; simp [hn, hs, *])
  · have hd : decide (e = 0) = false := decide_eq_false he
    repeat' (first | (simp -implicitDefEqProofs only [ze, zd, simprocAttr, ht, hd]) | (with_reducible refine wgd_cases ?_ ?_ <;> intro hb) | (with_reducible refine wcond_cases ?_ ?_ <;> intro hb) | (with_reducible refine qd_i (by kernel_rfl) ?_) | (with_reducible refine W_itn_cases ?_ ?_; omega))
    simp [he]
end Go.Proofs.YtaefaadjncehmaaGreatDoor.Vm
set_option linter.unusedVariables false
namespace Go.Proofs.YtaefaadjncehmaaGreatDoor.Vm
open Go.RowKit
def cunr (P : Program) (E : Env) (b : Y) (Q : Ex → Fr → Prop) (e : Ex) (fr : Fr) : Prop := e.cs (wc P E (.loop b) Q fr) (Q e fr)
theorem cunr_n {P : Program} {E : Env} {Q : Ex → Fr → Prop} {fr : Fr} (b : Y) : cunr P E b Q .norm fr = wc P E (.loop b) Q fr := rfl
theorem cunr_x {P : Program} {E : Env} {Q : Ex → Fr → Prop} {fr : Fr} (b : Y) (id : Nat) : cunr P E b Q (.exit id) fr = Q (.exit id) fr := rfl
theorem cunr_r {P : Program} {E : Env} {Q : Ex → Fr → Prop} {fr : Fr} (b : Y) : cunr P E b Q .ret fr = Q .ret fr := rfl
theorem cunr_p {P : Program} {E : Env} {Q : Ex → Fr → Prop} {fr : Fr} (b : Y) (v : V) : cunr P E b Q (.pan v) fr = Q (.pan v) fr := rfl
theorem loop_u {P : Program} {E : Env} {Q : Ex → Fr → Prop} {fr : Fr} {b b' : Y} (hb : b = b') (h : wc P E b' (cunr P E b Q) fr) : wc P E (.loop b) Q fr := by
  subst hb
  obtain ⟨e, fr', h1, h2⟩ := wc_ok h
  show WX (loopL (zcode P E b) fr) Q
  rw [loopL_eq, h1]
  cases e with
  | norm => exact h2
  | «exit» j => exact ⟨_, _, rfl, h2⟩
  | ret => exact ⟨_, _, rfl, h2⟩
  | pan v => exact ⟨_, _, rfl, h2⟩
end Go.Proofs.YtaefaadjncehmaaGreatDoor.Vm
set_option maxRecDepth 10000
set_option linter.unusedVariables false
set_option linter.unusedSimpArgs false
namespace Go.Proofs.YtaefaadjncehmaaGreatDoor.Vm
open Go Go.Proofs
def sumB (s : Int) : List Int := [s / 72057594037927936 % 256, s / 281474976710656 % 256, s / 1099511627776 % 256, s / 4294967296 % 256, s / 16777216 % 256, s / 65536 % 256, s / 256 % 256, s % 256]
theorem u8_mod (n : Int) : IntKind.u8.wrap n = n % 256 := by rw [IntKind.wrap_u8]
theorem mn (n : Nat) (h : n ≤ 64) : Nat.min n IntKind.u64.bits = n := Nat.min_eq_left h
theorem fd (s : Int) (n : Nat) : s.fdiv (2 ^ n) = s / 2 ^ n := by
  have h : (2 : Int) ^ n = ((2 ^ n : Nat) : Int) := by rw [Int.natCast_pow]; rfl
  rw [h]; exact Int.fdiv_eq_ediv_of_nonneg _ (Int.natCast_nonneg _)
theorem fdp (s n : Int) (h : 0 ≤ n) : s.fdiv n = s / n := Int.fdiv_eq_ediv_of_nonneg s h
theorem cbytes_ok (s : Int) (h0 : 0 ≤ s) (h1 : s < 18446744073709551616) : L.pl 103 [.sc (.int .u64 s)] = some (.ret (.list 5 (bv (sumB s)) 0)) := by
  refine W_of (pl_r k103_eq ?_)
  simp only [k103]
  repeat' (first | (simp -implicitDefEqProofs only [ze, zd, zr, simprocAttr, LR_pl, LR_hp, LR_hm, cunr_n, cunr_x, cunr_r, cunr_p, List.any_cons, List.any_nil, List.flatten_cons, List.flatten_nil, List.replicate_succ, List.replicate_zero, Bool.or_false, Bool.false_or, List.flatMap_cons, List.flatMap_nil]) | (with_reducible refine wgd_cases ?_ ?_ <;> intro hb) | (with_reducible refine wcond_cases ?_ ?_ <;> intro hb) | (with_reducible refine qd_i (by kernel_rfl) ?_) | (with_reducible refine W_itn_cases ?_ ?_; omega))
  refine loop_u k103_l0.eq_1 ?_
  repeat' (first | (simp -implicitDefEqProofs only [ze, zd, zr, simprocAttr, LR_pl, LR_hp, LR_hm, cunr_n, cunr_x, cunr_r, cunr_p, List.any_cons, List.any_nil, List.flatten_cons, List.flatten_nil, List.replicate_succ, List.replicate_zero, Bool.or_false, Bool.false_or, List.flatMap_cons, List.flatMap_nil, wrap_i64, Int.reduceMul, Int.reduceSub, Int.reduceAdd, mn, fd, fdp, k103_t0, List.take_succ_cons, List.take_zero, List.drop_succ_cons, List.drop_zero, List.cons_append, List.nil_append, List.length_cons, List.length_nil]) | (with_reducible refine wgd_cases ?_ ?_ <;> intro hb) | (with_reducible refine wcond_cases ?_ ?_ <;> intro hb) | (with_reducible refine qd_i (by kernel_rfl) ?_) | (with_reducible refine W_itn_cases ?_ ?_; omega))
  refine loop_u k103_l0.eq_1 ?_
  repeat' (first | (simp -implicitDefEqProofs only [ze, zd, zr, simprocAttr, LR_pl, LR_hp, LR_hm, cunr_n, cunr_x, cunr_r, cunr_p, List.any_cons, List.any_nil, List.flatten_cons, List.flatten_nil, List.replicate_succ, List.replicate_zero, Bool.or_false, Bool.false_or, List.flatMap_cons, List.flatMap_nil, wrap_i64, Int.reduceMul, Int.reduceSub, Int.reduceAdd, mn, fd, fdp, k103_t0, List.take_succ_cons, List.take_zero, List.drop_succ_cons, List.drop_zero, List.cons_append, List.nil_append, List.length_cons, List.length_nil]) | (with_reducible refine wgd_cases ?_ ?_ <;> intro hb) | (with_reducible refine wcond_cases ?_ ?_ <;> intro hb) | (with_reducible refine qd_i (by kernel_rfl) ?_) | (with_reducible refine W_itn_cases ?_ ?_; omega))
  refine loop_u k103_l0.eq_1 ?_
  repeat' (first | (simp -implicitDefEqProofs only [ze, zd, zr, simprocAttr, LR_pl, LR_hp, LR_hm, cunr_n, cunr_x, cunr_r, cunr_p, List.any_cons, List.any_nil, List.flatten_cons, List.flatten_nil, List.replicate_succ, List.replicate_zero, Bool.or_false, Bool.false_or, List.flatMap_cons, List.flatMap_nil, wrap_i64, Int.reduceMul, Int.reduceSub, Int.reduceAdd, mn, fd, fdp, k103_t0, List.take_succ_cons, List.take_zero, List.drop_succ_cons, List.drop_zero, List.cons_append, List.nil_append, List.length_cons, List.length_nil]) | (with_reducible refine wgd_cases ?_ ?_ <;> intro hb) | (with_reducible refine wcond_cases ?_ ?_ <;> intro hb) | (with_reducible refine qd_i (by kernel_rfl) ?_) | (with_reducible refine W_itn_cases ?_ ?_; omega))
  refine loop_u k103_l0.eq_1 ?_
  repeat' (first | (simp -implicitDefEqProofs only [ze, zd, zr, simprocAttr, LR_pl, LR_hp, LR_hm, cunr_n, cunr_x, cunr_r, cunr_p, List.any_cons, List.any_nil, List.flatten_cons, List.flatten_nil, List.replicate_succ, List.replicate_zero, Bool.or_false, Bool.false_or, List.flatMap_cons, List.flatMap_nil, wrap_i64, Int.reduceMul, Int.reduceSub, Int.reduceAdd, mn, fd, fdp, k103_t0, List.take_succ_cons, List.take_zero, List.drop_succ_cons, List.drop_zero, List.cons_append, List.nil_append, List.length_cons, List.length_nil]) | (with_reducible refine wgd_cases ?_ ?_ <;> intro hb) | (with_reducible refine wcond_cases ?_ ?_ <;> intro hb) | (with_reducible refine qd_i (by kernel_rfl) ?_) | (with_reducible refine W_itn_cases ?_ ?_; omega))
  refine loop_u k103_l0.eq_1 ?_
  repeat' (first | (simp -implicitDefEqProofs only [ze, zd, zr, simprocAttr, LR_pl, LR_hp, LR_hm, cunr_n, cunr_x, cunr_r, cunr_p, List.any_cons, List.any_nil, List.flatten_cons, List.flatten_nil, List.replicate_succ, List.replicate_zero, Bool.or_false, Bool.false_or, List.flatMap_cons, List.flatMap_nil, wrap_i64, Int.reduceMul, Int.reduceSub, Int.reduceAdd, mn, fd, fdp, k103_t0, List.take_succ_cons, List.take_zero, List.drop_succ_cons, List.drop_zero, List.cons_append, List.nil_append, List.length_cons, List.length_nil]) | (with_reducible refine wgd_cases ?_ ?_ <;> intro hb) | (with_reducible refine wcond_cases ?_ ?_ <;> intro hb) | (with_reducible refine qd_i (by kernel_rfl) ?_) | (with_reducible refine W_itn_cases ?_ ?_; omega))
  refine loop_u k103_l0.eq_1 ?_
  repeat' (first | (simp -implicitDefEqProofs only [ze, zd, zr, simprocAttr, LR_pl, LR_hp, LR_hm, cunr_n, cunr_x, cunr_r, cunr_p, List.any_cons, List.any_nil, List.flatten_cons, List.flatten_nil, List.replicate_succ, List.replicate_zero, Bool.or_false, Bool.false_or, List.flatMap_cons, List.flatMap_nil, wrap_i64, Int.reduceMul, Int.reduceSub, Int.reduceAdd, mn, fd, fdp, k103_t0, List.take_succ_cons, List.take_zero, List.drop_succ_cons, List.drop_zero, List.cons_append, List.nil_append, List.length_cons, List.length_nil]) | (with_reducible refine wgd_cases ?_ ?_ <;> intro hb) | (with_reducible refine wcond_cases ?_ ?_ <;> intro hb) | (with_reducible refine qd_i (by kernel_rfl) ?_) | (with_reducible refine W_itn_cases ?_ ?_; omega))
  refine loop_u k103_l0.eq_1 ?_
  repeat' (first | (simp -implicitDefEqProofs only [ze, zd, zr, simprocAttr, LR_pl, LR_hp, LR_hm, cunr_n, cunr_x, cunr_r, cunr_p, List.any_cons, List.any_nil, List.flatten_cons, List.flatten_nil, List.replicate_succ, List.replicate_zero, Bool.or_false, Bool.false_or, List.flatMap_cons, List.flatMap_nil, wrap_i64, Int.reduceMul, Int.reduceSub, Int.reduceAdd, mn, fd, fdp, k103_t0, List.take_succ_cons, List.take_zero, List.drop_succ_cons, List.drop_zero, List.cons_append, List.nil_append, List.length_cons, List.length_nil]) | (with_reducible refine wgd_cases ?_ ?_ <;> intro hb) | (with_reducible refine wcond_cases ?_ ?_ <;> intro hb) | (with_reducible refine qd_i (by kernel_rfl) ?_) | (with_reducible refine W_itn_cases ?_ ?_; omega))
  refine loop_u k103_l0.eq_1 ?_
  repeat' (first | (simp -implicitDefEqProofs only [ze, zd, zr, simprocAttr, LR_pl, LR_hp, LR_hm, cunr_n, cunr_x, cunr_r, cunr_p, List.any_cons, List.any_nil, List.flatten_cons, List.flatten_nil, List.replicate_succ, List.replicate_zero, Bool.or_false, Bool.false_or, List.flatMap_cons, List.flatMap_nil, wrap_i64, Int.reduceMul, Int.reduceSub, Int.reduceAdd, mn, fd, fdp, k103_t0, List.take_succ_cons, List.take_zero, List.drop_succ_cons, List.drop_zero, List.cons_append, List.nil_append, List.length_cons, List.length_nil]) | (with_reducible refine wgd_cases ?_ ?_ <;> intro hb) | (with_reducible refine wcond_cases ?_ ?_ <;> intro hb) | (with_reducible refine qd_i (by kernel_rfl) ?_) | (with_reducible refine W_itn_cases ?_ ?_; omega))
  refine loop_u k103_l0.eq_1 ?_
  repeat' (first | (simp -implicitDefEqProofs only [ze, zd, zr, simprocAttr, LR_pl, LR_hp, LR_hm, cunr_n, cunr_x, cunr_r, cunr_p, List.any_cons, List.any_nil, List.flatten_cons, List.flatten_nil, List.replicate_succ, List.replicate_zero, Bool.or_false, Bool.false_or, List.flatMap_cons, List.flatMap_nil, wrap_i64, Int.reduceMul, Int.reduceSub, Int.reduceAdd, mn, fd, fdp, k103_t0, List.take_succ_cons, List.take_zero, List.drop_succ_cons, List.drop_zero, List.cons_append, List.nil_append, List.length_cons, List.length_nil]) | (with_reducible refine wgd_cases ?_ ?_ <;> intro hb) | (with_reducible refine wcond_cases ?_ ?_ <;> intro hb) | (with_reducible refine qd_i (by kernel_rfl) ?_) | (with_reducible refine W_itn_cases ?_ ?_; omega))
  simp [sumB, bv, u8_mod]
theorem rbytes_ok (s : Int) (h0 : 0 ≤ s) (h1 : s < 18446744073709551616) : L.pl 108 [.sc (.int .u64 s)] = some (.ret (.list 5 (bv (sumB s)) 0)) := by
  refine W_of (pl_r k108_eq ?_)
  simp only [k108]
  repeat' (first | (simp -implicitDefEqProofs only [ze, zd, zr, simprocAttr, LR_pl, LR_hp, LR_hm, cunr_n, cunr_x, cunr_r, cunr_p, List.any_cons, List.any_nil, List.flatten_cons, List.flatten_nil, List.replicate_succ, List.replicate_zero, Bool.or_false, Bool.false_or, List.flatMap_cons, List.flatMap_nil, Int.reduceMul]) | (with_reducible refine wgd_cases ?_ ?_ <;> intro hb) | (with_reducible refine wcond_cases ?_ ?_ <;> intro hb) | (with_reducible refine qd_i (by kernel_rfl) ?_) | (with_reducible refine W_itn_cases ?_ ?_; omega))
  have q0 : IntKind.u64.wrap (s.tdiv 256) = s / 256 := by rw [Int.tdiv_eq_ediv_of_nonneg (by omega), Co.u64_small (by omega) (by omega)]
  have m0 : s.tmod 256 = s % 256 := Int.tmod_eq_emod_of_nonneg (by omega)
  have q1 : IntKind.u64.wrap ((s / 256).tdiv 256) = s / 65536 := by rw [Int.tdiv_eq_ediv_of_nonneg (by omega), Co.u64_small (by omega) (by omega)]; omega
  have m1 : (s / 256).tmod 256 = (s / 256) % 256 := Int.tmod_eq_emod_of_nonneg (by omega)
  have q2 : IntKind.u64.wrap ((s / 65536).tdiv 256) = s / 16777216 := by rw [Int.tdiv_eq_ediv_of_nonneg (by omega), Co.u64_small (by omega) (by omega)]; omega
  have m2 : (s / 65536).tmod 256 = (s / 65536) % 256 := Int.tmod_eq_emod_of_nonneg (by omega)
  have q3 : IntKind.u64.wrap ((s / 16777216).tdiv 256) = s / 4294967296 := by rw [Int.tdiv_eq_ediv_of_nonneg (by omega), Co.u64_small (by omega) (by omega)]; omega
  have m3 : (s / 16777216).tmod 256 = (s / 16777216) % 256 := Int.tmod_eq_emod_of_nonneg (by omega)
  have q4 : IntKind.u64.wrap ((s / 4294967296).tdiv 256) = s / 1099511627776 := by rw [Int.tdiv_eq_ediv_of_nonneg (by omega), Co.u64_small (by omega) (by omega)]; omega
  have m4 : (s / 4294967296).tmod 256 = (s / 4294967296) % 256 := Int.tmod_eq_emod_of_nonneg (by omega)
  have q5 : IntKind.u64.wrap ((s / 1099511627776).tdiv 256) = s / 281474976710656 := by rw [Int.tdiv_eq_ediv_of_nonneg (by omega), Co.u64_small (by omega) (by omega)]; omega
  have m5 : (s / 1099511627776).tmod 256 = (s / 1099511627776) % 256 := Int.tmod_eq_emod_of_nonneg (by omega)
  have q6 : IntKind.u64.wrap ((s / 281474976710656).tdiv 256) = s / 72057594037927936 := by rw [Int.tdiv_eq_ediv_of_nonneg (by omega), Co.u64_small (by omega) (by omega)]; omega
  have m6 : (s / 281474976710656).tmod 256 = (s / 281474976710656) % 256 := Int.tmod_eq_emod_of_nonneg (by omega)
  have q7 : IntKind.u64.wrap ((s / 72057594037927936).tdiv 256) = s / 18446744073709551616 := by rw [Int.tdiv_eq_ediv_of_nonneg (by omega), Co.u64_small (by omega) (by omega)]; omega
  have m7 : (s / 72057594037927936).tmod 256 = (s / 72057594037927936) % 256 := Int.tmod_eq_emod_of_nonneg (by omega)
  refine loop_u k108_l0.eq_1 ?_
  repeat' (first | (simp -implicitDefEqProofs only [ze, zd, zr, simprocAttr, LR_pl, LR_hp, LR_hm, cunr_n, cunr_x, cunr_r, cunr_p, List.any_cons, List.any_nil, List.flatten_cons, List.flatten_nil, List.replicate_succ, List.replicate_zero, Bool.or_false, Bool.false_or, List.flatMap_cons, List.flatMap_nil, q0, m0, q1, m1, q2, m2, q3, m3, q4, m4, q5, m5, q6, m6, q7, m7, ne_eq, wrap_i64, Int.reduceMul, Int.reduceSub, Int.reduceAdd, k108_t0, List.take_succ_cons, List.take_zero, List.drop_succ_cons, List.drop_zero, List.cons_append, List.nil_append, List.length_cons, List.length_nil]) | (with_reducible refine wgd_cases ?_ ?_ <;> intro hb) | (with_reducible refine wcond_cases ?_ ?_ <;> intro hb) | (with_reducible refine qd_i (by kernel_rfl) ?_) | (with_reducible refine W_itn_cases ?_ ?_; omega))
  refine loop_u k108_l0.eq_1 ?_
  repeat' (first | (simp -implicitDefEqProofs only [ze, zd, zr, simprocAttr, LR_pl, LR_hp, LR_hm, cunr_n, cunr_x, cunr_r, cunr_p, List.any_cons, List.any_nil, List.flatten_cons, List.flatten_nil, List.replicate_succ, List.replicate_zero, Bool.or_false, Bool.false_or, List.flatMap_cons, List.flatMap_nil, q0, m0, q1, m1, q2, m2, q3, m3, q4, m4, q5, m5, q6, m6, q7, m7, ne_eq, wrap_i64, Int.reduceMul, Int.reduceSub, Int.reduceAdd, k108_t0, List.take_succ_cons, List.take_zero, List.drop_succ_cons, List.drop_zero, List.cons_append, List.nil_append, List.length_cons, List.length_nil]) | (with_reducible refine wgd_cases ?_ ?_ <;> intro hb) | (with_reducible refine wcond_cases ?_ ?_ <;> intro hb) | (with_reducible refine qd_i (by kernel_rfl) ?_) | (with_reducible refine W_itn_cases ?_ ?_; omega))
  refine loop_u k108_l0.eq_1 ?_
  repeat' (first | (simp -implicitDefEqProofs only [ze, zd, zr, simprocAttr, LR_pl, LR_hp, LR_hm, cunr_n, cunr_x, cunr_r, cunr_p, List.any_cons, List.any_nil, List.flatten_cons, List.flatten_nil, List.replicate_succ, List.replicate_zero, Bool.or_false, Bool.false_or, List.flatMap_cons, List.flatMap_nil, q0, m0, q1, m1, q2, m2, q3, m3, q4, m4, q5, m5, q6, m6, q7, m7, ne_eq, wrap_i64, Int.reduceMul, Int.reduceSub, Int.reduceAdd, k108_t0, List.take_succ_cons, List.take_zero, List.drop_succ_cons, List.drop_zero, List.cons_append, List.nil_append, List.length_cons, List.length_nil]) | (with_reducible refine wgd_cases ?_ ?_ <;> intro hb) | (with_reducible refine wcond_cases ?_ ?_ <;> intro hb) | (with_reducible refine qd_i (by kernel_rfl) ?_) | (with_reducible refine W_itn_cases ?_ ?_; omega))
  refine loop_u k108_l0.eq_1 ?_
  repeat' (first | (simp -implicitDefEqProofs only [ze, zd, zr, simprocAttr, LR_pl, LR_hp, LR_hm, cunr_n, cunr_x, cunr_r, cunr_p, List.any_cons, List.any_nil, List.flatten_cons, List.flatten_nil, List.replicate_succ, List.replicate_zero, Bool.or_false, Bool.false_or, List.flatMap_cons, List.flatMap_nil, q0, m0, q1, m1, q2, m2, q3, m3, q4, m4, q5, m5, q6, m6, q7, m7, ne_eq, wrap_i64, Int.reduceMul, Int.reduceSub, Int.reduceAdd, k108_t0, List.take_succ_cons, List.take_zero, List.drop_succ_cons, List.drop_zero, List.cons_append, List.nil_append, List.length_cons, List.length_nil]) | (with_reducible refine wgd_cases ?_ ?_ <;> intro hb) | (with_reducible refine wcond_cases ?_ ?_ <;> intro hb) | (with_reducible refine qd_i (by kernel_rfl) ?_) | (with_reducible refine W_itn_cases ?_ ?_; omega))
  refine loop_u k108_l0.eq_1 ?_
  repeat' (first | (simp -implicitDefEqProofs only [ze, zd, zr, simprocAttr, LR_pl, LR_hp, LR_hm, cunr_n, cunr_x, cunr_r, cunr_p, List.any_cons, List.any_nil, List.flatten_cons, List.flatten_nil, List.replicate_succ, List.replicate_zero, Bool.or_false, Bool.false_or, List.flatMap_cons, List.flatMap_nil, q0, m0, q1, m1, q2, m2, q3, m3, q4, m4, q5, m5, q6, m6, q7, m7, ne_eq, wrap_i64, Int.reduceMul, Int.reduceSub, Int.reduceAdd, k108_t0, List.take_succ_cons, List.take_zero, List.drop_succ_cons, List.drop_zero, List.cons_append, List.nil_append, List.length_cons, List.length_nil]) | (with_reducible refine wgd_cases ?_ ?_ <;> intro hb) | (with_reducible refine wcond_cases ?_ ?_ <;> intro hb) | (with_reducible refine qd_i (by kernel_rfl) ?_) | (with_reducible refine W_itn_cases ?_ ?_; omega))
  refine loop_u k108_l0.eq_1 ?_
  repeat' (first | (simp -implicitDefEqProofs only [ze, zd, zr, simprocAttr, LR_pl, LR_hp, LR_hm, cunr_n, cunr_x, cunr_r, cunr_p, List.any_cons, List.any_nil, List.flatten_cons, List.flatten_nil, List.replicate_succ, List.replicate_zero, Bool.or_false, Bool.false_or, List.flatMap_cons, List.flatMap_nil, q0, m0, q1, m1, q2, m2, q3, m3, q4, m4, q5, m5, q6, m6, q7, m7, ne_eq, wrap_i64, Int.reduceMul, Int.reduceSub, Int.reduceAdd, k108_t0, List.take_succ_cons, List.take_zero, List.drop_succ_cons, List.drop_zero, List.cons_append, List.nil_append, List.length_cons, List.length_nil]) | (with_reducible refine wgd_cases ?_ ?_ <;> intro hb) | (with_reducible refine wcond_cases ?_ ?_ <;> intro hb) | (with_reducible refine qd_i (by kernel_rfl) ?_) | (with_reducible refine W_itn_cases ?_ ?_; omega))
  refine loop_u k108_l0.eq_1 ?_
  repeat' (first | (simp -implicitDefEqProofs only [ze, zd, zr, simprocAttr, LR_pl, LR_hp, LR_hm, cunr_n, cunr_x, cunr_r, cunr_p, List.any_cons, List.any_nil, List.flatten_cons, List.flatten_nil, List.replicate_succ, List.replicate_zero, Bool.or_false, Bool.false_or, List.flatMap_cons, List.flatMap_nil, q0, m0, q1, m1, q2, m2, q3, m3, q4, m4, q5, m5, q6, m6, q7, m7, ne_eq, wrap_i64, Int.reduceMul, Int.reduceSub, Int.reduceAdd, k108_t0, List.take_succ_cons, List.take_zero, List.drop_succ_cons, List.drop_zero, List.cons_append, List.nil_append, List.length_cons, List.length_nil]) | (with_reducible refine wgd_cases ?_ ?_ <;> intro hb) | (with_reducible refine wcond_cases ?_ ?_ <;> intro hb) | (with_reducible refine qd_i (by kernel_rfl) ?_) | (with_reducible refine W_itn_cases ?_ ?_; omega))
  refine loop_u k108_l0.eq_1 ?_
  repeat' (first | (simp -implicitDefEqProofs only [ze, zd, zr, simprocAttr, LR_pl, LR_hp, LR_hm, cunr_n, cunr_x, cunr_r, cunr_p, List.any_cons, List.any_nil, List.flatten_cons, List.flatten_nil, List.replicate_succ, List.replicate_zero, Bool.or_false, Bool.false_or, List.flatMap_cons, List.flatMap_nil, q0, m0, q1, m1, q2, m2, q3, m3, q4, m4, q5, m5, q6, m6, q7, m7, ne_eq, wrap_i64, Int.reduceMul, Int.reduceSub, Int.reduceAdd, k108_t0, List.take_succ_cons, List.take_zero, List.drop_succ_cons, List.drop_zero, List.cons_append, List.nil_append, List.length_cons, List.length_nil]) | (with_reducible refine wgd_cases ?_ ?_ <;> intro hb) | (with_reducible refine wcond_cases ?_ ?_ <;> intro hb) | (with_reducible refine qd_i (by kernel_rfl) ?_) | (with_reducible refine W_itn_cases ?_ ?_; omega))
  refine loop_u k108_l0.eq_1 ?_
  repeat' (first | (simp -implicitDefEqProofs only [ze, zd, zr, simprocAttr, LR_pl, LR_hp, LR_hm, cunr_n, cunr_x, cunr_r, cunr_p, List.any_cons, List.any_nil, List.flatten_cons, List.flatten_nil, List.replicate_succ, List.replicate_zero, Bool.or_false, Bool.false_or, List.flatMap_cons, List.flatMap_nil, q0, m0, q1, m1, q2, m2, q3, m3, q4, m4, q5, m5, q6, m6, q7, m7, ne_eq, wrap_i64, Int.reduceMul, Int.reduceSub, Int.reduceAdd, k108_t0, List.take_succ_cons, List.take_zero, List.drop_succ_cons, List.drop_zero, List.cons_append, List.nil_append, List.length_cons, List.length_nil]) | (with_reducible refine wgd_cases ?_ ?_ <;> intro hb) | (with_reducible refine wcond_cases ?_ ?_ <;> intro hb) | (with_reducible refine qd_i (by kernel_rfl) ?_) | (with_reducible refine W_itn_cases ?_ ?_; omega))
  simp [sumB, bv, u8_mod]
end Go.Proofs.YtaefaadjncehmaaGreatDoor.Vm
set_option maxRecDepth 10000
set_option linter.unusedVariables false
set_option linter.unusedSimpArgs false
namespace Go.Proofs.YtaefaadjncehmaaGreatDoor.Vm
open Go Go.Proofs
theorem size_ok (n : Int) (h0 : 0 ≤ n) (h1 : n < 9223372036854775808) : L.pl 109 [.i64 n] = some (.ret (.sc (.int .u64 n))) := by
  refine W_of (pl_w k109_eq ?_)
  simp only [k109]
  have hd : decide (n < 0) = false := decide_eq_false (by omega)
  have hw : IntKind.u64.wrap n = n := Co.u64_small h0 (by omega)
  repeat' (first | (simp -implicitDefEqProofs only [ze, zd, simprocAttr, hd, hw]) | (with_reducible refine wgd_cases ?_ ?_ <;> intro hb) | (with_reducible refine wcond_cases ?_ ?_ <;> intro hb) | (with_reducible refine qd_i (by kernel_rfl) ?_) | (with_reducible refine W_itn_cases ?_ ?_; omega))
def U8s (cs : List V) : Prop := ∀ c ∈ cs, ∃ k, c = .sc (.int .u8 k)
theorem u8s_b : ∀ {cs : List V}, U8s cs → ∃ l, bytesOfV cs = some l
  | [], _ => ⟨[], rfl⟩
  | c :: cs, h => by
    obtain ⟨k, rfl⟩ := h c (List.mem_cons_self ..)
    obtain ⟨l, hl⟩ := u8s_b (cs := cs) fun x hx => h x (List.mem_cons_of_mem _ hx)
    exact ⟨_, by simp [bytesOfV, hl]; rfl⟩
def byt (cs : List V) (a b : Nat) : List UInt8 := (bytesOfV ((cs.drop a).take b)).getD []
theorem byt_eq {cs : List V} (h : U8s cs) (a b : Nat) : bytesOfV ((cs.drop a).take b) = some (byt cs a b) := by
  obtain ⟨l, hl⟩ := u8s_b (cs := (cs.drop a).take b) fun x hx => h x (List.mem_of_mem_drop (List.mem_of_mem_take hx))
  rw [byt, hl]; rfl
theorem bytesOfV_len : ∀ {cs : List V} {l : List UInt8}, bytesOfV cs = some l → l.length = cs.length
  | [], l, h => by simp [bytesOfV] at h; subst h; rfl
  | c :: cs, l, h => by
    unfold bytesOfV at h
    split at h
    · rename_i heq; cases heq
    · rename_i n r heq
      obtain ⟨rfl, rfl⟩ : c = .sc (.int .u8 n) ∧ cs = r := by simpa using heq
      rw [Option.map_eq_some_iff] at h
      obtain ⟨l2, h2, rfl⟩ := h
      simp [bytesOfV_len h2]
    · cases h
theorem byt_size (cs : List V) (a b : Nat) (h : b ≤ 20) : (ByteArray.mk (byt cs a b).toArray).size ≤ 20 := by
  show (byt cs a b).toArray.size ≤ 20
  rw [List.size_toArray, byt]
  cases hb : bytesOfV ((cs.drop a).take b) with
  | none => simp
  | some l =>
    have := bytesOfV_len hb
    simp only [Option.getD_some, this, List.length_take]; omega
theorem u8s_set {cs : List V} (h : U8s cs) (a b : Nat) (k : Int) : U8s (cs.take a ++ [.sc (.int .u8 k)] ++ cs.drop b) := fun x hx => by
  rcases List.mem_append.1 hx with hx | hx
  · rcases List.mem_append.1 hx with hx | hx
    · exact h x (List.mem_of_mem_take hx)
    · exact ⟨k, by simpa using hx⟩
  · exact h x (List.mem_of_mem_drop hx)
theorem text_ex (n : Int) (h0 : 0 ≤ n) (h1 : n < 9223372036854775808) : ∃ s, L.pl 56 [.i64 n] = some (.ret (.str s)) ∧ s.size ≤ 20 := by
  have key : W (L.pl 56 [.i64 n]) fun r => ∃ s, r = .ret (.str s) ∧ s.size ≤ 20 := by
    refine pl_r k56_eq ?_
    simp only [k56]
    have hsz := size_ok n h0 h1
    repeat' (first | (simp -implicitDefEqProofs only [ze, zd, zr, simprocAttr, LR_pl, LR_hp, LR_hm, cunr_n, cunr_x, cunr_r, cunr_p, List.any_cons, List.any_nil, List.flatten_cons, List.flatten_nil, List.replicate_succ, List.replicate_zero, Bool.or_false, Bool.false_or, List.flatMap_cons, List.flatMap_nil, hsz, LR_pl]) | (with_reducible refine wgd_cases ?_ ?_ <;> intro hb) | (with_reducible refine wcond_cases ?_ ?_ <;> intro hb) | (with_reducible refine qd_i (by kernel_rfl) ?_) | (with_reducible refine W_itn_cases ?_ ?_; omega))
    refine loop_w (fun m tm st nx => ∃ (i : Nat) (y : Int) (cs : List V), m = 20 - i ∧ i ≤ 19 ∧ tm 8 = .i64 i ∧ tm 4 = .i64 (20 - (i : Int)) ∧ tm 5 = .sc (.int .u64 y) ∧ tm 3 = .ptr 16 0 ∧ st 16 = some (.cells cs) ∧ cs.length = 20 ∧ U8s cs ∧ tm 0 = .i64 n) 20 ⟨0, n, List.replicate 20 (.sc (.int .u8 0)), by omega, by omega, ?_, ?_, ?_, ?_, ?_, rfl, ?_, ?_⟩ ?_
    · simp -implicitDefEqProofs only [ze, zd, zr, simprocAttr, LR_pl, LR_hp, LR_hm, cunr_n, cunr_x, cunr_r, cunr_p, List.any_cons, List.any_nil, List.flatten_cons, List.flatten_nil, List.replicate_succ, List.replicate_zero, Bool.or_false, Bool.false_or, List.flatMap_cons, List.flatMap_nil]; try rfl
    · simp -implicitDefEqProofs only [ze, zd, zr, simprocAttr, LR_pl, LR_hp, LR_hm, cunr_n, cunr_x, cunr_r, cunr_p, List.any_cons, List.any_nil, List.flatten_cons, List.flatten_nil, List.replicate_succ, List.replicate_zero, Bool.or_false, Bool.false_or, List.flatMap_cons, List.flatMap_nil]; try rfl
    · simp -implicitDefEqProofs only [ze, zd, zr, simprocAttr, LR_pl, LR_hp, LR_hm, cunr_n, cunr_x, cunr_r, cunr_p, List.any_cons, List.any_nil, List.flatten_cons, List.flatten_nil, List.replicate_succ, List.replicate_zero, Bool.or_false, Bool.false_or, List.flatMap_cons, List.flatMap_nil]; try rfl
    · simp -implicitDefEqProofs only [ze, zd, zr, simprocAttr, LR_pl, LR_hp, LR_hm, cunr_n, cunr_x, cunr_r, cunr_p, List.any_cons, List.any_nil, List.flatten_cons, List.flatten_nil, List.replicate_succ, List.replicate_zero, Bool.or_false, Bool.false_or, List.flatMap_cons, List.flatMap_nil]; try rfl
    · simp -implicitDefEqProofs only [ze, zd, zr, simprocAttr, LR_pl, LR_hp, LR_hm, cunr_n, cunr_x, cunr_r, cunr_p, List.any_cons, List.any_nil, List.flatten_cons, List.flatten_nil, List.replicate_succ, List.replicate_zero, Bool.or_false, Bool.false_or, List.flatMap_cons, List.flatMap_nil]; try rfl
    · intro c hc
      exact ⟨0, List.eq_of_mem_replicate hc⟩
    · simp -implicitDefEqProofs only [ze, zd, zr, simprocAttr, LR_pl, LR_hp, LR_hm, cunr_n, cunr_x, cunr_r, cunr_p, List.any_cons, List.any_nil, List.flatten_cons, List.flatten_nil, List.replicate_succ, List.replicate_zero, Bool.or_false, Bool.false_or, List.flatMap_cons, List.flatMap_nil]; try rfl
    rintro m tm st nx ⟨i, y, cs, hm, hi, t8, t4, t5, t3, hst, hlen, hu, t0⟩
    simp only [k56_l0, k56_t0]
    have hdn : decide (n < 0) = false := decide_eq_false (by omega)
    by_cases hlt : i < 19
    · have hd : decide ((i : Int) < 19) = true := decide_eq_true (by omega)
      have hw : IntKind.i64.wrap (20 - (i : Int) - 1) = 19 - (i : Int) := by rw [wrap_i64 (by omega) (by omega)]; omega
      have hup : IntKind.i64.wrap ((i : Int) + 1) = ((i + 1 : Nat) : Int) := wrap_i64 (by omega) (by omega)
      have hr : (0 ≤ 19 - (i : Int) ∧ 19 - (i : Int) < 20) := ⟨by omega, by omega⟩
      have t5' : ((10 : Int) = 0) = False := eq_false (by decide)
      have hk : (19 - (i : Int)).toNat = 19 - i := by omega
      have hr2 : (19 - (i : Int) ≤ 20) := by omega
      have hl2 : ∀ v, (List.take (19 - i) cs ++ [v] ++ List.drop (19 - i + 1) cs).length = 20 := fun v => by
        simp only [List.length_append, List.length_take, List.length_drop, List.length_cons, List.length_nil]; omega
      have hl3 : 19 - i + (20 - (19 - i)) ≤ 20 := by omega
      have hB : ∀ (k : Int) (p q : Nat), bytesOfV (List.take p (List.drop q (List.take (19 - i) cs ++ [.sc (.int .u8 k)] ++ List.drop (19 - i + 1) cs))) = some (byt (List.take (19 - i) cs ++ [.sc (.int .u8 k)] ++ List.drop (19 - i + 1) cs) q p) := fun k p q => byt_eq (u8s_set hu _ _ _) q p
      repeat' (first | (simp -implicitDefEqProofs only [ze, zd, zr, simprocAttr, LR_pl, LR_hp, LR_hm, cunr_n, cunr_x, cunr_r, cunr_p, List.any_cons, List.any_nil, List.flatten_cons, List.flatten_nil, List.replicate_succ, List.replicate_zero, Bool.or_false, Bool.false_or, List.flatMap_cons, List.flatMap_nil, t8, t4, t5, t3, hst, hlen, t0, hd, hw, hup, hr, hdn, t5', ne_eq, not_true_eq_false, LR_pl, hk, hr2, hl2, hl3, hB, Nat.mul_one]) | (with_reducible refine wgd_cases ?_ ?_ <;> intro hb) | (with_reducible refine wcond_cases ?_ ?_ <;> intro hb) | (with_reducible refine qd_i (by kernel_rfl) ?_) | (with_reducible refine W_itn_cases ?_ ?_; omega))
      · exact ⟨_, rfl, byt_size _ _ _ (by omega)⟩
      · exact ⟨20 - (i + 1), by omega, i + 1, _, _, rfl, by omega, rfl, by congr 2; omega, rfl, rfl, hl2 _, u8s_set hu _ _ _⟩
    · have hi19 : i = 19 := by omega
      subst hi19
      have hd : decide (((19 : Nat) : Int) < 19) = false := by decide
      have hk : (20 - ((19 : Nat) : Int)).toNat = 1 := by decide
      have hr2 : (20 - ((19 : Nat) : Int) ≤ 20) := by decide
      have hr3 : ((0 : Int) ≤ 20 - ((19 : Nat) : Int)) := by decide
      have hB : ∀ (p q : Nat), bytesOfV (List.take p (List.drop q cs)) = some (byt cs q p) := fun p q => byt_eq hu q p
      repeat' (first | (simp -implicitDefEqProofs only [ze, zd, zr, simprocAttr, LR_pl, LR_hp, LR_hm, cunr_n, cunr_x, cunr_r, cunr_p, List.any_cons, List.any_nil, List.flatten_cons, List.flatten_nil, List.replicate_succ, List.replicate_zero, Bool.or_false, Bool.false_or, List.flatMap_cons, List.flatMap_nil, t8, t4, t5, t3, hst, hlen, t0, hd, hdn, LR_pl, hk, hr2, hr3, hB, Nat.mul_one]) | (with_reducible refine wgd_cases ?_ ?_ <;> intro hb) | (with_reducible refine wcond_cases ?_ ?_ <;> intro hb) | (with_reducible refine qd_i (by kernel_rfl) ?_) | (with_reducible refine W_itn_cases ?_ ?_; omega))
      exact ⟨_, rfl, byt_size _ _ _ (by omega)⟩
  obtain ⟨r, h, s, rfl, hs⟩ := key
  exact ⟨s, h, hs⟩
end Go.Proofs.YtaefaadjncehmaaGreatDoor.Vm
set_option maxRecDepth 10000
set_option linter.unusedVariables false
set_option linter.unusedSimpArgs false
namespace Go.Proofs.YtaefaadjncehmaaGreatDoor.Vm
open Go Go.Proofs
open Classical in
noncomputable def textS (n : Int) : ByteArray := if h : ∃ s, L.pl 56 [.i64 n] = some (.ret (.str s)) ∧ s.size ≤ 20 then Classical.choose h else ByteArray.empty
theorem textS_ok (n : Int) (h0 : 0 ≤ n) (h1 : n < 9223372036854775808) : L.pl 56 [.i64 n] = some (.ret (.str (textS n))) := by
  have h := text_ex n h0 h1
  rw [textS, dif_pos h]
  exact (Classical.choose_spec h).1
theorem textS_size (n : Int) : (textS n).size ≤ 20 := by
  unfold textS
  split
  · rename_i h; exact (Classical.choose_spec h).2
  · exact Nat.zero_le _
def lenT : List Tag → Nat
  | [] => 0
  | t :: r => t.n.size + t.v.size + 42 + lenT r
theorem lenT_app : ∀ (a b : List Tag), lenT (a ++ b) = lenT a + lenT b
  | [], b => by simp [lenT]
  | t :: r, b => by simp only [List.cons_append, lenT, lenT_app r b]; omega
noncomputable def tagT (t : Tag) : ByteArray := textS t.n.size ++ ByteArray.mk #[58] ++ t.n ++ textS t.v.size ++ ByteArray.mk #[58] ++ t.v
noncomputable def keyT : List Tag → ByteArray → ByteArray
  | [], a => a
  | t :: r, a => keyT r (a ++ tagT t)
theorem keyT_snoc : ∀ (xs : List Tag) (a : ByteArray) (x : Tag), keyT (xs ++ [x]) a = keyT xs a ++ tagT x
  | [], _, _ => rfl
  | y :: ys, a, x => keyT_snoc ys (a ++ tagT y) x
theorem takeG {α : Type} {l : List α} {i : Nat} {x : α} (h : l[i]? = some x) : l.take (i + 1) = l.take i ++ [x] := by rw [List.take_add_one, h]; rfl
theorem tagT_size (t : Tag) : (tagT t).size ≤ t.n.size + t.v.size + 42 := by
  have h1 := textS_size t.n.size
  have h2 := textS_size t.v.size
  have h3 : (ByteArray.mk #[58]).size = 1 := rfl
  simp only [tagT, ByteArray.size_append, h3]; omega
theorem keyT_size : ∀ (xs : List Tag) (a : ByteArray), (keyT xs a).size ≤ a.size + lenT xs
  | [], a => by simp [keyT, lenT]
  | t :: r, a => by
    have h1 := keyT_size r (a ++ tagT t)
    have h2 := tagT_size t
    rw [ByteArray.size_append] at h1
    simp only [keyT, lenT]; omega
set_option maxHeartbeats 1000000 in
theorem keyof_ok (l : Line) (hs : smallL l) (hlt0 : lenT l.tags < 4611686018427387904) : L.pl 112 [encL l] = some (.ret (.agg [.str l.acc, .str l.cur, .str l.par, .str l.pty, .str (keyT l.tags (ByteArray.mk #[]))])) := by
  refine W_of (pl_w k112_eq ?_)
  simp only [k112, encL]
  repeat' (first | (simp -implicitDefEqProofs only [ze, zd, simprocAttr, List.length_map, nr_pur, ne_eq, not_true_eq_false]) | (with_reducible refine wgd_cases ?_ ?_ <;> intro hb) | (with_reducible refine wcond_cases ?_ ?_ <;> intro hb) | (with_reducible refine qd_i (by kernel_rfl) ?_) | (with_reducible refine W_itn_cases ?_ ?_; omega))
  refine loop_w (fun n tm st nx => ∃ i : Nat, n = l.tags.length - i ∧ i ≤ l.tags.length ∧ tm 18 = .i64 i ∧ tm 17 = .i64 l.tags.length ∧ tm 16 = .list (te l.tr 202) (l.tags.map encT) (nr l.tr) ∧ tm 2 = .ptr 16 0 ∧ tm 3 = .ptr 96 0 ∧ st 16 = some (.cells [.str (ByteArray.mk #[]), .str (ByteArray.mk #[]), .str (ByteArray.mk #[]), .str (ByteArray.mk #[]), .str (ByteArray.mk #[])]) ∧ st 96 = some (.cells [.str l.acc, .str l.cur, .str l.par, .str l.pty, .str (keyT (l.tags.take i) (ByteArray.mk #[]))]) ∧ 104 ≤ nx) l.tags.length ⟨0, by omega, by omega, ?_, ?_, ?_, ?_, ?_, ?_, ?_, by omega⟩ ?_
  · simp -implicitDefEqProofs only [ze, zd, simprocAttr]; try rfl
  · simp -implicitDefEqProofs only [ze, zd, simprocAttr]; try rfl
  · simp -implicitDefEqProofs only [ze, zd, simprocAttr]; try rfl
  · simp -implicitDefEqProofs only [ze, zd, simprocAttr]; try rfl
  · simp -implicitDefEqProofs only [ze, zd, simprocAttr]; try rfl
  · simp -implicitDefEqProofs only [ze, zd, simprocAttr]; try rfl
  · simp -implicitDefEqProofs only [ze, zd, simprocAttr]; try rfl
  rintro n tm st nx ⟨i, hn, hi, t18, t17, t16, t2, t3, s16, s96, hnx⟩
  simp only [k112_l0, k112_t0]
  by_cases hlt : i < l.tags.length
  · have hd : decide ((i : Int) < (l.tags.length : Int)) = true := decide_eq_true (by omega)
    obtain ⟨t, ht⟩ := get_lt hlt
    have hmem := List.mem_of_getElem? ht
    obtain ⟨hs1, hs2⟩ := hs.tags t hmem
    have hte : te l.tr 202 = 202 := by
      rcases te_or hs.nil 202 with h | h
      · rw [h] at hlt; simp at hlt
      · exact h
    have hT1 := textS_ok t.n.size (by omega) (by unfold small at hs1; omega)
    have hT2 := textS_ok t.v.size (by omega) (by unfold small at hs2; omega)
    have hup : IntKind.i64.wrap ((i : Int) + 1) = ((i + 1 : Nat) : Int) := wrap_i64 (by omega) (by have := hs.len; omega)
    have n5 : (nx = 72) = False := eq_false (by omega)
    have n6 : (72 = nx) = False := eq_false (by omega)
    have b1 := textS_size t.n.size
    have b2 := textS_size t.v.size
    have b3 : (ByteArray.mk #[58]).size = 1 := rfl
    have b4 := keyT_size (l.tags.take i) (ByteArray.mk #[])
    have b5 : lenT (l.tags.take i) + (t.n.size + t.v.size + 42) ≤ lenT l.tags := by
      have e2 := congrArg lenT (List.take_append_drop (i + 1) l.tags)
      rw [lenT_app, takeG ht, lenT_app] at e2
      simp only [lenT] at e2
      omega
    have b6 : (ByteArray.mk #[]).size = 0 := rfl
    have a1 : (textS t.n.size).size + (ByteArray.mk #[58]).size ≤ 9223372036854775807 := by omega
    have a2 : (textS t.n.size ++ ByteArray.mk #[58]).size + t.n.size ≤ 9223372036854775807 := by simp only [ByteArray.size_append]; omega
    have a3 : (textS t.n.size ++ ByteArray.mk #[58] ++ t.n).size + (textS t.v.size).size ≤ 9223372036854775807 := by simp only [ByteArray.size_append]; omega
    have a4 : (textS t.n.size ++ ByteArray.mk #[58] ++ t.n ++ textS t.v.size).size + (ByteArray.mk #[58]).size ≤ 9223372036854775807 := by simp only [ByteArray.size_append]; omega
    have a5 : (textS t.n.size ++ ByteArray.mk #[58] ++ t.n ++ textS t.v.size ++ ByteArray.mk #[58]).size + t.v.size ≤ 9223372036854775807 := by simp only [ByteArray.size_append]; omega
    have a6 : (keyT (l.tags.take i) (ByteArray.mk #[])).size + (textS t.n.size ++ ByteArray.mk #[58] ++ t.n ++ textS t.v.size ++ ByteArray.mk #[58] ++ t.v).size ≤ 9223372036854775807 := by simp only [ByteArray.size_append]; omega
    repeat' (first | (simp -implicitDefEqProofs only [ze, zd, simprocAttr, a1, a2, a3, a4, a5, a6, t18, t17, t16, t2, t3, s16, s96, hd, ht, hte, encT, hT1, hT2, hup, n5, n6, List.length_map, ne_eq, not_true_eq_false]) | (with_reducible refine wgd_cases ?_ ?_ <;> intro hb) | (with_reducible refine wcond_cases ?_ ?_ <;> intro hb) | (with_reducible refine qd_i (by kernel_rfl) ?_) | (with_reducible refine W_itn_cases ?_ ?_; omega))
    exact ⟨l.tags.length - (i + 1), by omega, i + 1, rfl, by omega, rfl, by rw [takeG ht, keyT_snoc]; rfl⟩
  · have hd : decide ((i : Int) < (l.tags.length : Int)) = false := decide_eq_false (by omega)
    have hin : i = l.tags.length := by omega
    rw [hin, List.take_length] at s96
    repeat' (first | (simp -implicitDefEqProofs only [ze, zd, simprocAttr, t18, t17, t16, t2, t3, s16, s96, hd, List.length_map, ne_eq, not_true_eq_false]) | (with_reducible refine wgd_cases ?_ ?_ <;> intro hb) | (with_reducible refine wcond_cases ?_ ?_ <;> intro hb) | (with_reducible refine qd_i (by kernel_rfl) ?_) | (with_reducible refine W_itn_cases ?_ ?_; omega))
theorem sametag_ok (a b : Tag) : L.pl 114 [encT a, encT b] = some (.ret (.bool (decide (a = b)))) := by
  refine W_of (pl_w k114_eq ?_)
  simp only [k114, encT]
  repeat' (first | (simp -implicitDefEqProofs only [ze, zd, simprocAttr]) | (with_reducible refine wgd_cases ?_ ?_ <;> intro hb) | (with_reducible refine wcond_cases ?_ ?_ <;> intro hb) | (with_reducible refine qd_i (by kernel_rfl) ?_) | (with_reducible refine W_itn_cases ?_ ?_; omega))
  all_goals (refine ret_b ?_; simp_all [tag_ext])
theorem eqtags_ok (a b : List Tag) (ea eb ra rb : Nat) (hl : a.length < 4611686018427387904) (hea : a = [] ∨ ea = 202) (heb : b = [] ∨ eb = 202) : L.pl 113 [.list ea (a.map encT) ra, .list eb (b.map encT) rb, .fn (.func 114) [] []] = some (.ret (.bool (decide (a = b)))) := by
  refine W_of (pl_w k113_eq ?_)
  simp only [k113, k113_t0]
  by_cases hlen : a.length = b.length
  · have hd : decide ((a.length : Int) = (b.length : Int)) = true := decide_eq_true (by omega)
    repeat' (first | (simp -implicitDefEqProofs only [ze, zd, simprocAttr, List.length_map, hd]) | (with_reducible refine wgd_cases ?_ ?_ <;> intro hb) | (with_reducible refine wcond_cases ?_ ?_ <;> intro hb) | (with_reducible refine qd_i (by kernel_rfl) ?_) | (with_reducible refine W_itn_cases ?_ ?_; omega))
    refine loop_w (fun n tm st nx => ∃ i : Nat, n = a.length - i ∧ i ≤ a.length ∧ tm 15 = .i64 i ∧ tm 14 = .i64 a.length ∧ tm 0 = .list ea (a.map encT) ra ∧ tm 1 = .list eb (b.map encT) rb ∧ tm 2 = .fn (.func 114) [] [] ∧ ∀ j, j < i → a[j]? = b[j]?) a.length ⟨0, by omega, by omega, ?_, ?_, ?_, ?_, ?_, by omega⟩ ?_
    · simp -implicitDefEqProofs only [ze, zd, simprocAttr]; try rfl
    · simp -implicitDefEqProofs only [ze, zd, simprocAttr]; try rfl
    · simp -implicitDefEqProofs only [ze, zd, simprocAttr]; try rfl
    · simp -implicitDefEqProofs only [ze, zd, simprocAttr]; try rfl
    · simp -implicitDefEqProofs only [ze, zd, simprocAttr]; try rfl
    · rintro n tm st nx ⟨i, hi, hi2, h5, h14, h0, h1, h2, hp⟩
      simp only [k113_l0]
      by_cases hlt : i < a.length
      · have e1 : ea = 202 := by
          rcases hea with rfl | h
          · simp at hlt
          · exact h
        have e2 : eb = 202 := by
          rcases heb with rfl | h
          · rw [List.length_nil] at hlen; omega
          · exact h
        subst e1; subst e2
        obtain ⟨x, hx⟩ := get_lt hlt
        obtain ⟨y, hy⟩ := get_lt (l := b) (i := i) (by omega)
        have hd : decide ((i : Int) < (a.length : Int)) = true := decide_eq_true (by omega)
        have hS := sametag_ok x y
        simp only [encT] at hS
        have dtag := fun (st : St) (i0 nx : Nat) (l : List V) => xcall_pl (P := Tryz.prog) (E := L) (st := st) (i0 := i0) (nx := nx) (g := 114) (l := l) (by kernel_rfl) rfl
        repeat' (first | (simp -implicitDefEqProofs only [ze, zd, simprocAttr, h5, h14, h0, h1, h2, hd, hx, hy, encT, hS, dtag, List.length_map]) | (with_reducible refine wgd_cases ?_ ?_ <;> intro hb) | (with_reducible refine wcond_cases ?_ ?_ <;> intro hb) | (with_reducible refine qd_i (by kernel_rfl) ?_) | (with_reducible refine W_itn_cases ?_ ?_; omega))
        · have hne : ¬ x = y := by simpa using hb
          exact ret_b (decide_eq_false (list_ne hx hy hne)).symm
        · have hxy : x = y := by simpa using hb
          try refine ⟨a.length - (i + 1), by omega, i + 1, rfl, by omega, up64 (by omega), ?_⟩
          intro j hj
          rcases Nat.lt_succ_iff_lt_or_eq.mp hj with h | rfl
          · exact hp j h
          · rw [hx, hy, hxy]
      · have hd : decide ((i : Int) < (a.length : Int)) = false := decide_eq_false (by omega)
        repeat' (first | (simp -implicitDefEqProofs only [ze, zd, simprocAttr, h5, h14, h0, h1, h2, hd, List.length_map]) | (with_reducible refine wgd_cases ?_ ?_ <;> intro hb) | (with_reducible refine wcond_cases ?_ ?_ <;> intro hb) | (with_reducible refine qd_i (by kernel_rfl) ?_) | (with_reducible refine W_itn_cases ?_ ?_; omega))
        exact ret_b (decide_eq_true (list_eq hlen fun j hj => hp j (by omega))).symm
  · have hd : decide ((a.length : Int) = (b.length : Int)) = false := decide_eq_false (by omega)
    repeat' (first | (simp -implicitDefEqProofs only [ze, zd, simprocAttr, List.length_map, hd]) | (with_reducible refine wgd_cases ?_ ?_ <;> intro hb) | (with_reducible refine wcond_cases ?_ ?_ <;> intro hb) | (with_reducible refine qd_i (by kernel_rfl) ?_) | (with_reducible refine W_itn_cases ?_ ?_; omega))
    exact ret_b (decide_eq_false fun e => hlen (by rw [e])).symm
end Go.Proofs.YtaefaadjncehmaaGreatDoor.Vm
set_option maxRecDepth 10000
set_option linter.unusedVariables false
set_option linter.unusedSimpArgs false
namespace Go.Proofs.YtaefaadjncehmaaGreatDoor.Vm
open Go Go.Proofs
structure fitL (l : Line) : Prop where
  sm : smallL l
  bulk : lenT l.tags < 4611686018427387904
set_option maxHeartbeats 1000000 in
theorem sameline2_ok (a b : Line) (ha : fitL a) (hb0 : fitL b) : L.pl 60 [encL a, encL b] = some (.ret (.bool (decide (a.k = b.k)))) := by
  have h1 := keyof_ok a ha.sm ha.bulk
  have h2 := keyof_ok b hb0.sm hb0.bulk
  have h3 := fun ra rb => eqtags_ok a.tags b.tags (te a.tr 202) (te b.tr 202) ra rb ha.sm.len (te_or ha.sm.nil _) (te_or hb0.sm.nil _)
  simp only [encL] at h1 h2
  refine W_of (pl_w k60_eq ?_)
  simp only [k60, encL]
  repeat' (first | (simp -implicitDefEqProofs only [ze, zd, simprocAttr, h1, h2, h3, nr_pur]) | (with_reducible refine wgd_cases ?_ ?_ <;> intro hb) | (with_reducible refine wcond_cases ?_ ?_ <;> intro hb) | (with_reducible refine qd_i (by kernel_rfl) ?_) | (with_reducible refine W_itn_cases ?_ ?_; omega))
  all_goals clear h1 h2 h3
  all_goals (refine ret_b (Bool.eq_iff_iff.mpr ?_); simp_all [lk_ext])
  all_goals (intro e1 e2 e3 e4 e5 e6 e7; exact absurd (by rw [e7]) (hb e1 e2 e5 e6))
set_option maxHeartbeats 1000000 in
theorem eqlines_ok (a b : List Line) (ea eb ra rb : Nat) (hl : a.length < 4611686018427387904) (ha : ∀ l ∈ a, fitL l) (hb0 : ∀ l ∈ b, fitL l) (hea : a = [] ∨ ea = 49) (heb : b = [] ∨ eb = 49) : L.pl 59 [.list ea (a.map encL) ra, .list eb (b.map encL) rb, .fn (.func 60) [] []] = some (.ret (.bool (decide (a.map Line.k = b.map Line.k)))) := by
  refine W_of (pl_w k59_eq ?_)
  simp only [k59, k59_t0]
  by_cases hlen : a.length = b.length
  · have hd : decide ((a.length : Int) = (b.length : Int)) = true := decide_eq_true (by omega)
    repeat' (first | (simp -implicitDefEqProofs only [ze, zd, simprocAttr, List.length_map, hd]) | (with_reducible refine wgd_cases ?_ ?_ <;> intro hb) | (with_reducible refine wcond_cases ?_ ?_ <;> intro hb) | (with_reducible refine qd_i (by kernel_rfl) ?_) | (with_reducible refine W_itn_cases ?_ ?_; omega))
    refine loop_w (fun n tm st nx => ∃ i : Nat, n = a.length - i ∧ i ≤ a.length ∧ tm 15 = .i64 i ∧ tm 14 = .i64 a.length ∧ tm 0 = .list ea (a.map encL) ra ∧ tm 1 = .list eb (b.map encL) rb ∧ tm 2 = .fn (.func 60) [] [] ∧ ∀ j, j < i → (a.map Line.k)[j]? = (b.map Line.k)[j]?) a.length ⟨0, by omega, by omega, ?_, ?_, ?_, ?_, ?_, by omega⟩ ?_
    · simp -implicitDefEqProofs only [ze, zd, simprocAttr]; try rfl
    · simp -implicitDefEqProofs only [ze, zd, simprocAttr]; try rfl
    · simp -implicitDefEqProofs only [ze, zd, simprocAttr]; try rfl
    · simp -implicitDefEqProofs only [ze, zd, simprocAttr]; try rfl
    · simp -implicitDefEqProofs only [ze, zd, simprocAttr]; try rfl
    · rintro n tm st nx ⟨i, hi, hi2, h5, h14, h0, h1, h2, hp⟩
      simp only [k59_l0]
      by_cases hlt : i < a.length
      · have e1 : ea = 49 := by
          rcases hea with rfl | h
          · simp at hlt
          · exact h
        have e2 : eb = 49 := by
          rcases heb with rfl | h
          · rw [List.length_nil] at hlen; omega
          · exact h
        subst e1; subst e2
        obtain ⟨x, hx⟩ := get_lt hlt
        obtain ⟨y, hy⟩ := get_lt (l := b) (i := i) (by omega)
        have hd : decide ((i : Int) < (a.length : Int)) = true := decide_eq_true (by omega)
        have hS := sameline2_ok x y (ha x (List.mem_of_getElem? hx)) (hb0 y (List.mem_of_getElem? hy))
        simp only [encL] at hS
        have dl := fun (st : St) (i0 nx : Nat) (l : List V) => xcall_pl (P := Tryz.prog) (E := L) (st := st) (i0 := i0) (nx := nx) (g := 60) (l := l) (by kernel_rfl) rfl
        have hkx : (a.map Line.k)[i]? = some x.k := by simp [hx]
        have hky : (b.map Line.k)[i]? = some y.k := by simp [hy]
        repeat' (first | (simp -implicitDefEqProofs only [ze, zd, simprocAttr, h5, h14, h0, h1, h2, hd, hx, hy, encL, hS, dl, nr_pur, List.length_map]) | (with_reducible refine wgd_cases ?_ ?_ <;> intro hb) | (with_reducible refine wcond_cases ?_ ?_ <;> intro hb) | (with_reducible refine qd_i (by kernel_rfl) ?_) | (with_reducible refine W_itn_cases ?_ ?_; omega))
        · have hne : ¬ x.k = y.k := by simpa using hb
          exact ret_b (decide_eq_false (list_ne hkx hky hne)).symm
        · have hxy : x.k = y.k := by simpa using hb
          try refine ⟨a.length - (i + 1), by omega, i + 1, rfl, by omega, up64 (by omega), ?_⟩
          intro j hj
          rw [← List.getElem?_map, ← List.getElem?_map]
          rcases Nat.lt_succ_iff_lt_or_eq.mp hj with h | rfl
          · exact hp j h
          · rw [hkx, hky, hxy]
      · have hd : decide ((i : Int) < (a.length : Int)) = false := decide_eq_false (by omega)
        repeat' (first | (simp -implicitDefEqProofs only [ze, zd, simprocAttr, h5, h14, h0, h1, h2, hd, List.length_map]) | (with_reducible refine wgd_cases ?_ ?_ <;> intro hb) | (with_reducible refine wcond_cases ?_ ?_ <;> intro hb) | (with_reducible refine qd_i (by kernel_rfl) ?_) | (with_reducible refine W_itn_cases ?_ ?_; omega))
        exact ret_b (decide_eq_true (list_eq (by simp [hlen]) fun j hj => hp j (by rw [List.length_map] at hj; omega))).symm
  · have hd : decide ((a.length : Int) = (b.length : Int)) = false := decide_eq_false (by omega)
    repeat' (first | (simp -implicitDefEqProofs only [ze, zd, simprocAttr, List.length_map, hd]) | (with_reducible refine wgd_cases ?_ ?_ <;> intro hb) | (with_reducible refine wcond_cases ?_ ?_ <;> intro hb) | (with_reducible refine qd_i (by kernel_rfl) ?_) | (with_reducible refine W_itn_cases ?_ ?_; omega))
    exact ret_b (decide_eq_false fun e => hlen (by have := congrArg List.length e; simpa using this)).symm
theorem topof_ok (e : Entry) : L.pl 58 [encE e] = some (.ret (.agg [.i64 e.no, .str e.ent, .i64 e.book, .i64 e.val, .i64 e.kind, .str e.ref, .str e.who, .i64 e.rev])) := by
  refine W_of (pl_w k58_eq ?_)
  simp only [k58, encE]
  repeat' (first | (simp -implicitDefEqProofs only [ze, zd, simprocAttr, ne_eq, not_true_eq_false, nr_pur]) | (with_reducible refine wgd_cases ?_ ?_ <;> intro hb) | (with_reducible refine wcond_cases ?_ ?_ <;> intro hb) | (with_reducible refine qd_i (by kernel_rfl) ?_) | (with_reducible refine W_itn_cases ?_ ?_; omega))
structure fitE (e : Entry) : Prop where
  lines : ∀ l ∈ e.lines, fitL l
  len : e.lines.length < 4611686018427387904
  nil : e.lr = true → e.lines = []
set_option maxHeartbeats 1000000 in
theorem same2_ok (x y : Entry) (hx : fitE x) (hy : fitE y) : L.pl 27 [encE x, encE y] = some (.ret (.bool (decide (x.k = y.k)))) := by
  have h1 := topof_ok x
  have h2 := topof_ok y
  have h3 := fun ra rb => eqlines_ok x.lines y.lines (te x.lr 49) (te y.lr 49) ra rb hx.len hx.lines hy.lines (te_or hx.nil _) (te_or hy.nil _)
  simp only [encE] at h1 h2
  refine W_of (pl_w k27_eq ?_)
  simp only [k27, encE]
  repeat' (first | (simp -implicitDefEqProofs only [ze, zd, simprocAttr, h1, h2, h3, nr_pur]) | (with_reducible refine wgd_cases ?_ ?_ <;> intro hb) | (with_reducible refine wcond_cases ?_ ?_ <;> intro hb) | (with_reducible refine qd_i (by kernel_rfl) ?_) | (with_reducible refine W_itn_cases ?_ ?_; omega))
  all_goals clear h1 h2 h3
  all_goals (refine ret_b (Bool.eq_iff_iff.mpr ?_); simp_all [ek_ext])
  all_goals (first | done | (constructor <;> intros <;> simp_all) | (intros; simp_all))
end Go.Proofs.YtaefaadjncehmaaGreatDoor.Vm
set_option maxRecDepth 10000
set_option linter.unusedVariables false
set_option linter.unusedSimpArgs false
namespace Go.Proofs.YtaefaadjncehmaaGreatDoor.Vm
open Go Go.Proofs
def u64r (s : Int) : Prop := 0 ≤ s ∧ s < 18446744073709551616
theorem u64w (n : Int) : u64r (IntKind.u64.wrap n) := by rw [IntKind.wrap_u64]; unfold u64r; omega
def growI (h b : Int) : Int := IntKind.u64.wrap (Go.bits .xor .u64 h b * 1099511628211)
def mixI (s : Int) (bs : List Int) : Int := bs.foldl growI s
theorem growI_r (h b : Int) : u64r (growI h b) := u64w _
theorem mixI_r : ∀ (bs : List Int) {s : Int}, u64r s → u64r (mixI s bs)
  | [], _, h => h
  | b :: bs, s, _ => mixI_r bs (growI_r s b)
def four (n : Int) : List Int := [n / 16777216 % 256, n / 65536 % 256, n / 256 % 256, n % 256]
def nextI (s : Int) (bs : List Int) : Int := mixI (mixI s bs) (four ((bs.length : Int) % 4294967296))
theorem nextI_r (s : Int) (bs : List Int) (h : u64r s) : u64r (nextI s bs) := mixI_r _ (mixI_r _ h)
theorem rgrow_ok (h b : Int) (h0 : u64r h) (b0 : 0 ≤ b) (b1 : b < 256) : L.pl 119 [.sc (.int .u64 h), .sc (.int .u8 b)] = some (.ret (.sc (.int .u64 (growI h b)))) := by
  refine W_of (pl_w k119_eq ?_)
  simp only [k119]
  have hw : IntKind.u64.wrap b = b := Co.u64_small b0 (by omega)
  repeat' (first | (simp -implicitDefEqProofs only [ze, zd, simprocAttr, hw]) | (with_reducible refine wgd_cases ?_ ?_ <;> intro hb) | (with_reducible refine wcond_cases ?_ ?_ <;> intro hb) | (with_reducible refine qd_i (by kernel_rfl) ?_) | (with_reducible refine W_itn_cases ?_ ?_; omega))
  rfl
theorem u32_mod (n : Int) : IntKind.u32.wrap n = n % 4294967296 := by rw [IntKind.wrap_u32]
theorem mix_ok (bs : List Int) (hb : bOK bs) (hl : bs.length < 4611686018427387904) (r : Nat) (s : Int) : L.pl 158 [.sc (.int .u64 s), .list 5 (bv bs) r] = some (.ret (.sc (.int .u64 (mixI s bs)))) := by
  refine W_of (pl_w k158_eq ?_)
  simp only [k158]
  repeat' (first | (simp -implicitDefEqProofs only [ze, zd, simprocAttr, bv_len]) | (with_reducible refine wgd_cases ?_ ?_ <;> intro hb) | (with_reducible refine wcond_cases ?_ ?_ <;> intro hb) | (with_reducible refine qd_i (by kernel_rfl) ?_) | (with_reducible refine W_itn_cases ?_ ?_; omega))
  refine loop_w (fun n tm st nx => ∃ (i : Nat) (x : Int), n = bs.length - i ∧ i ≤ bs.length ∧ tm 9 = .i64 i ∧ tm 8 = .i64 bs.length ∧ tm 7 = .list 5 (bv bs) r ∧ tm 0 = .sc (.int .u64 x) ∧ mixI s bs = mixI x (bs.drop i)) bs.length ⟨0, s, by omega, by omega, ?_, ?_, ?_, ?_, rfl⟩ ?_
  · simp -implicitDefEqProofs only [ze, zd, simprocAttr]; try rfl
  · simp -implicitDefEqProofs only [ze, zd, simprocAttr]
  · simp -implicitDefEqProofs only [ze, zd, simprocAttr]
  · simp -implicitDefEqProofs only [ze, zd, simprocAttr]
  rintro n tm st nx ⟨i, x, hn, hi, h9, h8, h7, h0, hm⟩
  simp only [k158_l0, k158_t0]
  by_cases hlt : i < bs.length
  · have hd : decide ((i : Int) < (bs.length : Int)) = true := decide_eq_true (by omega)
    obtain ⟨b, hb1⟩ := get_lt (l := bs) (i := i) (by omega)
    obtain ⟨hb2, hb3⟩ := hb b (List.mem_of_getElem? hb1)
    have e : bs.drop i = b :: bs.drop (i + 1) := by rw [List.drop_eq_getElem_cons (by omega)]; rw [List.getElem?_eq_getElem (by omega)] at hb1; rw [Option.some.inj hb1]
    have hup : IntKind.i64.wrap ((i : Int) + 1) = ((i + 1 : Nat) : Int) := wrap_i64 (by omega) (by omega)
    have hw : IntKind.u64.wrap b = b := Co.u64_small hb2 (by omega)
    rw [e] at hm
    repeat' (first | (simp -implicitDefEqProofs only [ze, zd, simprocAttr, h9, h8, h7, h0, hd, bv_get, hb1, hup, hw]) | (with_reducible refine wgd_cases ?_ ?_ <;> intro hb) | (with_reducible refine wcond_cases ?_ ?_ <;> intro hb) | (with_reducible refine qd_i (by kernel_rfl) ?_) | (with_reducible refine W_itn_cases ?_ ?_; omega))
    exact ⟨bs.length - (i + 1), by omega, i + 1, growI x b, rfl, by omega, rfl, rfl, hm⟩
  · have hd : decide ((i : Int) < (bs.length : Int)) = false := decide_eq_false (by omega)
    have hin : i = bs.length := by omega
    rw [hin, List.drop_length] at hm
    repeat' (first | (simp -implicitDefEqProofs only [ze, zd, simprocAttr, h9, h8, h7, h0, hd]) | (with_reducible refine wgd_cases ?_ ?_ <;> intro hb) | (with_reducible refine wcond_cases ?_ ?_ <;> intro hb) | (with_reducible refine qd_i (by kernel_rfl) ?_) | (with_reducible refine W_itn_cases ?_ ?_; omega))
    rw [hm]; rfl
theorem f24 (x : Int) : x.fdiv 16777216 = x / 16777216 := Int.fdiv_eq_ediv_of_nonneg x (by decide)
theorem f16 (x : Int) : x.fdiv 65536 = x / 65536 := Int.fdiv_eq_ediv_of_nonneg x (by decide)
theorem f8 (x : Int) : x.fdiv 256 = x / 256 := Int.fdiv_eq_ediv_of_nonneg x (by decide)
theorem four_ok (n : Int) : bOK (four n) := by
  intro b hb
  simp only [four, List.mem_cons, List.not_mem_nil, or_false] at hb
  omega
theorem cnext_ok (bs : List Int) (hb : bOK bs) (hl : bs.length < 4611686018427387904) (r : Nat) (s : Int) : L.pl 101 [.sc (.int .u64 s), .list 5 (bv bs) r] = some (.ret (.sc (.int .u64 (nextI s bs)))) := by
  refine W_of (pl_w k101_eq ?_)
  simp only [k101]
  have hm := mix_ok bs hb hl 0 s
  have hm1 := mix_ok bs hb hl 1 s
  have hm2 := mix_ok (four ((bs.length : Int) % 4294967296)) (four_ok _) (by simp [four]) 0 (mixI s bs)
  have hr : (if r = 1 then 1 else 0) = 0 ∨ (if r = 1 then 1 else 0) = 1 := by split <;> simp
  have e : bv (four ((bs.length : Int) % 4294967296)) = [V.sc (.int .u8 ((bs.length : Int) % 4294967296 / 16777216 % 256)), V.sc (.int .u8 ((bs.length : Int) % 4294967296 / 65536 % 256)), V.sc (.int .u8 ((bs.length : Int) % 4294967296 / 256 % 256)), V.sc (.int .u8 ((bs.length : Int) % 4294967296 % 256))] := rfl
  rw [e] at hm2
  have p24 : (2 : Int) ^ 24 = 16777216 := rfl
  have p16 : (2 : Int) ^ 16 = 65536 := rfl
  have p8 : (2 : Int) ^ 8 = 256 := rfl
  have n24 : Nat.min 24 IntKind.u32.bits = 24 := rfl
  have n16 : Nat.min 16 IntKind.u32.bits = 16 := rfl
  have n8 : Nat.min 8 IntKind.u32.bits = 8 := rfl
  rcases hr with hr | hr
  · repeat' (first | (simp -implicitDefEqProofs only [ze, zd, simprocAttr, hr, hm, hm2, bv_len, u32_mod, u8_mod, f24, f16, f8, p24, p16, p8, n24, n16, n8]) | (with_reducible refine wgd_cases ?_ ?_ <;> intro hb) | (with_reducible refine wcond_cases ?_ ?_ <;> intro hb) | (with_reducible refine qd_i (by kernel_rfl) ?_) | (with_reducible refine W_itn_cases ?_ ?_; omega))
    rfl
  · repeat' (first | (simp -implicitDefEqProofs only [ze, zd, simprocAttr, hr, hm1, hm2, bv_len, u32_mod, u8_mod, f24, f16, f8, p24, p16, p8, n24, n16, n8]) | (with_reducible refine wgd_cases ?_ ?_ <;> intro hb) | (with_reducible refine wcond_cases ?_ ?_ <;> intro hb) | (with_reducible refine qd_i (by kernel_rfl) ?_) | (with_reducible refine W_itn_cases ?_ ?_; omega))
    rfl
theorem rnext_ok (bs : List Int) (hb : bOK bs) (hl : bs.length < 4611686018427387904) (r : Nat) (s : Int) (hs : u64r s) : L.pl 63 [.sc (.int .u64 s), .list 5 (bv bs) r] = some (.ret (.sc (.int .u64 (nextI s bs)))) := by
  refine W_of (pl_w k63_eq ?_)
  simp only [k63]
  repeat' (first | (simp -implicitDefEqProofs only [ze, zd, simprocAttr]) | (with_reducible refine wgd_cases ?_ ?_ <;> intro hb) | (with_reducible refine wcond_cases ?_ ?_ <;> intro hb) | (with_reducible refine qd_i (by kernel_rfl) ?_) | (with_reducible refine W_itn_cases ?_ ?_; omega))
  refine loop_w (fun n tm st nx => ∃ (i : Nat) (x : Int), n = bs.length - i ∧ i ≤ bs.length ∧ tm 5 = .i64 i ∧ tm 1 = .list 5 (bv bs) r ∧ tm 0 = .sc (.int .u64 x) ∧ mixI s bs = mixI x (bs.drop i) ∧ u64r x) bs.length ⟨0, s, by omega, by omega, ?_, ?_, ?_, rfl, hs⟩ ?_
  · simp -implicitDefEqProofs only [ze, zd, simprocAttr]; try rfl
  · simp -implicitDefEqProofs only [ze, zd, simprocAttr]
  · simp -implicitDefEqProofs only [ze, zd, simprocAttr]
  rintro n tm st nx ⟨i, x, hn, hi, h5, h1, h0, hm, hx⟩
  simp only [k63_l0]
  by_cases hlt : i < bs.length
  · have hd : decide ((i : Int) < (bs.length : Int)) = true := decide_eq_true (by omega)
    obtain ⟨b, hb1⟩ := get_lt (l := bs) (i := i) (by omega)
    obtain ⟨hb2, hb3⟩ := hb b (List.mem_of_getElem? hb1)
    have e : bs.drop i = b :: bs.drop (i + 1) := by rw [List.drop_eq_getElem_cons (by omega)]; rw [List.getElem?_eq_getElem (by omega)] at hb1; rw [Option.some.inj hb1]
    have hup : IntKind.i64.wrap ((i : Int) + 1) = ((i + 1 : Nat) : Int) := wrap_i64 (by omega) (by omega)
    have hg := rgrow_ok x b hx hb2 hb3
    rw [e] at hm
    repeat' (first | (simp -implicitDefEqProofs only [ze, zd, simprocAttr, h5, h1, h0, hd, bv_len, bv_get, hb1, hup, hg]) | (with_reducible refine wgd_cases ?_ ?_ <;> intro hb) | (with_reducible refine wcond_cases ?_ ?_ <;> intro hb) | (with_reducible refine qd_i (by kernel_rfl) ?_) | (with_reducible refine W_itn_cases ?_ ?_; omega))
    exact ⟨bs.length - (i + 1), by omega, i + 1, growI x b, rfl, by omega, rfl, rfl, hm, growI_r _ _⟩
  · have hd : decide ((i : Int) < (bs.length : Int)) = false := decide_eq_false (by omega)
    have hin : i = bs.length := by omega
    rw [hin, List.drop_length] at hm
    have hm : mixI s bs = x := hm
    generalize hq : (bs.length : Int) % 4294967296 = q
    have q0 : 0 ≤ q := by omega
    have a1 : q.tdiv 16777216 = q / 16777216 := Int.tdiv_eq_ediv_of_nonneg q0
    have a2 : q.tdiv 65536 = q / 65536 := Int.tdiv_eq_ediv_of_nonneg q0
    have a3 : q.tdiv 256 = q / 256 := Int.tdiv_eq_ediv_of_nonneg q0
    have c1 : (q / 16777216) % 4294967296 = q / 16777216 := by omega
    have c2 : (q / 65536) % 4294967296 = q / 65536 := by omega
    have c3 : (q / 256) % 4294967296 = q / 256 := by omega
    have b2 : (q / 65536).tmod 256 = q / 65536 % 256 := Int.tmod_eq_emod_of_nonneg (by omega)
    have b3 : (q / 256).tmod 256 = q / 256 % 256 := Int.tmod_eq_emod_of_nonneg (by omega)
    have b4 : q.tmod 256 = q % 256 := Int.tmod_eq_emod_of_nonneg q0
    have d2 : q / 65536 % 256 % 256 = q / 65536 % 256 := by omega
    have d3 : q / 256 % 256 % 256 = q / 256 % 256 := by omega
    have d4 : q % 256 % 256 = q % 256 := by omega
    have g1 := rgrow_ok x (q / 16777216 % 256) hx (by omega) (by omega)
    have g2 := rgrow_ok _ (q / 65536 % 256) (growI_r x (q / 16777216 % 256)) (by omega) (by omega)
    have g3 := rgrow_ok _ (q / 256 % 256) (growI_r (growI x (q / 16777216 % 256)) (q / 65536 % 256)) (by omega) (by omega)
    have g4 := rgrow_ok _ (q % 256) (growI_r (growI (growI x (q / 16777216 % 256)) (q / 65536 % 256)) (q / 256 % 256)) (by omega) (by omega)
    repeat' (first | (simp -implicitDefEqProofs only [ze, zd, simprocAttr, h5, h1, h0, hd, bv_len, k63_t0, u32_mod, u8_mod, hq, a1, a2, a3, c1, c2, c3, b2, b3, b4, d2, d3, d4, g1, g2, g3, g4, ne_eq]) | (with_reducible refine wgd_cases ?_ ?_ <;> intro hb) | (with_reducible refine wcond_cases ?_ ?_ <;> intro hb) | (with_reducible refine qd_i (by kernel_rfl) ?_) | (with_reducible refine W_itn_cases ?_ ?_; omega))
    unfold nextI; rw [hm, hq]; rfl
end Go.Proofs.YtaefaadjncehmaaGreatDoor.Vm
set_option maxRecDepth 10000
set_option linter.unusedVariables false
set_option linter.unusedSimpArgs false
namespace Go.Proofs.YtaefaadjncehmaaGreatDoor.Vm
open Go Go.Proofs
theorem n32_24 : Nat.min 24 IntKind.u32.bits = 24 := rfl
theorem n32_16 : Nat.min 16 IntKind.u32.bits = 16 := rfl
theorem n32_8 : Nat.min 8 IntKind.u32.bits = 8 := rfl
theorem p24 : (2 : Int) ^ 24 = 16777216 := rfl
theorem p16 : (2 : Int) ^ 16 = 65536 := rfl
theorem p8 : (2 : Int) ^ 8 = 256 := rfl
theorem snum_ok (n : Int) : L.pl 102 [.sc (.int .u32 n)] = some (.ret (.list 5 (bv (four n)) (8 + 5))) := by
  refine W_of (pl_w k102_eq ?_)
  simp only [k102]
  repeat' (first | (simp -implicitDefEqProofs only [ze, zd, simprocAttr, u8_mod, f24, f16, f8, p24, p16, p8, n32_24, n32_16, n32_8]) | (with_reducible refine wgd_cases ?_ ?_ <;> intro hb) | (with_reducible refine wcond_cases ?_ ?_ <;> intro hb) | (with_reducible refine qd_i (by kernel_rfl) ?_) | (with_reducible refine W_itn_cases ?_ ?_; omega))
  rfl
def inv (n : Int) : Int := 4294967295 - n
def frameB (bs : List Int) (s : Int) : List Int := four bs.length ++ four (inv bs.length) ++ bs ++ sumB s
theorem four_len (n : Int) : (four n).length = 4 := rfl
theorem sumB_len (s : Int) : (sumB s).length = 8 := rfl
end Go.Proofs.YtaefaadjncehmaaGreatDoor.Vm
set_option maxRecDepth 10000
set_option linter.unusedVariables false
set_option linter.unusedSimpArgs false
namespace Go.Proofs.YtaefaadjncehmaaGreatDoor.Vm
open Go Go.Proofs
def LogW (st : St) (nx id : Nat) (out : List Int) (s : Int) (w : V) : Prop := id < nx ∧ ∃ v, st id = some (.cells [v, .sc (.int .u64 s), w]) ∧ Grow st nx 5 (bv out) v
def KeepO (st st' : St) (nx id : Nat) : Prop := ∀ i, i < nx → i ≠ id → (∀ n e, st i ≠ some (.tok n e)) → st' i = st i
def tokOf : V → Nat
  | .list _ _ r => r
  | _ => 0
def toksAt (st : St) (id : Nat) : List Nat := match st id with
  | some (.cells [v, _, w]) => [tokOf v, tokOf w]
  | _ => []
def KQ (st st' : St) (nx id : Nat) : Prop := (∀ k, k < nx → k ≠ id → k ∉ toksAt st id → st' k = st k) ∧ ∀ k ∈ toksAt st' id, k ∈ toksAt st id ∨ nx ≤ k
def KeepR (st st' : St) (nx e : Nat) : Prop := ∀ i n e', i < nx → e' ≠ e → st i = some (.tok n e') → st' i = some (.tok n e')
theorem un_xor32 (P : Program) (n : Int) : reck P (Op.unary .xor (.int .u32 n)) = some (.int .u32 (Go.bits .xor .u32 4294967295 n)) := rfl
theorem xinv (n : Int) (hn : 0 ≤ n ∧ n < 4294967296) : Go.bits .xor .u32 4294967295 n = inv n := by
  obtain ⟨a, rfl⟩ := Int.eq_ofNat_of_zero_le hn.1
  rw [Co.xor_comm_]
  show IntKind.u32.wrap ((BitVec.ofInt 32 (a : Int) ^^^ BitVec.ofInt 32 4294967295).toNat : Int) = _
  have h1 : BitVec.ofInt 32 4294967295 = BitVec.allOnes 32 := by decide
  have h2 : (BitVec.ofInt 32 (a : Int)).toNat = a := by rw [BitVec.toNat_ofInt]; omega
  rw [h1, BitVec.xor_allOnes, BitVec.toNat_not, h2, IntKind.wrap_u32]
  unfold inv; omega
theorem nxj (n j : Nat) : (n = n + j) = (j = 0) := propext (by omega)
theorem write_ok {st : St} {nx id : Nat} {out : List Int} {s : Int} {w : V} (he : LogW st nx id out s w) (bs : List Int) (hb : bOK bs) (hs : u64r s) (hl : out.length ≤ 100000000000) (hl2 : bs.length ≤ 1000000000) (r : Nat) :
    W (L.hp 51 [.ptr id 0, .list 5 (bv bs) r] st nx) fun r => ∃ st' nx', r = .ret (.tup []) st' nx' ∧ nx ≤ nx' ∧ LogW st' nx' id (out ++ frameB bs (nextI s bs)) (nextI s bs) w ∧ KeepO st st' nx id ∧ KeepR st st' nx 5 ∧ KQ st st' nx id := by
  refine hp_w k51_eq ?_
  simp only [k51]
  obtain ⟨hid, v, hv, hg⟩ := he
  have hn : (0 : Int) ≤ (bs.length : Int) ∧ (bs.length : Int) < 4294967296 := ⟨by omega, by omega⟩
  have hw : (bs.length : Int) % 4294967296 = bs.length := Int.emod_eq_of_lt hn.1 hn.2
  have hx := xinv _ hn
  have hk := cnext_ok bs hb (by omega) (if r = 1 then 1 else 0) s
  have hr' := nextI_r s bs hs
  have hz := cbytes_ok (nextI s bs) hr'.1 hr'.2
  have hne : ∀ j, (id = nx + j) = False := fun j => eq_false (by omega)
  have hne' : ∀ j, (nx + j = id) = False := fun j => eq_false (by omega)
  rcases hg with ⟨hb0, rfl⟩ | ⟨q, hr8, hrn, rfl, hst⟩
  · have hout : out = [] := by simpa [bv] using hb0
    subst hout
    repeat' (first | (simp -implicitDefEqProofs only [ze, zd, simprocAttr, hv, hk, hw, u32_mod, hx, un_xor32, snum_ok, hz, hne, hne', nxj, bv_len, four_len, sumB_len, List.length_append]) | (with_reducible refine W_itn_cases ?_ ?_; omega))
    refine qd_i ?_ ?_
    · simp [recsOk, ordB, Rec.free, Rec.wr, disj, List.range, List.range.loop, hne, hne']; try decide
    repeat' (first | (simp -implicitDefEqProofs only [ze, zd, simprocAttr, hv, hk, hw, u32_mod, hx, un_xor32, snum_ok, hz, hne, hne', nxj, bv_len, four_len, sumB_len, List.length_append]) | (with_reducible refine W_itn_cases ?_ ?_; omega))
    refine qd_i ?_ ?_
    · simp [recsOk, ordB, Rec.free, Rec.wr, disj, List.range, List.range.loop, hne, hne']; try decide
    simp -implicitDefEqProofs only [ze, zd, simprocAttr, hv, hk, hw, u32_mod, hx, un_xor32, snum_ok, hz, hne, hne', nxj, bv_len, four_len, sumB_len, List.length_append]
    refine ⟨_, _, rfl, by omega, ⟨by omega, _, by rw [upd_at, if_pos rfl], .inr ⟨nx + 168, by omega, by omega, by simp [frameB, bv_app], ?_⟩⟩, fun i h1 h2 h3 => ?_, fun i n e' h1 h2 h3 => ?_, fun k h1 h2 h3 => ?_, fun k hk => ?_⟩
    · simp [upd_at, hne', bv_len, frameB, four_len, sumB_len]; omega
    · have a1 : ∀ j, (i = nx + j) = False := fun j => eq_false (by omega)
      simp [upd_at, h2, a1]
    · have a1 : ∀ j, (i = nx + j) = False := fun j => eq_false (by omega)
      have a2 : (i = id) = False := eq_false fun e => by subst e; rw [hv] at h3; cases h3
      simp [upd_at, a2, a1, h3]
    · have a1 : ∀ j, (k = nx + j) = False := fun j => eq_false (by omega)
      simp [upd_at, h2, a1]
    · simp only [toksAt, upd_at, if_true, tokOf, List.mem_cons, List.not_mem_nil, or_false] at hk
      simp only [toksAt, hv, tokOf, List.mem_cons, List.not_mem_nil, or_false]
      omega
  · have hr0 : (q = 0) = False := eq_false (by omega)
    have hr1 : (q = 1) = False := eq_false (by omega)
    have hrx : ∀ j, (q = nx + j) = False := fun j => eq_false (by omega)
    have hrx' : ∀ j, (nx + j = q) = False := fun j => eq_false (by omega)
    have hri : ¬ q = id := fun e => by subst e; rw [hv] at hst; cases hst
    have hri' : (q = id) = False := eq_false hri
    have hir : (id = q) = False := eq_false fun e => hri e.symm
    repeat' (first | (simp -implicitDefEqProofs only [ze, zd, simprocAttr, hv, hk, hw, u32_mod, hx, un_xor32, snum_ok, hz, hne, hne', nxj, bv_len, four_len, sumB_len, List.length_append, hr0, hr1, hrx, hrx', hri', hir, hst]) | (with_reducible refine W_itn_cases ?_ ?_; omega))
    refine qd_i ?_ ?_
    · simp [recsOk, ordB, Rec.free, Rec.wr, disj, List.range, List.range.loop, hne, hne', hrx, hrx', hri', hir]; try decide
    repeat' (first | (simp -implicitDefEqProofs only [ze, zd, simprocAttr, hv, hk, hw, u32_mod, hx, un_xor32, snum_ok, hz, hne, hne', nxj, bv_len, four_len, sumB_len, List.length_append, hr0, hr1, hrx, hrx', hri', hir, hst]) | (with_reducible refine W_itn_cases ?_ ?_; omega))
    refine qd_i ?_ ?_
    · simp [recsOk, ordB, Rec.free, Rec.wr, disj, List.range, List.range.loop, hne, hne', hrx, hrx', hri', hir]; try decide
    simp -implicitDefEqProofs only [ze, zd, simprocAttr, hv, hk, hw, u32_mod, hx, un_xor32, snum_ok, hz, hne, hne', nxj, bv_len, four_len, sumB_len, List.length_append, hr0, hr1, hrx, hrx', hri', hir, hst]
    refine ⟨_, _, rfl, by omega, ⟨by omega, _, by rw [upd_at, if_pos rfl], .inr ⟨q, hr8, by omega, by simp [frameB, bv_app], ?_⟩⟩, fun i h1 h2 h3 => ?_, fun i n e' h1 h2 h3 => ?_, fun k h1 h2 h3 => ?_, fun k hk => ?_⟩
    · simp [upd_at, hri', bv_len, frameB, four_len, sumB_len]; omega
    · have a1 : ∀ j, (i = nx + j) = False := fun j => eq_false (by omega)
      have a2 : (i = q) = False := eq_false fun e => by subst e; exact h3 _ _ hst
      simp [upd_at, h2, a1, a2]
    · have a1 : ∀ j, (i = nx + j) = False := fun j => eq_false (by omega)
      have a2 : (i = id) = False := eq_false fun e => by subst e; rw [hv] at h3; cases h3
      have a3 : (i = q) = False := eq_false fun e => by subst e; rw [h3] at hst; cases hst; exact h2 rfl
      simp [upd_at, a2, a1, a3, h3]
    · have a1 : ∀ j, (k = nx + j) = False := fun j => eq_false (by omega)
      simp only [toksAt, hv, tokOf, List.mem_cons, List.not_mem_nil, or_false, not_or] at h3
      simp [upd_at, h2, a1, h3.1]
    · simp only [toksAt, upd_at, if_true, tokOf, List.mem_cons, List.not_mem_nil, or_false] at hk
      simp only [toksAt, hv, tokOf, List.mem_cons, List.not_mem_nil, or_false]
      omega
end Go.Proofs.YtaefaadjncehmaaGreatDoor.Vm
set_option maxRecDepth 10000
set_option linter.unusedVariables false
set_option linter.unusedSimpArgs false
namespace Go.Proofs.YtaefaadjncehmaaGreatDoor.Vm
open Go Go.Proofs
theorem or_u32 (x y : Nat) (hx : x < 4294967296) (hy : y < 4294967296) : Go.bits .or .u32 (x : Int) (y : Int) = ((x ||| y : Nat) : Int) := by
  show IntKind.u32.wrap ((BitVec.ofInt 32 (x : Int) ||| BitVec.ofInt 32 (y : Int)).toNat : Int) = _
  have h1 : (BitVec.ofInt 32 (x : Int)).toNat = x := by rw [BitVec.toNat_ofInt]; omega
  have h2 : (BitVec.ofInt 32 (y : Int)).toNat = y := by rw [BitVec.toNat_ofInt]; omega
  have h3 : x ||| y < 2 ^ 32 := Nat.or_lt_two_pow hx hy
  rw [BitVec.toNat_or, h1, h2, IntKind.wrap_u32]
  omega
theorem or_add (a b k : Nat) (h : b < 2 ^ k) : a * 2 ^ k ||| b = a * 2 ^ k + b := by
  rw [← Nat.shiftLeft_eq, Nat.shiftLeft_add_eq_or_of_lt h]
theorem or_24 (a b : Nat) (h : b < 16777216) : a * 16777216 ||| b = a * 16777216 + b := or_add a b 24 h
theorem or_16 (a b : Nat) (h : b < 65536) : a * 65536 ||| b = a * 65536 + b := or_add a b 16 h
theorem or_8 (a b : Nat) (h : b < 256) : a * 256 ||| b = a * 256 + b := or_add a b 8 h
def readI (a b c d : Int) : Int := a * 16777216 + b * 65536 + c * 256 + d
theorem or_read (a b c d : Int) (ha : 0 ≤ a ∧ a < 256) (hb : 0 ≤ b ∧ b < 256) (hc : 0 ≤ c ∧ c < 256) (hd : 0 ≤ d ∧ d < 256) :
    Go.bits .or .u32 (Go.bits .or .u32 (Go.bits .or .u32 (a * 16777216) (b * 65536)) (c * 256)) d = readI a b c d := by
  obtain ⟨a, rfl⟩ := Int.eq_ofNat_of_zero_le ha.1
  obtain ⟨b, rfl⟩ := Int.eq_ofNat_of_zero_le hb.1
  obtain ⟨c, rfl⟩ := Int.eq_ofNat_of_zero_le hc.1
  obtain ⟨d, rfl⟩ := Int.eq_ofNat_of_zero_le hd.1
  have ha' : a < 256 := by omega
  have hb' : b < 256 := by omega
  have hc' : c < 256 := by omega
  have hd' : d < 256 := by omega
  clear ha hb hc hd
  have s1 : Go.bits .or .u32 ((a : Int) * 16777216) ((b : Int) * 65536) = (((a * 256 + b) * 65536 : Nat) : Int) := by
    have := or_u32 (a * 16777216) (b * 65536) (by omega) (by omega)
    rw [or_24 a (b * 65536) (by omega)] at this
    rw [show ((a : Int) * 16777216) = ((a * 16777216 : Nat) : Int) by omega, show ((b : Int) * 65536) = ((b * 65536 : Nat) : Int) by omega, this]
    omega
  have s2 : Go.bits .or .u32 (((a * 256 + b) * 65536 : Nat) : Int) ((c : Int) * 256) = (((a * 65536 + b * 256 + c) * 256 : Nat) : Int) := by
    have := or_u32 ((a * 256 + b) * 65536) (c * 256) (by omega) (by omega)
    rw [or_16 (a * 256 + b) (c * 256) (by omega)] at this
    rw [show ((c : Int) * 256) = ((c * 256 : Nat) : Int) by omega, this]
    omega
  have s3 : Go.bits .or .u32 (((a * 65536 + b * 256 + c) * 256 : Nat) : Int) (d : Int) = readI a b c d := by
    have := or_u32 ((a * 65536 + b * 256 + c) * 256) d (by omega) (by omega)
    rw [or_8 (a * 65536 + b * 256 + c) d hd'] at this
    rw [this]
    unfold readI; omega
  rw [s1, s2, s3]
def rdB : List Int → Int
  | a :: b :: c :: d :: _ => readI a b c d
  | _ => 0
theorem readI_r {a b c d : Int} (ha : 0 ≤ a ∧ a < 256) (hb : 0 ≤ b ∧ b < 256) (hc : 0 ≤ c ∧ c < 256) (hd : 0 ≤ d ∧ d < 256) : 0 ≤ readI a b c d ∧ readI a b c d < 4294967296 := by unfold readI; omega
theorem read_ok (l : List Int) (hb : bOK l) (h4 : 4 ≤ l.length) (r : Nat) : L.pl 163 [.list 5 (bv l) r] = some (.ret (.sc (.int .u32 (rdB l)))) := by
  obtain ⟨a, b, c, d, m, rfl⟩ : ∃ a b c d m, l = a :: b :: c :: d :: m := by
    match l, h4 with
    | a :: b :: c :: d :: m, _ => exact ⟨a, b, c, d, m, rfl⟩
  have ha := hb a (by simp)
  have hb' := hb b (by simp)
  have hc := hb c (by simp)
  have hd := hb d (by simp)
  refine W_of (pl_w k163_eq ?_)
  simp only [k163]
  have hbv : bv (a :: b :: c :: d :: m) = .sc (.int .u8 a) :: .sc (.int .u8 b) :: .sc (.int .u8 c) :: .sc (.int .u8 d) :: bv m := rfl
  have hor := or_read a b c d ha hb' hc hd
  have w1 : IntKind.u32.wrap a = a := by rw [IntKind.wrap_u32]; omega
  have w2 : IntKind.u32.wrap b = b := by rw [IntKind.wrap_u32]; omega
  have w3 : IntKind.u32.wrap c = c := by rw [IntKind.wrap_u32]; omega
  have w4 : IntKind.u32.wrap d = d := by rw [IntKind.wrap_u32]; omega
  have v1 : IntKind.u32.wrap (a * 16777216) = a * 16777216 := by rw [IntKind.wrap_u32]; omega
  have v2 : IntKind.u32.wrap (b * 65536) = b * 65536 := by rw [IntKind.wrap_u32]; omega
  have v3 : IntKind.u32.wrap (c * 256) = c * 256 := by rw [IntKind.wrap_u32]; omega
  rw [hbv]
  repeat' (first | (simp -implicitDefEqProofs only [ze, zd, simprocAttr, w1, w2, w3, w4, p24, p16, p8, n32_24, n32_16, n32_8, v1, v2, v3, hor]) | (with_reducible refine wgd_cases ?_ ?_ <;> intro hb) | (with_reducible refine wcond_cases ?_ ?_ <;> intro hb) | (with_reducible refine qd_i (by kernel_rfl) ?_) | (with_reducible refine W_itn_cases ?_ ?_; omega))
  rfl
theorem rdB_r (l : List Int) (hb : bOK l) (h4 : 4 ≤ l.length) : 0 ≤ rdB l ∧ rdB l < 4294967296 := by
  match l, h4 with
  | a :: b :: c :: d :: m, _ => exact readI_r (hb a (by simp)) (hb b (by simp)) (hb c (by simp)) (hb d (by simp))
def frameS (bs : List Int) : List Int × List Int × Int :=
  if bs.length < 8 then ([], [], 6)
  else if rdB (bs.drop 4) = inv (rdB bs) then
    (if (bs.length : Int) - 8 < rdB bs + 8 then ([], [], 6) else ((bs.drop 8).take (rdB bs).toNat, ((bs.drop 8).drop (rdB bs).toNat).take 8, 0))
  else ([], [], 5)
theorem bOK_drop {l : List Int} (h : bOK l) (n : Nat) : bOK (l.drop n) := fun b hb => h b (List.mem_of_mem_drop hb)
theorem bOK_take {l : List Int} (h : bOK l) (n : Nat) : bOK (l.take n) := fun b hb => h b (List.mem_of_mem_take hb)
theorem frame_short (bs : List Int) (h : bs.length < 8) (r : Nat) : L.pl 110 [.list 5 (bv bs) r] = some (.ret (.tup [.list 0 [] 1, .list 0 [] 1, .i64 6])) := by
  refine W_of (pl_w k110_eq ?_)
  simp only [k110]
  have hd : decide ((bs.length : Int) < 8) = true := decide_eq_true (by omega)
  repeat' (first | (simp -implicitDefEqProofs only [ze, zd, simprocAttr, bv_len, hd]) | (with_reducible refine wgd_cases ?_ ?_ <;> intro hb) | (with_reducible refine wcond_cases ?_ ?_ <;> intro hb) | (with_reducible refine qd_i (by kernel_rfl) ?_) | (with_reducible refine W_itn_cases ?_ ?_; omega))
theorem frame_long (bs : List Int) (hb : bOK bs) (h : ¬ bs.length < 8) (hl : bs.length < 1000000000) (r : Nat) : W (L.pl 110 [.list 5 (bv bs) r]) fun q => ∃ t1 t2 r1 r2, q = .ret (.tup [.list t1 (bv (frameS bs).1) r1, .list t2 (bv (frameS bs).2.1) r2, .i64 (frameS bs).2.2]) ∧ ((frameS bs).2.2 = 0 → t1 = 5 ∧ t2 = 5) ∧ r1 < 8 ∧ r2 < 8 := by
  refine pl_w k110_eq ?_
  simp only [k110]
  have hd : decide ((bs.length : Int) < 8) = false := decide_eq_false (by omega)
  have hr := read_ok bs hb (by omega) (if r = 1 then 1 else 0)
  have hb4 := bOK_drop hb 4
  have hr4 := read_ok (bs.drop 4) hb4 (by rw [List.length_drop]; omega) 0
  have hr4' := read_ok (bs.drop 4) hb4 (by rw [List.length_drop]; omega) (if r = 1 then 1 else 0)
  have hn := rdB_r bs hb (by omega)
  have hx := xinv _ hn
  by_cases h1 : rdB (bs.drop 4) = inv (rdB bs)
  · have d1 : decide (rdB (bs.drop 4) = inv (rdB bs)) = true := decide_eq_true h1
    have u1 : IntKind.u64.wrap ((bs.length - 8 : Nat) : Int) = ((bs.length - 8 : Nat) : Int) := by rw [IntKind.wrap_u64]; omega
    have u2 : IntKind.u64.wrap (rdB bs) = rdB bs := by rw [IntKind.wrap_u64]; omega
    have u3 : IntKind.u64.wrap (rdB bs + 8) = rdB bs + 8 := by rw [IntKind.wrap_u64]; omega
    by_cases h2 : (bs.length : Int) - 8 < rdB bs + 8
    · have d2 : decide (((bs.length - 8 : Nat) : Int) < rdB bs + 8) = true := decide_eq_true (by omega)
      repeat' (first | (simp -implicitDefEqProofs only [ze, zd, simprocAttr, bv_len, hd, hr, hr4, hr4', un_xor32, hx, d1, d2, u1, u2, u3, bv_dp, bv_tk, List.take_length, List.length_drop]) | (with_reducible refine wgd_cases ?_ ?_ <;> intro hb) | (with_reducible refine wcond_cases ?_ ?_ <;> intro hb) | (with_reducible refine qd_i (by kernel_rfl) ?_) | (with_reducible refine W_itn_cases ?_ ?_; omega))
      have hf : frameS bs = ([], [], 6) := by unfold frameS; rw [if_neg h, if_pos h1, if_pos h2]
      exact ⟨0, 0, 1, 1, by rw [hf]; rfl, (fun h => by rw [hf] at h; cases h), by decide, by decide⟩
    · have d2 : decide (((bs.length - 8 : Nat) : Int) < rdB bs + 8) = false := decide_eq_false (by omega)
      have v1 : IntKind.u32.wrap (rdB bs + 8) = rdB bs + 8 := by rw [IntKind.wrap_u32]; omega
      have hu : Tryz.prog.underlying 22 = some (.slice 5) := by kernel_rfl
      have hz : (usz Tryz.prog 5).isSome = true := by kernel_rfl
      repeat' (first | (simp -implicitDefEqProofs only [ze, zd, simprocAttr, xop0, ev, xslice, pint, hu, hz, imp_self, and_true, bv_len, hd, hr, hr4, hr4', un_xor32, hx, d1, d2, u1, u2, u3, v1, bv_dp, bv_tk, List.take_length, List.length_drop]) | (with_reducible refine wgd_cases ?_ ?_ <;> intro hb) | (with_reducible refine wcond_cases ?_ ?_ <;> intro hb) | (with_reducible refine qd_i (by kernel_rfl) ?_) | (with_reducible refine W_itn_cases ?_ ?_; omega))
      have hf : frameS bs = ((bs.drop 8).take (rdB bs).toNat, ((bs.drop 8).drop (rdB bs).toNat).take 8, 0) := by unfold frameS; rw [if_neg h, if_pos h1, if_neg h2]
      have hdt : List.drop (rdB bs).toNat (List.take (rdB bs + 8).toNat (List.drop 8 bs)) = ((bs.drop 8).drop (rdB bs).toNat).take 8 := by
        rw [List.drop_take, show (rdB bs + 8).toNat - (rdB bs).toNat = 8 by omega]
      exact ⟨_, _, 0, 0, by rw [hf, hdt], (fun _ => ⟨rfl, rfl⟩), by decide, by decide⟩
  · have d1 : decide (rdB (bs.drop 4) = inv (rdB bs)) = false := decide_eq_false h1
    have hf : frameS bs = ([], [], 5) := by unfold frameS; rw [if_neg h, if_neg h1]
    repeat' (first | (simp -implicitDefEqProofs only [ze, zd, simprocAttr, bv_len, hd, hr, hr4, hr4', un_xor32, hx, d1, bv_dp, bv_tk, List.take_length, List.length_drop]) | (with_reducible refine wgd_cases ?_ ?_ <;> intro hb) | (with_reducible refine wcond_cases ?_ ?_ <;> intro hb) | (with_reducible refine qd_i (by kernel_rfl) ?_) | (with_reducible refine W_itn_cases ?_ ?_; omega))
    exact ⟨0, 0, 1, 1, by rw [hf]; rfl, (fun h => by rw [hf] at h; cases h), by decide, by decide⟩
end Go.Proofs.YtaefaadjncehmaaGreatDoor.Vm
set_option maxRecDepth 10000
set_option linter.unusedVariables false
set_option linter.unusedSimpArgs false
namespace Go.Proofs.YtaefaadjncehmaaGreatDoor.Vm
open Go Go.Proofs
def Dec (st : St) (nx id : Nat) (bs : List Int) (rr at_ : Nat) : Prop := id < nx ∧ at_ ≤ bs.length ∧ st id = some (.cells [.list 5 (bv bs) rr, .i64 at_])
def KeepX (st st' : St) (nx id : Nat) : Prop := ∀ i, i < nx → i ≠ id → st' i = st i
theorem KeepX.trans {s0 s1 s2 : St} {n0 n1 id : Nat} (h : KeepX s0 s1 n0 id) (k : KeepX s1 s2 n1 id) (hn : n0 ≤ n1) : KeepX s0 s2 n0 id := fun i h1 h2 => (k i (by omega) h2).trans (h i h1 h2)
theorem KeepX.refl (st : St) (nx id : Nat) : KeepX st st nx id := fun _ _ _ => rfl
theorem KeepX.upd {s0 s1 : St} {n0 id j : Nat} (h : KeepX s0 s1 n0 id) (hj : n0 ≤ j) (o : Option Ob) : KeepX s0 (upd s1 j o) n0 id := fun i h1 h2 => by rw [upd_at, if_neg (by omega)]; exact h i h1 h2
theorem Dec.upd {st : St} {nx nx' id j : Nat} {bs : List Int} {rr a : Nat} (h : Dec st nx id bs rr a) (hj : nx ≤ j) (hn : nx ≤ nx') (o : Option Ob) : Dec (upd st j o) nx' id bs rr a := ⟨Nat.lt_of_lt_of_le h.1 hn, h.2.1, by rw [upd_at, if_neg (by have := h.1; omega)]; exact h.2.2⟩
theorem Dec.le {st : St} {nx nx' id : Nat} {bs : List Int} {rr a : Nat} (h : Dec st nx id bs rr a) (hn : nx ≤ nx') : Dec st nx' id bs rr a := ⟨Nat.lt_of_lt_of_le h.1 hn, h.2⟩
def errV (e : Int) : V := .ifc 270 (.agg [.i64 e])
def DP {α : Type} (st : St) (nx id : Nat) (bs : List Int) (rr : Nat) (o : Except Int (α × Nat)) (Q : α → V → St → Nat → Prop) (r : HR) : Prop := match o with
  | .error e => ∃ st' nx', r = .pan (errV e) st' nx' ∧ nx ≤ nx' ∧ KeepX st st' nx id
  | .ok p => ∃ v st' nx', r = .ret v st' nx' ∧ nx ≤ nx' ∧ KeepX st st' nx id ∧ Dec st' nx' id bs rr p.2 ∧ Q p.1 v st' nx'
theorem dend_ok {st : St} {nx id : Nat} {bs : List Int} {rr a : Nat} (h : Dec st nx id bs rr a) (hl : bs.length < 4611686018427387904) (u : Nat) (hu : a + u ≤ bs.length) :
    W (L.hp 166 [.ptr id 0, .i64 u, .i64 0] st nx) fun r => ∃ st' nx', r = .ret (.tup []) st' nx' ∧ nx ≤ nx' ∧ Dec st' nx' id bs rr (a + u) ∧ KeepX st st' nx id := by
  refine hp_w k166_eq ?_
  simp only [k166]
  obtain ⟨h1, h2, h3⟩ := h
  have hw : IntKind.i64.wrap ((a : Int) + (u : Int)) = ((a + u : Nat) : Int) := by rw [wrap_i64 (by omega) (by omega)]; omega
  repeat' (first | (simp -implicitDefEqProofs only [ze, zd, simprocAttr, h3, hw]) | (with_reducible refine wgd_cases ?_ ?_ <;> intro hb) | (with_reducible refine wcond_cases ?_ ?_ <;> intro hb) | (with_reducible refine qd_i (by kernel_rfl) ?_) | (with_reducible refine W_itn_cases ?_ ?_; omega))
  exact ⟨_, _, rfl, by omega, ⟨by omega, hu, by rw [upd_at, if_pos rfl]⟩, fun i g1 g2 => by rw [upd_at, if_neg g2]⟩
theorem dend_bad {st : St} {nx id : Nat} (u e : Int) (he : ¬ e = 0) :
    W (L.hp 166 [.ptr id 0, .i64 u, .i64 e] st nx) fun r => ∃ st' nx', r = .pan (errV e) st' nx' ∧ nx ≤ nx' ∧ KeepX st st' nx id := by
  refine hp_w k166_eq ?_
  simp only [k166]
  have hd : decide (e = 0) = false := decide_eq_false he
  repeat' (first | (simp -implicitDefEqProofs only [ze, zd, simprocAttr, hd, ne_eq, not_true_eq_false, gt_iff_lt]) | (with_reducible refine wgd_cases ?_ ?_ <;> intro hb) | (with_reducible refine wcond_cases ?_ ?_ <;> intro hb) | (with_reducible refine qd_i (by kernel_rfl) ?_) | (with_reducible refine W_itn_cases ?_ ?_; omega))
  exact ⟨_, _, rfl, by omega, fun i g1 g2 => rfl⟩
def dInt (bs : List Int) (a : Nat) : Except Int (Int × Nat) :=
  if (Co.tS (bs.drop a) 0 0).2.2 = 0 then .ok ((Co.tS (bs.drop a) 0 0).1, a + (Co.tS (bs.drop a) 0 0).2.1.toNat) else .error (Co.tS (bs.drop a) 0 0).2.2
def dText (bs : List Int) (a : Nat) : Except Int (ByteArray × Nat) :=
  if (tT (bs.drop a)).2.2 = 0 then .ok ((tT (bs.drop a)).1, a + (tT (bs.drop a)).2.1.toNat) else .error (tT (bs.drop a)).2.2
def dCount (most : Int) (bs : List Int) (a : Nat) : Except Int (Int × Nat) := match dInt bs a with
  | .error e => .error e
  | .ok p => if p.1 < 0 ∨ most < p.1 then .error 9 else .ok p
theorem W_dec {α : Type} {o : Option HR} {st : St} {nx id : Nat} {bs : List Int} {rr : Nat} {x : Except Int (α × Nat)} {Q : α → V → St → Nat → Prop} {C : R → Prop} (h : W o (DP st nx id bs rr x Q))
    (hbad : ∀ e st' nx', x = .error e → nx ≤ nx' → KeepX st st' nx id → C (.bpan (errV e) st' nx'))
    (hok : ∀ p v st' nx', x = .ok p → nx ≤ nx' → KeepX st st' nx id → Dec st' nx' id bs rr p.2 → Q p.1 v st' nx' → C (.big v st' nx')) : W (match o with | some (.ret v st' n) => some (R.big v st' n) | some (.pan v st' n) => some (.bpan v st' n) | none => none) C := by
  obtain ⟨r, rfl, hd⟩ := h
  cases hx : x with
  | error e =>
    rw [hx] at hd
    obtain ⟨st', nx', rfl, h1, h2⟩ := hd
    exact ⟨_, rfl, hbad e st' nx' hx h1 h2⟩
  | ok p =>
    rw [hx] at hd
    obtain ⟨v, st', nx', rfl, h1, h2, h3, h4⟩ := hd
    exact ⟨_, rfl, hok p v st' nx' hx h1 h2 h3 h4⟩
theorem bv_all (l : List Int) : (bv l).take l.length = bv l := by rw [bv_tk, List.take_length]
theorem dnumber_ok {st : St} {nx id : Nat} {bs : List Int} {rr a : Nat} (h : Dec st nx id bs rr a) (hb : bOK bs) (hl : bs.length < 4611686018427387904) :
    W (L.hp 213 [.ptr id 0] st nx) (DP st nx id bs rr (dInt bs a) fun n v _ _ => v = .i64 n) := by
  refine hp_w k213_eq ?_
  simp only [k213]
  have hD := h
  obtain ⟨h1, h2, h3⟩ := h
  have hi := takeint_ok (bs.drop a) (hb.drop a) (by rw [List.length_drop]; omega)
  have hp := Co.tS_pos (bs.drop a) 0 0
  have hdi : dInt bs a = dInt bs a := rfl
  unfold dInt at hdi
  unfold dInt
  generalize Co.tS (bs.drop a) 0 0 = q at hi hp hdi ⊢
  obtain ⟨n, u, e⟩ := q
  simp only at hi hp hdi ⊢
  rw [List.length_drop] at hp
  have hha : ((0 : Int) ≤ (a : Int)) = True := eq_true (by omega)
  by_cases he : e = 0
  · subst he
    have hk : a + u.toNat ≤ bs.length := by omega
    have hu : (u : Int) = ((u.toNat : Nat) : Int) := by omega
    repeat' (first | (simp -implicitDefEqProofs only [ze, zd, simprocAttr, h3, bv_len, bv_all, bv_dp, hi]) | (with_reducible refine W_itn_cases ?_ ?_; omega))
    refine qd_i ?_ ?_
    · simp [recsOk, ordB, Rec.free, Rec.wr, disj, List.range, List.range.loop]; try decide
    · simp -implicitDefEqProofs only [ze, zd, simprocAttr]
      rw [hu]
      refine W_hp (dend_ok (hD.le (Nat.le_add_right _ _)) hl u.toNat hk) ?_
      rintro _ ⟨st1, nx1, rfl, hn1, hd1, hk1⟩
      repeat' (first | (simp -implicitDefEqProofs only [ze, zd, simprocAttr]) | (with_reducible refine wgd_cases ?_ ?_ <;> intro hb) | (with_reducible refine wcond_cases ?_ ?_ <;> intro hb) | (with_reducible refine qd_i (by kernel_rfl) ?_) | (with_reducible refine W_itn_cases ?_ ?_; omega))
      exact ⟨_, _, _, rfl, by omega, fun i g1 g2 => hk1 i (by omega) g2, hd1.le (by omega), rfl⟩
  · repeat' (first | (simp -implicitDefEqProofs only [ze, zd, simprocAttr, h3, bv_len, bv_all, bv_dp, hi]) | (with_reducible refine W_itn_cases ?_ ?_; omega))
    refine qd_i ?_ ?_
    · simp [recsOk, ordB, Rec.free, Rec.wr, disj, List.range, List.range.loop]; try decide
    · simp -implicitDefEqProofs only [ze, zd, simprocAttr]
      refine W_hp (dend_bad u e he) ?_
      rintro _ ⟨st1, nx1, rfl, hn1, hk1⟩
      repeat' (first | (simp -implicitDefEqProofs only [ze, zd, simprocAttr]) | (with_reducible refine wgd_cases ?_ ?_ <;> intro hb) | (with_reducible refine wcond_cases ?_ ?_ <;> intro hb) | (with_reducible refine qd_i (by kernel_rfl) ?_) | (with_reducible refine W_itn_cases ?_ ?_; omega))
      rw [if_neg he]
      exact ⟨_, _, rfl, by omega, fun i g1 g2 => hk1 i (by omega) g2⟩
theorem tT_pos (bs : List Int) : 0 ≤ (tT bs).2.1 ∧ (tT bs).2.1 ≤ bs.length := by
  have hp := Co.tS_pos bs 0 0
  unfold tT
  generalize Co.tS bs 0 0 = q at hp ⊢
  obtain ⟨n, u, e⟩ := q
  simp only at hp ⊢
  repeat' split
  all_goals (simp only at *; omega)
theorem dtext_ok {st : St} {nx id : Nat} {bs : List Int} {rr a : Nat} (h : Dec st nx id bs rr a) (hb : bOK bs) (hl : bs.length < 4611686018427387904) :
    W (L.hp 214 [.ptr id 0] st nx) (DP st nx id bs rr (dText bs a) fun n v _ _ => v = .str n) := by
  refine hp_w k214_eq ?_
  simp only [k214]
  have hD := h
  obtain ⟨h1, h2, h3⟩ := h
  have hi := taketext_ok (bs.drop a) (hb.drop a) (by rw [List.length_drop]; omega)
  have hp := tT_pos (bs.drop a)
  have hdi : dText bs a = dText bs a := rfl
  unfold dText at hdi
  unfold dText
  generalize tT (bs.drop a) = q at hi hp hdi ⊢
  obtain ⟨n, u, e⟩ := q
  simp only at hi hp hdi ⊢
  rw [List.length_drop] at hp
  have hha : ((0 : Int) ≤ (a : Int)) = True := eq_true (by omega)
  by_cases he : e = 0
  · subst he
    have hk : a + u.toNat ≤ bs.length := by omega
    have hu : (u : Int) = ((u.toNat : Nat) : Int) := by omega
    repeat' (first | (simp -implicitDefEqProofs only [ze, zd, simprocAttr, h3, bv_len, bv_all, bv_dp, hi]) | (with_reducible refine W_itn_cases ?_ ?_; omega))
    refine qd_i ?_ ?_
    · simp [recsOk, ordB, Rec.free, Rec.wr, disj, List.range, List.range.loop]; try decide
    · simp -implicitDefEqProofs only [ze, zd, simprocAttr]
      rw [hu]
      refine W_hp (dend_ok (hD.le (Nat.le_add_right _ _)) hl u.toNat hk) ?_
      rintro _ ⟨st1, nx1, rfl, hn1, hd1, hk1⟩
      repeat' (first | (simp -implicitDefEqProofs only [ze, zd, simprocAttr]) | (with_reducible refine wgd_cases ?_ ?_ <;> intro hb) | (with_reducible refine wcond_cases ?_ ?_ <;> intro hb) | (with_reducible refine qd_i (by kernel_rfl) ?_) | (with_reducible refine W_itn_cases ?_ ?_; omega))
      exact ⟨_, _, _, rfl, by omega, fun i g1 g2 => hk1 i (by omega) g2, hd1.le (by omega), rfl⟩
  · repeat' (first | (simp -implicitDefEqProofs only [ze, zd, simprocAttr, h3, bv_len, bv_all, bv_dp, hi]) | (with_reducible refine W_itn_cases ?_ ?_; omega))
    refine qd_i ?_ ?_
    · simp [recsOk, ordB, Rec.free, Rec.wr, disj, List.range, List.range.loop]; try decide
    · simp -implicitDefEqProofs only [ze, zd, simprocAttr]
      refine W_hp (dend_bad u e he) ?_
      rintro _ ⟨st1, nx1, rfl, hn1, hk1⟩
      repeat' (first | (simp -implicitDefEqProofs only [ze, zd, simprocAttr]) | (with_reducible refine wgd_cases ?_ ?_ <;> intro hb) | (with_reducible refine wcond_cases ?_ ?_ <;> intro hb) | (with_reducible refine qd_i (by kernel_rfl) ?_) | (with_reducible refine W_itn_cases ?_ ?_; omega))
      rw [if_neg he]
      exact ⟨_, _, rfl, by omega, fun i g1 g2 => hk1 i (by omega) g2⟩
theorem dcount_ok {st : St} {nx id : Nat} {bs : List Int} {rr a : Nat} (h : Dec st nx id bs rr a) (hb : bOK bs) (hl : bs.length < 4611686018427387904) (most : Int) :
    W (L.hp 215 [.ptr id 0, .i64 most] st nx) (DP st nx id bs rr (dCount most bs a) fun n v _ _ => v = .i64 n ∧ 0 ≤ n ∧ n ≤ most) := by
  refine hp_w k215_eq ?_
  simp only [k215]
  repeat' (first | (simp -implicitDefEqProofs only [ze, zd, simprocAttr]) | (with_reducible refine wgd_cases ?_ ?_ <;> intro hb) | (with_reducible refine wcond_cases ?_ ?_ <;> intro hb) | (with_reducible refine qd_i (by kernel_rfl) ?_) | (with_reducible refine W_itn_cases ?_ ?_; omega))
  refine W_dec (dnumber_ok (h.le (Nat.le_add_right _ _)) hb hl) (fun e st1 nx1 hx hn hk => ?_) (fun p v st1 nx1 hx hn hk hd hv => ?_)
  · repeat' (first | (simp -implicitDefEqProofs only [ze, zd, simprocAttr]) | (with_reducible refine wgd_cases ?_ ?_ <;> intro hb) | (with_reducible refine wcond_cases ?_ ?_ <;> intro hb) | (with_reducible refine qd_i (by kernel_rfl) ?_) | (with_reducible refine W_itn_cases ?_ ?_; omega))
    unfold dCount
    rw [hx]
    exact ⟨_, _, rfl, by omega, fun i g1 g2 => hk i (by omega) g2⟩
  · subst hv
    unfold dCount
    rw [hx]
    by_cases hc : p.1 < 0 ∨ most < p.1
    · simp only [if_pos hc]
      repeat' (first | (simp -implicitDefEqProofs only [ze, zd, simprocAttr]) | (with_reducible refine wgd_cases ?_ ?_ <;> intro hb) | (with_reducible refine wcond_cases ?_ ?_ <;> intro hb) | (with_reducible refine qd_i (by kernel_rfl) ?_) | (with_reducible refine W_itn_cases ?_ ?_; omega))
      all_goals (simp only [decide_eq_true_eq, decide_eq_false_iff_not] at *)
      all_goals (try (exfalso; omega))
      all_goals (refine W_hp (dend_bad 0 9 (by decide)) ?_; rintro _ ⟨st2, nx2, rfl, hn2, hk2⟩; repeat' (first | (simp -implicitDefEqProofs only [ze, zd, simprocAttr]) | (with_reducible refine wgd_cases ?_ ?_ <;> intro hb) | (with_reducible refine wcond_cases ?_ ?_ <;> intro hb) | (with_reducible refine qd_i (by kernel_rfl) ?_) | (with_reducible refine W_itn_cases ?_ ?_; omega)); exact ⟨_, _, rfl, by omega, fun i g1 g2 => (hk2 i (by omega) g2).trans (hk i (by omega) g2)⟩)
    · simp only [if_neg hc]
      have d1 : decide (p.1 < 0) = false := decide_eq_false (by omega)
      have d2 : decide (most < p.1) = false := decide_eq_false (by omega)
      repeat' (first | (simp -implicitDefEqProofs only [ze, zd, simprocAttr, d1, d2]) | (with_reducible refine wgd_cases ?_ ?_ <;> intro hb) | (with_reducible refine wcond_cases ?_ ?_ <;> intro hb) | (with_reducible refine qd_i (by kernel_rfl) ?_) | (with_reducible refine W_itn_cases ?_ ?_; omega))
      exact ⟨_, _, _, rfl, by omega, fun i g1 g2 => hk i (by omega) g2, hd.le (by omega), rfl, by omega, by omega⟩
end Go.Proofs.YtaefaadjncehmaaGreatDoor.Vm
set_option maxRecDepth 10000
set_option linter.unusedVariables false
set_option linter.unusedSimpArgs false
namespace Go.Proofs.YtaefaadjncehmaaGreatDoor.Vm
open Go Go.Proofs
def bindD {α β : Type} (x : Except Int (α × Nat)) (f : α → Nat → Except Int (β × Nat)) : Except Int (β × Nat) := match x with
  | .error e => .error e
  | .ok p => f p.1 p.2
def dTags (bs : List Int) : Nat → List Tag → Nat → Except Int (List Tag × Nat)
  | 0, acc, a => .ok (acc, a)
  | n + 1, acc, a => bindD (dText bs a) fun x a => bindD (dText bs a) fun y a => dTags bs n (acc ++ [⟨x, y⟩]) a
def dLine (bs : List Int) (a : Nat) : Except Int (Line × Nat) :=
  bindD (dText bs a) fun acc a => bindD (dText bs a) fun cur a => bindD (dInt bs a) fun amt a => bindD (dInt bs a) fun base a => bindD (dText bs a) fun par a => bindD (dText bs a) fun pty a =>
  bindD (dCount 6 bs a) fun n a => bindD (dTags bs n.toNat [] a) fun tags a => .ok (⟨acc, cur, amt, base, par, pty, tags, tags.isEmpty⟩, a)
def fresh1 (e : Nat) (xs : List V) (v : V) : Prop := (xs = [] ∧ v = .list 0 [] 1) ∨ (xs ≠ [] ∧ ∃ r, 8 ≤ r ∧ v = .list e xs r)
def lineQ (l : Line) (v : V) (st : St) (nx : Nat) : Prop := ∃ vt, fresh1 202 (l.tags.map encT) vt ∧ l.tr = l.tags.isEmpty ∧ v = .agg [.str l.acc, .str l.cur, .i64 l.amt, .i64 l.base, .str l.par, .str l.pty, vt]
def GrowN (st : St) (n0 nx e : Nat) (xs : List V) (v : V) : Prop := (xs = [] ∧ v = .list 0 [] 1) ∨ (xs ≠ [] ∧ ∃ r, n0 < r ∧ 8 ≤ r ∧ r < nx ∧ v = .list e xs r ∧ st r = some (.tok xs.length e))
theorem W_xdec {α : Type} {P : Program} {E : Env} {i0 nx : Nat} {f : FuncId} {al : List V} {st : St} {id : Nat} {bs : List Int} {rr : Nat} {x : Except Int (α × Nat)} {Q : α → V → St → Nat → Prop} {C : R → Prop} (hn : nobody P f = false) (hh : isM (E.hm f) = true) (h : W (E.hp f al st nx) (DP st nx id bs rr x Q))
    (hbad : ∀ e st' nx', x = .error e → nx ≤ nx' → KeepX st st' nx id → C (.bpan (errV e) st' nx'))
    (hok : ∀ p v st' nx', x = .ok p → nx ≤ nx' → KeepX st st' nx id → Dec st' nx' id bs rr p.2 → Q p.1 v st' nx' → C (.big v st' nx')) : W (xcall P E i0 nx st f al) C := by
  unfold xcall
  rw [if_neg (by rw [hn]; simp), if_pos hh]
  exact W_dec h hbad hok
theorem dec_set {st : St} {nx nx' id j : Nat} {bs : List Int} {rr a : Nat} (h : Dec st nx id bs rr a) (hj : id ≠ j) (hn : nx ≤ nx') (o : Option Ob) : Dec (upd st j o) nx' id bs rr a := ⟨Nat.lt_of_lt_of_le h.1 hn, h.2.1, by rw [upd_at, if_neg hj]; exact h.2.2⟩
theorem dline_ok {st : St} {nx id : Nat} {bs : List Int} {rr a : Nat} (h : Dec st nx id bs rr a) (hb : bOK bs) (hl : bs.length < 4611686018427387904) :
    W (L.hp 216 [.ptr id 0] st nx) (DP st nx id bs rr (dLine bs a) lineQ) := by
  refine hp_w k216_eq ?_
  simp only [k216]
  have hid := h.1
  repeat' (first | (simp -implicitDefEqProofs only [ze, zd, simprocAttr]))
  have kk : KeepX st (upd st nx (some (Ob.cells [V.sc (Value.string (ByteArray.mk #[])), V.sc (Value.string (ByteArray.mk #[])), V.sc (Value.int IntKind.i64 0), V.sc (Value.int IntKind.i64 0), V.sc (Value.string (ByteArray.mk #[])), V.sc (Value.string (ByteArray.mk #[])), V.list 0 [] 1]))) nx id := (KeepX.refl st nx id).upd (Nat.le_refl _) _
  have hD := h.upd (Nat.le_refl nx) (Nat.le_refl nx) (some (Ob.cells [V.sc (Value.string (ByteArray.mk #[])), V.sc (Value.string (ByteArray.mk #[])), V.sc (Value.int IntKind.i64 0), V.sc (Value.int IntKind.i64 0), V.sc (Value.string (ByteArray.mk #[])), V.sc (Value.string (ByteArray.mk #[])), V.list 0 [] 1]))
  have hne : (id = nx) = False := eq_false (by omega)
  have hne' : ¬ id = nx := by omega
  have hO : (upd st nx (some (Ob.cells [V.sc (Value.string (ByteArray.mk #[])), V.sc (Value.string (ByteArray.mk #[])), V.sc (Value.int IntKind.i64 0), V.sc (Value.int IntKind.i64 0), V.sc (Value.string (ByteArray.mk #[])), V.sc (Value.string (ByteArray.mk #[])), V.list 0 [] 1]))) nx = some (Ob.cells [V.sc (Value.string (ByteArray.mk #[])), V.sc (Value.string (ByteArray.mk #[])), V.sc (Value.int IntKind.i64 0), V.sc (Value.int IntKind.i64 0), V.sc (Value.string (ByteArray.mk #[])), V.sc (Value.string (ByteArray.mk #[])), V.list 0 [] 1]) := by rw [upd_at, if_pos rfl]
  refine W_xdec (by kernel_rfl) rfl (dtext_ok (hD.le (by omega)) hb hl) (fun e s n hx1 hn hk => ?_) (fun p1 v s1 n1 hx1 hn1 hk hd hv => ?_)
  · repeat' (first | (simp -implicitDefEqProofs only [ze, zd, simprocAttr]) | (with_reducible refine wgd_cases ?_ ?_ <;> intro hb) | (with_reducible refine wcond_cases ?_ ?_ <;> intro hb) | (with_reducible refine qd_i (by kernel_rfl) ?_) | (with_reducible refine W_itn_cases ?_ ?_; omega))
    have e0 : dLine bs a = .error e := by simp only [dLine, bindD, hx1]
    rw [e0]
    exact ⟨_, _, rfl, by omega, kk.trans hk (by omega)⟩
  subst hv
  replace kk := kk.trans hk (by omega)
  replace hO := (hk nx (by omega) (by omega)).trans hO
  replace hD := hd
  repeat' (first | (simp -implicitDefEqProofs only [ze, zd, simprocAttr, hO]) | (with_reducible refine wgd_cases ?_ ?_ <;> intro hb) | (with_reducible refine wcond_cases ?_ ?_ <;> intro hb) | (with_reducible refine qd_i (by kernel_rfl) ?_) | (with_reducible refine W_itn_cases ?_ ?_; omega))
  refine W_xdec (by kernel_rfl) rfl (dtext_ok (hD.le (by omega)) hb hl) (fun e s n hx2 hn hk => ?_) (fun p2 v s2 n2 hx2 hn2 hk hd hv => ?_)
  · repeat' (first | (simp -implicitDefEqProofs only [ze, zd, simprocAttr]) | (with_reducible refine wgd_cases ?_ ?_ <;> intro hb) | (with_reducible refine wcond_cases ?_ ?_ <;> intro hb) | (with_reducible refine qd_i (by kernel_rfl) ?_) | (with_reducible refine W_itn_cases ?_ ?_; omega))
    have e0 : dLine bs a = .error e := by simp only [dLine, bindD, hx1, hx2]
    rw [e0]
    exact ⟨_, _, rfl, by omega, kk.trans hk (by omega)⟩
  subst hv
  replace kk := kk.trans hk (by omega)
  replace hO := (hk nx (by omega) (by omega)).trans hO
  replace hD := hd
  repeat' (first | (simp -implicitDefEqProofs only [ze, zd, simprocAttr, hO]) | (with_reducible refine wgd_cases ?_ ?_ <;> intro hb) | (with_reducible refine wcond_cases ?_ ?_ <;> intro hb) | (with_reducible refine qd_i (by kernel_rfl) ?_) | (with_reducible refine W_itn_cases ?_ ?_; omega))
  refine W_xdec (by kernel_rfl) rfl (dnumber_ok ((dec_set (dec_set hD hne' (Nat.le_refl _) _) hne' (Nat.le_refl _) _).le (by omega)) hb hl) (fun e s n hx3 hn hk => ?_) (fun p3 v s3 n3 hx3 hn3 hk hd hv => ?_)
  · repeat' (first | (simp -implicitDefEqProofs only [ze, zd, simprocAttr]) | (with_reducible refine wgd_cases ?_ ?_ <;> intro hb) | (with_reducible refine wcond_cases ?_ ?_ <;> intro hb) | (with_reducible refine qd_i (by kernel_rfl) ?_) | (with_reducible refine W_itn_cases ?_ ?_; omega))
    have e0 : dLine bs a = .error e := by simp only [dLine, bindD, hx1, hx2, hx3]
    rw [e0]
    exact ⟨_, _, rfl, by omega, ((kk.upd (Nat.le_refl _) _).upd (Nat.le_refl _) _).trans hk (by omega)⟩
  subst hv
  replace kk := ((kk.upd (Nat.le_refl _) _).upd (Nat.le_refl _) _).trans hk (by omega)
  replace hO := (hk nx (by omega) (by omega)).trans (by rw [upd_at, if_pos rfl])
  replace hD := hd
  repeat' (first | (simp -implicitDefEqProofs only [ze, zd, simprocAttr, hO]) | (with_reducible refine wgd_cases ?_ ?_ <;> intro hb) | (with_reducible refine wcond_cases ?_ ?_ <;> intro hb) | (with_reducible refine qd_i (by kernel_rfl) ?_) | (with_reducible refine W_itn_cases ?_ ?_; omega))
  refine W_xdec (by kernel_rfl) rfl (dnumber_ok (hD.le (by omega)) hb hl) (fun e s n hx4 hn hk => ?_) (fun p4 v s4 n4 hx4 hn4 hk hd hv => ?_)
  · repeat' (first | (simp -implicitDefEqProofs only [ze, zd, simprocAttr]) | (with_reducible refine wgd_cases ?_ ?_ <;> intro hb) | (with_reducible refine wcond_cases ?_ ?_ <;> intro hb) | (with_reducible refine qd_i (by kernel_rfl) ?_) | (with_reducible refine W_itn_cases ?_ ?_; omega))
    have e0 : dLine bs a = .error e := by simp only [dLine, bindD, hx1, hx2, hx3, hx4]
    rw [e0]
    exact ⟨_, _, rfl, by omega, kk.trans hk (by omega)⟩
  subst hv
  replace kk := kk.trans hk (by omega)
  replace hO := (hk nx (by omega) (by omega)).trans hO
  replace hD := hd
  repeat' (first | (simp -implicitDefEqProofs only [ze, zd, simprocAttr, hO]) | (with_reducible refine wgd_cases ?_ ?_ <;> intro hb) | (with_reducible refine wcond_cases ?_ ?_ <;> intro hb) | (with_reducible refine qd_i (by kernel_rfl) ?_) | (with_reducible refine W_itn_cases ?_ ?_; omega))
  refine W_xdec (by kernel_rfl) rfl (dtext_ok ((dec_set (dec_set hD hne' (Nat.le_refl _) _) hne' (Nat.le_refl _) _).le (by omega)) hb hl) (fun e s n hx5 hn hk => ?_) (fun p5 v s5 n5 hx5 hn5 hk hd hv => ?_)
  · repeat' (first | (simp -implicitDefEqProofs only [ze, zd, simprocAttr]) | (with_reducible refine wgd_cases ?_ ?_ <;> intro hb) | (with_reducible refine wcond_cases ?_ ?_ <;> intro hb) | (with_reducible refine qd_i (by kernel_rfl) ?_) | (with_reducible refine W_itn_cases ?_ ?_; omega))
    have e0 : dLine bs a = .error e := by simp only [dLine, bindD, hx1, hx2, hx3, hx4, hx5]
    rw [e0]
    exact ⟨_, _, rfl, by omega, ((kk.upd (Nat.le_refl _) _).upd (Nat.le_refl _) _).trans hk (by omega)⟩
  subst hv
  replace kk := ((kk.upd (Nat.le_refl _) _).upd (Nat.le_refl _) _).trans hk (by omega)
  replace hO := (hk nx (by omega) (by omega)).trans (by rw [upd_at, if_pos rfl])
  replace hD := hd
  repeat' (first | (simp -implicitDefEqProofs only [ze, zd, simprocAttr, hO]) | (with_reducible refine wgd_cases ?_ ?_ <;> intro hb) | (with_reducible refine wcond_cases ?_ ?_ <;> intro hb) | (with_reducible refine qd_i (by kernel_rfl) ?_) | (with_reducible refine W_itn_cases ?_ ?_; omega))
  refine W_xdec (by kernel_rfl) rfl (dtext_ok (hD.le (by omega)) hb hl) (fun e s n hx6 hn hk => ?_) (fun p6 v s6 n6 hx6 hn6 hk hd hv => ?_)
  · repeat' (first | (simp -implicitDefEqProofs only [ze, zd, simprocAttr]) | (with_reducible refine wgd_cases ?_ ?_ <;> intro hb) | (with_reducible refine wcond_cases ?_ ?_ <;> intro hb) | (with_reducible refine qd_i (by kernel_rfl) ?_) | (with_reducible refine W_itn_cases ?_ ?_; omega))
    have e0 : dLine bs a = .error e := by simp only [dLine, bindD, hx1, hx2, hx3, hx4, hx5, hx6]
    rw [e0]
    exact ⟨_, _, rfl, by omega, kk.trans hk (by omega)⟩
  subst hv
  replace kk := kk.trans hk (by omega)
  replace hO := (hk nx (by omega) (by omega)).trans hO
  replace hD := hd
  repeat' (first | (simp -implicitDefEqProofs only [ze, zd, simprocAttr, hO]) | (with_reducible refine wgd_cases ?_ ?_ <;> intro hb) | (with_reducible refine wcond_cases ?_ ?_ <;> intro hb) | (with_reducible refine qd_i (by kernel_rfl) ?_) | (with_reducible refine W_itn_cases ?_ ?_; omega))
  refine W_dec (dcount_ok ((dec_set (dec_set hD hne' (Nat.le_refl _) _) hne' (Nat.le_refl _) _).le (by omega)) hb hl 6) (fun e s n hx7 hn hk => ?_) (fun p7 v s7 n7 hx7 hn7 hk hd hv => ?_)
  · repeat' (first | (simp -implicitDefEqProofs only [ze, zd, simprocAttr]) | (with_reducible refine wgd_cases ?_ ?_ <;> intro hb) | (with_reducible refine wcond_cases ?_ ?_ <;> intro hb) | (with_reducible refine qd_i (by kernel_rfl) ?_) | (with_reducible refine W_itn_cases ?_ ?_; omega))
    have e0 : dLine bs a = .error e := by simp only [dLine, bindD, hx1, hx2, hx3, hx4, hx5, hx6, hx7]
    rw [e0]
    exact ⟨_, _, rfl, by omega, ((kk.upd (Nat.le_refl _) _).upd (Nat.le_refl _) _).trans hk (by omega)⟩
  obtain ⟨rfl, hc0, hc1⟩ := hv
  replace kk := ((kk.upd (Nat.le_refl _) _).upd (Nat.le_refl _) _).trans hk (by omega)
  replace hO := (hk nx (by omega) (by omega)).trans (by rw [upd_at, if_pos rfl])
  replace hD := hd
  repeat' (first | (simp -implicitDefEqProofs only [ze, zd, simprocAttr, hO]) | (with_reducible refine wgd_cases ?_ ?_ <;> intro hb) | (with_reducible refine wcond_cases ?_ ?_ <;> intro hb) | (with_reducible refine qd_i (by kernel_rfl) ?_) | (with_reducible refine W_itn_cases ?_ ?_; omega))
  refine loop_w (fun m tm st' nx' => ∃ (i : Nat) (acc : List Tag) (ai : Nat) (vt : V), m = p7.1.toNat - i ∧ i ≤ p7.1.toNat ∧ acc.length = i ∧ dTags bs p7.1.toNat [] p7.2 = dTags bs (p7.1.toNat - i) acc ai ∧ tm 30 = .i64 i ∧ tm 29 = .i64 p7.1 ∧ tm 0 = .ptr id 0 ∧ tm 2 = .ptr nx 0 ∧ tm 4 = .fn (.func 214) [.ptr id 0] [] ∧ nx + 8 ≤ nx' ∧ KeepX st st' nx id ∧
      st' nx = some (.cells [.str p1.1, .str p2.1, .i64 p3.1, .i64 p4.1, .str p5.1, .str p6.1, vt]) ∧ Dec st' nx' id bs rr ai ∧ GrowN st' nx nx' 202 (acc.map encT) vt) p7.1.toNat ⟨0, [], p7.2, .list 0 [] 1, by omega, by omega, rfl, rfl, ?_, ?_, ?_, ?_, ?_, by omega, kk, hO, hD.le (by omega), .inl ⟨rfl, rfl⟩⟩ ?_
  · simp -implicitDefEqProofs only [ze, zd, simprocAttr]; try rfl
  · simp -implicitDefEqProofs only [ze, zd, simprocAttr]
  · simp -implicitDefEqProofs only [ze, zd, simprocAttr]
  · simp -implicitDefEqProofs only [ze, zd, simprocAttr]
  · simp -implicitDefEqProofs only [ze, zd, simprocAttr]
  clear hD kk hO
  rintro m tm st' nx' ⟨i, acc, ai, vt, hm, hi, hacc, hdt, h30, h29, h0, h2, h4, hnx, kk, hO, hD, hg⟩
  simp only [k216_l0]
  by_cases hlt : i < p7.1.toNat
  · have hd : decide ((i : Int) < p7.1) = true := decide_eq_true (by omega)
    obtain ⟨k, hki⟩ : ∃ k, p7.1.toNat - i = k + 1 := ⟨p7.1.toNat - i - 1, by omega⟩
    rw [hki] at hdt
    repeat' (first | (simp -implicitDefEqProofs only [ze, zd, simprocAttr, h30, h29, h0, h2, h4, hd]) | (with_reducible refine wgd_cases ?_ ?_ <;> intro hb) | (with_reducible refine wcond_cases ?_ ?_ <;> intro hb) | (with_reducible refine qd_i (by kernel_rfl) ?_) | (with_reducible refine W_itn_cases ?_ ?_; omega))
    refine W_xdec (by kernel_rfl) rfl (dtext_ok (hD.upd (j := nx' + 8) (nx' := nx' + 80) (by omega) (by omega) _) hb hl) (fun e s n hxa hn hk => ?_) (fun pa v sa na hxa hna hka hDa hv => ?_)
    · repeat' (first | (simp -implicitDefEqProofs only [ze, zd, simprocAttr, h30, h29, h0, h2, h4]) | (with_reducible refine wgd_cases ?_ ?_ <;> intro hb) | (with_reducible refine wcond_cases ?_ ?_ <;> intro hb) | (with_reducible refine qd_i (by kernel_rfl) ?_) | (with_reducible refine W_itn_cases ?_ ?_; omega))
      have e0 : dLine bs a = .error e := by simp only [dLine, bindD, hx1, hx2, hx3, hx4, hx5, hx6, hx7, hdt, dTags, hxa]
      rw [e0]
      exact ⟨_, _, rfl, by omega, (kk.upd (by omega) _).trans hk (by omega)⟩
    subst hv
    have hOa := (hka nx (by omega) (by omega)).trans (Eq.trans (by rw [upd_at, if_neg (by omega)]) hO)
    have hPa := (hka (nx' + 8) (by omega) (by omega)).trans (by rw [upd_at, if_pos rfl])
    have kka := (kk.upd (j := nx' + 8) (by omega) _).trans hka (by omega)
    repeat' (first | (simp -implicitDefEqProofs only [ze, zd, simprocAttr, h30, h29, h0, h2, h4]) | (with_reducible refine wgd_cases ?_ ?_ <;> intro hb) | (with_reducible refine wcond_cases ?_ ?_ <;> intro hb) | (with_reducible refine qd_i (by kernel_rfl) ?_) | (with_reducible refine W_itn_cases ?_ ?_; omega))
    refine W_xdec (by kernel_rfl) rfl (dtext_ok (hDa.le (by omega)) hb hl) (fun e s n hxb hn hk => ?_) (fun pb v sb nb hxb hnb hkb hDb hv => ?_)
    · repeat' (first | (simp -implicitDefEqProofs only [ze, zd, simprocAttr, h30, h29, h0, h2, h4]) | (with_reducible refine wgd_cases ?_ ?_ <;> intro hb) | (with_reducible refine wcond_cases ?_ ?_ <;> intro hb) | (with_reducible refine qd_i (by kernel_rfl) ?_) | (with_reducible refine W_itn_cases ?_ ?_; omega))
      have e0 : dLine bs a = .error e := by simp only [dLine, bindD, hx1, hx2, hx3, hx4, hx5, hx6, hx7, hdt, dTags, hxa, hxb]
      rw [e0]
      exact ⟨_, _, rfl, by omega, kka.trans hk (by omega)⟩
    subst hv
    have hOb := (hkb nx (by omega) (by omega)).trans hOa
    have hPb := (hkb (nx' + 8) (by omega) (by omega)).trans hPa
    have kkb := kka.trans hkb (by omega)
    have f1 : (nx = nx' + 8) = False := eq_false (by omega)
    have f2 : ∀ j, (nx = nb + j) = False := fun j => eq_false (by omega)
    have f3 : ∀ j, (nx' + 8 = nb + j) = False := fun j => eq_false (by omega)
    have f4 : (nx' + 8 = nx) = False := eq_false (by omega)
    rcases hg with ⟨hb0, rfl⟩ | ⟨hb1, r, hr0, hr8, hrn, rfl, hst⟩
    · repeat' (first | (simp -implicitDefEqProofs only [ze, zd, simprocAttr, hOb, hPb, f1, f2, f3, f4, h30, h29, h0, h2, h4]) | (with_reducible refine wgd_cases ?_ ?_ <;> intro hb) | (with_reducible refine wcond_cases ?_ ?_ <;> intro hb) | (with_reducible refine qd_i (by kernel_rfl) ?_) | (with_reducible refine W_itn_cases ?_ ?_; omega))
      have hacc0 : acc = [] := by simpa using hb0
      subst hacc0
      have hi0 : i = 0 := hacc.symm
      subst hi0
      refine ⟨p7.1.toNat - 1, by omega, 1, [⟨pa.1, pb.1⟩], pb.2, _, rfl, by omega, rfl, ?_, up64 (by omega), by omega, ((((kkb.upd (by omega) _).upd (by omega) _).upd (by omega) _).upd (by omega) _).upd (Nat.le_refl _) _, rfl,
        dec_set (((dec_set (dec_set hDb (by omega) (Nat.le_refl _) _) (by omega) (Nat.le_refl _) _).upd (by omega) (Nat.le_refl _) _).upd (by omega) (Nat.le_refl _) _) hne' (by omega) _, .inr ⟨by simp, nb + 32, by omega, by omega, by omega, rfl, ?_⟩⟩
      · rw [hdt, show p7.1.toNat - 1 = k by omega]; simp only [dTags, bindD, hxa, hxb, List.nil_append]
      · rw [upd_at, if_neg (by omega), upd_at, if_pos rfl]; rfl
    · have hstb := (hkb r (by omega) (by omega)).trans ((hka r (by omega) (by omega)).trans (Eq.trans (by rw [upd_at, if_neg (by omega)]) hst))
      have g1 : (r = 0) = False := eq_false (by omega)
      have g2 : (r = 1) = False := eq_false (by omega)
      have g3 : ∀ j, (r = nb + j) = False := fun j => eq_false (by omega)
      have g4 : (r = nx' + 8) = False := eq_false (by omega)
      have g5 : (nx = r) = False := eq_false (by omega)
      have g6 : (nx' + 8 = r) = False := eq_false (by omega)
      repeat' (first | (simp -implicitDefEqProofs only [ze, zd, simprocAttr, hOb, hPb, hstb, f1, f2, f3, f4, g1, g2, g3, g4, g5, g6, h30, h29, h0, h2, h4, List.length_map]) | (with_reducible refine wgd_cases ?_ ?_ <;> intro hb) | (with_reducible refine wcond_cases ?_ ?_ <;> intro hb) | (with_reducible refine qd_i (by kernel_rfl) ?_) | (with_reducible refine W_itn_cases ?_ ?_; omega))
      refine ⟨p7.1.toNat - (i + 1), by omega, i + 1, acc ++ [⟨pa.1, pb.1⟩], pb.2, _, rfl, by omega, by simp [hacc], ?_, up64 (by omega), by omega, ((((kkb.upd (by omega) _).upd (by omega) _).upd (by omega) _).upd (by omega) _).upd (Nat.le_refl _) _, rfl,
        dec_set (dec_set ((dec_set (dec_set hDb (by omega) (Nat.le_refl _) _) (by omega) (Nat.le_refl _) _).upd (by omega) (Nat.le_refl _) _) (by omega) (Nat.le_refl _) _) hne' (by omega) _, .inr ⟨by simp, r, by omega, by omega, by omega, by simp [encT], ?_⟩⟩
      · rw [hdt, show p7.1.toNat - (i + 1) = k by omega]; simp only [dTags, bindD, hxa, hxb]
      · rw [upd_at, if_neg (by omega), upd_at, if_pos rfl]; simp
  · have hd : decide ((i : Int) < p7.1) = false := decide_eq_false (by omega)
    have hin : i = p7.1.toNat := by omega
    rw [hin, Nat.sub_self] at hdt
    have e0 : dLine bs a = .ok (⟨p1.1, p2.1, p3.1, p4.1, p5.1, p6.1, acc, acc.isEmpty⟩, ai) := by simp only [dLine, bindD, hx1, hx2, hx3, hx4, hx5, hx6, hx7, hdt, dTags]
    rcases hg with ⟨hb0, rfl⟩ | ⟨hb1, r, hr0, hr8, hrn, rfl, hst⟩
    · repeat' (first | (simp -implicitDefEqProofs only [ze, zd, simprocAttr, h30, h29, h0, h2, h4, hd, k216_t0, hO]) | (with_reducible refine wgd_cases ?_ ?_ <;> intro hb) | (with_reducible refine wcond_cases ?_ ?_ <;> intro hb) | (with_reducible refine qd_i (by kernel_rfl) ?_) | (with_reducible refine W_itn_cases ?_ ?_; omega))
      rw [e0]
      exact ⟨_, _, _, rfl, by omega, kk.upd (Nat.le_refl _) _, dec_set hD hne' (by omega) _, _, .inl ⟨hb0, rfl⟩, rfl, rfl⟩
    · repeat' (first | (simp -implicitDefEqProofs only [ze, zd, simprocAttr, h30, h29, h0, h2, h4, hd, k216_t0, hO]) | (with_reducible refine wgd_cases ?_ ?_ <;> intro hb) | (with_reducible refine wcond_cases ?_ ?_ <;> intro hb) | (with_reducible refine qd_i (by kernel_rfl) ?_) | (with_reducible refine W_itn_cases ?_ ?_; omega))
      rw [e0]
      exact ⟨_, _, _, rfl, by omega, kk.upd (Nat.le_refl _) _, dec_set hD hne' (by omega) _, _, .inr ⟨hb1, r, hr8, rfl⟩, rfl, rfl⟩
end Go.Proofs.YtaefaadjncehmaaGreatDoor.Vm
set_option maxRecDepth 10000
set_option linter.unusedVariables false
set_option linter.unusedSimpArgs false
namespace Go.Proofs.YtaefaadjncehmaaGreatDoor.Vm
open Go Go.Proofs
def dLines (bs : List Int) : Nat → List Line → Nat → Except Int (List Line × Nat)
  | 0, acc, a => .ok (acc, a)
  | n + 1, acc, a => bindD (dLine bs a) fun x a => dLines bs n (acc ++ [x]) a
def dEntry (bs : List Int) (a : Nat) : Except Int (Entry × Nat) :=
  bindD (dInt bs a) fun no a => bindD (dText bs a) fun ent a => bindD (dInt bs a) fun book a => bindD (dInt bs a) fun val a => bindD (dInt bs a) fun kind a => bindD (dText bs a) fun ref a => bindD (dText bs a) fun who a => bindD (dInt bs a) fun rev a =>
  bindD (dCount 100 bs a) fun n a => bindD (dLines bs n.toNat [] a) fun lines a => .ok (⟨no, ent, book, val, kind, ref, who, rev, lines, lines.isEmpty⟩, a)
def entryQ (e : Entry) (v : V) (st : St) (nx : Nat) : Prop := ∃ vt, fresh1 49 (e.lines.map encL) vt ∧ e.lr = e.lines.isEmpty ∧ v = .agg [.i64 e.no, .str e.ent, .i64 e.book, .i64 e.val, .i64 e.kind, .str e.ref, .str e.who, .i64 e.rev, vt]
theorem dentry_ok {st : St} {nx id : Nat} {bs : List Int} {rr a : Nat} (h : Dec st nx id bs rr a) (hb : bOK bs) (hl : bs.length < 4611686018427387904) :
    W (L.hp 165 [.ptr id 0] st nx) (DP st nx id bs rr (dEntry bs a) entryQ) := by
  refine hp_w k165_eq ?_
  simp only [k165]
  have hid := h.1
  repeat' (first | (simp -implicitDefEqProofs only [ze, zd, simprocAttr]))
  have kk : KeepX st (upd st nx (some (Ob.cells [V.sc (Value.int IntKind.i64 0), V.sc (Value.string (ByteArray.mk #[])), V.sc (Value.int IntKind.i64 0), V.sc (Value.int IntKind.i64 0), V.sc (Value.int IntKind.i64 0), V.sc (Value.string (ByteArray.mk #[])), V.sc (Value.string (ByteArray.mk #[])), V.sc (Value.int IntKind.i64 0), V.list 0 [] 1]))) nx id := (KeepX.refl st nx id).upd (Nat.le_refl _) _
  have hD := h.upd (Nat.le_refl nx) (Nat.le_refl nx) (some (Ob.cells [V.sc (Value.int IntKind.i64 0), V.sc (Value.string (ByteArray.mk #[])), V.sc (Value.int IntKind.i64 0), V.sc (Value.int IntKind.i64 0), V.sc (Value.int IntKind.i64 0), V.sc (Value.string (ByteArray.mk #[])), V.sc (Value.string (ByteArray.mk #[])), V.sc (Value.int IntKind.i64 0), V.list 0 [] 1]))
  have hne : (id = nx) = False := eq_false (by omega)
  have hne' : ¬ id = nx := by omega
  have hO : (upd st nx (some (Ob.cells [V.sc (Value.int IntKind.i64 0), V.sc (Value.string (ByteArray.mk #[])), V.sc (Value.int IntKind.i64 0), V.sc (Value.int IntKind.i64 0), V.sc (Value.int IntKind.i64 0), V.sc (Value.string (ByteArray.mk #[])), V.sc (Value.string (ByteArray.mk #[])), V.sc (Value.int IntKind.i64 0), V.list 0 [] 1]))) nx = some (Ob.cells [V.sc (Value.int IntKind.i64 0), V.sc (Value.string (ByteArray.mk #[])), V.sc (Value.int IntKind.i64 0), V.sc (Value.int IntKind.i64 0), V.sc (Value.int IntKind.i64 0), V.sc (Value.string (ByteArray.mk #[])), V.sc (Value.string (ByteArray.mk #[])), V.sc (Value.int IntKind.i64 0), V.list 0 [] 1]) := by rw [upd_at, if_pos rfl]
  refine W_xdec (by kernel_rfl) rfl (dnumber_ok (hD.le (by omega)) hb hl) (fun e s n hx1 hn hk => ?_) (fun p1 v s1 n1 hx1 hn1 hk hd hv => ?_)
  · repeat' (first | (simp -implicitDefEqProofs only [ze, zd, simprocAttr]) | (with_reducible refine wgd_cases ?_ ?_ <;> intro hb) | (with_reducible refine wcond_cases ?_ ?_ <;> intro hb) | (with_reducible refine qd_i (by kernel_rfl) ?_) | (with_reducible refine W_itn_cases ?_ ?_; omega))
    have e0 : dEntry bs a = .error e := by simp only [dEntry, bindD, hx1]
    rw [e0]
    exact ⟨_, _, rfl, by omega, kk.trans hk (by omega)⟩
  subst hv
  replace kk := kk.trans hk (by omega)
  replace hO := (hk nx (by omega) (by omega)).trans hO
  replace hD := hd
  repeat' (first | (simp -implicitDefEqProofs only [ze, zd, simprocAttr, hO]) | (with_reducible refine wgd_cases ?_ ?_ <;> intro hb) | (with_reducible refine wcond_cases ?_ ?_ <;> intro hb) | (with_reducible refine qd_i (by kernel_rfl) ?_) | (with_reducible refine W_itn_cases ?_ ?_; omega))
  refine W_xdec (by kernel_rfl) rfl (dtext_ok ((dec_set hD hne' (Nat.le_refl _) _).le (by omega)) hb hl) (fun e s n hx2 hn hk => ?_) (fun p2 v s2 n2 hx2 hn2 hk hd hv => ?_)
  · repeat' (first | (simp -implicitDefEqProofs only [ze, zd, simprocAttr]) | (with_reducible refine wgd_cases ?_ ?_ <;> intro hb) | (with_reducible refine wcond_cases ?_ ?_ <;> intro hb) | (with_reducible refine qd_i (by kernel_rfl) ?_) | (with_reducible refine W_itn_cases ?_ ?_; omega))
    have e0 : dEntry bs a = .error e := by simp only [dEntry, bindD, hx1, hx2]
    rw [e0]
    exact ⟨_, _, rfl, by omega, (kk.upd (Nat.le_refl _) _).trans hk (by omega)⟩
  subst hv
  replace kk := (kk.upd (Nat.le_refl _) _).trans hk (by omega)
  replace hO := (hk nx (by omega) (by omega)).trans (by rw [upd_at, if_pos rfl])
  replace hD := hd
  repeat' (first | (simp -implicitDefEqProofs only [ze, zd, simprocAttr, hO]) | (with_reducible refine wgd_cases ?_ ?_ <;> intro hb) | (with_reducible refine wcond_cases ?_ ?_ <;> intro hb) | (with_reducible refine qd_i (by kernel_rfl) ?_) | (with_reducible refine W_itn_cases ?_ ?_; omega))
  refine W_xdec (by kernel_rfl) rfl (dnumber_ok ((dec_set hD hne' (Nat.le_refl _) _).le (by omega)) hb hl) (fun e s n hx3 hn hk => ?_) (fun p3 v s3 n3 hx3 hn3 hk hd hv => ?_)
  · repeat' (first | (simp -implicitDefEqProofs only [ze, zd, simprocAttr]) | (with_reducible refine wgd_cases ?_ ?_ <;> intro hb) | (with_reducible refine wcond_cases ?_ ?_ <;> intro hb) | (with_reducible refine qd_i (by kernel_rfl) ?_) | (with_reducible refine W_itn_cases ?_ ?_; omega))
    have e0 : dEntry bs a = .error e := by simp only [dEntry, bindD, hx1, hx2, hx3]
    rw [e0]
    exact ⟨_, _, rfl, by omega, (kk.upd (Nat.le_refl _) _).trans hk (by omega)⟩
  subst hv
  replace kk := (kk.upd (Nat.le_refl _) _).trans hk (by omega)
  replace hO := (hk nx (by omega) (by omega)).trans (by rw [upd_at, if_pos rfl])
  replace hD := hd
  repeat' (first | (simp -implicitDefEqProofs only [ze, zd, simprocAttr, hO]) | (with_reducible refine wgd_cases ?_ ?_ <;> intro hb) | (with_reducible refine wcond_cases ?_ ?_ <;> intro hb) | (with_reducible refine qd_i (by kernel_rfl) ?_) | (with_reducible refine W_itn_cases ?_ ?_; omega))
  refine W_xdec (by kernel_rfl) rfl (dnumber_ok (hD.le (by omega)) hb hl) (fun e s n hx4 hn hk => ?_) (fun p4 v s4 n4 hx4 hn4 hk hd hv => ?_)
  · repeat' (first | (simp -implicitDefEqProofs only [ze, zd, simprocAttr]) | (with_reducible refine wgd_cases ?_ ?_ <;> intro hb) | (with_reducible refine wcond_cases ?_ ?_ <;> intro hb) | (with_reducible refine qd_i (by kernel_rfl) ?_) | (with_reducible refine W_itn_cases ?_ ?_; omega))
    have e0 : dEntry bs a = .error e := by simp only [dEntry, bindD, hx1, hx2, hx3, hx4]
    rw [e0]
    exact ⟨_, _, rfl, by omega, kk.trans hk (by omega)⟩
  subst hv
  replace kk := kk.trans hk (by omega)
  replace hO := (hk nx (by omega) (by omega)).trans hO
  replace hD := hd
  repeat' (first | (simp -implicitDefEqProofs only [ze, zd, simprocAttr, hO]) | (with_reducible refine wgd_cases ?_ ?_ <;> intro hb) | (with_reducible refine wcond_cases ?_ ?_ <;> intro hb) | (with_reducible refine qd_i (by kernel_rfl) ?_) | (with_reducible refine W_itn_cases ?_ ?_; omega))
  refine W_xdec (by kernel_rfl) rfl (dnumber_ok (hD.le (by omega)) hb hl) (fun e s n hx5 hn hk => ?_) (fun p5 v s5 n5 hx5 hn5 hk hd hv => ?_)
  · repeat' (first | (simp -implicitDefEqProofs only [ze, zd, simprocAttr]) | (with_reducible refine wgd_cases ?_ ?_ <;> intro hb) | (with_reducible refine wcond_cases ?_ ?_ <;> intro hb) | (with_reducible refine qd_i (by kernel_rfl) ?_) | (with_reducible refine W_itn_cases ?_ ?_; omega))
    have e0 : dEntry bs a = .error e := by simp only [dEntry, bindD, hx1, hx2, hx3, hx4, hx5]
    rw [e0]
    exact ⟨_, _, rfl, by omega, kk.trans hk (by omega)⟩
  subst hv
  replace kk := kk.trans hk (by omega)
  replace hO := (hk nx (by omega) (by omega)).trans hO
  replace hD := hd
  repeat' (first | (simp -implicitDefEqProofs only [ze, zd, simprocAttr, hO]) | (with_reducible refine wgd_cases ?_ ?_ <;> intro hb) | (with_reducible refine wcond_cases ?_ ?_ <;> intro hb) | (with_reducible refine qd_i (by kernel_rfl) ?_) | (with_reducible refine W_itn_cases ?_ ?_; omega))
  refine W_xdec (by kernel_rfl) rfl (dtext_ok ((dec_set (dec_set (dec_set hD hne' (Nat.le_refl _) _) hne' (Nat.le_refl _) _) hne' (Nat.le_refl _) _).le (by omega)) hb hl) (fun e s n hx6 hn hk => ?_) (fun p6 v s6 n6 hx6 hn6 hk hd hv => ?_)
  · repeat' (first | (simp -implicitDefEqProofs only [ze, zd, simprocAttr]) | (with_reducible refine wgd_cases ?_ ?_ <;> intro hb) | (with_reducible refine wcond_cases ?_ ?_ <;> intro hb) | (with_reducible refine qd_i (by kernel_rfl) ?_) | (with_reducible refine W_itn_cases ?_ ?_; omega))
    have e0 : dEntry bs a = .error e := by simp only [dEntry, bindD, hx1, hx2, hx3, hx4, hx5, hx6]
    rw [e0]
    exact ⟨_, _, rfl, by omega, (((kk.upd (Nat.le_refl _) _).upd (Nat.le_refl _) _).upd (Nat.le_refl _) _).trans hk (by omega)⟩
  subst hv
  replace kk := (((kk.upd (Nat.le_refl _) _).upd (Nat.le_refl _) _).upd (Nat.le_refl _) _).trans hk (by omega)
  replace hO := (hk nx (by omega) (by omega)).trans (by rw [upd_at, if_pos rfl])
  replace hD := hd
  repeat' (first | (simp -implicitDefEqProofs only [ze, zd, simprocAttr, hO]) | (with_reducible refine wgd_cases ?_ ?_ <;> intro hb) | (with_reducible refine wcond_cases ?_ ?_ <;> intro hb) | (with_reducible refine qd_i (by kernel_rfl) ?_) | (with_reducible refine W_itn_cases ?_ ?_; omega))
  refine W_xdec (by kernel_rfl) rfl (dtext_ok (hD.le (by omega)) hb hl) (fun e s n hx7 hn hk => ?_) (fun p7 v s7 n7 hx7 hn7 hk hd hv => ?_)
  · repeat' (first | (simp -implicitDefEqProofs only [ze, zd, simprocAttr]) | (with_reducible refine wgd_cases ?_ ?_ <;> intro hb) | (with_reducible refine wcond_cases ?_ ?_ <;> intro hb) | (with_reducible refine qd_i (by kernel_rfl) ?_) | (with_reducible refine W_itn_cases ?_ ?_; omega))
    have e0 : dEntry bs a = .error e := by simp only [dEntry, bindD, hx1, hx2, hx3, hx4, hx5, hx6, hx7]
    rw [e0]
    exact ⟨_, _, rfl, by omega, kk.trans hk (by omega)⟩
  subst hv
  replace kk := kk.trans hk (by omega)
  replace hO := (hk nx (by omega) (by omega)).trans hO
  replace hD := hd
  repeat' (first | (simp -implicitDefEqProofs only [ze, zd, simprocAttr, hO]) | (with_reducible refine wgd_cases ?_ ?_ <;> intro hb) | (with_reducible refine wcond_cases ?_ ?_ <;> intro hb) | (with_reducible refine qd_i (by kernel_rfl) ?_) | (with_reducible refine W_itn_cases ?_ ?_; omega))
  refine W_xdec (by kernel_rfl) rfl (dnumber_ok ((dec_set (dec_set hD hne' (Nat.le_refl _) _) hne' (Nat.le_refl _) _).le (by omega)) hb hl) (fun e s n hx8 hn hk => ?_) (fun p8 v s8 n8 hx8 hn8 hk hd hv => ?_)
  · repeat' (first | (simp -implicitDefEqProofs only [ze, zd, simprocAttr]) | (with_reducible refine wgd_cases ?_ ?_ <;> intro hb) | (with_reducible refine wcond_cases ?_ ?_ <;> intro hb) | (with_reducible refine qd_i (by kernel_rfl) ?_) | (with_reducible refine W_itn_cases ?_ ?_; omega))
    have e0 : dEntry bs a = .error e := by simp only [dEntry, bindD, hx1, hx2, hx3, hx4, hx5, hx6, hx7, hx8]
    rw [e0]
    exact ⟨_, _, rfl, by omega, ((kk.upd (Nat.le_refl _) _).upd (Nat.le_refl _) _).trans hk (by omega)⟩
  subst hv
  replace kk := ((kk.upd (Nat.le_refl _) _).upd (Nat.le_refl _) _).trans hk (by omega)
  replace hO := (hk nx (by omega) (by omega)).trans (by rw [upd_at, if_pos rfl])
  replace hD := hd
  repeat' (first | (simp -implicitDefEqProofs only [ze, zd, simprocAttr, hO]) | (with_reducible refine wgd_cases ?_ ?_ <;> intro hb) | (with_reducible refine wcond_cases ?_ ?_ <;> intro hb) | (with_reducible refine qd_i (by kernel_rfl) ?_) | (with_reducible refine W_itn_cases ?_ ?_; omega))
  refine W_dec (dcount_ok ((dec_set hD hne' (Nat.le_refl _) _).le (by omega)) hb hl 100) (fun e s n hx9 hn hk => ?_) (fun p9 v s9 n9 hx9 hn9 hk hd hv => ?_)
  · repeat' (first | (simp -implicitDefEqProofs only [ze, zd, simprocAttr]) | (with_reducible refine wgd_cases ?_ ?_ <;> intro hb) | (with_reducible refine wcond_cases ?_ ?_ <;> intro hb) | (with_reducible refine qd_i (by kernel_rfl) ?_) | (with_reducible refine W_itn_cases ?_ ?_; omega))
    have e0 : dEntry bs a = .error e := by simp only [dEntry, bindD, hx1, hx2, hx3, hx4, hx5, hx6, hx7, hx8, hx9]
    rw [e0]
    exact ⟨_, _, rfl, by omega, (kk.upd (Nat.le_refl _) _).trans hk (by omega)⟩
  obtain ⟨rfl, hc0, hc1⟩ := hv
  replace kk := (kk.upd (Nat.le_refl _) _).trans hk (by omega)
  replace hO := (hk nx (by omega) (by omega)).trans (by rw [upd_at, if_pos rfl])
  replace hD := hd
  repeat' (first | (simp -implicitDefEqProofs only [ze, zd, simprocAttr, hO]) | (with_reducible refine wgd_cases ?_ ?_ <;> intro hb) | (with_reducible refine wcond_cases ?_ ?_ <;> intro hb) | (with_reducible refine qd_i (by kernel_rfl) ?_) | (with_reducible refine W_itn_cases ?_ ?_; omega))
  have hC : ∃ c, c = [V.i64 p1.1, V.str p2.1, V.i64 p3.1, V.i64 p4.1, V.i64 p5.1, V.str p6.1, V.str p7.1, V.i64 p8.1] := ⟨_, rfl⟩
  refine loop_w (fun m tm st' nx' => ∃ (i : Nat) (acc : List Line) (ai : Nat) (vt : V), m = p9.1.toNat - i ∧ i ≤ p9.1.toNat ∧ acc.length = i ∧ dLines bs p9.1.toNat [] p9.2 = dLines bs (p9.1.toNat - i) acc ai ∧ tm 35 = .i64 i ∧ tm 34 = .i64 p9.1 ∧ tm 0 = .ptr id 0 ∧ tm 2 = .ptr nx 0 ∧ nx + 8 ≤ nx' ∧ KeepX st st' nx id ∧
      st' nx = some (.cells [.i64 p1.1, .str p2.1, .i64 p3.1, .i64 p4.1, .i64 p5.1, .str p6.1, .str p7.1, .i64 p8.1, vt]) ∧ Dec st' nx' id bs rr ai ∧ GrowN st' nx nx' 49 (acc.map encL) vt) p9.1.toNat ⟨0, [], p9.2, .list 0 [] 1, by omega, by omega, rfl, rfl, ?_, ?_, ?_, ?_, by omega, kk, hO, hD.le (by omega), .inl ⟨rfl, rfl⟩⟩ ?_
  · simp -implicitDefEqProofs only [ze, zd, simprocAttr]; try rfl
  · simp -implicitDefEqProofs only [ze, zd, simprocAttr]
  · simp -implicitDefEqProofs only [ze, zd, simprocAttr]
  · simp -implicitDefEqProofs only [ze, zd, simprocAttr]
  clear hD kk hO
  rintro m tm st' nx' ⟨i, acc, ai, vt, hm, hi, hacc, hdt, h35, h34, h0, h2, hnx, kk, hO, hD, hg⟩
  simp only [k165_l0]
  by_cases hlt : i < p9.1.toNat
  · have hd : decide ((i : Int) < p9.1) = true := decide_eq_true (by omega)
    obtain ⟨k, hki⟩ : ∃ k, p9.1.toNat - i = k + 1 := ⟨p9.1.toNat - i - 1, by omega⟩
    rw [hki] at hdt
    repeat' (first | (simp -implicitDefEqProofs only [ze, zd, simprocAttr, h35, h34, h0, h2, hd, hO]))
    refine W_dec (dline_ok (hD.le (by omega)) hb hl) (fun e s n hxa hn hk => ?_) (fun pa v sa na hxa hna hka hDa hv => ?_)
    · simp -implicitDefEqProofs only [ze, zd, simprocAttr]
      refine ⟨?_, by kernel_rfl, ?_⟩
      · simp [recsOk2, ordB, pairOk, bigF, δF, rF, disj, List.range, List.range.loop]
      · have e0 : dEntry bs a = .error e := by simp only [dEntry, bindD, hx1, hx2, hx3, hx4, hx5, hx6, hx7, hx8, hx9, hdt, dLines, hxa]
        rw [e0]
        exact ⟨_, _, rfl, by omega, kk.trans hk (by omega)⟩
    · obtain ⟨vt2, hf, htr, rfl⟩ := hv
      have hOa := (hka nx (by omega) (by omega)).trans hO
      have kka := kk.trans hka (by omega)
      have f2 : ∀ j, (nx = na + j) = False := fun j => eq_false (by omega)
      have f5 : ∀ j, (nx = nx' + j) = False := fun j => eq_false (by omega)
      rcases hf with ⟨hfb, rfl⟩ | ⟨hfb, r2, hr28, rfl⟩
      · have htg : pa.1.tags = [] := by simpa using hfb
        have hel : encL pa.1 = .agg [.str pa.1.acc, .str pa.1.cur, .i64 pa.1.amt, .i64 pa.1.base, .str pa.1.par, .str pa.1.pty, .list 0 [] 1] := by
          unfold encL; rw [htr, htg]; rfl
        rcases hg with ⟨hb0, rfl⟩ | ⟨hb1, r, hr0, hr8, hrn, rfl, hst⟩
        · have hacc0 : acc = [] := by simpa using hb0
          subst hacc0
          have hi0 : i = 0 := hacc.symm
          subst hi0
          repeat' (first | (simp -implicitDefEqProofs only [ze, zd, simprocAttr, hOa, f2, f5, h35, h34, h0, h2, wnx_tb, wnx_tbn]) | (with_reducible refine W_itn_cases ?_ ?_; omega))
          refine qd_2 ?_ ?_
          · simp [recsOk2, ordB, pairOk, bigF, δF, rF, disj, List.range, List.range.loop, seqSt, upds_nil]
            exact ⟨.inr (hOa.trans hO.symm), ⟨.inr (by omega), by decide⟩, ⟨.inr (by omega), by decide⟩, by decide, by decide, .inr (by omega), .inr (by omega)⟩
          · repeat' (first | (simp -implicitDefEqProofs only [ze, zd, simprocAttr, h35, h34, h0, h2, f2, f5]) | (with_reducible refine wgd_cases ?_ ?_ <;> intro hb) | (with_reducible refine wcond_cases ?_ ?_ <;> intro hb) | (with_reducible refine qd_i (by kernel_rfl) ?_) | (with_reducible refine W_itn_cases ?_ ?_; omega))
            refine ⟨p9.1.toNat - 1, by omega, 1, [pa.1], pa.2, _, rfl, by omega, rfl, ?_, up64 (by omega), by omega, ((kka.upd (by omega) _).upd (by omega) _).upd (Nat.le_refl _) _, rfl, dec_set (dec_set (dec_set hDa (by omega) (Nat.le_refl _) _) (by omega) (Nat.le_refl _) _) hne' (by omega) _, .inr ⟨by simp, nx' + 48, by omega, by omega, by omega, by rw [List.map_cons, hel]; rfl, ?_⟩⟩
            · rw [hdt, show p9.1.toNat - 1 = k by omega]; simp only [dLines, bindD, hxa, List.nil_append]
            · rw [upd_at, if_neg (by omega), upd_at, if_pos rfl]; rfl
        · have hstb := (hka r (by omega) (by omega)).trans hst
          have g1 : (r = 0) = False := eq_false (by omega)
          have g2 : (r = 1) = False := eq_false (by omega)
          have g3 : ∀ j, (r = nx' + j) = False := fun j => eq_false (by omega)
          have g5 : (nx = r) = False := eq_false (by omega)
          repeat' (first | (simp -implicitDefEqProofs only [ze, zd, simprocAttr, hOa, hstb, f2, f5, g1, g2, g3, g5, h35, h34, h0, h2, List.length_map, wnx_tb, wnx_tbn]) | (with_reducible refine W_itn_cases ?_ ?_; omega))
          refine qd_2 ?_ ?_
          · simp [recsOk2, ordB, pairOk, bigF, δF, rF, disj, List.range, List.range.loop, seqSt, upds_nil]
            exact ⟨.inr (hOa.trans hO.symm), ⟨.inr (by omega), by decide⟩, ⟨.inr (by omega), by decide, .inr (by omega)⟩, by decide, by decide, .inr (by omega), .inr (by omega)⟩
          · repeat' (first | (simp -implicitDefEqProofs only [ze, zd, simprocAttr, h35, h34, h0, h2, f2, f5, g5]) | (with_reducible refine wgd_cases ?_ ?_ <;> intro hb) | (with_reducible refine wcond_cases ?_ ?_ <;> intro hb) | (with_reducible refine qd_i (by kernel_rfl) ?_) | (with_reducible refine W_itn_cases ?_ ?_; omega))
            refine ⟨p9.1.toNat - (i + 1), by omega, i + 1, acc ++ [pa.1], pa.2, _, rfl, by omega, by simp [hacc], ?_, up64 (by omega), by omega, ((kka.upd (by omega) _).upd (by omega) _).upd (Nat.le_refl _) _, rfl, dec_set (dec_set (dec_set hDa (by omega) (Nat.le_refl _) _) (by omega) (Nat.le_refl _) _) hne' (by omega) _, .inr ⟨by simp, r, by omega, by omega, by omega, by rw [List.map_append, List.map_cons, hel]; rfl, ?_⟩⟩
            · rw [hdt, show p9.1.toNat - (i + 1) = k by omega]; simp only [dLines, bindD, hxa]
            · rw [upd_at, if_neg (by omega), upd_at, if_pos rfl]; simp
      · have htg : pa.1.tags ≠ [] := by intro h; exact hfb (by rw [h]; rfl)
        have g7 : (r2 = 1) = False := eq_false (by omega)
        have hel : encL pa.1 = .agg [.str pa.1.acc, .str pa.1.cur, .i64 pa.1.amt, .i64 pa.1.base, .str pa.1.par, .str pa.1.pty, .list 202 (pa.1.tags.map encT) 0] := by
          have : pa.1.tr = false := by rw [htr]; simpa using htg
          unfold encL; rw [this]; rfl
        rcases hg with ⟨hb0, rfl⟩ | ⟨hb1, r, hr0, hr8, hrn, rfl, hst⟩
        · have hacc0 : acc = [] := by simpa using hb0
          subst hacc0
          have hi0 : i = 0 := hacc.symm
          subst hi0
          repeat' (first | (simp -implicitDefEqProofs only [ze, zd, simprocAttr, hOa, f2, f5, h35, h34, h0, h2, wnx_tb, wnx_tbn, g7]) | (with_reducible refine W_itn_cases ?_ ?_; omega))
          refine qd_2 ?_ ?_
          · simp [recsOk2, ordB, pairOk, bigF, δF, rF, disj, List.range, List.range.loop, seqSt, upds_nil]
            exact ⟨.inr (hOa.trans hO.symm), ⟨.inr (by omega), by decide⟩, ⟨.inr (by omega), by decide⟩, by decide, by decide, .inr (by omega), .inr (by omega)⟩
          · repeat' (first | (simp -implicitDefEqProofs only [ze, zd, simprocAttr, h35, h34, h0, h2, f2, f5]) | (with_reducible refine wgd_cases ?_ ?_ <;> intro hb) | (with_reducible refine wcond_cases ?_ ?_ <;> intro hb) | (with_reducible refine qd_i (by kernel_rfl) ?_) | (with_reducible refine W_itn_cases ?_ ?_; omega))
            refine ⟨p9.1.toNat - 1, by omega, 1, [pa.1], pa.2, _, rfl, by omega, rfl, ?_, up64 (by omega), by omega, ((kka.upd (by omega) _).upd (by omega) _).upd (Nat.le_refl _) _, rfl, dec_set (dec_set (dec_set hDa (by omega) (Nat.le_refl _) _) (by omega) (Nat.le_refl _) _) hne' (by omega) _, .inr ⟨by simp, nx' + 48, by omega, by omega, by omega, by rw [List.map_cons, hel]; rfl, ?_⟩⟩
            · rw [hdt, show p9.1.toNat - 1 = k by omega]; simp only [dLines, bindD, hxa, List.nil_append]
            · rw [upd_at, if_neg (by omega), upd_at, if_pos rfl]; rfl
        · have hstb := (hka r (by omega) (by omega)).trans hst
          have g1 : (r = 0) = False := eq_false (by omega)
          have g2 : (r = 1) = False := eq_false (by omega)
          have g3 : ∀ j, (r = nx' + j) = False := fun j => eq_false (by omega)
          have g5 : (nx = r) = False := eq_false (by omega)
          repeat' (first | (simp -implicitDefEqProofs only [ze, zd, simprocAttr, hOa, hstb, f2, f5, g1, g2, g3, g5, h35, h34, h0, h2, List.length_map, wnx_tb, wnx_tbn, g7]) | (with_reducible refine W_itn_cases ?_ ?_; omega))
          refine qd_2 ?_ ?_
          · simp [recsOk2, ordB, pairOk, bigF, δF, rF, disj, List.range, List.range.loop, seqSt, upds_nil]
            exact ⟨.inr (hOa.trans hO.symm), ⟨.inr (by omega), by decide⟩, ⟨.inr (by omega), by decide, .inr (by omega)⟩, by decide, by decide, .inr (by omega), .inr (by omega)⟩
          · repeat' (first | (simp -implicitDefEqProofs only [ze, zd, simprocAttr, h35, h34, h0, h2, f2, f5, g5]) | (with_reducible refine wgd_cases ?_ ?_ <;> intro hb) | (with_reducible refine wcond_cases ?_ ?_ <;> intro hb) | (with_reducible refine qd_i (by kernel_rfl) ?_) | (with_reducible refine W_itn_cases ?_ ?_; omega))
            refine ⟨p9.1.toNat - (i + 1), by omega, i + 1, acc ++ [pa.1], pa.2, _, rfl, by omega, by simp [hacc], ?_, up64 (by omega), by omega, ((kka.upd (by omega) _).upd (by omega) _).upd (Nat.le_refl _) _, rfl, dec_set (dec_set (dec_set hDa (by omega) (Nat.le_refl _) _) (by omega) (Nat.le_refl _) _) hne' (by omega) _, .inr ⟨by simp, r, by omega, by omega, by omega, by rw [List.map_append, List.map_cons, hel]; rfl, ?_⟩⟩
            · rw [hdt, show p9.1.toNat - (i + 1) = k by omega]; simp only [dLines, bindD, hxa]
            · rw [upd_at, if_neg (by omega), upd_at, if_pos rfl]; simp
  · have hd : decide ((i : Int) < p9.1) = false := decide_eq_false (by omega)
    have hin : i = p9.1.toNat := by omega
    rw [hin, Nat.sub_self] at hdt
    have e0 : dEntry bs a = .ok (⟨p1.1, p2.1, p3.1, p4.1, p5.1, p6.1, p7.1, p8.1, acc, acc.isEmpty⟩, ai) := by simp only [dEntry, bindD, hx1, hx2, hx3, hx4, hx5, hx6, hx7, hx8, hx9, hdt, dLines]
    rcases hg with ⟨hb0, rfl⟩ | ⟨hb1, r, hr0, hr8, hrn, rfl, hst⟩
    · repeat' (first | (simp -implicitDefEqProofs only [ze, zd, simprocAttr, h35, h34, h0, h2, hd, k165_t0, hO]) | (with_reducible refine wgd_cases ?_ ?_ <;> intro hb) | (with_reducible refine wcond_cases ?_ ?_ <;> intro hb) | (with_reducible refine qd_i (by kernel_rfl) ?_) | (with_reducible refine W_itn_cases ?_ ?_; omega))
      rw [e0]
      exact ⟨_, _, _, rfl, by omega, kk.upd (Nat.le_refl _) _, dec_set hD hne' (by omega) _, _, .inl ⟨hb0, rfl⟩, rfl, rfl⟩
    · repeat' (first | (simp -implicitDefEqProofs only [ze, zd, simprocAttr, h35, h34, h0, h2, hd, k165_t0, hO]) | (with_reducible refine wgd_cases ?_ ?_ <;> intro hb) | (with_reducible refine wcond_cases ?_ ?_ <;> intro hb) | (with_reducible refine qd_i (by kernel_rfl) ?_) | (with_reducible refine W_itn_cases ?_ ?_; omega))
      rw [e0]
      exact ⟨_, _, _, rfl, by omega, kk.upd (Nat.le_refl _) _, dec_set hD hne' (by omega) _, _, .inr ⟨hb1, r, hr8, rfl⟩, rfl, rfl⟩
end Go.Proofs.YtaefaadjncehmaaGreatDoor.Vm
set_option maxRecDepth 10000
set_option linter.unusedVariables false
set_option linter.unusedSimpArgs false
namespace Go.Proofs.YtaefaadjncehmaaGreatDoor.Vm
open Go Go.Proofs
theorem fin_i64 {y : Int} (h0 : 0 ≤ y) (h1 : y < 18446744073709551616) : i64r (Co.fin y) := by unfold Co.fin i64r; split <;> omega
theorem tS_i64 : ∀ (s : List Int) (i : Nat) (x : Int), bOK s → 0 ≤ x → x < 128 ^ i → i64r (Co.tS s i x).1
  | [], i, x, _, _, _ => by unfold Co.tS; split <;> (unfold i64r; simp)
  | b :: s, i, x, hs, h0, h1 => by
    unfold Co.tS
    split
    · rename_i hi
      split
      · unfold i64r; simp
      · rename_i hbad
        have hbad : Co.badS i b = false := by simpa using hbad
        have hb := hs b (by simp)
        obtain ⟨s1, s2, s3⟩ := Co.step_bound i x b hi h0 h1 hb.1 hb.2 (Co.bad_no hbad).1
        split
        · exact fin_i64 (by omega) s2
        · exact tS_i64 s (i + 1) _ (fun c hc => hs c (by simp [hc])) (by omega) s3
    · unfold i64r; simp
theorem bindD_inv {α β : Type} {x : Except Int (α × Nat)} {f : α → Nat → Except Int (β × Nat)} {r : β × Nat} (h : bindD x f = .ok r) : ∃ p, x = .ok p ∧ f p.1 p.2 = .ok r := by
  cases x with
  | error e => cases h
  | ok p => exact ⟨p, rfl, h⟩
theorem dInt_i64 {bs : List Int} (hb : bOK bs) {a : Nat} {p : Int × Nat} (h : dInt bs a = .ok p) : i64r p.1 := by
  unfold dInt at h
  split at h
  · obtain rfl := Except.ok.inj h
    exact tS_i64 _ 0 0 (hb.drop a) (by omega) (by decide)
  · cases h
theorem dText_plain {bs : List Int} {a : Nat} {p : ByteArray × Nat} (h : dText bs a = .ok p) : plainS p.1 = true := by
  unfold dText at h
  split at h
  · rename_i h0
    obtain rfl := Except.ok.inj h
    unfold tT at h0 ⊢
    simp only at h0 ⊢
    repeat' (split at h0)
    all_goals first
      | (exfalso; simp at h0; done)
      | (exfalso; exact absurd h0 (by assumption))
      | skip
    rename_i h1 h2 h3 h4
    rw [if_neg h1, if_neg h2, if_neg h3, if_neg h4]
    simpa using h4
  · cases h
theorem dText_small {bs : List Int} {a : Nat} {p : ByteArray × Nat} (h : dText bs a = .ok p) : small p.1 := by
  have := plain_size (dText_plain h)
  unfold small; omega
theorem dTags_small {bs : List Int} : ∀ (n : Nat) (acc : List Tag) (a : Nat) {r : List Tag × Nat}, dTags bs n acc a = .ok r → (∀ t ∈ acc, small t.n ∧ small t.v) → (∀ t ∈ r.1, small t.n ∧ small t.v) ∧ r.1.length = acc.length + n
  | 0, acc, a, r, h, ha => by obtain rfl := Except.ok.inj h; exact ⟨ha, rfl⟩
  | n + 1, acc, a, r, h, ha => by
    obtain ⟨p1, h1, h⟩ := bindD_inv h
    obtain ⟨p2, h2, h⟩ := bindD_inv h
    obtain ⟨k1, k2⟩ := dTags_small n _ _ h (fun t ht => by
      rcases List.mem_append.1 ht with ht | ht
      · exact ha t ht
      · simp only [List.mem_singleton] at ht; subst ht; exact ⟨dText_small h1, dText_small h2⟩)
    exact ⟨k1, by rw [k2, List.length_append]; simp; omega⟩
theorem dCount_le {bs : List Int} {most : Int} {a : Nat} {p : Int × Nat} (h : dCount most bs a = .ok p) : 0 ≤ p.1 ∧ p.1 ≤ most := by
  unfold dCount at h
  split at h
  · cases h
  · split at h
    · cases h
    · obtain rfl := Except.ok.inj h; omega
theorem dLine_good {bs : List Int} (hb : bOK bs) {a : Nat} {r : Line × Nat} (h : dLine bs a = .ok r) : smallL r.1 ∧ i64r r.1.amt ∧ i64r r.1.base := by
  obtain ⟨p1, h1, h⟩ := bindD_inv h
  obtain ⟨p2, h2, h⟩ := bindD_inv h
  obtain ⟨p3, h3, h⟩ := bindD_inv h
  obtain ⟨p4, h4, h⟩ := bindD_inv h
  obtain ⟨p5, h5, h⟩ := bindD_inv h
  obtain ⟨p6, h6, h⟩ := bindD_inv h
  obtain ⟨p7, h7, h⟩ := bindD_inv h
  obtain ⟨p8, h8, h⟩ := bindD_inv h
  obtain rfl := Except.ok.inj h
  obtain ⟨k1, k2⟩ := dTags_small _ _ _ h8 (by simp)
  have := dCount_le h7
  exact ⟨⟨dText_small h1, dText_small h2, dText_small h5, dText_small h6, k1, by simp at k2; simp only; omega, fun h => by simpa using h⟩, dInt_i64 hb h3, dInt_i64 hb h4⟩
theorem dLines_good {bs : List Int} (hb : bOK bs) : ∀ (n : Nat) (acc : List Line) (a : Nat) {r : List Line × Nat}, dLines bs n acc a = .ok r → (∀ l ∈ acc, smallL l ∧ i64r l.amt ∧ i64r l.base) → (∀ l ∈ r.1, smallL l ∧ i64r l.amt ∧ i64r l.base) ∧ r.1.length = acc.length + n
  | 0, acc, a, r, h, ha => by obtain rfl := Except.ok.inj h; exact ⟨ha, rfl⟩
  | n + 1, acc, a, r, h, ha => by
    obtain ⟨p1, h1, h⟩ := bindD_inv h
    obtain ⟨k1, k2⟩ := dLines_good hb n _ _ h (fun t ht => by
      rcases List.mem_append.1 ht with ht | ht
      · exact ha t ht
      · simp only [List.mem_singleton] at ht; subst ht; exact dLine_good hb h1)
    exact ⟨k1, by rw [k2, List.length_append]; simp; omega⟩
theorem dEntry_good {bs : List Int} (hb : bOK bs) {a : Nat} {r : Entry × Nat} (h : dEntry bs a = .ok r) : smallE r.1 ∧ rangeE r.1 := by
  obtain ⟨p1, h1, h⟩ := bindD_inv h
  obtain ⟨p2, h2, h⟩ := bindD_inv h
  obtain ⟨p3, h3, h⟩ := bindD_inv h
  obtain ⟨p4, h4, h⟩ := bindD_inv h
  obtain ⟨p5, h5, h⟩ := bindD_inv h
  obtain ⟨p6, h6, h⟩ := bindD_inv h
  obtain ⟨p7, h7, h⟩ := bindD_inv h
  obtain ⟨p8, h8, h⟩ := bindD_inv h
  obtain ⟨p9, h9, h⟩ := bindD_inv h
  obtain ⟨p10, h10, h⟩ := bindD_inv h
  obtain rfl := Except.ok.inj h
  obtain ⟨k1, k2⟩ := dLines_good hb _ _ _ h10 (by simp)
  have := dCount_le h9
  exact ⟨⟨dText_small h2, dText_small h6, dText_small h7, fun l hl => (k1 l hl).1, by simp at k2; simp only; omega, fun h => by simpa using h⟩,
    ⟨dInt_i64 hb h1, dInt_i64 hb h3, dInt_i64 hb h4, dInt_i64 hb h5, dInt_i64 hb h8, fun l hl => (k1 l hl).2⟩⟩
def zeroE : Entry := ⟨0, ByteArray.mk #[], 0, 0, 0, ByteArray.mk #[], ByteArray.mk #[], 0, [], true⟩
def takeS (bs : List Int) : Entry × Int × Int := match dEntry bs 0 with
  | .error e => (zeroE, 0, e)
  | .ok p => if (checkS p.1).2 = 0 then (p.1, p.2, 0) else (zeroE, 0, (checkS p.1).2)
theorem tasrt_y (v : V) : tasrt Tryz.prog 270 (.ifc 270 v) = some (.tup [v, .bool true]) := by kernel_rfl
theorem tasrt_n : tasrt Tryz.prog 270 (.sc .nilIface) = some (.tup [.agg [.i64 0], .bool false]) := by kernel_rfl
section
variable {P : Program} {E : Env} {kd : KD} {kc : KC} {C : HR → Prop} {tm tm0 : Nat → V} {st : St} {nx : Nat} {cs : List V} {rs : List KR} {y : Y} {acc : List Rec}
theorem defQ_n : defQ P E kd kc C .norm ⟨tm, st, nx⟩ = wc P E kd.y2 (defQ2 P E kc (kd.caps.map (av tm)) kd.rs C) ⟨upd tm kd.d (.fn (.func kd.g) [] (kd.caps.map (av tm))), st, nx + 16⟩ := rfl
theorem defQ2_r : defQ2 P E kc cs rs C .ret ⟨tm, st, nx⟩ = closW P E kc cs rs C ⟨tm, st, nx⟩ (.sc .nilIface) := rfl
theorem defQ2_n : defQ2 P E kc cs rs C .norm ⟨tm, st, nx⟩ = closW P E kc cs rs C ⟨tm, st, nx⟩ (.sc .nilIface) := rfl
theorem defQ2_p (t : TypeId) (v : V) : defQ2 P E kc cs rs C (.pan (.ifc t v)) ⟨tm, st, nx⟩ = closW P E kc cs rs C ⟨tm, st, nx⟩ (.ifc t v) := by simp [defQ2, isIfc]
theorem closW_e (rv : V) : closW P E kc cs rs C ⟨tm, st, nx⟩ rv = W (tasrt P kc.to rv) fun tv => wops P E false (closQ P E kc.y tm rs C) (fun _ _ _ _ _ => False) (nx + 16) kc.ops (upd (upd (argT cs) kc.t0 rv) kc.t1 tv) st (nx + 8 * kc.m) [] := rfl
theorem closQ_e : closQ P E y tm0 rs C tm st nx acc = wc P E y (closE tm0 rs C) ⟨tm, st, nx⟩ := rfl
theorem closE_n : closE tm0 rs C .norm ⟨tm, st, nx⟩ = W (kres ⟨tm0, st, nx⟩ rs) fun v => C (.ret v st nx) := rfl
theorem closE_r : closE tm0 rs C .ret ⟨tm, st, nx⟩ = W (kres ⟨tm0, st, nx⟩ rs) fun v => C (.ret v st nx) := rfl
end
theorem take_ok (bs : List Int) (hb : bOK bs) (hl : bs.length < 4611686018427387904) (r : Nat) : L.pl 111 [.list 5 (bv bs) r] = some (.ret (.tup [encE (takeS bs).1, .i64 (takeS bs).2.1, .i64 (takeS bs).2.2])) := by
  refine W_of (plD_w k111_eq k164_eq ?_)
  simp only [k111]
  repeat' (first | (simp -implicitDefEqProofs only [ze, zd, simprocAttr, defQ_n, k111, ne_eq, not_true_eq_false, gt_iff_lt]))
  have hz : encE zeroE = .agg [.i64 0, .str (ByteArray.mk #[]), .i64 0, .i64 0, .i64 0, .str (ByteArray.mk #[]), .str (ByteArray.mk #[]), .i64 0, .list 0 [] 1] := rfl
  refine W_dec (dentry_ok (a := 0) ⟨by omega, by omega, by rw [upd_at, if_pos rfl]; rfl⟩ hb hl) (fun e s n hx hn hk => ?_) (fun p v s n hx hn hk hD hv => ?_)
  · have x8 := (hk 8 (by omega) (by omega)).trans (by simp [upd_at]; rfl)
    have x16 := (hk 16 (by omega) (by omega)).trans (by simp [upd_at]; rfl)
    have x24 := (hk 24 (by omega) (by omega)).trans (by simp [upd_at]; rfl)
    have f1 : ∀ j, (8 = n + j) = False := fun j => eq_false (by omega)
    have f2 : ∀ j, (16 = n + j) = False := fun j => eq_false (by omega)
    have f3 : ∀ j, (24 = n + j) = False := fun j => eq_false (by omega)
    have f4 : ∀ j, (n + j = 8) = False := fun j => eq_false (by omega)
    have f5 : ∀ j, (n + j = 16) = False := fun j => eq_false (by omega)
    have f6 : ∀ j, (n + j = 24) = False := fun j => eq_false (by omega)
    repeat' (first | (simp -implicitDefEqProofs only [ze, zd, simprocAttr, x8, x16, x24, f1, f2, f3, f4, f5, f6, defQ2_p, defQ2_n, defQ2_r, errV, closW_e, k164, tasrt_y, tasrt_n, closQ_e, closE_n, closE_r, ne_eq, not_true_eq_false, gt_iff_lt]) | (with_reducible refine W_itn_cases ?_ ?_; omega))
    refine qd_i ?_ ?_
    · simp [recsOk, ordB, Rec.free, Rec.wr, disj, List.range, List.range.loop, f1, f2, f3, f4, f5, f6]; try decide
    · repeat' (first | (simp -implicitDefEqProofs only [ze, zd, simprocAttr, x8, x16, x24, f1, f2, f3, f4, f5, f6, defQ2_p, defQ2_n, defQ2_r, errV, closW_e, k164, tasrt_y, tasrt_n, closQ_e, closE_n, closE_r, ne_eq, not_true_eq_false, gt_iff_lt]) | (with_reducible refine wgd_cases ?_ ?_ <;> intro hb) | (with_reducible refine wcond_cases ?_ ?_ <;> intro hb) | (with_reducible refine qd_i (by kernel_rfl) ?_) | (with_reducible refine W_itn_cases ?_ ?_; omega))
      simp only [takeS, hx, hz]
  · obtain ⟨vt, hf, hlr, rfl⟩ := hv
    have x8 := (hk 8 (by omega) (by omega)).trans (by simp [upd_at]; rfl)
    have x16 := (hk 16 (by omega) (by omega)).trans (by simp [upd_at]; rfl)
    have x24 := (hk 24 (by omega) (by omega)).trans (by simp [upd_at]; rfl)
    have hgd := dEntry_good hb hx
    have hck := check_ok p.1 hgd.1 hgd.2.amts
    rcases hf with ⟨hf, rfl⟩ | ⟨hf, r2, hr2, rfl⟩
    · have h1 : p.1.lines = [] := by simpa using hf
      have v4 : encE p.1 = .agg [.i64 p.1.no, .str p.1.ent, .i64 p.1.book, .i64 p.1.val, .i64 p.1.kind, .str p.1.ref, .str p.1.who, .i64 p.1.rev, .list 0 [] 1] := by unfold encE; rw [hlr, h1]; rfl
      rw [v4] at hck
      by_cases hc : (checkS p.1).2 = 0
      · rw [hc] at hck
        repeat' (first | (simp -implicitDefEqProofs only [ze, zd, simprocAttr, x8, x16, x24, hck]) | (with_reducible refine W_itn_cases ?_ ?_; omega))
        refine W_hp (dend_ok (a := p.2) (dec_set (dec_set (hD.le (by omega)) (by omega) (Nat.le_refl _) _) (by omega) (Nat.le_refl _) _) hl 0 (by have := hD.2.1; omega)) ?_
        rintro _ ⟨s1, n1, rfl, hn1, hd1, hk1⟩
        have y8 := (hk1 8 (by omega) (by omega)).trans (by rw [upd_at, if_neg (by omega), upd_at, if_pos rfl])
        have y16 := (hk1 16 (by omega) (by omega)).trans (Eq.trans (by rw [upd_at, if_neg (by omega), upd_at, if_neg (by omega)]) x16)
        have y24 := (hk1 24 (by omega) (by omega)).trans (by rw [upd_at, if_pos rfl])
        have yd := hd1.2.2
        rw [Nat.add_zero] at yd
        have f1 : ∀ j, (8 = n1 + j) = False := fun j => eq_false (by omega)
        have f2 : ∀ j, (16 = n1 + j) = False := fun j => eq_false (by omega)
        have f3 : ∀ j, (24 = n1 + j) = False := fun j => eq_false (by omega)
        have f4 : ∀ j, (64 = n1 + j) = False := fun j => eq_false (by omega)
        repeat' (first | (simp -implicitDefEqProofs only [ze, zd, simprocAttr, y8, y16, y24, yd, f1, f2, f3, f4, defQ2_p, defQ2_n, defQ2_r, errV, closW_e, k164, tasrt_y, tasrt_n, closQ_e, closE_n, closE_r, ne_eq, not_true_eq_false, gt_iff_lt]) | (with_reducible refine wgd_cases ?_ ?_ <;> intro hb) | (with_reducible refine wcond_cases ?_ ?_ <;> intro hb) | (with_reducible refine qd_i (by kernel_rfl) ?_) | (with_reducible refine W_itn_cases ?_ ?_; omega))
        simp only [takeS, hx, hc, if_true, v4]
      · have hcd : decide ((checkS p.1).2 = 0) = false := decide_eq_false hc
        repeat' (first | (simp -implicitDefEqProofs only [ze, zd, simprocAttr, x8, x16, x24, hck]) | (with_reducible refine W_itn_cases ?_ ?_; omega))
        refine W_hp (dend_bad 0 _ hc) ?_
        rintro _ ⟨s1, n1, rfl, hn1, hk1⟩
        have y8 := (hk1 8 (by omega) (by omega)).trans (by rw [upd_at, if_neg (by omega), upd_at, if_pos rfl])
        have y16 := (hk1 16 (by omega) (by omega)).trans (Eq.trans (by rw [upd_at, if_neg (by omega), upd_at, if_neg (by omega)]) x16)
        have y24 := (hk1 24 (by omega) (by omega)).trans (by rw [upd_at, if_pos rfl])
        have f1 : ∀ j, (8 = n1 + j) = False := fun j => eq_false (by omega)
        have f2 : ∀ j, (16 = n1 + j) = False := fun j => eq_false (by omega)
        have f3 : ∀ j, (24 = n1 + j) = False := fun j => eq_false (by omega)
        have f4 : ∀ j, (n1 + j = 8) = False := fun j => eq_false (by omega)
        have f5 : ∀ j, (n1 + j = 16) = False := fun j => eq_false (by omega)
        have f6 : ∀ j, (n1 + j = 24) = False := fun j => eq_false (by omega)
        repeat' (first | (simp -implicitDefEqProofs only [ze, zd, simprocAttr, y8, y16, y24, f1, f2, f3, f4, f5, f6, defQ2_p, defQ2_n, defQ2_r, errV, closW_e, k164, tasrt_y, tasrt_n, closQ_e, closE_n, closE_r, ne_eq, not_true_eq_false, gt_iff_lt]) | (with_reducible refine W_itn_cases ?_ ?_; omega))
        refine qd_i ?_ ?_
        · simp [recsOk, ordB, Rec.free, Rec.wr, disj, List.range, List.range.loop, f1, f2, f3, f4, f5, f6]; try decide
        · repeat' (first | (simp -implicitDefEqProofs only [ze, zd, simprocAttr, y8, y16, y24, f1, f2, f3, f4, f5, f6, defQ2_p, defQ2_n, defQ2_r, errV, closW_e, k164, tasrt_y, tasrt_n, closQ_e, closE_n, closE_r, ne_eq, not_true_eq_false, gt_iff_lt]) | (with_reducible refine wgd_cases ?_ ?_ <;> intro hb) | (with_reducible refine wcond_cases ?_ ?_ <;> intro hb) | (with_reducible refine qd_i (by kernel_rfl) ?_) | (with_reducible refine W_itn_cases ?_ ?_; omega))
          simp only [takeS, hx, hc, if_false, hz]
    · have h1 : p.1.lines ≠ [] := by intro h; exact hf (by rw [h]; rfl)
      have h2 : p.1.lr = false := by rw [hlr]; simpa using h1
      have v4 : encE p.1 = .agg [.i64 p.1.no, .str p.1.ent, .i64 p.1.book, .i64 p.1.val, .i64 p.1.kind, .str p.1.ref, .str p.1.who, .i64 p.1.rev, .list 49 (p.1.lines.map encL) 0] := by unfold encE; rw [h2]; rfl
      have g7 : (r2 = 1) = False := eq_false (by omega)
      rw [v4] at hck
      by_cases hc : (checkS p.1).2 = 0
      · rw [hc] at hck
        repeat' (first | (simp -implicitDefEqProofs only [ze, zd, simprocAttr, x8, x16, x24, hck, g7]) | (with_reducible refine W_itn_cases ?_ ?_; omega))
        refine W_hp (dend_ok (a := p.2) (dec_set (dec_set (hD.le (by omega)) (by omega) (Nat.le_refl _) _) (by omega) (Nat.le_refl _) _) hl 0 (by have := hD.2.1; omega)) ?_
        rintro _ ⟨s1, n1, rfl, hn1, hd1, hk1⟩
        have y8 := (hk1 8 (by omega) (by omega)).trans (by rw [upd_at, if_neg (by omega), upd_at, if_pos rfl])
        have y16 := (hk1 16 (by omega) (by omega)).trans (Eq.trans (by rw [upd_at, if_neg (by omega), upd_at, if_neg (by omega)]) x16)
        have y24 := (hk1 24 (by omega) (by omega)).trans (by rw [upd_at, if_pos rfl])
        have yd := hd1.2.2
        rw [Nat.add_zero] at yd
        have f1 : ∀ j, (8 = n1 + j) = False := fun j => eq_false (by omega)
        have f2 : ∀ j, (16 = n1 + j) = False := fun j => eq_false (by omega)
        have f3 : ∀ j, (24 = n1 + j) = False := fun j => eq_false (by omega)
        have f4 : ∀ j, (64 = n1 + j) = False := fun j => eq_false (by omega)
        repeat' (first | (simp -implicitDefEqProofs only [ze, zd, simprocAttr, y8, y16, y24, yd, f1, f2, f3, f4, defQ2_p, defQ2_n, defQ2_r, errV, closW_e, k164, tasrt_y, tasrt_n, closQ_e, closE_n, closE_r, ne_eq, not_true_eq_false, gt_iff_lt, g7]) | (with_reducible refine wgd_cases ?_ ?_ <;> intro hb) | (with_reducible refine wcond_cases ?_ ?_ <;> intro hb) | (with_reducible refine qd_i (by kernel_rfl) ?_) | (with_reducible refine W_itn_cases ?_ ?_; omega))
        simp only [takeS, hx, hc, if_true, v4]
      · have hcd : decide ((checkS p.1).2 = 0) = false := decide_eq_false hc
        repeat' (first | (simp -implicitDefEqProofs only [ze, zd, simprocAttr, x8, x16, x24, hck, g7]) | (with_reducible refine W_itn_cases ?_ ?_; omega))
        refine W_hp (dend_bad 0 _ hc) ?_
        rintro _ ⟨s1, n1, rfl, hn1, hk1⟩
        have y8 := (hk1 8 (by omega) (by omega)).trans (by rw [upd_at, if_neg (by omega), upd_at, if_pos rfl])
        have y16 := (hk1 16 (by omega) (by omega)).trans (Eq.trans (by rw [upd_at, if_neg (by omega), upd_at, if_neg (by omega)]) x16)
        have y24 := (hk1 24 (by omega) (by omega)).trans (by rw [upd_at, if_pos rfl])
        have f1 : ∀ j, (8 = n1 + j) = False := fun j => eq_false (by omega)
        have f2 : ∀ j, (16 = n1 + j) = False := fun j => eq_false (by omega)
        have f3 : ∀ j, (24 = n1 + j) = False := fun j => eq_false (by omega)
        have f4 : ∀ j, (n1 + j = 8) = False := fun j => eq_false (by omega)
        have f5 : ∀ j, (n1 + j = 16) = False := fun j => eq_false (by omega)
        have f6 : ∀ j, (n1 + j = 24) = False := fun j => eq_false (by omega)
        repeat' (first | (simp -implicitDefEqProofs only [ze, zd, simprocAttr, y8, y16, y24, f1, f2, f3, f4, f5, f6, defQ2_p, defQ2_n, defQ2_r, errV, closW_e, k164, tasrt_y, tasrt_n, closQ_e, closE_n, closE_r, ne_eq, not_true_eq_false, gt_iff_lt]) | (with_reducible refine W_itn_cases ?_ ?_; omega))
        refine qd_i ?_ ?_
        · simp [recsOk, ordB, Rec.free, Rec.wr, disj, List.range, List.range.loop, f1, f2, f3, f4, f5, f6]; try decide
        · repeat' (first | (simp -implicitDefEqProofs only [ze, zd, simprocAttr, y8, y16, y24, f1, f2, f3, f4, f5, f6, defQ2_p, defQ2_n, defQ2_r, errV, closW_e, k164, tasrt_y, tasrt_n, closQ_e, closE_n, closE_r, ne_eq, not_true_eq_false, gt_iff_lt]) | (with_reducible refine wgd_cases ?_ ?_ <;> intro hb) | (with_reducible refine wcond_cases ?_ ?_ <;> intro hb) | (with_reducible refine qd_i (by kernel_rfl) ?_) | (with_reducible refine W_itn_cases ?_ ?_; omega))
          simp only [takeS, hx, hc, if_false, hz]
end Go.Proofs.YtaefaadjncehmaaGreatDoor.Vm
set_option maxRecDepth 10000
set_option linter.unusedVariables false
set_option linter.unusedSimpArgs false
namespace Go.Proofs.YtaefaadjncehmaaGreatDoor.Vm
open Go Go.Proofs
theorem encL_get (ls : List Line) (i : Nat) : (ls.map encL)[i]? = (ls[i]?).map encL := by simp
def copL (l : Line) : Line := { l with tr := false }
def copE (e : Entry) : Entry := { e with lines := e.lines.map copL, lr := e.lines.isEmpty }
theorem cop_k (e : Entry) : (copE e).k = e.k := by
  unfold copE Entry.k
  simp only [List.map_map]
  congr 1
theorem te_t (e : Nat) : te true e = 0 := rfl
theorem nr_f : nr false = 0 := rfl
theorem nr_t : nr true = 1 := rfl
theorem take_get {α : Type} {l : List α} {i : Nat} {x : α} (h : l[i]? = some x) : l.take (i + 1) = l.take i ++ [x] := by rw [List.take_add_one, h]; rfl
theorem copied_ok (e : Entry) (hn' : nilE e) (hl : e.lines.length < 1000000) (ht : ∀ l ∈ e.lines, l.tags.length < 1000000) : L.pl 52 [encE e] = some (.ret (encE (copE e))) := by
  refine W_of (pl_w k52_eq ?_)
  simp only [k52, encE]
  repeat' (first | (simp -implicitDefEqProofs only [ze, zd, simprocAttr, List.length_map]) | (with_reducible refine wgd_cases ?_ ?_ <;> intro hb) | (with_reducible refine wcond_cases ?_ ?_ <;> intro hb) | (with_reducible refine qd_i (by kernel_rfl) ?_) | (with_reducible refine W_itn_cases ?_ ?_; omega))
  refine loop_w (fun n tm st nx => ∃ (i : Nat) (v : V), n = e.lines.length - i ∧ i ≤ e.lines.length ∧ 32 ≤ nx ∧ tm 11 = .i64 i ∧ tm 10 = .i64 e.lines.length ∧ tm 9 = .list (te e.lr 49) (e.lines.map encL) (nr e.lr) ∧ tm 1 = .ptr 8 0 ∧ tm 2 = .ptr 16 0 ∧ st 8 = some (.cells [.i64 e.no, .str e.ent, .i64 e.book, .i64 e.val, .i64 e.kind, .str e.ref, .str e.who, .i64 e.rev, v]) ∧ st 16 = some (.cells [.i64 0, .str (ByteArray.mk #[]), .i64 0, .i64 0, .i64 0, .str (ByteArray.mk #[]), .str (ByteArray.mk #[]), .i64 0, .list 0 [] 1]) ∧ Grow st nx 49 ((e.lines.take i).map fun l => encL (copL l)) v ∧ (i = 0 → v = .list 0 [] 1)) e.lines.length ⟨0, .list 0 [] 1, by omega, by omega, by omega, ?_, ?_, ?_, ?_, ?_, ?_, ?_, .inl ⟨rfl, rfl⟩, fun _ => rfl⟩ ?_
  · simp -implicitDefEqProofs only [ze, zd, simprocAttr]; try rfl
  · simp -implicitDefEqProofs only [ze, zd, simprocAttr]
  · simp -implicitDefEqProofs only [ze, zd, simprocAttr]
  · simp -implicitDefEqProofs only [ze, zd, simprocAttr]
  · simp -implicitDefEqProofs only [ze, zd, simprocAttr]
  · simp -implicitDefEqProofs only [ze, zd, simprocAttr]
  · simp -implicitDefEqProofs only [ze, zd, simprocAttr]
  rintro n tm st nx ⟨i, v, hn, hi, hnx, h11, h10, h9, h1, h2, h8, h16, hg, hz⟩
  simp only [k52_l0, k52_t0]
  have g8 : ∀ j, (8 = nx + j) = False := fun j => eq_false (by omega)
  have g16 : ∀ j, (16 = nx + j) = False := fun j => eq_false (by omega)
  have g8' : ∀ j, (nx + j = 8) = False := fun j => eq_false (by omega)
  have g16' : ∀ j, (nx + j = 16) = False := fun j => eq_false (by omega)
  by_cases hlt : i < e.lines.length
  · have hd : decide ((i : Int) < (e.lines.length : Int)) = true := decide_eq_true (by omega)
    obtain ⟨l, hl1⟩ := get_lt (l := e.lines) (i := i) hlt
    have hlm := List.mem_of_getElem? hl1
    have htl := ht l hlm
    have hlr : e.lr = false := by
      cases h : e.lr
      · rfl
      · have := hn'.1 h; rw [this] at hlt; simp at hlt
    rw [hlr] at h9
    have hup : IntKind.i64.wrap ((i : Int) + 1) = ((i + 1 : Nat) : Int) := wrap_i64 (by omega) (by omega)
    have hty : (te l.tr 202 = 202 ∨ (List.map encT l.tags).isEmpty = true) = True := eq_true (by
      cases h : l.tr
      · exact .inl rfl
      · right; rw [hn'.2 l hlm h]; rfl)
    have hel : encL l = .agg [.str l.acc, .str l.cur, .i64 l.amt, .i64 l.base, .str l.par, .str l.pty, .list (te l.tr 202) (l.tags.map encT) (nr l.tr)] := rfl
    have htk : (List.take i e.lines).length = i := by rw [List.length_take]; omega
    have hmap : (e.lines.take (i + 1)).map (fun l => encL (copL l)) = (e.lines.take i).map (fun l => encL (copL l)) ++ [encL (copL l)] := by rw [take_get hl1, List.map_append]; rfl
    rcases hg with ⟨hb0, rfl⟩ | ⟨q, hr8, hrn, rfl, hst⟩
    · repeat' (first | (simp -implicitDefEqProofs only [ze, zd, simprocAttr, h11, h10, h9, h1, h2, h8, h16, hd, te_f, encL_get, hl1, hel, g8, g16, g8', g16', nxj, List.length_map, hup, hty]) | (with_reducible refine wgd_cases ?_ ?_ <;> intro hb) | (with_reducible refine wcond_cases ?_ ?_ <;> intro hb) | (with_reducible refine qd_i (by kernel_rfl) ?_) | (with_reducible refine W_itn_cases ?_ ?_; omega))
      exact ⟨e.lines.length - (i + 1), by omega, i + 1, _, rfl, by omega, rfl, by rw [hlr]; rfl, rfl, .inr ⟨nx + 112, by omega, by omega, by rw [hmap, hb0]; rfl, by rw [hmap, hb0]; simp [upd_at]⟩, fun h => by omega⟩
    · have hr0 : (q = 0) = False := eq_false (by omega)
      have hr1 : (q = 1) = False := eq_false (by omega)
      have hrx : ∀ j, (q = nx + j) = False := fun j => eq_false (by omega)
      have hrx' : ∀ j, (nx + j = q) = False := fun j => eq_false (by omega)
      have hq8 : (q = 8) = False := eq_false fun h => by subst h; rw [h8] at hst; cases hst
      have hq8' : (8 = q) = False := eq_false fun h => by subst h; rw [h8] at hst; cases hst
      have hq16 : (q = 16) = False := eq_false fun h => by subst h; rw [h16] at hst; cases hst
      have hq16' : (16 = q) = False := eq_false fun h => by subst h; rw [h16] at hst; cases hst
      repeat' (first | (simp -implicitDefEqProofs only [ze, zd, simprocAttr, h11, h10, h9, h1, h2, h8, h16, hd, te_f, encL_get, hl1, hel, g8, g16, g8', g16', nxj, List.length_map, hup, hty, htk, hr0, hr1, hrx, hrx', hq8, hq8', hq16, hq16', hst]) | (with_reducible refine wgd_cases ?_ ?_ <;> intro hb) | (with_reducible refine wcond_cases ?_ ?_ <;> intro hb) | (with_reducible refine qd_i (by kernel_rfl) ?_) | (with_reducible refine W_itn_cases ?_ ?_; omega))
      exact ⟨e.lines.length - (i + 1), by omega, i + 1, _, rfl, by omega, rfl, by rw [hlr]; rfl, rfl, .inr ⟨q, by omega, by omega, by rw [hmap]; rfl, by rw [hmap]; simp [upd_at, htk, hq8, hrx]; omega⟩, fun h => by omega⟩
  · have hd : decide ((i : Int) < (e.lines.length : Int)) = false := decide_eq_false (by omega)
    have hin : i = e.lines.length := by omega
    rw [hin, List.take_length] at hg
    rcases hg with ⟨hb0, rfl⟩ | ⟨q, hr8, hrn, rfl, hst⟩
    · have hnil : e.lines = [] := by simpa using hb0
      repeat' (first | (simp -implicitDefEqProofs only [ze, zd, simprocAttr, h11, h10, h9, h1, h2, h8, h16, hd, g8, g16, g8', g16']) | (with_reducible refine wgd_cases ?_ ?_ <;> intro hb) | (with_reducible refine wcond_cases ?_ ?_ <;> intro hb) | (with_reducible refine qd_i (by kernel_rfl) ?_) | (with_reducible refine W_itn_cases ?_ ?_; omega))
      simp [copE, hnil, te_t, nr_t]
    · have hr9 : (q < 8) = False := eq_false (by omega)
      have hr0 : (q = 0) = False := eq_false (by omega)
      have hr1 : (q = 1) = False := eq_false (by omega)
      repeat' (first | (simp -implicitDefEqProofs only [ze, zd, simprocAttr, h11, h10, h9, h1, h2, h8, h16, hd, g8, g16, g8', g16', hr0, hr1, hr9, hst]) | (with_reducible refine wgd_cases ?_ ?_ <;> intro hb) | (with_reducible refine wcond_cases ?_ ?_ <;> intro hb) | (with_reducible refine qd_i (by kernel_rfl) ?_) | (with_reducible refine W_itn_cases ?_ ?_; omega))
      have hne : e.lines.isEmpty = false := by
        cases h : e.lines with
        | nil => have := hz (by rw [hin, h]; rfl); cases this
        | cons x xs => rfl
      simp only [copE, hne, te_f, nr_f, List.map_map]
      rfl
end Go.Proofs.YtaefaadjncehmaaGreatDoor.Vm
set_option maxRecDepth 10000
set_option linter.unusedVariables false
set_option linter.unusedSimpArgs false
namespace Go.Proofs.YtaefaadjncehmaaGreatDoor.Vm
open Go Go.Proofs
theorem i64_mask32 (n : Int) : Go.bits .and .i64 n 4294967295 = n % 4294967296 := by
  have h1 : (BitVec.ofInt 64 4294967295).toNat = 2 ^ 32 - 1 := by decide
  have key : (BitVec.ofInt 64 n &&& BitVec.ofInt 64 4294967295).toNat = (n % ((2 ^ 64 : Nat) : Int)).toNat % 2 ^ 32 := by
    rw [BitVec.toNat_and, BitVec.toNat_ofInt, h1, Nat.and_two_pow_sub_one_eq_mod]
  show IntKind.i64.wrap ((BitVec.ofInt 64 n &&& BitVec.ofInt 64 4294967295).toNat : Nat) = n % 4294967296
  rw [key, IntKind.wrap_i64]
  omega
theorem rsum_ok (l : List Int) (r : Nat) (hi : ∀ x ∈ l, i64r x) (hl : l.length < 1000000) : L.pl 240 [.list 3 (iv l) r] = some (.ret (.tup [.i64 (if inI64 l.sum = true then l.sum else 0), .bool (inI64 l.sum)])) := by
  refine W_of (pl_w k240_eq ?_)
  simp only [k240]
  repeat' (first | (simp -implicitDefEqProofs only [ze, zd, simprocAttr, iv_len]) | (with_reducible refine wgd_cases ?_ ?_ <;> intro hb) | (with_reducible refine wcond_cases ?_ ?_ <;> intro hb) | (with_reducible refine qd_i (by kernel_rfl) ?_) | (with_reducible refine W_itn_cases ?_ ?_; omega))
  refine loop_w (fun n tm st nx => ∃ (i : Nat) (H O : Int), n = l.length - i ∧ i ≤ l.length ∧ tm 6 = .i64 i ∧ tm 4 = .i64 H ∧ tm 5 = .i64 O ∧ tm 0 = .list 3 (iv l) r ∧ H * 4294967296 + O = (l.take i).sum ∧ -(2147483648 * (i : Int)) ≤ H ∧ H ≤ 2147483648 * (i : Int) ∧ 0 ≤ O ∧ O ≤ 4294967296 * (i : Int)) l.length ⟨0, 0, 0, by omega, by omega, ?_, ?_, ?_, ?_, by simp, by omega, by omega, by omega, by omega⟩ ?_
  · simp -implicitDefEqProofs only [ze, zd, simprocAttr]; try rfl
  · simp -implicitDefEqProofs only [ze, zd, simprocAttr]
  · simp -implicitDefEqProofs only [ze, zd, simprocAttr]
  · simp -implicitDefEqProofs only [ze, zd, simprocAttr]
  rintro n tm st nx ⟨i, H, O, hn, hi2, h6, h4, h5, h0, hS, b1, b2, b3, b4⟩
  simp only [k240_l0]
  by_cases hlt : i < l.length
  · obtain ⟨x, hx⟩ := get_lt hlt
    have hxr := hi x (List.mem_of_getElem? hx)
    simp only [i64r] at hxr
    have hd : decide ((i : Int) < (l.length : Int)) = true := decide_eq_true (by omega)
    have hs2 := sum_take l i x hx
    have hix : (iv l)[i]? = some (V.i64 x) := by simp [iv, hx]
    have hsh := shr_eq x (Nat.min 32 IntKind.i64.bits) 4294967296 (by decide)
    have w1 : IntKind.i64.wrap (H + x / 4294967296) = H + x / 4294967296 := wrap_i64 (by omega) (by omega)
    have w2 : IntKind.i64.wrap (O + x % 4294967296) = O + x % 4294967296 := wrap_i64 (by omega) (by omega)
    repeat' (first | (simp -implicitDefEqProofs only [ze, zd, simprocAttr, h6, h4, h5, h0, hd, hix, iv_len, hsh, i64_mask32, w1, w2]) | (with_reducible refine wgd_cases ?_ ?_ <;> intro hb) | (with_reducible refine wcond_cases ?_ ?_ <;> intro hb) | (with_reducible refine qd_i (by kernel_rfl) ?_) | (with_reducible refine W_itn_cases ?_ ?_; omega))
    exact ⟨l.length - (i + 1), by omega, i + 1, _, _, rfl, by omega, up64 (by omega), rfl, rfl, by rw [hs2]; omega, by omega, by omega, by omega, by omega⟩
  · have hd : decide ((i : Int) < (l.length : Int)) = false := decide_eq_false (by omega)
    have hie : i = l.length := by omega
    rw [hie, List.take_length] at hS
    have hsh := shr_eq O (Nat.min 32 IntKind.i64.bits) 4294967296 (by decide)
    have w1 : IntKind.i64.wrap (H + O / 4294967296) = H + O / 4294967296 := wrap_i64 (by omega) (by omega)
    have hsum : (H + O / 4294967296) * 4294967296 + O % 4294967296 = l.sum := by omega
    by_cases hin : inI64 l.sum = true
    · have hin2 : -9223372036854775808 ≤ l.sum ∧ l.sum < 9223372036854775808 := by simpa [inI64] using hin
      have d1 : decide (H + O / 4294967296 < -2147483648) = false := decide_eq_false (by omega)
      have d2 : decide (2147483647 < H + O / 4294967296) = false := decide_eq_false (by omega)
      have w3 : IntKind.i64.wrap ((H + O / 4294967296) * 2 ^ (Nat.min 32 IntKind.i64.bits)) = (H + O / 4294967296) * 4294967296 := wrap_i64 (by show -9223372036854775808 ≤ (H + O / 4294967296) * 4294967296; omega) (by show (H + O / 4294967296) * 4294967296 < 9223372036854775808; omega)
      have w4 : IntKind.i64.wrap ((H + O / 4294967296) * 4294967296 + O % 4294967296) = l.sum := by rw [hsum]; exact wrap_i64 hin2.1 hin2.2
      repeat' (first | (simp -implicitDefEqProofs only [ze, zd, simprocAttr, h6, h4, h5, h0, hd, iv_len, hsh, i64_mask32, w1, w3, w4, d1, d2, k240_t0]) | (with_reducible refine wgd_cases ?_ ?_ <;> intro hb) | (with_reducible refine wcond_cases ?_ ?_ <;> intro hb) | (with_reducible refine qd_i (by kernel_rfl) ?_) | (with_reducible refine W_itn_cases ?_ ?_; omega))
      simp [hin]
    · have hin3 : inI64 l.sum = false := by simpa using hin
      have hin2 : ¬ (-9223372036854775808 ≤ l.sum ∧ l.sum < 9223372036854775808) := fun h => hin (by simpa [inI64] using h)
      by_cases hneg : H + O / 4294967296 < -2147483648
      · have d1 : decide (H + O / 4294967296 < -2147483648) = true := decide_eq_true hneg
        repeat' (first | (simp -implicitDefEqProofs only [ze, zd, simprocAttr, h6, h4, h5, h0, hd, iv_len, hsh, i64_mask32, w1, d1, k240_t0]) | (with_reducible refine wgd_cases ?_ ?_ <;> intro hb) | (with_reducible refine wcond_cases ?_ ?_ <;> intro hb) | (with_reducible refine qd_i (by kernel_rfl) ?_) | (with_reducible refine W_itn_cases ?_ ?_; omega))
        simp [hin3]
      · have d1 : decide (H + O / 4294967296 < -2147483648) = false := decide_eq_false hneg
        have d2 : decide (2147483647 < H + O / 4294967296) = true := decide_eq_true (by omega)
        repeat' (first | (simp -implicitDefEqProofs only [ze, zd, simprocAttr, h6, h4, h5, h0, hd, iv_len, hsh, i64_mask32, w1, d1, d2, k240_t0]) | (with_reducible refine wgd_cases ?_ ?_ <;> intro hb) | (with_reducible refine wcond_cases ?_ ?_ <;> intro hb) | (with_reducible refine qd_i (by kernel_rfl) ?_) | (with_reducible refine W_itn_cases ?_ ?_; omega))
        simp [hin3]
end Go.Proofs.YtaefaadjncehmaaGreatDoor.Vm
set_option maxRecDepth 10000
set_option linter.unusedVariables false
set_option linter.unusedSimpArgs false
namespace Go.Proofs.YtaefaadjncehmaaGreatDoor.Vm
open Go Go.Proofs
theorem iv_app1 (A : List Int) (x : Int) : iv (A ++ [x]) = iv A ++ [V.i64 x] := by simp [iv]
theorem selA_take (ls : List Line) (k : ByteArray) (i : Nat) (l : Line) (h : ls[i]? = some l) : selA (ls.take (i + 1)) k = if l.cur = k then selA (ls.take i) k ++ [l.amt] else selA (ls.take i) k := by
  rw [List.take_add_one, h]
  unfold selA
  rw [List.filter_append, List.map_append]
  split <;> rename_i hc <;> simp [hc]
theorem selB_take (ls : List Line) (k : ByteArray) (i : Nat) (l : Line) (h : ls[i]? = some l) : selB (ls.take (i + 1)) k = if l.cur = k then selB (ls.take i) k ++ [l.base] else selB (ls.take i) k := by
  rw [List.take_add_one, h]
  unfold selB
  rw [List.filter_append, List.map_append]
  split <;> rename_i hc <;> simp [hc]
def PairI (st : St) (nx : Nat) (A B : List Int) (va vb : V) : Prop := (A = [] ∧ B = [] ∧ va = .list 0 [] 1 ∧ vb = .list 0 [] 1) ∨
  ∃ ra rb, ra ≠ rb ∧ 8 ≤ ra ∧ 8 ≤ rb ∧ ra < nx ∧ rb < nx ∧ va = .list 3 (iv A) ra ∧ vb = .list 3 (iv B) rb ∧ st ra = some (.tok A.length 3) ∧ st rb = some (.tok B.length 3)
theorem rsums_ok (ls : List Line) (r : Nat) (k : ByteArray) (ha : amts ls) (hl : ls.length < 1000000) (hk : ∃ l ∈ ls, l.cur = k) :
    L.pl 212 [.list 49 (ls.map encL) r, .str k] = some (.ret (.tup [.i64 (if inI64 (selA ls k).sum = true then (selA ls k).sum else 0), .i64 (if inI64 (selB ls k).sum = true then (selB ls k).sum else 0), .bool (inI64 (selA ls k).sum && inI64 (selB ls k).sum)])) := by
  refine W_of (pl_w k212_eq ?_)
  simp only [k212]
  have hsm := sel_mem ha k
  have hlA : ∀ i, (selA (ls.take i) k).length ≤ ls.length := fun i => by
    unfold selA; rw [List.length_map]; exact Nat.le_trans (List.length_filter_le _ _) (by rw [List.length_take]; omega)
  have hlB : ∀ i, (selB (ls.take i) k).length ≤ ls.length := fun i => by
    unfold selB; rw [List.length_map]; exact Nat.le_trans (List.length_filter_le _ _) (by rw [List.length_take]; omega)
  repeat' (first | (simp -implicitDefEqProofs only [ze, zd, simprocAttr, List.length_map]) | (with_reducible refine wgd_cases ?_ ?_ <;> intro hb) | (with_reducible refine wcond_cases ?_ ?_ <;> intro hb) | (with_reducible refine qd_i (by kernel_rfl) ?_) | (with_reducible refine W_itn_cases ?_ ?_; omega))
  refine loop_w (fun n tm st nx => ∃ (i : Nat) (va vb : V), n = ls.length - i ∧ i ≤ ls.length ∧ tm 9 = .i64 i ∧ tm 0 = .list 49 (ls.map encL) r ∧ tm 1 = .str k ∧ tm 7 = va ∧ tm 8 = vb ∧ PairI st nx (selA (ls.take i) k) (selB (ls.take i) k) va vb) ls.length ⟨0, _, _, by omega, by omega, ?_, ?_, ?_, rfl, rfl, .inl ⟨rfl, rfl, ?_, ?_⟩⟩ ?_
  · simp -implicitDefEqProofs only [ze, zd, simprocAttr]; try rfl
  · simp -implicitDefEqProofs only [ze, zd, simprocAttr]
  · simp -implicitDefEqProofs only [ze, zd, simprocAttr]
  · simp -implicitDefEqProofs only [ze, zd, simprocAttr]
  · simp -implicitDefEqProofs only [ze, zd, simprocAttr]
  rintro n tm st nx ⟨i, va, vb, hn, hi2, h9, h0, h1, h7, h8, hp⟩
  simp only [k212_l0]
  by_cases hlt : i < ls.length
  · obtain ⟨l, hl2⟩ := get_lt hlt
    have hd : decide ((i : Int) < (ls.length : Int)) = true := decide_eq_true (by omega)
    have eA := selA_take ls k i l hl2
    have eB := selB_take ls k i l hl2
    have cA := hlA i
    have cB := hlB i
    by_cases hc : l.cur = k
    · have hdc : decide (l.cur = k) = true := decide_eq_true hc
      rw [if_pos hc] at eA eB
      rcases hp with ⟨hA, hB, rfl, rfl⟩ | ⟨ra, rb, hne, h8a, h8b, hna, hnb, rfl, rfl, hsa, hsb⟩
      · repeat' (first | (simp -implicitDefEqProofs only [ze, zd, simprocAttr, h9, h0, h1, h7, h8, hd, hl2, encL, hdc, List.length_map]) | (with_reducible refine wgd_cases ?_ ?_ <;> intro hb) | (with_reducible refine wcond_cases ?_ ?_ <;> intro hb) | (with_reducible refine qd_i (by kernel_rfl) ?_) | (with_reducible refine W_itn_cases ?_ ?_; omega))
        exact ⟨ls.length - (i + 1), by omega, i + 1, _, _, rfl, by omega, up64 (by omega), rfl, rfl, .inr ⟨nx + 144, nx + 216, by omega, by omega, by omega, by omega, by omega, by rw [eA, hA]; rfl, by rw [eB, hB]; rfl, by rw [eA, hA]; simp [upd_at], by rw [eB, hB]; simp [upd_at]⟩⟩
      · have a0 : (ra = 0) = False := eq_false (by omega)
        have a1 : (ra = 1) = False := eq_false (by omega)
        have a2 : ∀ j, (ra = nx + j) = False := fun j => eq_false (by omega)
        have b0 : (rb = 0) = False := eq_false (by omega)
        have b1 : (rb = 1) = False := eq_false (by omega)
        have b2 : ∀ j, (rb = nx + j) = False := fun j => eq_false (by omega)
        have ab : (rb = ra) = False := eq_false (fun e => hne e.symm)
        have ba : (ra = rb) = False := eq_false hne
        repeat' (first | (simp -implicitDefEqProofs only [ze, zd, simprocAttr, h9, h0, h1, h7, h8, hd, hl2, encL, hdc, List.length_map, a0, a1, a2, b0, b1, b2, ab, ba, hsa, hsb, iv_len]) | (with_reducible refine wgd_cases ?_ ?_ <;> intro hb) | (with_reducible refine wcond_cases ?_ ?_ <;> intro hb) | (with_reducible refine qd_i (by kernel_rfl) ?_) | (with_reducible refine W_itn_cases ?_ ?_; omega))
        exact ⟨ls.length - (i + 1), by omega, i + 1, _, _, rfl, by omega, up64 (by omega), rfl, rfl, .inr ⟨ra, rb, hne, h8a, h8b, by omega, by omega, by rw [eA, iv_app1], by rw [eB, iv_app1], by rw [eA]; simp [upd_at, ba, a2], by rw [eB]; simp [upd_at, ab, b2]⟩⟩
    · have hdc : decide (l.cur = k) = false := decide_eq_false hc
      rw [if_neg hc] at eA eB
      rw [← eA, ← eB] at hp
      repeat' (first | (simp -implicitDefEqProofs only [ze, zd, simprocAttr, h9, h0, h1, h7, h8, hd, hl2, encL, hdc, List.length_map]) | (with_reducible refine wgd_cases ?_ ?_ <;> intro hb) | (with_reducible refine wcond_cases ?_ ?_ <;> intro hb) | (with_reducible refine qd_i (by kernel_rfl) ?_) | (with_reducible refine W_itn_cases ?_ ?_; omega))
      refine ⟨ls.length - (i + 1), by omega, i + 1, _, _, rfl, by omega, up64 (by omega), rfl, rfl, ?_⟩
      rcases hp with h | ⟨ra, rb, hne, h8a, h8b, hna, hnb, h⟩
      · exact .inl h
      · exact .inr ⟨ra, rb, hne, h8a, h8b, by omega, by omega, h⟩
  · have hd : decide ((i : Int) < (ls.length : Int)) = false := decide_eq_false (by omega)
    have hie : i = ls.length := by omega
    rw [hie, List.take_length] at hp
    rcases hp with ⟨hA, _, _, _⟩ | ⟨ra, rb, hne, h8a, h8b, hna, hnb, rfl, rfl, hsa, hsb⟩
    · exfalso
      obtain ⟨l, hl2, hlk⟩ := hk
      have : l.amt ∈ selA ls k := by
        unfold selA
        exact List.mem_map.2 ⟨l, List.mem_filter.2 ⟨hl2, by simp [hlk]⟩, rfl⟩
      rw [hA] at this
      cases this
    · have cA := hlA ls.length
      have cB := hlB ls.length
      rw [List.take_length] at cA cB
      have hA := fun r => rsum_ok (selA ls k) r hsm.1 (by omega)
      have hB := fun r => rsum_ok (selB ls k) r hsm.2 (by omega)
      have a1 : (ra = 1) = False := eq_false (by omega)
      have b1 : (rb = 1) = False := eq_false (by omega)
      repeat' (first | (simp -implicitDefEqProofs only [ze, zd, simprocAttr, h9, h0, h1, h7, h8, hd, hA, hB, a1, b1, List.length_map, k212_t0]) | (with_reducible refine wgd_cases ?_ ?_ <;> intro hb) | (with_reducible refine wcond_cases ?_ ?_ <;> intro hb) | (with_reducible refine qd_i (by kernel_rfl) ?_) | (with_reducible refine W_itn_cases ?_ ?_; omega))
      all_goals simp_all
end Go.Proofs.YtaefaadjncehmaaGreatDoor.Vm
