/- Plain laws of the findings' texts: both notations of a number, both texts. No program in sight but the printed functions' names. -/
import Derived.Test.YtaefaadjncehmaaDoorTSt
namespace Go.Proofs.YtaefaadjncehmaaDoor.Pure
open Go.RowKit Go.Proofs.YtaefaadjncehmaaDoor.T Go.Proofs.YtaefaadjncehmaaDoorW.PrintWords Go.Proofs.YtaefaadjncehmaaDoorW.PrintLast Go.Proofs.YtaefaadjncehmaaDoorW.PrintMore

theorem drop_nil_ {α : Type} {l : List α} {i : Nat} (h : l.drop i = []) : l.length ≤ i := List.drop_eq_nil_iff.mp h
theorem drop_cons_ {α : Type} {l s : List α} {c : α} {i : Nat} (h : l.drop i = c :: s) : i < l.length ∧ l[i]? = some c ∧ l.drop (i + 1) = s := by
  have hlt : i < l.length := by
    rcases Nat.lt_or_ge i l.length with h1 | h1
    · exact h1
    · rw [List.drop_eq_nil_of_le h1] at h; cases h
  rw [List.drop_eq_getElem_cons hlt] at h
  injection h with h1 h2
  exact ⟨hlt, by rw [List.getElem?_eq_getElem hlt, h1], h2⟩
theorem rdS_some {l : List S26} {i : Nat} {c : S26} (h : l[i]? = some c) : rd_T26 l (i : Int) = c := by
  unfold rd_T26; rw [Int.toNat_natCast, List.getD_eq_getElem?_getD, h]; rfl
theorem wrap_succ {i n : Nat} (h : i < n) (hn : n ≤ 9223372036854775807) : wrap64 ((i : Int) + 1) = ((i + 1 : Nat) : Int) := by
  unfold wrap64; omega
theorem w64_small {n : Int} (h0 : -9223372036854775808 ≤ n) (h1 : n < 9223372036854775808) : wrap64 n = n := by
  unfold wrap64; omega
theorem wf_i64 {a : Int} (h : (Lit.int .i64 a).wf = true) : -9223372036854775808 ≤ a ∧ a < 9223372036854775808 := by
  have h1 : IntKind.i64.min = -9223372036854775808 := rfl
  have h2 : IntKind.i64.max = 9223372036854775807 := rfl
  simp only [Lit.wf, Bool.and_eq_true, decide_eq_true_eq] at h
  omega

/-! ### the notation of a number -/
def magS (n : Int) : Int := if n < 0 then -n else n
theorem size_f (n : Int) (h0 : -9223372036854775808 ≤ n) (h1 : n < 9223372036854775808) : num_size.f n = some (magS n) := by
  unfold num_size.f magS
  by_cases h : n < 0
  · rw [if_pos h, if_pos h, IntKind.wrap_u64, IntKind.wrap_u64]; congr 1; omega
  · rw [if_neg h, if_neg h, IntKind.wrap_u64]; congr 1; omega
def textS (n : Int) : ByteArray := strOfNums (numL n (magS n))
theorem text_f (n : Int) (h0 : -9223372036854775808 ≤ n) (h1 : n < 9223372036854775808) : num_Text.f n = some (textS n) := by
  unfold num_Text.f
  rw [size_f n h0 h1, Option.bind_some, if_pos (by unfold magS; split <;> omega)]
  rfl
theorem strOf_append (a b : List Int) : strOfNums (a ++ b) = strOfNums a ++ strOfNums b := by
  apply ByteArray.ext
  simp [strOfNums, ByteArray.data_append]
def digs10 : ByteArray := ⟨#[48, 49, 50, 51, 52, 53, 54, 55, 56, 57]⟩
theorem dig_all : ∀ d : Nat, d < 10 → digs10.extract d (d + 1) = strOfNums [48 + (d : Int)] := by decide
theorem dig_cut (d : Int) (h0 : 0 ≤ d) (h1 : d < 10) : digs10.extract d.toNat (d + 1).toNat = strOfNums [48 + d] := by
  obtain ⟨m, rfl⟩ := Int.eq_ofNat_of_zero_le h0
  exact dig_all m (by omega)
def finL (n : Int) (l : List Int) : List Int := if n < 0 then 45 :: l else l
theorem str_size (l : List Int) : (strOfNums l).size = l.length := by simp [strOfNums, ByteArray.size]
theorem str_cons (c : Int) (l : List Int) : strOfNums (c :: l) = strOfNums [c] ++ strOfNums l := strOf_append [c] l
theorem rtext_end (n : Int) (acc : List Int) (hl : acc.length ≤ 40) (hne : acc ≠ []) : Ev (fun k => accountingref01_Text.l0 k n (strOfNums acc) 0) (strOfNums (finL n acc)) := by
  have he : ((strOfNums acc).toList == ([] : List UInt8)) = false := by
    rw [beq_eq_false_iff_ne]
    intro h
    have := congrArg List.length h
    have h2 : (strOfNums acc).toList.length = acc.length := by
      rw [show strOfNums acc = ⟨(acc.map fun n => UInt8.ofNat n.toNat).toArray⟩ from rfl, ByteArray.toList_mk]
      simp
    rw [h2] at this
    exact hne (List.length_eq_zero_iff.1 this)
  refine Ev.step (f := fun k => accountingref01_Text.j1 k n (strOfNums acc) 0 false) (fun k => by simp only [accountingref01_Text.l0, if_true, he]) ?_
  have hs := str_size acc
  unfold finL
  by_cases hn : n < 0
  · rw [if_pos hn, str_cons]
    refine Ev.step (f := fun _ => some (strOfNums [45] ++ strOfNums acc)) (fun k => ?_) (Ev.now _)
    simp only [accountingref01_Text.j1]
    rw [if_neg (by decide), if_pos hn, if_pos (by omega)]
    rfl
  · rw [if_neg hn]
    refine Ev.step (f := fun _ => some (strOfNums acc)) (fun k => ?_) (Ev.now _)
    simp only [accountingref01_Text.j1]
    rw [if_neg (by decide), if_neg hn]
theorem rstep (n x y : Int) (acc : List Int) (R : ByteArray) (h0 : 0 ≤ x) (h2 : x ≤ 9223372036854775808) (hy : y = x ∨ y = -x) (hx : x ≠ 0 ∨ acc = []) (hl : acc.length ≤ 40)
    (h : Ev (fun k => accountingref01_Text.l0 k n (strOfNums ((48 + x % 10) :: acc)) (Int.tdiv y 10)) R) : Ev (fun k => accountingref01_Text.l0 k n (strOfNums acc) y) R := by
  have hm : Int.tmod y 10 = x % 10 ∨ Int.tmod y 10 = -(x % 10) := by
    rcases hy with rfl | rfl
    · exact .inl (Int.tmod_eq_emod_of_nonneg h0)
    · right; rw [Int.neg_tmod, Int.tmod_eq_emod_of_nonneg h0]
  have hd : Int.tdiv y 10 = x / 10 ∨ Int.tdiv y 10 = -(x / 10) := by
    rcases hy with rfl | rfl
    · exact .inl (Int.tdiv_eq_ediv_of_nonneg h0)
    · right; rw [Int.neg_tdiv, Int.tdiv_eq_ediv_of_nonneg h0]
  have hw : wrap64 (Int.tdiv y 10) = Int.tdiv y 10 := w64_small (by omega) (by omega)
  have hc := dig_cut (x % 10) (by omega) (by omega)
  have hw1 : wrap64 (x % 10 + 1) = x % 10 + 1 := w64_small (by omega) (by omega)
  have hz : (strOfNums [48 + x % 10]).size + (strOfNums acc).size ≤ 9223372036854775807 := by rw [str_size, str_size]; simp; omega
  have hj : Ev (fun k => accountingref01_Text.j1 k n (strOfNums acc) y true) R := by
    refine Ev.step (fun k => ?_) h
    simp only [accountingref01_Text.j1, if_true]
    change (if _ then _ else _) = _
    by_cases hneg : Int.tmod y 10 < 0
    · have e : wrap64 (-(Int.tmod y 10)) = x % 10 := by rw [w64_small (by omega) (by omega)]; omega
      rw [if_pos hneg, e, hw1, if_pos (by omega), if_pos (by omega), if_pos (by omega), show ((⟨#[48, 49, 50, 51, 52, 53, 54, 55, 56, 57]⟩ : ByteArray).extract (x % 10).toNat (x % 10 + 1).toNat) = strOfNums [48 + x % 10] from hc, if_pos hz, hw, ← str_cons]
    · have e : Int.tmod y 10 = x % 10 := by omega
      rw [if_neg hneg, e, hw1, if_pos (by omega), if_pos (by omega), if_pos (by omega), show ((⟨#[48, 49, 50, 51, 52, 53, 54, 55, 56, 57]⟩ : ByteArray).extract (x % 10).toNat (x % 10 + 1).toNat) = strOfNums [48 + x % 10] from hc, if_pos hz, hw, ← str_cons]
  by_cases hy0 : y = 0
  · obtain rfl : acc = [] := by
      rcases hx with h | h
      · omega
      · exact h
    have hn : ((strOfNums []).toList == ([] : List UInt8)) = true := by
      rw [show strOfNums [] = ⟨#[]⟩ from rfl, ByteArray.toList_mk]; rfl
    exact Ev.step (fun k => by simp only [accountingref01_Text.l0]; rw [if_pos hy0, hn]) hj
  · exact Ev.step (fun k => by simp only [accountingref01_Text.l0]; rw [if_neg hy0]) hj
theorem rtext_l0 (n : Int) : ∀ (f : Nat) (x y : Int) (acc : List Int), 0 ≤ x → x < 10 ^ (f + 1) → x ≤ 9223372036854775808 → (y = x ∨ y = -x) → (x ≠ 0 ∨ acc = []) → acc.length + f ≤ 30 →
    Ev (fun k => accountingref01_Text.l0 k n (strOfNums acc) y) (strOfNums (finL n (digL (f + 1) x acc))) := by
  intro f
  induction f with
  | zero =>
    intro x y acc h0 h1 h2 hy hx hl
    have h1 : x < 10 := h1
    refine rstep n x y acc _ h0 h2 hy hx (by omega) ?_
    have hd : Int.tdiv y 10 = 0 := by
      rcases hy with rfl | rfl
      · rw [Int.tdiv_eq_ediv_of_nonneg h0]; omega
      · rw [Int.neg_tdiv, Int.tdiv_eq_ediv_of_nonneg h0]; omega
    rw [hd]
    unfold digL
    rw [if_pos (by omega)]
    exact rtext_end n _ (by simp; omega) (by simp)
  | succ f ih =>
    intro x y acc h0 h1 h2 hy hx hl
    refine rstep n x y acc _ h0 h2 hy hx (by omega) ?_
    have hd : Int.tdiv y 10 = x / 10 ∨ Int.tdiv y 10 = -(x / 10) := by
      rcases hy with rfl | rfl
      · exact .inl (Int.tdiv_eq_ediv_of_nonneg h0)
      · right; rw [Int.neg_tdiv, Int.tdiv_eq_ediv_of_nonneg h0]
    unfold digL
    by_cases hz : x / 10 = 0
    · rw [if_pos hz, show Int.tdiv y 10 = 0 by omega]
      exact rtext_end n _ (by simp; omega) (by simp)
    · rw [if_neg hz]
      exact ih (x / 10) _ _ (by omega) (by rw [Int.pow_succ] at h1; exact Int.ediv_lt_of_lt_mul (by decide) h1) (by omega) hd (.inl hz) (by simp; omega)
theorem rtext_ev (n : Int) (h0 : -9223372036854775808 ≤ n) (h1 : n < 9223372036854775808) : Ev (fun k => accountingref01_Text.f k n) (textS n) := by
  have h2 : (10 : Int) ^ (18 + 1) = 10000000000000000000 := by decide
  have h3 : 0 ≤ magS n ∧ magS n ≤ 9223372036854775808 := by unfold magS; split <;> omega
  have h4 : n = magS n ∨ n = -magS n := by unfold magS; split <;> omega
  exact rtext_l0 n 18 (magS n) n [] h3.1 (by omega) h3.2 h4 (.inr rfl) (by simp)
theorem digL_len : ∀ (f : Nat) (x : Int) (acc : List Int), (digL f x acc).length ≤ acc.length + f
  | 0, _, _ => by simp [digL]
  | f + 1, x, acc => by
    unfold digL
    split
    · simp
    · have := digL_len f (x / 10) ((48 + x % 10) :: acc)
      simp at this; omega
theorem textS_size (n : Int) : (textS n).size ≤ 20 := by
  unfold textS
  rw [str_size]
  have := digL_len 19 (magS n) []
  unfold numL
  split <;> simp at * <;> omega

/-! ### the texts -/
theorem word_f (k : Int) : accountingref53_word.f k = some (noteS k) := by
  by_cases h : 0 < k ∧ k < 10
  · obtain ⟨m, rfl⟩ := Int.eq_ofNat_of_zero_le (show 0 ≤ k by omega)
    have : ∀ m : Nat, m < 10 → 0 < m → accountingref53_word.f (m : Int) = some (noteS m) := by decide
    exact this m (by omega) (by omega)
  · unfold accountingref53_word.f noteS
    rw [if_neg h]
    repeat rw [if_neg (by omega)]
def outS : List S26 → ByteArray → ByteArray
  | [], s => s
  | x :: r, s => outS r (tailS x (s ++ lineS x (textS x.f1)) ++ (⟨#[10]⟩ : ByteArray))
theorem tail_size (x : S26) (s : ByteArray) : (tailS x s).size ≤ s.size + 1 + x.f2.size := by
  unfold tailS
  split
  · omega
  · simp only [ByteArray.size_append, show ByteArray.size ⟨#[32]⟩ = 1 from rfl]; omega
theorem line_size (x : S26) : (lineS x (textS x.f1)).size ≤ 29 := by
  unfold lineS
  have h1 := noteS_size x.f0
  have h2 := textS_size x.f1
  simp only [ByteArray.size_append, show ByteArray.size ⟨#[32]⟩ = 1 from rfl]; omega
theorem textG_ev : ∀ (l : List S26) (s : ByteArray), (∀ e ∈ l, g26 e) → s.size + l.length * 140737488355328 ≤ 20000000000000000 → textG l s = some (outS l s) := by
  intro l
  induction l with
  | nil => intro s _ _; rfl
  | cons x r ih =>
    intro s hg hs
    obtain ⟨ga, gb, gc⟩ := hg x (by simp)
    obtain ⟨b0, b1⟩ := wf_i64 gb
    have h1 := textS_size x.f1
    have h2 := line_size x
    have h3 := tail_size x (s ++ lineS x (textS x.f1))
    have hr : reachBytes = 140737488351232 := rfl
    simp only [List.length_cons] at hs
    rw [ByteArray.size_append] at h3
    unfold textG outS
    rw [text_f x.f1 b0 b1, Option.bind_some, if_pos (by omega)]
    exact ih _ (fun e he => hg e (by simp [he])) (by rw [ByteArray.size_append, show ByteArray.size ⟨#[10]⟩ = 1 from rfl]; omega)
theorem rtext53_l0 (l : List S26) (hl : l.length ≤ 100) (hg : ∀ e ∈ l, g26 e) : ∀ (r : List S26) (i : Nat) (s : ByteArray), l.drop i = r → s.size + r.length * 140737488355328 ≤ 20000000000000000 → Ev (fun k => accountingref53_Text.l0 k l s i) (outS r s) := by
  intro r
  induction r with
  | nil =>
    intro i s hd _
    have := drop_nil_ hd
    exact Ev.step (f := fun _ => some s) (fun k => by simp only [accountingref53_Text.l0]; rw [if_neg (by omega)]) (Ev.now _)
  | cons x r ih =>
    intro i s hd hs
    obtain ⟨hlt, hc, hd'⟩ := drop_cons_ hd
    obtain ⟨ga, gb, gc⟩ := hg x (List.mem_of_getElem? hc)
    obtain ⟨b0, b1⟩ := wf_i64 gb
    have h1 := textS_size x.f1
    have hn := noteS_size x.f0
    have h2 := line_size x
    have h3 := tail_size x (s ++ lineS x (textS x.f1))
    have hr : reachBytes = 140737488351232 := rfl
    have e32 : ByteArray.size ⟨#[32]⟩ = 1 := rfl
    have e10 : ByteArray.size ⟨#[10]⟩ = 1 := rfl
    simp only [List.length_cons] at hs
    rw [ByteArray.size_append] at h3
    have ih' := ih (i + 1) (tailS x (s ++ lineS x (textS x.f1)) ++ (⟨#[10]⟩ : ByteArray)) hd' (by rw [ByteArray.size_append, e10]; omega)
    refine Ev.step (f := fun k => (accountingref01_Text.f k x.f1).bind fun t => if ((s ++ noteS x.f0) ++ (⟨#[32]⟩ : ByteArray)).size + t.size ≤ 9223372036854775807 then (if x.f2.toList = ([] : List UInt8) then (if (((s ++ noteS x.f0) ++ (⟨#[32]⟩ : ByteArray)) ++ t).size + 1 ≤ 9223372036854775807 then (accountingref53_Text.l0 k l ((((s ++ noteS x.f0) ++ (⟨#[32]⟩ : ByteArray)) ++ t) ++ (⟨#[10]⟩ : ByteArray)) ((i + 1 : Nat) : Int)) else none) else (if (((s ++ noteS x.f0) ++ (⟨#[32]⟩ : ByteArray)) ++ t).size + 1 ≤ 9223372036854775807 then (if ((((s ++ noteS x.f0) ++ (⟨#[32]⟩ : ByteArray)) ++ t) ++ (⟨#[32]⟩ : ByteArray)).size + x.f2.size ≤ 9223372036854775807 then (if (((((s ++ noteS x.f0) ++ (⟨#[32]⟩ : ByteArray)) ++ t) ++ (⟨#[32]⟩ : ByteArray)) ++ x.f2).size + 1 ≤ 9223372036854775807 then (accountingref53_Text.l0 k l ((((((s ++ noteS x.f0) ++ (⟨#[32]⟩ : ByteArray)) ++ t) ++ (⟨#[32]⟩ : ByteArray)) ++ x.f2) ++ (⟨#[10]⟩ : ByteArray)) ((i + 1 : Nat) : Int)) else none) else none) else none)) else none) (fun k => ?_) (Ev.bind (rtext_ev x.f1 b0 b1) ?_)
    · simp only [accountingref53_Text.l0]
      rw [if_pos (by omega), if_pos (by omega), rdS_some hc, word_f, Option.bind_some, if_pos (by omega), if_pos (by rw [ByteArray.size_append]; omega), wrap_succ (n := l.length) hlt (by omega)]
    · show Ev _ (outS r (tailS x (s ++ lineS x (textS x.f1)) ++ (⟨#[10]⟩ : ByteArray)))
      simp only [ByteArray.size_append, e32, if_pos (show s.size + (noteS x.f0).size + 1 + (textS x.f1).size ≤ 9223372036854775807 by omega), if_pos (show s.size + (noteS x.f0).size + 1 + (textS x.f1).size + 1 ≤ 9223372036854775807 by omega), if_pos (show s.size + (noteS x.f0).size + 1 + (textS x.f1).size + 1 + x.f2.size ≤ 9223372036854775807 by omega), if_pos (show s.size + (noteS x.f0).size + 1 + (textS x.f1).size + 1 + x.f2.size + 1 ≤ 9223372036854775807 by omega)]
      by_cases he : x.f2.toList = []
      · simp only [if_pos he]
        rw [tailS, if_pos he] at ih' ⊢
        simpa only [lineS, ByteArray.append_assoc] using ih'
      · simp only [if_neg he]
        rw [tailS, if_neg he] at ih' ⊢
        simpa only [lineS, ByteArray.append_assoc] using ih'

/-! ### the lists -/
theorem same_nil : Ev (fun k => accountingref53_Same.f k [] []) true := by
  unfold accountingref53_Same.f
  simp only [if_true]
  exact Ev.step (f := fun _ => some true) (fun k => by simp [accountingref53_Same.l0]) (Ev.now _)
theorem same_one (c : S26) : Ev (fun k => accountingref53_Same.f k [c] [c]) true := by
  unfold accountingref53_Same.f
  simp only [if_true]
  have e : rd_T26 [c] 0 = c := rfl
  have w1 : wrap64 1 = 1 := by unfold wrap64; omega
  refine Ev.step (f := fun k => accountingref53_Same.l0 k [c] [c] 1) (fun k => by simp [accountingref53_Same.l0, e, w1]) ?_
  exact Ev.step (f := fun _ => some true) (fun k => by simp [accountingref53_Same.l0]) (Ev.now _)
def conS (x : S26) (a b : Int) : List S26 := if a = b then [] else [⟨x.f0, 0, x.f2⟩]
theorem lives_f : accountinglaw53_lives.f = some true := by decide +kernel

theorem walk_l0 (l : List S26) (hl : l.length ≤ 100) (hg : ∀ e ∈ l, g26 e) (a b : Int) : ∀ (r : List S26) (i : Nat), l.drop i = r → Ev (fun k => accountinglaw53_AuditTexts.l0 k l a b i) true := by
  intro r
  induction r with
  | nil =>
    intro i hd
    have := drop_nil_ hd
    refine Ev.step (f := fun k => (audit_Text.f l).bind fun t128 => ((accountingref53_Text.f k l).bind fun t129 => (if t128.toList = t129.toList then ((accountinglaw53_lives.f).bind fun t130 => (some t130)) else (some false)))) (fun k => by simp only [accountinglaw53_AuditTexts.l0]; rw [if_neg (by omega)]) ?_
    have hb : (⟨#[]⟩ : ByteArray).size + l.length * 140737488355328 ≤ 20000000000000000 := by
      rw [show ByteArray.size ⟨#[]⟩ = 0 from rfl]; omega
    rw [show audit_Text.f l = some (outS l ⟨#[]⟩) from textG_ev l _ hg hb]
    simp only [Option.bind_some]
    refine Ev.bind (rtext53_l0 l hl hg l 0 ⟨#[]⟩ rfl hb) ?_
    simp only [if_true, lives_f, Option.bind_some]
    exact Ev.now _
  | cons x r ih =>
    intro i hd
    obtain ⟨hlt, hc, hd'⟩ := drop_cons_ hd
    have hs : Ev (fun k => accountingref53_Same.f k (conS x a b) (conS x a b)) true := by
      unfold conS; split
      · exact same_nil
      · exact same_one _
    refine Ev.step (f := fun k => (accountingref53_Same.f k (conS x a b) (conS x a b)).bind fun t => if t = true then accountinglaw53_AuditTexts.l0 k l a b ((i + 1 : Nat) : Int) else some false) (fun k => ?_) (Ev.bind hs ?_)
    · simp only [accountinglaw53_AuditTexts.l0]
      rw [if_pos (by omega), if_pos (by omega), rdS_some hc, wrap_succ (n := l.length) hlt (by omega)]
      unfold audit_Control.f accountingref53_Control.f conS
      split <;> rfl
    · simp only [if_true]
      exact ih (i + 1) hd'
theorem AuditTexts : accountinglaw53_AuditTexts.Said := by
  intro l a b hl _ _
  obtain ⟨_, hg⟩ := hl
  refine Ev.rounds (?_ : Ev (fun k => accountinglaw53_AuditTexts.f k l a b) true)
  unfold accountinglaw53_AuditTexts.f
  by_cases h : (l.length : Int) > 100
  · simp only [if_pos h, if_pos (show (100 : Int) ≤ (l.length : Int) by omega)]
    exact Ev.step (fun k => rfl) (walk_l0 (l.take 100) (by rw [List.length_take]; omega) (fun e he => hg e (List.mem_of_mem_take he)) a b _ 0 rfl)
  · simp only [if_neg h]
    exact Ev.step (fun k => rfl) (walk_l0 l (by omega) hg a b _ 0 rfl)
end Go.Proofs.YtaefaadjncehmaaDoor.Pure
