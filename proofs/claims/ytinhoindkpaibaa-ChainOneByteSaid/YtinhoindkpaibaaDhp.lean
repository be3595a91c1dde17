/- Plain laws for the chain of checksums: what the printed functions come to, as folds over lists. No program in sight but the printed functions' names. -/
import Derived.Test.YtinhoindkpaibaaY
namespace Go.Proofs.Ytinhoindkpaibaa.Pure
open Go.RowKit Go.Proofs.Ytinhoindkpaibaa.Y Go.Proofs.YtinhoindkpaibaaW.PrintWords Go.Proofs.YtinhoindkpaibaaW.PrintLast

theorem drop_nil_ {α : Type} {l : List α} {i : Nat} (h : l.drop i = []) : l.length ≤ i := List.drop_eq_nil_iff.mp h
theorem drop_cons_ {α : Type} {l s : List α} {c : α} {i : Nat} (h : l.drop i = c :: s) : i < l.length ∧ l[i]? = some c ∧ l.drop (i + 1) = s := by
  have hlt : i < l.length := by
    rcases Nat.lt_or_ge i l.length with h1 | h1
    · exact h1
    · rw [List.drop_eq_nil_of_le h1] at h; cases h
  rw [List.drop_eq_getElem_cons hlt] at h
  injection h with h1 h2
  exact ⟨hlt, by rw [List.getElem?_eq_getElem hlt, h1], h2⟩
theorem rd_some {l : List Int} {i : Nat} {c : Int} (h : l[i]? = some c) : rd l (i : Int) = c := by
  unfold rd; rw [Int.toNat_natCast, List.getD_eq_getElem?_getD, h]; rfl
theorem rdL_some {l : List (List Int)} {i : Nat} {c : List Int} (h : l[i]? = some c) : rd_L1 l (i : Int) = c := by
  unfold rd_L1; rw [Int.toNat_natCast, List.getD_eq_getElem?_getD, h]; rfl
theorem wrap_succ {i n : Nat} (h : i < n) (hn : n ≤ 9223372036854775807) : wrap64 ((i : Int) + 1) = ((i + 1 : Nat) : Int) := by
  unfold wrap64; omega

/-! ### the checksum -/
def growS (h c : Int) : Int := IntKind.u64.wrap ((Go.bits .xor .u64 h (IntKind.u64.wrap c)) * 1099511628211)
def mixS (h : Int) (l : List Int) : Int := l.foldl growS h
def lenB (n : Nat) : List Int := [((n : Int)) % 4294967296 / 16777216, (((n : Int)) % 4294967296 / 65536) % 256, (((n : Int)) % 4294967296 / 256) % 256, (n : Int) % 256]
def nextS (h : Int) (l : List Int) : Int := mixS (mixS h l) (lenB l.length)
def allS : Int → List (List Int) → List Int
  | _, [] => []
  | h, b :: r => nextS h b :: allS (nextS h b) r
theorem allS_length (h : Int) (l : List (List Int)) : (allS h l).length = l.length := by
  induction l generalizing h with
  | nil => rfl
  | cons b r ih => simp [allS, ih]

theorem mix_l0 (l : List Int) (hl : l.length ≤ 9223372036854775807) : ∀ (s : List Int) (i : Nat) (h : Int), l.drop i = s → Ev (fun k => chain_mix.l0 k h l (l.length : Int) i) (mixS h s) := by
  intro s
  induction s with
  | nil =>
    intro i h hd
    have := drop_nil_ hd
    exact Ev.step (f := fun _ => some h) (fun k => by simp only [chain_mix.l0]; rw [if_neg (by omega)]) (Ev.now h)
  | cons c s ih =>
    intro i h hd
    obtain ⟨hlt, hc, hd'⟩ := drop_cons_ hd
    refine Ev.step (fun k => ?_) (ih (i + 1) (growS h c) hd')
    simp only [chain_mix.l0]
    rw [if_pos (by omega), if_pos (by omega), if_pos (by omega), rd_some hc, wrap_succ hlt hl]
    rfl
theorem mix_ev (h : Int) (l : List Int) (hl : l.length ≤ 9223372036854775807) : Ev (fun k => chain_mix.f k h l) (mixS h l) := mix_l0 l hl l 0 h rfl
theorem next_ev (h : Int) (l : List Int) (hl : l.length ≤ 9223372036854775807) : Ev (fun k => chain_Next.f k h l) (nextS h l) :=
  Ev.bind (mix_ev h l hl) (Ev.bind (mix_ev _ (lenB l.length) (by simp [lenB])) (Ev.now _))

theorem all_l0 (l : List (List Int)) (hl : l.length ≤ 100000) (hb : ∀ b ∈ l, b.length ≤ 9223372036854775807) : ∀ (s : List (List Int)) (i : Nat) (h : Int) (out : List Int), l.drop i = s → out.length = i →
    Ev (fun k => chain_All.l0 k out h l (l.length : Int) i) (out ++ allS h s) := by
  intro s
  induction s with
  | nil =>
    intro i h out hd ho
    have := drop_nil_ hd
    rw [show allS h [] = [] from rfl, List.append_nil]
    exact Ev.step (f := fun _ => some out) (fun k => by simp only [chain_All.l0]; rw [if_neg (by omega)]) (Ev.now _)
  | cons c s ih =>
    intro i h out hd ho
    obtain ⟨hlt, hc, hd'⟩ := drop_cons_ hd
    refine Ev.step (f := fun k => (chain_Next.f k h c).bind fun t => chain_All.l0 k (out ++ [t]) t l (l.length : Int) ((i + 1 : Nat) : Int)) (fun k => ?_) ?_
    · simp only [chain_All.l0]
      rw [if_pos (by omega), if_pos (by omega), if_pos (by omega), rdL_some hc, wrap_succ hlt (by omega)]
      congr 1
      funext t
      rw [if_pos (by omega)]
    · refine Ev.bind (next_ev h c (hb c (List.mem_of_getElem? hc))) ?_
      have := ih (i + 1) (nextS h c) (out ++ [nextS h c]) hd' (by simp [ho])
      rw [show out ++ allS h (c :: s) = (out ++ [nextS h c]) ++ allS (nextS h c) s by simp [allS]]
      exact this
def start : Int := 14695981039346656037
theorem all_ev (l : List (List Int)) (hl : l.length ≤ 100000) (hb : ∀ b ∈ l, b.length ≤ 9223372036854775807) : Ev (fun k => chain_All.f k l) (allS start l) := by
  have := all_l0 l hl hb l 0 start [] rfl rfl
  exact this
/-! ### Check -/
/-- The index (from i on) of the first wrong or missing checksum. -/
def chk : List Int → List Int → Nat → Int
  | [], [], _ => -1
  | [], _ :: _, i => i
  | _ :: _, [], i => i
  | r :: rs, s :: ss, i => if s = r then chk rs ss (i + 1) else i
theorem check_l0 (l : List (List Int)) (sums : List Int) (hl : l.length ≤ 100000) (hb : ∀ b ∈ l, b.length ≤ 9223372036854775807) : ∀ (s : List (List Int)) (i : Nat) (h : Int), l.drop i = s → i ≤ sums.length → i ≤ l.length →
    Ev (fun k => chain_Check.l0 k l sums h l (l.length : Int) i) (chk (allS h s) (sums.drop i) i) := by
  intro s
  induction s with
  | nil =>
    intro i h hd hs hi
    have hn := drop_nil_ hd
    have e : i = l.length := by omega
    refine Ev.step (f := fun _ => some (chk (allS h []) (sums.drop i) i)) (fun k => ?_) (Ev.now _)
    simp only [chain_Check.l0]
    rw [if_neg (by omega)]
    cases hd2 : sums.drop i with
    | nil => have := drop_nil_ hd2; rw [if_neg (by omega)]; rfl
    | cons c r => have := (drop_cons_ hd2).1; rw [if_pos (by omega), ← e]; rfl
  | cons c s ih =>
    intro i h hd hs hi
    obtain ⟨hlt, hc, hd'⟩ := drop_cons_ hd
    refine Ev.step (f := fun k => (chain_Next.f k h c).bind fun t => if (i : Int) ≥ (sums.length : Int) then some (i : Int) else if (i : Int) < (sums.length : Int) then if rd sums i = t then chain_Check.l0 k l sums t l (l.length : Int) ((i + 1 : Nat) : Int) else some (i : Int) else none) (fun k => ?_) ?_
    · simp only [chain_Check.l0]
      rw [if_pos (by omega), if_pos (by omega), if_pos (by omega), rdL_some hc, wrap_succ hlt (by omega)]
    · refine Ev.bind (next_ev h c (hb c (List.mem_of_getElem? hc))) ?_
      cases hd2 : sums.drop i with
      | nil => have := drop_nil_ hd2; simp only [if_pos (show (i : Int) ≥ (sums.length : Int) by omega)]; exact Ev.now _
      | cons x r =>
        obtain ⟨hls, hx, hd3⟩ := drop_cons_ hd2
        simp only [if_neg (show ¬ (i : Int) ≥ (sums.length : Int) by omega), if_pos (show (i : Int) < (sums.length : Int) by omega), rd_some hx]
        rw [show chk (allS h (c :: s)) (x :: r) i = if x = nextS h c then chk (allS (nextS h c) s) r (i + 1) else i from rfl]
        by_cases hx2 : x = nextS h c
        · simp only [if_pos hx2]
          have := ih (i + 1) (nextS h c) hd' (by omega) (by omega)
          rw [hd3] at this
          exact this
        · simp only [if_neg hx2]; exact Ev.now _
theorem check_ev (l : List (List Int)) (sums : List Int) (hl : l.length ≤ 100000) (hb : ∀ b ∈ l, b.length ≤ 9223372036854775807) : Ev (fun k => chain_Check.f k l sums) (chk (allS start l) sums 0) :=
  check_l0 l sums hl hb l 0 start rfl (Nat.zero_le _) (Nat.zero_le _)
/-! ### large, Same -/
theorem large_l0 (l : List (List Int)) (hl : l.length ≤ 100000) : ∀ (s : List (List Int)) (i : Nat), l.drop i = s → Ev (fun k => accountinglaw14_large.l0 k l i) (s.any fun b => decide ((b.length : Int) > 400)) := by
  intro s
  induction s with
  | nil =>
    intro i hd
    have := drop_nil_ hd
    exact Ev.step (f := fun _ => some false) (fun k => by simp only [accountinglaw14_large.l0]; rw [if_neg (by omega)]) (Ev.now _)
  | cons c s ih =>
    intro i hd
    obtain ⟨hlt, hc, hd'⟩ := drop_cons_ hd
    by_cases h : (c.length : Int) > 400
    · refine Ev.step (f := fun _ => some true) (fun k => ?_) (by simp [h]; exact Ev.now _)
      simp only [accountinglaw14_large.l0]
      rw [if_pos (by omega), if_pos (by omega), rdL_some hc, if_pos h]
    · rw [show ((c :: s).any fun b => decide ((b.length : Int) > 400)) = (s.any fun b => decide ((b.length : Int) > 400)) by simp [h]]
      refine Ev.step (fun k => ?_) (ih (i + 1) hd')
      simp only [accountinglaw14_large.l0]
      rw [if_pos (by omega), if_pos (by omega), rdL_some hc, if_neg h, wrap_succ hlt (by omega)]
def largeS (l : List (List Int)) : Bool := decide ((l.length : Int) > 40) || l.any fun b => decide ((b.length : Int) > 400)
theorem large_ev (l : List (List Int)) : Ev (fun k => accountinglaw14_large.f k l) (largeS l) := by
  unfold largeS accountinglaw14_large.f
  by_cases h : (l.length : Int) > 40
  · simp only [if_pos h, decide_eq_true h, Bool.true_or]; exact Ev.now _
  · simp only [if_neg h, decide_eq_false h, Bool.false_or]
    exact large_l0 l (by omega) l 0 rfl
theorem largeS_no {l : List (List Int)} (h : largeS l = false) : l.length ≤ 40 ∧ ∀ b ∈ l, b.length ≤ 400 := by
  simp only [largeS, Bool.or_eq_false_iff, decide_eq_false_iff_not, List.any_eq_false, decide_eq_true_eq] at h
  exact ⟨by omega, fun b hb => by have := h.2 b hb; omega⟩
/-! ### the examples -/
theorem lives_ev : Ev (fun k => accountinglaw14_lives.f k) true := by
  refine Ev.of accountinglaw14_lives.mono (k := 40) ?_
  have h1 : chain_All.f 40 [[], [1]] = some [5558979605539197941, 15660599268341760271] := by decide +kernel
  have h2 : chain_Text.f 258 = some ⟨#[48, 48, 48, 48, 48, 48, 48, 48, 48, 48, 48, 48, 48, 49, 48, 50]⟩ := by decide +kernel
  have h3 : chain_Parse.f 40 (⟨#[48, 48, 48, 48, 48, 48, 48, 48, 48, 48, 48, 48, 48, 48, 102, 102]⟩ : ByteArray) = some (255, 0) := by decide +kernel
  have h4 : chain_Parse.f 40 (⟨#[48, 48, 48, 48, 48, 48, 48, 48, 48, 48, 48, 48, 48, 48, 70, 70]⟩ : ByteArray) = some (0, 5) := by decide +kernel
  have h5 : chain_Sum.f 40 [0, 0, 0, 0, 0, 0, 1, 2] = some (258, 0) := by decide +kernel
  have h6 : chain_Sum.f 40 [1] = some (0, 6) := by decide +kernel
  have h7 : chain_Sum.f 40 [0, 0, 0, 0, 0, 0, 1, 2, 3] = some (0, 5) := by decide +kernel
  have h8 : chain_Next.f 40 0 [0] = some 1099511628211 := by decide +kernel
  have h9 : chain_Check.f 40 [] [5558979605539197941, 15660599268341760271] = some 0 := by decide +kernel
  have h10 : chain_Check.f 40 [[], [1]] [5558979605539197941, 15660599268341760271] = some (-1) := by decide +kernel
  unfold accountinglaw14_lives.f
  simp [h1, h2, h3, h4, h5, h6, h7, h8, h9, h10]
end Go.Proofs.Ytinhoindkpaibaa.Pure
